/- The evaluator, 8: Operations checked; the first heap; facts; the closure; the rest of a function. No conditions. -/
import Derived.Test.YthfenjgelbkloaaGreatDoorV7
import Derived.Laws.BytesString
import Derived.OpenShut
import Derived.ChangeArms
import GoSem.ClaimJoined
import Derived.Below
import GoSem.ClaimGoes

namespace Go.Proofs.YthfenjgelbkloaaGreatDoor.Ev
open Go Go.RowKit

section
variable {P : Program} {B : Nat} {π : Pi} {H H' : Hp} {w : World} {v : AV} {as : List AV} {cargs : Array Value} {ts : Array TypeId} {u : TypeId}
/-- What is appended or copied, out of a slice or a text. -/
theorem appended_sound (hH : HRel π B H w) {x : AV} {cx : Value} {e s k : Nat} {l : List (Option AV)} (hx : VR π x cx) (h : appended P e s false x H = some (k, l)) :
    ∃ vs : List Value, vs.length = k * s ∧ VOs π l vs ∧ (∀ v ∈ vs, v.oneCell' = true) ∧ (∀ w' : World, (Builtin.lenOf cx).run P w' = .ok k w') ∧ ∀ m, m ≤ k → ∀ w' : World, w'.heap = w.heap → (Builtin.firstCells s m cx).run P w' = .ok (vs.take (m * s)).toArray w' := by
  unfold appended at h
  rw [cond_false] at h
  cases x <;> first | (cases h; done) | skip
  case nils =>
    cases h
    cases hx
    exact ⟨[], by simp, ⟨rfl, by simp⟩, by simp, fun _ => rfl, fun m hm w' _ => by simp [Builtin.firstCells]⟩
  case slz =>
    cases h
    cases hx with
    | slz a cap =>
      refine ⟨[], by simp, ⟨rfl, by simp⟩, by simp, fun _ => rfl, fun m hm w' _ => ?_⟩
      have : m = 0 := by omega
      subst this
      rw [Builtin.firstCells, Nat.zero_mul]
      rfl
  case sl b o n lo ex s' =>
    simp only at h
    rw [Bool.cond_eq_ite] at h
    split at h
    case isFalse => cases h
    rename_i h1
    have h2 := h
    clear h
    have h1 : s = s' := Nat.eq_of_beq_eq_true h1
    subst h1
    cases hb : H.get b with
    | none => rw [hb] at h2; cases h2
    | some blk =>
      rw [hb] at h2
      cases blk <;> first | (cases h2; done) | skip
      rename_i tr d m e' flo fhi wr sib
      cases h2
      cases hx with
      | sl _ _ _ _ _ _ c z cap hp k1 k2 k3 k4 k5 =>
        have hle : k * s ≤ cap * s := Nat.mul_le_mul_right s (Nat.le_trans k1 k2)
        obtain ⟨vs, q1, q2, q3, q4⟩ := rdo_sound (P := P) (o := o) (cnt := k * s) hH hb hp (by omega)
        exact ⟨vs, q1, q3, q4, fun _ => rfl, fun m hm w' hw => q2 w' hw (m * s) (Nat.mul_le_mul_right s hm)⟩
  case str n v =>
    simp only at h
    obtain ⟨h1, h2⟩ := cond_some h
    have h1 : s = 1 := Nat.eq_of_beq_eq_true h1
    subst h1
    cases h2
    cases hx with
    | str st =>
      refine ⟨(st.data.map fun b => Value.int .u8 b.toNat).toList, by simp, str_cells st, ?_, fun _ => rfl, fun m hm w' _ => ?_⟩
      · intro v hv
        rw [Array.toList_map] at hv
        obtain ⟨b, _, rfl⟩ := List.mem_map.1 hv
        rfl
      · rw [Builtin.firstCells, Sem.run_pure]
        congr 1
        apply Array.ext'
        simp
theorem copy_run (hH : HRel π B H w) (ha : VRs π as cargs.toList) : ORun P B π H w (do let y ← Builtin.copy_ ts u cargs; pure (.value y)) (copyA P ts as H) := by
  unfold copyA
  split
  · rename_i st d x ht
    obtain ⟨cd, vs0, rfl, h1, h2⟩ := arr_cons ha
    cases h2 with
    | cons _ cx _ vs1 h2 h3 =>
    cases h3
    split
    · rename_i e he
      have hu := elemSl_eq he
      split
      · rename_i g sz hg
        have base : ∀ {k : Nat} {new : List (Option AV)}, appended P e sz false x H = some (k, new) → ∃ vs : List Value, vs.length = k * sz ∧ VOs π new vs ∧ (∀ v ∈ vs, v.oneCell' = true) ∧ ∀ bs n cap, cd = .slice bs n cap → (Builtin.copy_ ts u [cd, cx].toArray).run P w = ((match (generalizing := false) bs with
            | some a => storeCells a (vs.take (Nat.min k n * sz))
            | none => pure ()).run P w).andThen fun _ w => .ok (.int .i64 (Nat.min k n)) w := by
          intro k new hap
          obtain ⟨vs, q1, q2, q3, q4, q5⟩ := appended_sound hH h2 hap
          refine ⟨vs, q1, q2, q3, fun bs n cap hcd => ?_⟩
          subst hcd
          unfold Builtin.copy_
          simp only [ht, List.getElem?_toArray, List.getElem?_cons_zero, List.getElem?_cons_succ, Sem.run_bind, run_underlying hu, Result.andThen_ok, q4 w, tAgg_size hg, q5 _ (Nat.min_le_left k n) w rfl]
          cases bs with
          | none => rfl
          | some a => simp only [Sem.run_bind]; rfl
        split
        · rename_i q hap
          obtain ⟨k, new⟩ := q
          obtain ⟨vs, _, _, _, q5⟩ := base hap
          cases h1
          refine OVal.pure hH ?_ (.int _ _)
          rw [q5 none 0 0 rfl]
          rw [show Nat.min k 0 = 0 from Nat.min_zero k]
          rfl
        · rename_i q hap
          obtain ⟨k, new⟩ := q
          obtain ⟨vs, _, _, _, q5⟩ := base hap
          cases h1 with
          | slz a cap =>
            refine OVal.pure hH ?_ (.int _ _)
            rw [q5 (some a) 0 cap rfl]
            rw [show Nat.min k 0 = 0 from Nat.min_zero k, Nat.zero_mul]
            rfl
        · rename_i b o n lo ex sz' k new hap
          obtain ⟨vs, q1, q2, q3, q5⟩ := base hap
          rw [Bool.cond_eq_ite]
          split
          · simp only
            split
            · rename_i h' hst
              cases h1 with
              | sl _ _ _ _ _ _ c z cap hp k1 k2 k3 k4 k5 =>
                obtain ⟨w', r1, r2⟩ := stores_sound (vs := vs.take (Nat.min k n * sz)) P hH hp hst (q2.take _) (fun v hv => q3 v (List.mem_of_mem_take hv))
                refine OVal.mk (cv := .int .i64 (Nat.min k n)) ?_ (.int _ _) r2
                rw [q5 _ n cap rfl]
                simp only [r1, Result.andThen_ok]
            · trivial
          · trivial
        · trivial
      · trivial
    · trivial
  · trivial
end
end Go.Proofs.YthfenjgelbkloaaGreatDoor.Ev

namespace Go.Proofs.YthfenjgelbkloaaGreatDoor.Ev
open Go Go.RowKit

section
variable {P : Program} {B : Nat} {π : Pi} {H H' : Hp} {w : World} {v : AV} {as : List AV} {cargs : Array Value} {ts : Array TypeId} {u : TypeId}
/-- What is appended. -/
def ApOk (P : Program) (ts : Array TypeId) (e s : Nat) (cx : Value) (k : Nat) (vs : List Value) (w : World) : Prop :=
  vs.length = k * s ∧ ((appMk P ts = some false ∧ (∀ w' : World, (Builtin.lenOf cx).run P w' = .ok k w') ∧ ∀ w' : World, w'.heap = w.heap → (Builtin.firstCells s k cx).run P w' = .ok vs.toArray w') ∨
    (appMk P ts = some true ∧ (∃ j, cx = .int j (k : Int)) ∧ k < 16777216 ∧ (∀ i, P.info? e = some i → i.bytes < 65536) ∧ ∃ cz, (∀ w : World, (zeroValue e).run P w = .ok cz w) ∧ cz.cells.size = s ∧ vs = (Builtin.zeroCells cz.cells k).toList))
theorem appMk_false (h : appMk P ts = some false) : ts[1]? = none ∨ ∃ t d, ts[1]? = some t ∧ P.underlying t = some d ∧ ∀ k, d ≠ .int k := by
  unfold appMk at h
  split at h
  · rename_i t ht
    split at h
    · cases h
    · rename_i d hd hn
      exact .inr ⟨t, d, ht, hn, fun k e => by subst e; exact hd k rfl⟩
    · cases h
  · rename_i ht; exact .inl ht
theorem appMk_true (h : appMk P ts = some true) : ∃ t k, ts[1]? = some t ∧ P.underlying t = some (.int k) := by
  unfold appMk at h
  split at h
  · rename_i t ht
    split at h
    · rename_i k hk; exact ⟨t, k, ht, hk⟩
    · cases h
    · cases h
  · cases h
theorem run_append_in {st e s k n cap : Nat} {g' : Bool} {bs : Option Addr} {cx : Value} {vs : List Value} {i : TypeInfo} (ht : ts[0]? = some st) (hu : P.underlying st = some (.slice e)) (hg : tAgg P e = some (g', s)) (hi : P.info? e = some i) (hA : ApOk P ts e s cx k vs w) (hle : n + k ≤ cap) :
    (Builtin.append_ ts u [.slice bs n cap, cx].toArray).run P w = ((match (generalizing := false) bs with
      | some a => storeCells (a.add (n * s)) vs
      | none => pure ()).run P w).andThen fun _ w => .ok (.slice bs (n + k) cap) w := by
  obtain ⟨hl, ⟨h1, h2, h3⟩ | ⟨h1, ⟨j, rfl⟩, h3, h4, cz, h5, h6, h7⟩⟩ := hA
  · rcases appMk_false h1 with h1 | ⟨t, d, h1, hd, hn⟩
    · unfold Builtin.append_
      simp only [ht, h1, List.getElem?_toArray, List.getElem?_cons_zero, List.getElem?_cons_succ, Sem.run_bind, run_underlying hu, Result.andThen_ok, tAgg_size hg, Sem.run_pure, Bool.false_eq_true, if_false, h2 w, hle, if_true, Bool.not_false, h3 w rfl]
      cases bs <;> simp
    · unfold Builtin.append_
      have hm : (match d with | .int _ => true | _ => false) = false := by cases d <;> first | rfl | exact absurd rfl (hn _)
      simp only [ht, h1, List.getElem?_toArray, List.getElem?_cons_zero, List.getElem?_cons_succ, Sem.run_bind, run_underlying hu, run_underlying hd, Result.andThen_ok, tAgg_size hg, Sem.run_pure, Bool.false_eq_true, if_false, h2 w, hle, if_true, Bool.not_false, h3 w rfl]
      cases bs <;> simp
  · obtain ⟨t, kk, h1, hk⟩ := appMk_true h1
    have hw : IntKind.i64.wrap (k : Int) = (k : Int) := lim_wrap .i64 k (by show k < big63; unfold big63; omega)
    have hb := h4 i hi
    have hmul : k * i.bytes ≤ 16777216 * 65536 := Nat.mul_le_mul (by omega) (by omega)
    have c1 : ¬ (k : Int) < 0 := by omega
    have h48 : (2 : Int) ^ 48 = 281474976710656 := rfl
    have c2 : ¬ (k : Int) * (i.bytes : Int) > 2 ^ 48 := by
      rw [h48]
      have : ((k * i.bytes : Nat) : Int) = (k : Int) * (i.bytes : Int) := by simp
      rw [← this]
      omega
    have ha : ∀ w : World, (asInt (.int j (k : Int))).run P w = .ok (k : Int) w := fun _ => rfl
    unfold Builtin.append_
    simp only [ht, h1, List.getElem?_toArray, List.getElem?_cons_zero, List.getElem?_cons_succ, Sem.run_bind, run_underlying hu, run_underlying hk, Result.andThen_ok, tAgg_size hg, Sem.run_pure, if_true, ha, hw, c1, if_false, run_typeInfo hi, c2, Int.toNat_natCast, hle, Bool.not_true, Bool.false_eq_true]
    by_cases h0 : k * s = 0
    · have hv : vs = [] := List.length_eq_zero_iff.1 (by rw [hl, h0])
      simp only [h0, if_true, Sem.run_pure, Result.andThen_ok, hv]
      cases bs <;> simp
    · simp only [h0, if_false, Sem.run_bind, h5, Result.andThen_ok, Sem.run_pure, h7]
      cases bs <;> simp
theorem run_append_more {st e s k n cap : Nat} {g' : Bool} {bs : Option Addr} {cx cz : Value} {vs olds : List Value} {i : TypeInfo} (ht : ts[0]? = some st) (hu : P.underlying st = some (.slice e)) (hg : tAgg P e = some (g', s)) (hi : P.info? e = some i) (hA : ApOk P ts e s cx k vs w)
    (hcz : ∀ w : World, (zeroValue e).run P w = .ok cz w) (hold : ∀ w' : World, w'.heap = w.heap → (Builtin.firstCells s n (.slice bs n cap)).run P w' = .ok olds.toArray w') (hgr : cap < n + k) (hm : n + k < 16777216) (hb : i.bytes < 65536) :
    ∃ (nc : Nat) (w1 : World), w1.heap = w.heap ∧ (w1.os = w.os ∧ w1.tape = w.tape ∧ w1.output = w.output) ∧ n + k ≤ nc ∧ nc < big63 ∧
      (Builtin.append_ ts u [.slice bs n cap, cx].toArray).run P w = .ok (.slice (some ⟨w.heap.size, 0, none⟩) (n + k) nc) (w1.alloc (.cells (olds ++ vs ++ (Builtin.zeroCells cz.cells (nc - (n + k))).toList).toArray e)) := by
  have hroom : ∀ m (w : World), (askRoom m).run P w = .ok () w := by intro m w; unfold askRoom; split <;> rfl
  have hp63 : (2 : Nat) ^ 63 = 9223372036854775808 := rfl
  have hcap : (n + k) + w.tape w.drawn (.appendCap (n + k) cap e) % (2 ^ 63 - (n + k)) < big63 := by
    have h1 := Nat.mod_lt (w.tape w.drawn (.appendCap (n + k) cap e)) (show 0 < 2 ^ 63 - (n + k) by rw [hp63]; omega)
    generalize hM : 2 ^ 63 - (n + k) = M at *
    rw [hp63] at hM
    unfold big63
    omega
  have hch : (choose (.appendCap (n + k) cap e)).run P w = .ok ((n + k) + w.tape w.drawn (.appendCap (n + k) cap e) % (2 ^ 63 - (n + k))) { w with drawn := w.drawn + 1 } := by
    simp [choose, Sem.run, Question.forced, Question.cut]
  refine ⟨(n + k) + w.tape w.drawn (.appendCap (n + k) cap e) % (2 ^ 63 - (n + k)), { w with drawn := w.drawn + 1 }, rfl, ⟨rfl, rfl, rfl⟩, Nat.le_add_right _ _, hcap, ?_⟩
  generalize (n + k) + w.tape w.drawn (.appendCap (n + k) cap e) % (2 ^ 63 - (n + k)) = nc at *
  have hn1 : ¬ (n + k ≤ cap) := by omega
  have hmax : IntKind.i64.max = 9223372036854775807 := rfl
  have c3 : ¬ (((n + k : Nat) : Int) > IntKind.i64.max) := by rw [hmax]; omega
  have h48n : (2 : Nat) ^ 48 = 281474976710656 := rfl
  have hfit : ¬ (Builtin.nextslicecap (n + k) cap * i.bytes > 2 ^ 48) := by
    have h1 : (n + k) * i.bytes ≤ 16777216 * 65536 := Nat.mul_le_mul (by omega) (by omega)
    have := growslice_fits (bytes := i.bytes) hgr (by omega)
    rw [h48n]; omega
  have hrow : ∀ (vs' : Array Value), (newRow e vs').run P { w with drawn := w.drawn + 1 } = .ok ⟨w.heap.size, 0, none⟩ (World.alloc { w with drawn := w.drawn + 1 } (.cells vs' e)) := fun vs' => by simp [newRow]
  have hhe : ({ w with drawn := w.drawn + 1 } : World).heap = w.heap := rfl
  have happ : olds.toArray ++ vs.toArray ++ Builtin.zeroCells cz.cells (nc - (n + k)) = (olds ++ vs ++ (Builtin.zeroCells cz.cells (nc - (n + k))).toList).toArray := by apply Array.ext'; simp
  obtain ⟨hl, ⟨h1, h2, h3⟩ | ⟨h1, ⟨j, rfl⟩, h3, h4, cz', h5, h6, h7⟩⟩ := hA
  · rcases appMk_false h1 with h1 | ⟨t, d, h1, hd, hn⟩
    · unfold Builtin.append_
      simp only [ht, h1, List.getElem?_toArray, List.getElem?_cons_zero, List.getElem?_cons_succ, Sem.run_bind, run_underlying hu, Result.andThen_ok, tAgg_size hg, Sem.run_pure, Bool.false_eq_true, if_false, h2 w, hn1, Bool.not_false, if_true, run_typeInfo hi, c3, hfit, false_and, hch, hroom, hold _ hhe, h3 _ hhe, hcz, hrow, happ]
    · have hm : (match d with | .int _ => true | _ => false) = false := by cases d <;> first | rfl | exact absurd rfl (hn _)
      unfold Builtin.append_
      simp only [ht, h1, List.getElem?_toArray, List.getElem?_cons_zero, List.getElem?_cons_succ, Sem.run_bind, run_underlying hu, run_underlying hd, Result.andThen_ok, tAgg_size hg, Sem.run_pure, Bool.false_eq_true, if_false, h2 w, hn1, Bool.not_false, if_true, run_typeInfo hi, c3, hfit, false_and, hch, hroom, hold _ hhe, h3 _ hhe, hcz, hrow, happ]
  · obtain ⟨t, kk, h1, hk⟩ := appMk_true h1
    have hw : IntKind.i64.wrap (k : Int) = (k : Int) := lim_wrap .i64 k (by show k < big63; unfold big63; omega)
    have hmul : k * i.bytes ≤ 16777216 * 65536 := Nat.mul_le_mul (by omega) (by omega)
    have c1 : ¬ (k : Int) < 0 := by omega
    have h48 : (2 : Int) ^ 48 = 281474976710656 := rfl
    have c2 : ¬ (k : Int) * (i.bytes : Int) > 2 ^ 48 := by
      rw [h48]
      have : ((k * i.bytes : Nat) : Int) = (k : Int) * (i.bytes : Int) := by simp
      rw [← this]
      omega
    have ha : ∀ w : World, (asInt (.int j (k : Int))).run P w = .ok (k : Int) w := fun _ => rfl
    have hzz : cz' = cz := by
      have := (h5 w).symm.trans (hcz w)
      injection this
    subst hzz
    have happ' : olds.toArray ++ Builtin.zeroCells cz'.cells k ++ Builtin.zeroCells cz'.cells (nc - (n + k)) = (olds ++ vs ++ (Builtin.zeroCells cz'.cells (nc - (n + k))).toList).toArray := by apply Array.ext'; simp [h7]
    unfold Builtin.append_
    simp only [ht, h1, List.getElem?_toArray, List.getElem?_cons_zero, List.getElem?_cons_succ, Sem.run_bind, run_underlying hu, run_underlying hk, Result.andThen_ok, tAgg_size hg, Sem.run_pure, if_true, ha, hw, c1, if_false, run_typeInfo hi, c2, Int.toNat_natCast, hn1, Bool.not_true, Bool.false_eq_true, c3, hfit, false_and, hch, hroom, hold _ hhe]
    by_cases h0 : k * s = 0
    · have hv : vs = [] := List.length_eq_zero_iff.1 (by rw [hl, h0])
      subst hv
      have happ0 : olds.toArray ++ #[] ++ Builtin.zeroCells cz'.cells (nc - (n + k)) = (olds ++ [] ++ (Builtin.zeroCells cz'.cells (nc - (n + k))).toList).toArray := by apply Array.ext'; simp
      simp only [h0, if_true, Sem.run_pure, Result.andThen_ok, hcz, hrow, happ0]
    · simp only [h0, if_false, Sem.run_bind, hcz, Result.andThen_ok, Sem.run_pure, hrow, happ']
end
end Go.Proofs.YthfenjgelbkloaaGreatDoor.Ev

namespace Go.Proofs.YthfenjgelbkloaaGreatDoor.Ev
open Go Go.RowKit

theorem lays_append (b : List (Option AV)) : ∀ (a : List (Option AV)) (j : Nat) (c : T AV), lays j (a ++ b) c = lays (j + a.length) b (lays j a c)
  | [], j, c => by simp [lays]
  | v :: a, j, c => by
    rw [List.cons_append, lays, lays_append b a (j + 1), lays, List.length_cons, show j + 1 + a.length = j + (a.length + 1) by omega]
section
variable {P : Program} {B : Nat} {π : Pi} {H H' : Hp} {w : World} {v : AV} {as : List AV} {cargs : Array Value} {ts : Array TypeId} {u : TypeId}
/-- Less is known of a row. -/
theorem Step.cut (hH : HRel π B H w) {b c z : Nat} {tr : T AV} {d : Option AV} {m e flo fhi m' : Nat} {wr : Bool} {sib sb : List Nat} (hb : H.get b = some (.cells tr d m e flo fhi wr sib)) (hp : π b = some (c, z)) (hm : m' ≤ m) :
    Step B π H w π ((dels sb H).set b (.cells tr d m' e flo fhi false [])) w := by
  obtain ⟨c0, arr, fz, a1, a2, a3, a4, a5, a6, a7⟩ := hH.cells hb
  rw [hp] at a1; cases a1
  have inv : ∀ i y, ((dels sb H).set b (.cells tr d m' e flo fhi false [])).get i = some y → (i = b ∧ y = .cells tr d m' e flo fhi false []) ∨ (i ≠ b ∧ H.get i = some y) := by
    intro i y hy
    rw [Hp.get_set] at hy
    split at hy
    · rename_i e; cases hy; exact .inl ⟨e, rfl⟩
    · rename_i hib
      exact .inr ⟨hib, (dels_get hy).1⟩
  refine ⟨.refl π, ⟨hH.low, hH.glob, ?_, fun i p hi => by rw [Hp.nx_set, dels_nx]; exact hH.dom i p hi, ?_⟩, fun _ _ _ => rfl, Nat.le_refl _, by rw [Hp.nx_set, dels_nx]; exact Nat.le_refl _, fun b p h1 h2 => (by rw [h1] at h2; cases h2), ?_, ⟨rfl, rfl, rfl⟩, fun _ _ => Evo.refl _⟩
  · intro i y hy
    rcases inv i y hy with ⟨rfl, rfl⟩ | ⟨h2, h3⟩
    · refine ⟨c, arr.size, .cells arr e fz, hp, a2, ⟨arr, fz, rfl, rfl, by omega, fun h => (by cases h), ?_, a6⟩, fun h => (by cases h)⟩
      intro j v hj
      obtain ⟨q1, q2⟩ := ob_eq (b := Nat.blt j m') hj
      have q1 : j < m' := by simpa [Nat.blt_eq] using q1
      exact a5 j v (by
        show ob (Nat.blt j m) none _ = _
        have : Nat.blt j m = true := by rw [Nat.blt_eq]; omega
        rw [this]; exact q2)
    · exact hH.blk i y h3
  · intro i x i' x' c1 z1 z2 hx hx' hp1 hp2 hne
    rcases inv i x hx with ⟨rfl, rfl⟩ | ⟨h2, h3⟩
    · exact ⟨rfl, fun h => (by cases h)⟩
    · rcases inv i' x' hx' with ⟨rfl, rfl⟩ | ⟨h2', h3'⟩
      · have := hH.sep i x i' _ c1 z1 z2 h3 hb hp1 hp2 hne
        exact ⟨this.1, fun h => ⟨(this.2 h).1, rfl⟩⟩
      · exact hH.sep i x i' x' c1 z1 z2 h3 h3' hp1 hp2 hne
  · intro i y hy
    rcases inv i y hy with ⟨rfl, rfl⟩ | ⟨h2, h3⟩
    · exact .inl ⟨_, hb, fun h => (by cases h)⟩
    · exact .inl ⟨y, h3, id⟩
/-- A row of which the head is known. -/
theorem Step.row (hH : HRel π B H w) {w1 : World} (hw : w1.heap = w.heap) (ho : w1.os = w.os ∧ w1.tape = w.tape ∧ w1.output = w.output) {l : List (Option AV)} {vs rest : List Value} (hl : VOs π l vs) (h1 : ∀ v ∈ vs, v.oneCell' = true) (h2 : ∀ v ∈ rest, v.oneCell' = true) {n e flo fhi : Nat} {sib : List Nat} (hn : n = vs.length) :
    Step B π H w (piNew π H.nx w.heap.size (vs.length + rest.length)) (H.new (.cells (lays 0 l .e) none n e flo fhi true sib)) (w1.alloc (.cells (vs ++ rest).toArray e)) := by
  have hH1 := hH.same hw
  have he := piNew_ext (H := H) (hH.fresh (Nat.le_refl _)) w.heap.size (vs.length + rest.length)
  have hBR := BR_row (π := piNew π H.nx w.heap.size (vs.length + rest.length)) (w := w1.alloc (.cells (vs ++ rest).toArray e)) (e := e) (n := n) (lo := flo) (hi := fhi) (wr := true) (sib := sib) (l := l) (arr := (vs ++ rest).toArray) (by simp; omega)
    (fun j v hj hv => by
      obtain ⟨cv, a, b⟩ := hl.2 j v hv
      refine ⟨cv, ?_, b.mono he⟩
      rw [List.getElem?_toArray, List.getElem?_append_left (by omega)]
      exact a) (by
      intro v hv
      rcases List.mem_append.1 (by simpa using hv) with h | h
      · exact h1 v h
      · exact h2 v h) (0, 0) (fun _ => ⟨Nat.le_refl _, fun j a b => by omega⟩)
  have hs : (vs ++ rest).toArray.size = vs.length + rest.length := by simp
  rw [hs] at hBR
  refine Step.trans hH (Step.same hH hw ho) ?_
  rw [← show w1.heap.size = w.heap.size by rw [hw]] at hBR ⊢
  exact Step.alloc hH1 _ _ _ hBR
theorem apOk (hH : HRel π B H w) {x : AV} {cx : Value} {e s k : Nat} {g : Bool} {l : List (Option AV)} {i : TypeInfo} (hx : VR π x cx) (hg : tAgg P e = some (g, s)) (hi : P.info? e = some i)
    (h : (match (generalizing := false) appMk P ts with | some mk => (bif mk && !Nat.blt i.bytes 65536 then none else appended P e s mk x H) | none => none) = some (k, l)) :
    ∃ vs : List Value, ApOk P ts e s cx k vs w ∧ VOs π l vs ∧ (∀ v ∈ vs, v.oneCell' = true) ∧ l.length = k * s := by
  cases hmk : appMk P ts with
  | none => rw [hmk] at h; cases h
  | some mk =>
    rw [hmk] at h
    simp only at h
    cases mk with
    | false =>
      rw [Bool.false_and, cond_false] at h
      obtain ⟨vs, q1, q2, q3, q4, q5⟩ := appended_sound (P := P) hH hx h
      refine ⟨vs, ⟨q1, .inl ⟨hmk, q4, fun w' hw => ?_⟩⟩, q2, q3, q2.1.trans q1⟩
      rw [q5 k (Nat.le_refl _) w' hw, List.take_of_length_le (by omega)]
    | true =>
      rw [Bool.true_and] at h
      cases hb : Nat.blt i.bytes 65536 with
      | false => rw [hb] at h; cases h
      | true =>
        rw [hb, Bool.not_true, cond_false] at h
        unfold appended at h
        rw [cond_true] at h
        split at h
        · rename_i j n z hz
          rw [Bool.cond_eq_ite] at h
          split at h
          · rename_i hn
            cases h
            have hn : k < 16777216 := by simpa [Nat.blt_eq, maxNeed] using hn
            obtain ⟨cz, s2, g2, k1, k2, k3, k4, k5, k6⟩ := zeroCells_VRs (P := P) (π := π) hz k
            rw [hg] at k1; cases k1
            cases hx
            have hlen : (Builtin.zeroCells cz.cells k).toList.length = k * s := by rw [Array.length_toList, k6]
            refine ⟨(Builtin.zeroCells cz.cells k).toList, ⟨hlen, .inr ⟨hmk, ⟨j, rfl⟩, hn, fun i' hi' => ?_, cz, k2, k3, rfl⟩⟩, VOs.of k4, k5 k, by rw [List.length_map, k4.length, hlen]⟩
            rw [hi] at hi'; cases hi'
            simpa [Nat.blt_eq] using hb
          · cases h
        · cases h
theorem append_run (hH : HRel π B H w) (ha : VRs π as cargs.toList) : ORun P B π H w (do let y ← Builtin.append_ ts u cargs; pure (.value y)) (appendA P ts as H) := by
  unfold appendA
  split
  · rename_i st s x ht
    obtain ⟨cs, vs0, rfl, h1, h2⟩ := arr_cons ha
    cases h2 with
    | cons _ cx _ vs1 h2 h3 =>
    cases h3
    split
    · rename_i e he
      have hu := elemSl_eq he
      split
      · rename_i g sz i hg hi
        split
        · trivial
        · rename_i k new hap
          obtain ⟨vs, hA, hv, hone, hnl⟩ := apOk (ts := ts) hH h2 hg hi hap
          have hvl : vs.length = k * sz := hA.1
          split
          · -- nil
            cases h1
            split
            · refine OVal.pure hH (cv := .slice none 0 0) ?_ .nils
              rw [run_append_in ht hu hg hi hA (Nat.le_refl 0)]
              rfl
            · rename_i hk0
              rw [Bool.cond_eq_ite]
              split
              · rename_i hc
                simp only [Bool.and_eq_true, Nat.blt_eq, maxNeed] at hc
                obtain ⟨⟨⟨c1, c2⟩, c3⟩, c4⟩ := hc
                obtain ⟨z, hz⟩ := Option.isSome_iff_exists.1 c4
                obtain ⟨cz, s2, g2, k1, k2, k3, k4, k5, k6⟩ := zeroCells_VRs (P := P) (π := π) hz 0
                rw [hg] at k1; cases k1
                have hkp : 0 < k := Nat.pos_of_ne_zero fun e => hk0 e
                obtain ⟨nc, w1, r1, r2, r3, r4, r5⟩ := run_append_more (u := u) (n := 0) (cap := 0) (bs := none) (olds := []) ht hu hg hi hA k2 (fun w' _ => by simp [Builtin.firstCells]) (by omega) (by omega) c2
                have hst := Step.row (w1 := w1) (e := e) (flo := 0) (fhi := 0) (sib := []) (rest := (Builtin.zeroCells cz.cells (nc - (0 + k))).toList) hH r1 r2 hv hone (k5 _) (n := new.length) hv.1
                refine OVal.mk r5 ?_ (by rw [List.nil_append]; exact hst)
                rw [Nat.zero_add]
                have hz2 : vs.length + (Builtin.zeroCells cz.cells (nc - (0 + k))).toList.length = nc * sz := by
                  rw [hvl, Array.length_toList, k6, ← Nat.add_mul, Nat.zero_add, show k + (nc - k) = nc by omega]
                exact VR.sl _ _ _ _ _ _ w.heap.size _ nc (show piNew π H.nx w.heap.size _ H.nx = some (w.heap.size, nc * sz) by unfold piNew; rw [if_pos rfl]; rw [Nat.zero_add] at hz2; rw [hz2]) (Nat.le_refl _) (by omega) (fun h => by cases h) (by omega) r4
              · trivial
          · -- a slice
            rename_i b o n lo ex sz'
            rw [Bool.cond_eq_ite]
            split
            · trivial
            rename_i hsz
            have hsz : sz = sz' := by
              cases hb : Nat.beq sz sz' with
              | true => exact Nat.eq_of_beq_eq_true hb
              | false => rw [hb] at hsz; exact absurd rfl hsz
            subst hsz
            cases h1 with
            | sl _ _ _ _ _ _ c z cap hp q1 q2 q3 q4 q5 =>
            rw [Bool.cond_eq_ite]
            split
            · -- there is room
              rename_i hle
              have hle : n + k ≤ lo := by simpa using hle
              split
              · rename_i h' hst
                obtain ⟨w', r1, r2⟩ := stores_sound P hH hp hst hv hone
                refine OVal.mk (cv := .slice (some ⟨c, o, none⟩) (n + k) cap) ?_ (.sl _ _ _ _ _ _ c z cap hp hle q2 q3 q4 q5) r2
                rw [run_append_in ht hu hg hi hA (by omega)]
                simp only [Addr.add_lit', r1, Result.andThen_ok]
              · trivial
            rename_i hle
            have hle : ¬ n + k ≤ lo := by simpa using hle
            rw [Bool.cond_eq_ite]
            split
            · trivial
            rename_i hc
            have hc : (Nat.blt (n + k) maxNeed && Nat.blt i.bytes 65536 && allCells new && (zeroC P e).isSome) = true := by
              cases hb : (Nat.blt (n + k) maxNeed && Nat.blt i.bytes 65536 && allCells new && (zeroC P e).isSome) with
              | true => rfl
              | false => rw [hb] at hc; exact absurd rfl hc
            simp only [Bool.and_eq_true, Nat.blt_eq, maxNeed] at hc
            obtain ⟨⟨⟨c1, c2⟩, c3⟩, c4⟩ := hc
            obtain ⟨zz, hz⟩ := Option.isSome_iff_exists.1 c4
            obtain ⟨cz, s2, g2, k1, k2, k3, k4, k5, k6⟩ := zeroCells_VRs (P := P) (π := π) hz 0
            rw [hg] at k1; cases k1
            split
            · rename_i tr d m e' flo fhi wr sib hb
              have hns : n * sz ≤ cap * sz := Nat.mul_le_mul_right sz (Nat.le_trans q1 q2)
              obtain ⟨olds, o1, o2, o3, o4⟩ := rdo_sound (P := P) (o := o) (cnt := n * sz) hH hb hp (by omega)
              have hold : ∀ w' : World, w'.heap = w.heap → (Builtin.firstCells sz n (.slice (some ⟨c, o, none⟩) n cap)).run P w' = .ok olds.toArray w' := by
                intro w' hw
                show (loadCells ⟨c, o, none⟩ (n * sz)).run P w' = _
                rw [o2 w' hw (n * sz) (Nat.le_refl _), List.take_of_length_le (by omega)]
              have grow : cap < n + k → ∃ (nc : Nat) (w1 : World), w1.heap = w.heap ∧ (w1.os = w.os ∧ w1.tape = w.tape ∧ w1.output = w.output) ∧ n + k ≤ nc ∧ nc < big63 ∧ (olds ++ vs).length + (Builtin.zeroCells cz.cells (nc - (n + k))).toList.length = nc * sz ∧ (olds ++ vs).length = (n + k) * sz ∧
                  (Builtin.append_ ts u [.slice (some ⟨c, o, none⟩) n cap, cx].toArray).run P w = .ok (.slice (some ⟨w.heap.size, 0, none⟩) (n + k) nc) (w1.alloc (.cells (olds ++ vs ++ (Builtin.zeroCells cz.cells (nc - (n + k))).toList).toArray e)) := by
                intro hgr
                obtain ⟨nc, w1, r1, r2, r3, r4, r5⟩ := run_append_more (u := u) ht hu hg hi hA k2 hold hgr c1 c2
                have hl2 : (olds ++ vs).length = (n + k) * sz := by rw [List.length_append, o1, hvl, ← Nat.add_mul]
                refine ⟨nc, w1, r1, r2, r3, r4, ?_, hl2, r5⟩
                rw [hl2, Array.length_toList, k6, ← Nat.add_mul, show n + k + (nc - (n + k)) = nc by omega]
              have hvo := o3.append hv
              have hone2 : ∀ v ∈ olds ++ vs, v.oneCell' = true := fun v hv => by
                rcases List.mem_append.1 hv with h | h
                · exact o4 v h
                · exact hone v h
              simp only
              rw [Bool.cond_eq_ite]
              split
              · -- it moves
                rename_i hex
                obtain ⟨nc, w1, r1, r2, r3, r4, r5, r6, r7⟩ := grow (by have := q3 hex; omega)
                have hst := Step.row (w1 := w1) (e := e) (flo := 0) (fhi := 0) (sib := []) (rest := (Builtin.zeroCells cz.cells (nc - (n + k))).toList) hH r1 r2 hvo hone2 (k5 _) (n := ((Blk.cells tr d m e' flo fhi wr sib).rdo o (n * sz) ++ new).length) hvo.1
                rw [r5] at hst
                refine OVal.mk r7 ?_ hst
                exact VR.sl _ _ _ _ _ _ w.heap.size _ nc (by simp [piNew]; rfl) (Nat.le_refl _) r3 (fun h => by cases h) (by omega) r4
              · rename_i hex
                rw [Bool.cond_eq_ite]
                split
                · trivial
                rename_i hd
                have hd : (Nat.beq o 0 && wr && Nat.beq e e' && (Nat.ble fhi (n * sz) || Nat.beq flo fhi)) = true := by
                  cases hb : (Nat.beq o 0 && wr && Nat.beq e e' && (Nat.ble fhi (n * sz) || Nat.beq flo fhi)) with
                  | true => rfl
                  | false => rw [hb] at hd; exact absurd rfl hd
                simp only [Bool.and_eq_true, Bool.or_eq_true, Nat.beq_eq, Nat.ble_eq] at hd
                obtain ⟨⟨⟨d1, d2⟩, d3⟩, d4⟩ := hd
                subst d1 d2 d3
                have hm' : (bif Nat.ble m (n * sz) then m else n * sz) ≤ m ∧ (bif Nat.ble m (n * sz) then m else n * sz) ≤ n * sz := by
                  cases hq : Nat.ble m (n * sz) with
                  | true => rw [cond_true]; exact ⟨Nat.le_refl _, by simpa using hq⟩
                  | false =>
                    rw [cond_false]
                    have : ¬ m ≤ n * sz := fun h => by rw [Nat.ble_eq_true_of_le h] at hq; cases hq
                    exact ⟨by omega, Nat.le_refl _⟩
                generalize (bif Nat.ble m (n * sz) then m else n * sz) = m' at hm' ⊢
                by_cases hgr : cap < n + k
                · obtain ⟨nc, w1, r1, r2, r3, r4, r5, r6, r7⟩ := grow hgr
                  have hct := Step.cut (m' := m') (sb := sib) hH hb hp hm'.1
                  have hst := Step.row (w1 := w1) (e := e) (flo := flo) (fhi := fhi) (sib := [b]) (rest := (Builtin.zeroCells cz.cells (nc - (n + k))).toList) hct.rel r1 r2 hvo hone2 (k5 _) (n := (n + k) * sz) r6.symm
                  have hnx : ((dels sib H).set b (.cells tr d m' e flo fhi false [])).nx = H.nx := by rw [Hp.nx_set, dels_nx]
                  rw [r5, hnx] at hst
                  refine OVal.mk r7 ?_ (Step.trans hH hct hst)
                  exact VR.sl _ _ _ _ _ _ w.heap.size _ nc (by simp [piNew]; rfl) (Nat.le_refl _) r3 (fun h => by cases h) (by omega) r4
                · have hcap : (n + k) * sz ≤ cap * sz := Nat.mul_le_mul_right sz (by omega)
                  have hal := Step.alias (m' := m') (n := (n + k) * sz) (l := (Blk.cells tr d m e flo fhi true sib).rdo 0 (n * sz)) hH hb hp hm'.1 (by omega) (fun j v hj hl => by
                    rw [rdo_get] at hl
                    split at hl
                    · simpa using hl
                    · cases hl)
                  have hnx : ((dels sib H).set b (.cells tr d m' e flo fhi false [])).nx = H.nx := by rw [Hp.nx_set, dels_nx]
                  have hbn : b ≠ H.nx := by intro e; rw [e, hH.fresh (Nat.le_refl _)] at hp; cases hp
                  have hp' : piNew π H.nx c z H.nx = some (c, z) := by unfold piNew; rw [if_pos rfl]
                  have hsl : VR (piNew π H.nx c z) (.sl H.nx 0 (n + k) (n + k) false sz) (.slice (some ⟨c, 0, none⟩) (n + k) cap) := VR.sl _ _ _ _ _ _ c z cap hp' (Nat.le_refl _) (by omega) (fun h => by cases h) (by omega) q5
                  have hrun := run_append_in (u := u) (bs := some ⟨c, 0, none⟩) ht hu hg hi hA (show n + k ≤ cap by omega)
                  simp only [Addr.add_lit', Nat.zero_add] at hrun
                  have hnl' : new.length = k * sz := hnl
                  by_cases hnil : new = []
                  · subst hnil
                    have hv0 : vs = [] := List.length_eq_zero_iff.1 (by rw [← hv.1]; rfl)
                    subst hv0
                    rw [List.append_nil]
                    exact OVal.mk (hrun.trans rfl) hsl hal
                  · generalize hX : (dels sib H).set b (.cells tr d m' e flo fhi false []) = X at hal hnx ⊢
                    have gb : X.get b = some (.cells tr d m' e flo fhi false []) := by rw [← hX, Hp.get_set, if_pos rfl]
                    generalize hO : (Blk.cells tr d m e flo fhi true sib).rdo 0 (n * sz) = old at hal o3 ⊢
                    have g1 : (X.new (.cells (lays 0 old .e) none ((n + k) * sz) e flo fhi true [b])).get H.nx = some (.cells (lays 0 old .e) none ((n + k) * sz) e flo fhi true [b]) := by rw [Hp.get_new, hnx, if_pos rfl]
                    have gb1 : (X.new (.cells (lays 0 old .e) none ((n + k) * sz) e flo fhi true [b])).get b = some (.cells tr d m' e flo fhi false []) := by rw [Hp.get_new, hnx, if_neg hbn, gb]
                    have hk : kill (n * sz) [b] (X.new (.cells (lays 0 old .e) none ((n + k) * sz) e flo fhi true [b])) = X.new (.cells (lays 0 old .e) none ((n + k) * sz) e flo fhi true [b]) := by
                      rw [kill, gb1]
                      have : Nat.blt (n * sz) m' = false := by
                        cases hq : Nat.blt (n * sz) m' with
                        | false => rfl
                        | true => have : n * sz < m' := by simpa [Nat.blt_eq] using hq
                                  omega
                      simp only [this, cond_false]
                      rfl
                    have hcond : (Nat.ble (n * sz + new.length) ((n + k) * sz) && (Nat.ble fhi (n * sz) || Nat.ble (n * sz + new.length) flo || Nat.beq flo fhi) && allCells new) = true := by
                      simp only [Bool.and_eq_true, Bool.or_eq_true, Nat.ble_eq, Nat.beq_eq]
                      refine ⟨⟨by rw [hnl', Nat.add_mul]; exact Nat.le_refl _, ?_⟩, c3⟩
                      rcases d4 with h | h
                      · exact .inl (.inl h)
                      · exact .inr h
                    have hst : stores (X.new (.cells (lays 0 old .e) none ((n + k) * sz) e flo fhi true [b])) H.nx (n * sz) new = some ((X.new (.cells (lays 0 old .e) none ((n + k) * sz) e flo fhi true [b])).set H.nx (.cells (lays (n * sz) new (lays 0 old .e)) none ((n + k) * sz) e flo fhi true [b])) := by
                      cases hq : new with
                      | nil => exact absurd hq hnil
                      | cons v0 l0 =>
                        rw [hq] at hcond
                        unfold stores
                        simp only [g1, hcond, cond_true, hk]
                    obtain ⟨w', r1, r2⟩ := stores_sound P hal.rel hp' hst ⟨hv.1, fun i v h => let ⟨cv, a, b⟩ := hv.2 i v h; ⟨cv, a, b.mono hal.ext⟩⟩ hone
                    rw [r1] at hrun
                    refine OVal.mk hrun hsl ((Step.trans hH hal r2).less ?_ (Nat.le_refl _))
                    intro i y hy
                    rw [Hp.get_set]
                    rw [Hp.get_new, hnx] at hy
                    split at hy
                    · rename_i e1
                      rw [if_pos e1]
                      rw [← hy, lays_append, Nat.zero_add, ← hO, rdo_length]
                    · rename_i e1
                      rw [if_neg e1, Hp.get_new, hnx, if_neg e1]
                      exact hy
            · trivial
          · -- empty
            cases h1 with
            | slz a cap =>
              split
              · refine OVal.pure hH (cv := .slice (some a) 0 cap) ?_ (.slz a cap)
                rw [run_append_in ht hu hg hi hA (Nat.zero_le cap)]
                have hv0 : vs = [] := List.length_eq_zero_iff.1 (by rw [hvl, Nat.zero_mul])
                subst hv0
                rfl
              · trivial
          · trivial
      · trivial
    · trivial
  · trivial
end
end Go.Proofs.YthfenjgelbkloaaGreatDoor.Ev

namespace Go.Proofs.YthfenjgelbkloaaGreatDoor.Ev
open Go Go.RowKit

theorem ofBytes_sound : ∀ {l : List AV} {a v : Nat}, ofBytes l a = some v → ∃ bl : List UInt8, l = bl.map (fun b => AV.int .u8 (.ofNat b.toNat)) ∧ v = bl.foldl (fun a b => a * 256 + b.toNat) a
  | [], a, v, h => by cases h; exact ⟨[], rfl, rfl⟩
  | x :: l, a, v, h => by
    unfold ofBytes at h
    split at h
    · cases ‹x :: l = []›
    · rename_i a0 b l' heq
      cases heq
      rw [Bool.cond_eq_ite] at h
      split at h
      · rename_i hb
        have hb : b < 256 := by simpa [Nat.blt_eq] using hb
        obtain ⟨bl, h1, h2⟩ := ofBytes_sound h
        have : (UInt8.ofNat b).toNat = b := by simp; omega
        exact ⟨UInt8.ofNat b :: bl, by rw [List.map_cons, this, ← h1], by rw [List.foldl_cons, this]; exact h2⟩
      · cases h
    · cases h
section
variable {P : Program} {B : Nat} {π : Pi} {H H' : Hp} {w : World} {v : AV} {as : List AV} {cargs : Array Value} {ts : Array TypeId} {u : TypeId}
/-- Known bytes in a row. -/
theorem bytes_sound (hH : HRel π B H w) {b o n c z a : Nat} {x : Blk} (hx : H.get b = some x) (hp : π b = some (c, z)) {l : List AV} (h : x.rds o n = some l) (hb : ofBytes l 0 = some a) :
    ∃ bl : List UInt8, bl.length = n ∧ a = natOf bl ∧ (loadCells ⟨c, o, none⟩ n).run P w = .ok (bl.map fun b => Value.int .u8 b.toNat).toArray w ∧ ∀ j y, bl[j]? = some y → w.cell? ((⟨c, o, none⟩ : Addr).add j) = some (.int .u8 y.toNat) := by
  obtain ⟨bl, h1, h2⟩ := ofBytes_sound hb
  obtain ⟨cs, k1, k2⟩ := run_rds (P := P) hH hx hp h
  obtain ⟨q1, q2⟩ := rds_get h
  have hcs : cs = bl.map fun b => Value.int .u8 b.toNat := by
    subst h1
    clear h h2 hb q1 q2 k1 hx
    induction bl generalizing cs with
    | nil => cases k2; rfl
    | cons y bl ih =>
      cases k2 with
      | cons _ cy _ cs' k k' =>
        have := VR.int_inv k
        subst this
        rw [ih _ k']
        rfl
  have hlen : bl.length = n := by rw [h1, List.length_map] at q1; exact q1
  refine ⟨bl, hlen, h2, by rw [← hcs]; exact k1, fun j y hj => ?_⟩
  have hjn : j < n := by rw [← hlen]; exact (List.getElem?_eq_some_iff.1 hj).1
  obtain ⟨v, a1, a2⟩ := q2 j hjn
  obtain ⟨cv, a3, a4⟩ := rd_cell hH hx hp a2
  rw [h1, List.getElem?_map, hj] at a1
  cases a1
  have := VR.int_inv a4
  subst this
  rw [Addr.add_lit']
  exact a3
theorem liesAt_row {e t : TypeId} (hc : P.cellsOf e = 1) (hu : P.underlyingId e = P.underlyingId t) (count o n : Nat) (hn : o + n ≤ count) : liesAt P P.depth e count o t n = true := by
  have hd : P.depth = (2 * (P.types.size + Made.depth) + 1) + 1 := rfl
  rw [hd]
  simp only [liesAt, Bool.or_eq_true]
  left
  rw [hd]
  simp [rowAt, hc, hn, sameLayout, hu, Nat.mod_one]
theorem heap_freeze {w : World} {c o n e : Nat} {arr : Array Value} {fz : Nat × Nat} (h : w.heap[c]? = some (.cells arr e fz)) (hn : 0 < n) :
    (w.freeze ⟨c, o, none⟩ n).heap[c]? = some (.cells arr e (if fz.1 == fz.2 then (o, o + n) else (min fz.1 o, max fz.2 (o + n)))) ∧ (∀ k, k ≠ c → (w.freeze ⟨c, o, none⟩ n).heap[k]? = w.heap[k]?) ∧ (w.freeze ⟨c, o, none⟩ n).heap.size = w.heap.size ∧ ((w.freeze ⟨c, o, none⟩ n).os = w.os ∧ (w.freeze ⟨c, o, none⟩ n).tape = w.tape ∧ (w.freeze ⟨c, o, none⟩ n).output = w.output) := by
  unfold World.freeze
  rw [if_neg (by omega)]
  obtain ⟨f1, f2⟩ := fz
  refine ⟨?_, ?_, by simp, ⟨rfl, rfl, rfl⟩⟩
  · simp only [Array.getElem?_modify, if_true, h, Option.map_some]
  · intro k hk
    simp only [Array.getElem?_modify]
    rw [if_neg (fun e => hk e.symm)]
theorem string_run (hH : HRel π B H w) (ha : VRs π as cargs.toList) : ORun P B π H w (do let y ← Builtin.unsafeString_ ts u cargs; pure (.value y)) (builtinB P .unsafeString ts as H) := by
  have none_run : ∀ (p : Option Addr) (j : IntKind) (pt : TypeId), ts[0]? = some pt → (Builtin.unsafeString_ ts u #[.pointer p, .int j 0]).run P w = .ok (.string .empty) w := by
    intro p j pt ht
    have ha : (asInt (.int j 0)).run P w = .ok 0 w := rfl
    have hmax : IntKind.i64.max = 9223372036854775807 := rfl
    cases p with
    | none =>
      obtain ⟨m0, m1, m2, m3, hdef⟩ : ∃ m0 m1 m2 m3, Builtin.unsafeString_ ts u #[.pointer none, .int j 0] = (do
          let n ← asInt (.int j 0)
          let some pt := ts[0]? | stuck m0
          if n < 0 then runtimePanic (.error m1)
          if n > IntKind.i64.max then unsupported (.unsafePointer m2)
          if n = 0 then pure (.string .empty)
          else runtimePanic (.error m3)) := ⟨_, _, _, _, rfl⟩
      rw [hdef]
      simp only [Sem.run_bind, ha, Result.andThen_ok, ht]
      simp [hmax]
    | some a =>
      obtain ⟨m0, m1, m2, m3, hdef⟩ : ∃ m0 m1 m2 m3, Builtin.unsafeString_ ts u #[.pointer (some a), .int j 0] = (do
          let n ← asInt (.int j 0)
          let some pt := ts[0]? | stuck m0
          if n < 0 then runtimePanic (.error m1)
          if n > IntKind.i64.max then unsupported (.unsafePointer m2)
          if n = 0 then pure (.string .empty)
          else if ← variablesAt a (← elemOf pt) n.toNat then do
            let s ← loadBytes a .empty n.toNat
            freeze a n.toNat
            pure (.string s)
          else unsupported (.unsafePointer m3)) := ⟨_, _, _, _, rfl⟩
      rw [hdef]
      simp only [Sem.run_bind, ha, Result.andThen_ok, ht]
      simp [hmax]
  unfold builtinB
  simp only
  split
  · rename_i t j ht
    obtain ⟨cx, vs, rfl, h1, h2⟩ := arr_cons ha
    cases h2 with
    | cons _ cy _ vs' h2 h3 =>
    cases h3
    cases h1
    cases h2
    exact OVal.pure hH (none_run none j _ ht) (.str ByteArray.empty)
  · rename_i t b o j n ht
    obtain ⟨cx, vs, rfl, h1, h2⟩ := arr_cons ha
    cases h2 with
    | cons _ cy _ vs' h2 h3 =>
    cases h3
    cases h2
    cases h1 with
    | ptr _ _ c z hp =>
    split
    · exact OVal.pure hH (none_run _ j _ ht) (.str ByteArray.empty)
    · rename_i hn0
      split
      · rename_i t' ub tr d k e lo hi sib hu hb
        rw [Bool.cond_eq_ite]
        split
        · rename_i hc
          simp only [Bool.and_eq_true, Nat.beq_eq, Nat.ble_eq, Nat.blt_eq] at hc
          obtain ⟨⟨⟨⟨⟨c1, c2⟩, c3⟩, c4⟩, c5⟩, c6⟩ := hc
          split
          · rename_i l hl
            split
            · rename_i a hof
              obtain ⟨bl, q1, q2, q3, q4⟩ := bytes_sound (P := P) hH hb hp hl hof
              obtain ⟨c0, arr, fz, a1, a2, a3, a4, a5, a6, a7⟩ := hH.cells hb
              rw [hp] at a1; cases a1
              have hnp : 0 < n := Nat.pos_of_ne_zero fun e => hn0 e
              obtain ⟨f1, f2, f3, f4⟩ := heap_freeze (o := o) (n := n) a2 hnp
              have hsh : w.shape? c = some (e, arr.size) := by unfold World.shape?; rw [a2]
              have hlies : liesAt P P.depth e (arr.size / P.cellsOf e) o ub n = true := liesAt_row c3 c2.symm _ o n (by rw [c3, Nat.div_one]; omega)
              have hlb := Lib.run_loadBytes (P := P) w bl ⟨c, o, none⟩ .empty q4
              have hmax : IntKind.i64.max = 9223372036854775807 := rfl
              have hn63 : ¬ ((n : Int) > IntKind.i64.max) := by rw [hmax]; unfold big63 at c5; omega
              have hneg : ¬ ((n : Int) < 0) := by omega
              have hn0' : ¬ ((n : Int) = 0) := by omega
              have hai : (asInt (.int j (Int.ofNat n))).run P w = .ok (n : Int) w := rfl
              have hrun : (Builtin.unsafeString_ ts u [.pointer (some ⟨c, o, none⟩), .int j (Int.ofNat n)].toArray).run P w = .ok (.string ⟨bl.toArray⟩) (w.freeze ⟨c, o, none⟩ n) := by
                obtain ⟨m0, m1, m2, m3, hdef⟩ : ∃ m0 m1 m2 m3, Builtin.unsafeString_ ts u [.pointer (some ⟨c, o, none⟩), .int j (Int.ofNat n)].toArray = (do
                    let n ← asInt (.int j (Int.ofNat n))
                    let some pt := ts[0]? | stuck m0
                    if n < 0 then runtimePanic (.error m1)
                    if n > IntKind.i64.max then unsupported (.unsafePointer m2)
                    if n = 0 then pure (.string .empty)
                    else if ← variablesAt ⟨c, o, none⟩ (← elemOf pt) n.toNat then do
                      let s ← loadBytes ⟨c, o, none⟩ .empty n.toNat
                      freeze ⟨c, o, none⟩ n.toNat
                      pure (.string s)
                    else unsupported (.unsafePointer m3)) := ⟨_, _, _, _, rfl⟩
                rw [hdef]
                simp only [Sem.run_bind, hai, Result.andThen_ok, ht, hneg, hn63, hn0', if_false]
                rw [q1] at hlb
                simp [variablesAt, hsh, elemOf, run_underlying hu, hlies, hlb]
              have hv : VR π (.str n a) (.string ⟨bl.toArray⟩) := by
                have := VR.str (π := π) ⟨bl.toArray⟩
                have e1 : (⟨bl.toArray⟩ : ByteArray).size = n := by show bl.toArray.size = n; simpa using q1
                rw [e1, ← q2] at this
                exact this
              generalize hfz : (bif Nat.beq lo hi then (o, o + n) else (minN lo o, bif Nat.ble hi (o + n) then o + n else hi)) = fz2
              have hin : ∀ fz' : Nat × Nat, fz' = (if fz.1 == fz.2 then (o, o + n) else (min fz.1 o, max fz.2 (o + n))) → fz'.1 ≤ fz'.2 ∧ ∀ j, fz'.1 ≤ j → j < fz'.2 → (fz2.1 ≤ j ∧ j < fz2.2) ∨ (fz2.2 < fz2.1 ∧ arr.size ≤ j) := by
                intro fz' e'
                obtain ⟨g1, g2⟩ := a4 rfl
                have hmm : minN lo o = min lo o := by unfold minN; cases hq : Nat.ble lo o with
                  | true => have : lo ≤ o := by simpa using hq
                            rw [cond_true]; omega
                  | false => have : ¬ lo ≤ o := fun h => by rw [Nat.ble_eq_true_of_le h] at hq; cases hq
                             rw [cond_false]; omega
                have hM : (bif Nat.ble hi (o + n) then o + n else hi) = max hi (o + n) := by cases hq : Nat.ble hi (o + n) with
                  | true => have : hi ≤ o + n := by simpa using hq
                            rw [cond_true]; omega
                  | false => have : ¬ hi ≤ o + n := fun h => by rw [Nat.ble_eq_true_of_le h] at hq; cases hq
                             rw [cond_false]; omega
                rw [hmm, hM] at hfz
                by_cases hr : fz.1 = fz.2
                · have : (fz.1 == fz.2) = true := by simpa using hr
                  rw [this, if_pos rfl] at e'
                  subst e'
                  refine ⟨by simp, fun j j1 j2 => .inl ?_⟩
                  simp only at j1 j2
                  cases hlh : Nat.beq lo hi with
                  | true => rw [hlh, cond_true] at hfz; subst hfz; exact ⟨j1, j2⟩
                  | false => rw [hlh, cond_false] at hfz; subst hfz; simp only; omega
                · have : ¬ ((fz.1 == fz.2) = true) := by simpa using hr
                  rw [if_neg this] at e'
                  subst e'
                  have r1 := g2 fz.1 (Nat.le_refl _) (by omega)
                  have r2 := g2 (fz.2 - 1) (by omega) (by omega)
                  refine ⟨by simp only; omega, fun j j1 j2 => .inl ?_⟩
                  simp only at j1 j2
                  cases hlh : Nat.beq lo hi with
                  | true => have : lo = hi := Nat.eq_of_beq_eq_true hlh
                            omega
                  | false => rw [hlh, cond_false] at hfz; subst hfz; simp only; omega
              refine OVal.mk hrun hv (Step.write (x' := .cells tr d k e fz2.1 fz2.2 true sib) hH hb rfl hp f1 f2 f3 f4 (Evo.noMap (by simp)) ⟨arr, _, rfl, rfl, a3, fun _ => hin _ rfl, a5, a6⟩ rfl (fun _ => rfl) rfl ?_)
              intro i y hy
              rw [Hp.get_set] at hy
              split at hy
              · rename_i e1; cases hy; exact .inl ⟨e1, rfl⟩
              · rename_i hne
                refine .inr ⟨hne, hy, fun z' hz' => ?_⟩
                obtain ⟨s1, s2⟩ := hH.sep b _ i y c _ z' hb hy hp hz' (fun e => hne e.symm)
                obtain ⟨s3, s4⟩ := s2 rfl
                obtain ⟨ci, zi, oi, b1, b2, b3, b4⟩ := hH.blk i y hy
                rw [hz'] at b1; cases b1
                rw [a2] at b2; cases b2
                cases y with
                | cells ty dy ny ey loy hiy wy sy =>
                  obtain ⟨arr2, fz3, p1, p2, p3, p4, p5, p6⟩ := b3
                  cases p1
                  have hw : wy = false := s4
                  exact ⟨arr, _, rfl, p2, p3, fun e => (by rw [hw] at e; cases e), p5, p6⟩
                | map => exact absurd s4 (by simp [Blk.wr])
                | loop => exact absurd s4 (by simp [Blk.wr])
                | dfr => exact absurd s4 (by simp [Blk.wr])
                | siter => exact absurd s4 (by simp [Blk.wr])
                | miter => exact absurd s4 (by simp [Blk.wr])
            · trivial
          · trivial
        · trivial
      · trivial
  · trivial
end
end Go.Proofs.YthfenjgelbkloaaGreatDoor.Ev

namespace Go.Proofs.YthfenjgelbkloaaGreatDoor.Ev
open Go Go.RowKit

section
variable {P : Program} {B : Nat} {π : Pi} {H H' : Hp} {w : World} {r : T AV} {a : Act}
theorem rowAt_mono {fits : TypeId → Bool} : ∀ {d : Nat} {e : TypeId} {c c' o n : Nat}, c ≤ c' → rowAt P fits d e c o n = true → rowAt P fits d e c' o n = true
  | 0, _, _, _, _, _, _, h => by cases h
  | d + 1, e, c, c', o, n, hc, h => by
    unfold rowAt at h ⊢
    simp only at h ⊢
    split
    · rename_i h0; rw [if_pos h0] at h; exact h
    · rename_i h0
      rw [if_neg h0] at h
      simp only [Bool.or_eq_true, Bool.and_eq_true, decide_eq_true_eq] at h ⊢
      rcases h with ⟨⟨h1, h2⟩, h3⟩ | ⟨h1, h2⟩
      · exact .inl ⟨⟨h1, by omega⟩, h3⟩
      · exact .inr ⟨by omega, h2⟩
theorem liesAt_mono : ∀ {d : Nat} {e : TypeId} {c c' o n : Nat} {t : TypeId}, c ≤ c' → liesAt P d e c o t n = true → liesAt P d e c' o t n = true
  | 0, _, _, _, _, _, _, _, h => by cases h
  | d + 1, e, c, c', o, n, t, hc, h => by
    unfold liesAt at h ⊢
    rw [Bool.or_eq_true] at h ⊢
    rcases h with h | h
    · exact .inl (rowAt_mono hc h)
    · right
      split at h
      · rename_i m u' hu
        exact liesAt_mono hc h
      · cases h
/-- A row of bytes with room behind it, that stands for a text. -/
theorem run_s2b (e : TypeId) (s : ByteArray) (hs : s.size < 16777216) : ∃ (nc : Nat) (w1 : World), w1.heap = w.heap ∧ (w1.os = w.os ∧ w1.tape = w.tape ∧ w1.output = w.output) ∧ s.size ≤ nc ∧ nc < big63 ∧
    (Conv.stringToBytes e s).run P w = .ok (.slice (some ⟨w.heap.size, 0, none⟩) s.size nc) (w1.alloc (.cells ((s.data.map fun b => Value.int .u8 b.toNat) ++ Array.replicate (nc - s.size) (.int .u8 0)) e (nc, nc + 1))) := by
  have hp63 : (2 : Nat) ^ 63 = 9223372036854775808 := rfl
  have hcap : s.size + w.tape w.drawn (.appendCap s.size 0 e) % (2 ^ 63 - s.size) < big63 := by
    have h1 := Nat.mod_lt (w.tape w.drawn (.appendCap s.size 0 e)) (show 0 < 2 ^ 63 - s.size by rw [hp63]; omega)
    generalize hM : 2 ^ 63 - s.size = M at *
    rw [hp63] at hM
    unfold big63
    omega
  have hch : (choose (.appendCap s.size 0 e)).run P w = .ok (s.size + w.tape w.drawn (.appendCap s.size 0 e) % (2 ^ 63 - s.size)) { w with drawn := w.drawn + 1 } := by
    simp [choose, Sem.run, Question.forced, Question.cut]
  refine ⟨s.size + w.tape w.drawn (.appendCap s.size 0 e) % (2 ^ 63 - s.size), { w with drawn := w.drawn + 1 }, rfl, ⟨rfl, rfl, rfl⟩, Nat.le_add_right _ _, hcap, ?_⟩
  have hle : s.size ≤ s.size + w.tape w.drawn (.appendCap s.size 0 e) % (2 ^ 63 - s.size) := Nat.le_add_right _ _
  generalize s.size + w.tape w.drawn (.appendCap s.size 0 e) % (2 ^ 63 - s.size) = nc at *
  unfold Conv.stringToBytes
  have hrow : ∀ (vs' : Array Value), (newRow e vs').run P { w with drawn := w.drawn + 1 } = .ok ⟨w.heap.size, 0, none⟩ (World.alloc { w with drawn := w.drawn + 1 } (.cells vs' e)) := fun vs' => by simp [newRow]
  simp only [Sem.run_bind, hch, Result.andThen_ok, hrow]
  generalize hw2 : World.alloc { w with drawn := w.drawn + 1 } (.cells ((s.data.map fun b => Value.int .u8 b.toNat) ++ Array.replicate (nc - s.size) (.int .u8 0)) e) = w2
  have hsz : ((s.data.map fun b => Value.int .u8 b.toNat) ++ Array.replicate (nc - s.size) (Value.int .u8 0)).size = nc := by
    rw [Array.size_append, Array.size_map, Array.size_replicate]
    show s.data.size + (nc - s.data.size) = nc
    have : s.data.size = s.size := rfl
    omega
  have hsh : w2.shape? w.heap.size = some (e, nc) := by
    rw [← hw2]
    unfold World.shape?
    have := heap_alloc_new { w with drawn := w.drawn + 1 } (.cells ((s.data.map fun b => Value.int .u8 b.toNat) ++ Array.replicate (nc - s.size) (.int .u8 0)) e)
    rw [show ({ w with drawn := w.drawn + 1 } : World).heap.size = w.heap.size from rfl] at this
    rw [this]
    simp only [hsz]
  have hm : (markStringish ⟨w.heap.size, 0, none⟩).run P w2 = .ok () (w2.freeze ⟨w.heap.size, nc, none⟩ 1) := by
    unfold markStringish
    simp [hsh]
  simp only [hm, Result.andThen_ok, Sem.run_pure]
  congr 1
  rw [← hw2]
  unfold World.freeze World.alloc
  rw [if_neg (by omega)]
  congr 1
  apply Array.ext_getElem?
  intro i
  simp only [Array.getElem?_modify, Array.getElem?_push]
  by_cases hi : i = w.heap.size
  · subst hi; simp
  · rw [if_neg (fun e => hi e.symm), if_neg hi, if_neg hi]
theorem conv_sound (hH : HRel π B H w) {s d : TypeId} {v : AV} {cv : Value} (hv : VR π v cv) : ORun P B π H w (do let y ← convert s d cv; pure (.value y)) (convA P s d v H) := by
  unfold convA
  split
  · rename_i ds k j n hs hd
    refine ORun.plain (plain_wrapI _ _ _) fun v H' e => ?_
    obtain ⟨rfl, rfl⟩ := wrapI_val e
    have := VR.int_inv hv
    subst this
    refine OVal.pure hH ?_ (.int _ _)
    unfold convert
    simp only [Sem.run_bind, run_underlying hs, run_underlying hd, Result.andThen_ok]
    rfl
  · rename_i ds n u hs hd
    cases hv with
    | str st =>
    refine OVal.pure hH ?_ (.str st)
    unfold convert
    simp only [Sem.run_bind, run_underlying hs, run_underlying hd, Result.andThen_ok]
    rfl
  · rename_i ds e n u hs hd
    cases hv with
    | str st =>
    split
    · rename_i he
      rw [Bool.cond_eq_ite]
      split
      · rename_i hn
        have hn : st.size < 16777216 := by simpa [Nat.blt_eq, maxNeed] using hn
        obtain ⟨nc, w1, r1, r2, r3, r4, r5⟩ := run_s2b (P := P) (w := w) e st hn
        have hrun : (convert s d (.string st)).run P w = (Conv.stringToBytes e st).run P w := by
          unfold convert
          simp only [Sem.run_bind, run_underlying hs, run_underlying hd, Result.andThen_ok, run_underlying he]
        have hsz : ((st.data.map fun b => Value.int .u8 b.toNat) ++ Array.replicate (nc - st.size) (Value.int .u8 0)).size = nc := by
          rw [Array.size_append, Array.size_map, Array.size_replicate]
          show st.data.size + (nc - st.data.size) = nc
          have : st.data.size = st.size := rfl
          omega
        have he2 := piNew_ext (H := H) (hH.fresh (Nat.le_refl _)) w.heap.size nc
        have hBR := BR_row (π := piNew π H.nx w.heap.size nc) (w := w1.alloc (.cells ((st.data.map fun b => Value.int .u8 b.toNat) ++ Array.replicate (nc - st.size) (Value.int .u8 0)) e (nc, nc + 1))) (e := e) (n := st.size) (lo := 1) (hi := 0) (wr := true) (sib := [])
          (l := (strBytes st.size (natOf st.data.toList) st.size).map fun b => some (byteA b)) (arr := (st.data.map fun b => Value.int .u8 b.toNat) ++ Array.replicate (nc - st.size) (Value.int .u8 0)) (by omega)
          (fun j v hj hv => by
            obtain ⟨cv, a, b⟩ := (str_cells (π := piNew π H.nx w.heap.size nc) st).2 j v hv
            refine ⟨cv, ?_, b⟩
            rw [← Array.getElem?_toList, Array.toList_append, List.getElem?_append_left (by simpa using hj)]
            exact a) (by
            intro v hv
            rw [Array.toList_append] at hv
            rcases List.mem_append.1 hv with h | h
            · rw [Array.toList_map] at h
              obtain ⟨b, _, rfl⟩ := List.mem_map.1 h
              rfl
            · simp at h
              rw [h.2]; rfl) (nc, nc + 1) (fun _ => ⟨by simp, fun j a b => .inr ⟨by omega, by rw [hsz]; exact a⟩⟩)
        rw [hsz] at hBR
        have hhs : w1.heap.size = w.heap.size := by rw [r1]
        have hst := Step.alloc (hH.same r1) _ nc _ (by rw [hhs]; exact hBR)
        rw [hhs] at hst
        refine OVal.mk (hrun.trans r5) ?_ (Step.trans hH (Step.same hH r1 r2) hst)
        exact VR.sl _ _ _ _ _ _ w.heap.size nc nc (by simp [piNew]) (Nat.le_refl _) r3 (fun h => by cases h) (by omega) r4
      · trivial
    · trivial
  · rename_i e hs hd
    cases hv
    split
    · rename_i he
      refine OVal.pure hH ?_ (.str ByteArray.empty)
      rw [run_convert_bytes_string w s d e none 0 0 hs he hd]
      rfl
    · trivial
  · rename_i e hs hd
    cases hv with
    | slz ad cap =>
    split
    · rename_i he
      refine OVal.pure hH ?_ (.str ByteArray.empty)
      rw [run_convert_bytes_string w s d e (some ad) 0 cap hs he hd, run_bytesToString w ad 0 cap [] rfl]
      rfl
    · trivial
  · rename_i e b o n lo ex sz hs hd
    split
    · rename_i k he hb
      rw [Bool.cond_eq_ite]
      split
      · split
        · rename_i l hl
          split
          · rename_i u hof
            cases hv with
            | sl _ _ _ _ _ _ c z cap hp q1 q2 q3 q4 q5 =>
            obtain ⟨bl, q1, q2, q3, q4⟩ := bytes_sound (P := P) hH hb hp hl hof
            have hvs : VR π (.str n u) (.string ⟨bl.toArray⟩) := by
              have := VR.str (π := π) ⟨bl.toArray⟩
              have e1 : (⟨bl.toArray⟩ : ByteArray).size = n := by show bl.toArray.size = n; simpa using q1
              rw [e1, ← q2] at this
              exact this
            refine OVal.pure hH ?_ hvs
            rw [run_convert_bytes_string w s d e (some ⟨c, o, none⟩) n cap hs he hd, run_bytesToString w ⟨c, o, none⟩ n cap (bl.map fun b => (b.toNat : Int)) (by rw [q3, List.map_map]; rfl)]
            congr 2
            have key : ∀ (l : List UInt8) (acc : ByteArray), (l.map fun b => (b.toNat : Int)).foldl (fun (r : ByteArray) n => r.push (UInt8.ofNat n.toNat)) acc = ⟨acc.data ++ l.toArray⟩ := by
              intro l
              induction l with
              | nil => intro acc; simp
              | cons x l ih =>
                intro acc
                rw [List.map_cons, List.foldl_cons, ih]
                apply ByteArray.ext
                simp [ByteArray.push]
            rw [key]
            simp
          · trivial
        · trivial
      · trivial
    · trivial
  · rename_i t b o hs hd
    split
    · rename_i g sz tr dd n e lo hi wr sib hg hb
      rw [Bool.cond_eq_ite]
      split
      · rename_i ho
        have ho : o < n := by simpa [Nat.blt_eq] using ho
        cases hv with
        | ptr _ _ c z hp =>
        obtain ⟨c0, arr, fz, a1, a2, a3, a4, a5, a6, a7⟩ := hH.cells hb
        rw [hp] at a1; cases a1
        refine OVal.pure hH ?_ (.ptr _ _ _ _ hp)
        have hsh : w.shape? c = some (e, arr.size) := by unfold World.shape?; rw [a2]
        unfold convert
        simp only [Sem.run_bind, run_underlying hs, run_underlying hd, Result.andThen_ok]
        show (Conv.unsafePointer s d (.pointer (some ⟨c, o, none⟩))).run P w = _
        unfold Conv.unsafePointer
        have hno : ¬ arr.size ≤ o := by omega
        simp [run_underlying hs, run_underlying hd, Conv.seenAt, viewAt, cellsIn, hsh, tAgg_size hg, hno]
      · trivial
    · trivial
  · rename_i t b o hs hd
    split
    · rename_i tr dd n e lo hi wr sib hb
      rw [Bool.cond_eq_ite]
      split
      · rename_i hl
        rw [Bool.and_eq_true] at hl
        obtain ⟨h1, h2⟩ := hl
        obtain ⟨⟨g, sz⟩, hg⟩ := Option.isSome_iff_exists.1 h1
        cases hv with
        | ptr _ _ c z hp =>
        obtain ⟨c0, arr, fz, a1, a2, a3, a4, a5, a6, a7⟩ := hH.cells hb
        rw [hp] at a1; cases a1
        refine OVal.pure hH ?_ (.ptr _ _ _ _ hp)
        have hsh : w.shape? c = some (e, arr.size) := by unfold World.shape?; rw [a2]
        have hlies : liesAt P P.depth e (arr.size / P.cellsOf e) o t 1 = true := liesAt_mono (Nat.div_le_div_right a3) h2
        unfold convert
        simp only [Sem.run_bind, run_underlying hs, run_underlying hd, Result.andThen_ok]
        show (Conv.unsafePointer s d (.pointer (some ⟨c, o, none⟩))).run P w = _
        unfold Conv.unsafePointer
        simp [run_underlying hs, run_underlying hd, Conv.seenAt, viewAt, cellsIn, hsh, tAgg_size hg, variablesAt, hlies]
      · trivial
    · trivial
  · trivial
theorem convert_run (hH : HRel π B H w) (hR : RR π r a.tmps) {s d : TypeId} {x : Operand} : ORun P B π H w (do let y ← convert s d (a.eval x); pure (.value y)) (opConvert s d x P r H) := by
  unfold opConvert
  cases h1 : opnd r x with
  | none => trivial
  | some v => exact conv_sound hH (opnd_sound hH hR h1)
end
end Go.Proofs.YthfenjgelbkloaaGreatDoor.Ev

namespace Go.Proofs.YthfenjgelbkloaaGreatDoor.Ev
open Go Go.RowKit

section
variable {P : Program} {B : Nat} {π : Pi} {H H' : Hp} {w : World} {r : T AV} {a : Act}
theorem builtin_run (hH : HRel π B H w) {b : Builtin} {ts : Array TypeId} {u : TypeId} {cs : Array Bool} {as : List AV} {cargs : Array Value} (ha : VRs π as cargs.toList) : ORun P B π H w (builtin b ts u cs cargs) (builtinA P b ts as H) := by
  cases b <;> first | exact len_run hH ha | exact cap_run hH ha | exact clear_run hH ha | exact delete_run hH ha | exact max_run hH ha | exact min_run hH ha | exact sliceData_run hH ha | exact string_run hH ha | exact append_run hH ha | exact copy_run hH ha | exact (rfl : (pure Next.recover : Sem Next).run P w = _) | trivial
theorem call_builtin_run (hH : HRel π B H w) (hR : RR π r a.tmps) {c : Call} {ty : TypeId} {b : Builtin} (hc : c.callee = .builtin b) : ORun P B π H w (do let d ← resolve a.eval c ty; invoke d.target d.args) (opCall c P r H) := by
  unfold opCall
  rw [hc]
  cases h1 : opnds r c.args.toList with
  | none => trivial
  | some args =>
    show ORun P B π H w _ (builtinA P b c.argTypes args H)
    have k1 := opnds_sound hH hR h1
    have hargs : VRs π args (c.args.map a.eval).toList := by simpa using k1
    have hres : resolve a.eval c ty = pure { target := .builtin b c.argTypes ty (c.args.map fun | .const _ => true | _ => false), args := c.args.map a.eval } := by unfold resolve; rw [hc]; rfl
    rw [hres]
    exact builtin_run hH hargs
theorem call_run (hX : extOk P = true) (hH : HRel π B H w) (hR : RR π r a.tmps) {c : Call} {ty : TypeId} : ORun P B π H w (do let d ← resolve a.eval c ty; invoke d.target d.args) (opCall c P r H) := by
  cases hc : c.callee with
  | value f => exact call_value_run hX hH hR hc
  | invoke x n => exact call_invoke_run hX hH hR hc
  | builtin b => exact call_builtin_run hH hR hc
theorem plain_opAlloc {e : TypeId} : (opAlloc e P r H).plain := by unfold opAlloc; exact plain_oo trivial fun _ _ => by rw [fN_eq]; trivial
theorem plain_opBox {e : TypeId} {x : Operand} : (opBox e x P r H).plain := by unfold opBox; exact plain_oo trivial fun _ _ => plain_ob trivial (by rw [fN_eq]; trivial)
theorem plain_opBuildSlice {t : TypeId} {n : Nat} {ps : Array (Nat × Operand)} : (opBuildSlice t n ps P r H).plain := by
  unfold opBuildSlice
  exact plain_oo trivial fun _ _ => plain_oo trivial fun _ _ => plain_oo trivial fun _ _ => plain_oo trivial fun _ _ => plain_ob trivial (plain_oo trivial fun _ _ => plain_ob trivial (by rw [fN_eq]; trivial))
theorem plain_opMakeMap {t : TypeId} {x : Option Operand} : (opMakeMap t x P r H).plain := by unfold opMakeMap; split <;> trivial
theorem plain_opMakeSlice {t : TypeId} {l c : Operand} : (opMakeSlice t l c P r H).plain := by
  unfold opMakeSlice
  split
  · split
    · exact plain_cond trivial trivial
    · trivial
  · trivial
theorem cls2_run (hH : HRel π B H w) (hR : RR π r a.tmps) {o : Oper} (hc : cls P o.op = 2) (hp : (opA P r o H).plain) : ORun P B π H w (execOp a.eval o) (opA P r o H) :=
  alloc_run (fun _ _ e => cls2 hc hH hR e) hH hp
theorem opsOk (hX : extOk P = true) : OpsOk P := by
  intro r o B π H w a hH hR
  by_cases hc : cls P o.op = 2
  · refine cls2_run hH hR hc ?_
    unfold opA
    cases ho : o.op <;> first | exact plain_opAlloc | exact plain_opBox | exact plain_opBuildSlice | exact plain_opMakeMap | exact plain_opMakeSlice | (rw [ho] at hc; first | (cases hc; done) | skip)
    · rename_i t x l h m
      have hc : ob (isSlS P t) 1 0 = 2 := hc
      cases hs : isSlS P t <;> rw [hs] at hc <;> cases hc
    · rename_i c
      have hc : clsC c = 2 := hc
      unfold clsC at hc
      split at hc
      · split at hc <;> cases hc
      · cases hc
  unfold opA
  cases ho : o.op with
  | move x => exact ORun.congr (by unfold execOp; rw [ho]) (move_run hH hR (x := x))
  | assign x => exact ORun.congr (by unfold execOp; rw [ho]) (move_run hH hR (x := x))
  | pick x y z => exact ORun.congr (by unfold execOp; rw [ho]) (pick_run hH hR)
  | alloc e => rw [ho] at hc; exact absurd rfl hc
  | box e x => rw [ho] at hc; exact absurd rfl hc
  | build t ps => exact ORun.congr (by unfold execOp; rw [ho]) (build_run hH hR)
  | buildSlice t n ps => rw [ho] at hc; exact absurd rfl hc
  | insert t m k x => exact ORun.congr (by unfold execOp; rw [ho]) (insert_run hH hR)
  | load t x => exact ORun.congr (by unfold execOp; rw [ho]) (load_run hH hR)
  | store t x y => exact ORun.congr (by unfold execOp; rw [ho]) (store_run hH hR)
  | nilCheck x => exact nilCheck_run hH hR ho
  | binOp op t x y u => exact ORun.congr (by unfold execOp; rw [ho]) (binOp_run hH hR)
  | unOp op t x => exact ORun.congr (by unfold execOp; rw [ho]) (unOp_run hH hR (t := t))
  | convert s d x => exact ORun.congr (by unfold execOp; rw [ho]) (convert_run hH hR)
  | makeInterface t x => exact ORun.congr (by unfold execOp; rw [ho]) (makeInterface_run hH hR)
  | makeFunc f x y => exact ORun.congr (by unfold execOp; rw [ho]) (makeFunc_run hH hR)
  | makeMap t x => rw [ho] at hc; exact absurd rfl hc
  | makeSlice t l c => rw [ho] at hc; exact absurd rfl hc
  | slice t x l h m => exact ORun.congr (by unfold execOp; rw [ho]) (slice_run hH hR)
  | fieldAddr t x f => exact ORun.congr (by unfold execOp; rw [ho]) (fieldAddr_run hH hR)
  | field t x f => exact ORun.congr (by unfold execOp; rw [ho]) (field_run hH hR)
  | indexAddr t x i => exact ORun.congr (by unfold execOp; rw [ho]) (indexAddr_run hH hR)
  | index t x i => exact ORun.congr (by unfold execOp; rw [ho]) (index_run hH hR)
  | lookup t x i ok => exact ORun.congr (by unfold execOp; rw [ho]) (lookup_run hH hR)
  | mapUpdate t m k x => exact ORun.congr (by unfold execOp; rw [ho]) (mapUpd_run hH hR rfl)
  | range t x => exact ORun.congr (by unfold execOp; rw [ho]) (range_run hH hR)
  | next x s => exact ORun.congr (by unfold execOp; rw [ho]) (next_op_run hH hR (ty := o.type))
  | entry x => exact ORun.congr (by unfold execOp; rw [ho]) (entry_run hH hR)
  | typeAssert x t u ok => exact ORun.congr (by unfold execOp; rw [ho]) (typeAssert_run hH hR)
  | extract x i => exact ORun.congr (by unfold execOp; rw [ho]) (extract_run hH hR)
  | call c => exact ORun.congr (by unfold execOp; rw [ho]) (call_run hX hH hR (ty := o.type))
  | defer c => exact ORun.congr (by unfold execOp; rw [ho]) (defer_run hH hR (ty := o.type))
  | panic x => exact ORun.congr (by unfold execOp; rw [ho]) (panic_run hH hR)
  | _ => trivial
end
end Go.Proofs.YthfenjgelbkloaaGreatDoor.Ev

namespace Go.Proofs.YthfenjgelbkloaaGreatDoor.Ev
open Go Go.RowKit

/-! ### What a reading tells of cells -/
def flatL (fl : TypeId → DataW Unit → Option (List AV)) (P : Program) : Nat → List (Nat × TypeId × DataW Unit) → Option (List AV × Nat)
  | o, [] => some ([], o)
  | o, (off, t, d) :: r => bif Nat.beq off o then (fl t d).bind fun l => (flatL fl P (o + P.cellsOf t) r).map fun x => (l ++ x.1, x.2) else none
def flatD (P : Program) : Nat → TypeId → DataW Unit → Option (List AV)
  | 0, _, _ => none
  | n + 1, t, d => match P.underlying t, d with
    | some (.int k), .lit (.int _ m) => some [.int k m]
    | some .bool, .lit (.bool b) => some [.bool b]
    | some .string, .lit (.string s) => some [.str s.length (natOf s)]
    | some (.array m e), .agg ds => bif Nat.beq ds.length m then (flatL (flatD P n) P 0 (ds.zipIdx.map fun x => (x.2 * P.cellsOf e, e, x.1))).bind fun x => bif Nat.beq x.2 (P.cellsOf t) then some x.1 else none else none
    | some (.struct fs), .agg ds => bif Nat.beq ds.length fs.size then (flatL (flatD P n) P 0 ((fs.toList.zip ds).map fun x => (x.1.offset, x.1.type, x.2))).bind fun x => bif Nat.beq x.2 (P.cellsOf t) then some x.1 else none else none
    | some (.interface _), .iface _ _ => some [.opi]
    | some (.interface _), .nil => some [.nili]
    | _, _ => none
section
variable {P : Program} {π : Pi} {w : World} {fl : TypeId → DataW Unit → Option (List AV)} {fuel : Nat}
theorem flatL_sound {cs : List Value} (hfl : ∀ (t : TypeId) (d : DataW Unit) (l : List AV) (cs : List Value) (x : DataW Unit × List MemPlace), fl t d = some l → DataW.trod (fun _ => ()) P w 0 (fun _ => true) false fuel t cs = some x → x.1 = d → VRs π l cs) :
    ∀ (its : List (Nat × TypeId × DataW Unit)) (o : Nat) (r : List AV × Nat), (∀ it ∈ its, ∃ x, DataW.trod (fun _ => ()) P w 0 (fun _ => true) false fuel it.2.1 ((cs.drop it.1).take (P.cellsOf it.2.1)) = some x ∧ x.1 = it.2.2) → flatL fl P o its = some r → cs.length ≤ r.2 → VRs π r.1 (cs.drop o)
  | [], o, r, _, h, hl => by
    cases h
    rw [List.drop_of_length_le hl]
    exact .nil
  | (off, t, d) :: its, o, r, hx, h, hl => by
    unfold flatL at h
    rw [Bool.cond_eq_ite] at h
    split at h
    · rename_i ho
      have ho : off = o := Nat.eq_of_beq_eq_true ho
      subst ho
      cases h1 : fl t d with
      | none => rw [h1] at h; cases h
      | some l =>
        rw [h1] at h
        simp only [Option.bind_some] at h
        cases h2 : flatL fl P (off + P.cellsOf t) its with
        | none => rw [h2] at h; cases h
        | some r2 =>
          rw [h2] at h
          cases h
          obtain ⟨x, k1, k2⟩ := hx _ List.mem_cons_self
          have q1 := hfl t d l _ x h1 k1 k2
          have q2 := flatL_sound (cs := cs) hfl its (off + P.cellsOf t) r2 (fun it hi => hx it (List.mem_cons_of_mem _ hi)) h2 hl
          have := q1.append q2
          rwa [← List.drop_drop, List.take_append_drop] at this
    · cases h
theorem trod_iface {t : TypeId} {ms : Array (String × TypeId)} {cs : List Value} {x : DataW Unit × List MemPlace} (hu : P.underlying t = some (.interface ms)) (ht : DataW.trod (fun _ => ()) P w 0 (fun _ => true) false fuel t cs = some x) :
    (cs = [.nilIface] ∧ x = (.nil, [])) ∨ ∃ u v name y, cs = [.iface u v] ∧ x.1 = .iface name y := by
  cases fuel with
  | zero => simp [DataW.trod] at ht
  | succ m =>
    unfold DataW.trod at ht
    rw [hu] at ht
    cases cs with
    | nil => simp at ht
    | cons c cs =>
      cases cs with
      | cons c2 cs => cases c <;> simp at ht
      | nil =>
        cases c <;> first | (simp at ht; done) | skip
        · rename_i u v
          refine .inr ⟨u, v, ?_⟩
          cases hn : P.typeName? 3 u with
          | none => simp [hn] at ht
          | some name =>
            simp only [hn] at ht
            cases hq : DataW.trod (fun _ => ()) P w 0 (fun _ => true) false m u v.cells.toList with
            | none => rw [hq] at ht; cases ht
            | some y => rw [hq] at ht; cases ht; exact ⟨name, y.1, rfl, rfl⟩
        · cases ht; exact .inl ⟨rfl, rfl⟩
theorem flatD_sound : ∀ {n : Nat} {t : TypeId} {d : DataW Unit} {l : List AV} {cs : List Value} {x : DataW Unit × List MemPlace} {fuel : Nat}, flatD P n t d = some l → DataW.trod (fun _ => ()) P w 0 (fun _ => true) false fuel t cs = some x → x.1 = d → VRs π l cs
  | 0, _, _, _, _, _, _, h, _, _ => by cases h
  | n + 1, t, d, l, cs, x, fuel, h, ht, hd => by
    unfold flatD at h
    split at h
    · rename_i k k' m hu
      cases h
      obtain ⟨m', rfl, rfl, _⟩ := DataW.trod_int hu ht
      cases hd
      exact .cons _ _ _ _ (.int _ _) .nil
    · rename_i b hu
      cases h
      obtain ⟨m', rfl, rfl⟩ := DataW.trod_bool hu ht
      cases hd
      exact .cons _ _ _ _ (.bool _) .nil
    · rename_i s hu
      cases h
      obtain ⟨m', rfl, rfl, _⟩ := DataW.trod_string hu ht
      cases hd
      have := VR.str (π := π) m'
      have e : m'.size = m'.data.toList.length := by simp
      rw [e] at this
      exact .cons _ _ _ _ this .nil
    · rename_i m e ds hu
      rw [Bool.cond_eq_ite] at h
      split at h
      · rename_i hlen
        have hlen : ds.length = m := Nat.eq_of_beq_eq_true hlen
        cases h1 : flatL (flatD P n) P 0 (ds.zipIdx.map fun x => (x.2 * P.cellsOf e, e, x.1)) with
        | none => rw [h1] at h; cases h
        | some r =>
          rw [h1] at h
          simp only [Option.bind_some] at h
          rw [Bool.cond_eq_ite] at h
          split at h
          · rename_i hr
            have hr : r.2 = P.cellsOf t := Nat.eq_of_beq_eq_true hr
            cases h
            obtain ⟨xs, f, rfl, rfl, k1, k2, k3⟩ := DataW.trod_array hu ht
            cases hd
            have := flatL_sound (P := P) (π := π) (w := w) (cs := cs) (fuel := f) (fl := flatD P n) (fun t d l cs x a b c => flatD_sound a b c) _ 0 r (by
              intro it hi
              obtain ⟨⟨d, i⟩, hm, rfl⟩ := List.mem_map.1 hi
              obtain ⟨_, hm2, hm3⟩ := List.mem_zipIdx hm
              simp only at hm2 hm3 ⊢
              have hil : i < xs.length := by simpa using hm2
              have := k3 i (by rw [← k2]; exact hil)
              refine ⟨xs[i], by rw [this]; simp [hil], ?_⟩
              rw [hm3]
              simp) h1 (by rw [hr, k1]; exact Nat.le_refl _)
            simpa using this
          · cases h
      · cases h
    · rename_i fs ds hu
      rw [Bool.cond_eq_ite] at h
      split at h
      · rename_i hlen
        have hlen : ds.length = fs.size := Nat.eq_of_beq_eq_true hlen
        cases h1 : flatL (flatD P n) P 0 ((fs.toList.zip ds).map fun x => (x.1.offset, x.1.type, x.2)) with
        | none => rw [h1] at h; cases h
        | some r =>
          rw [h1] at h
          simp only [Option.bind_some] at h
          rw [Bool.cond_eq_ite] at h
          split at h
          · rename_i hr
            have hr : r.2 = P.cellsOf t := Nat.eq_of_beq_eq_true hr
            cases h
            obtain ⟨xs, f, rfl, rfl, k1, k2, k3⟩ := DataW.trod_struct hu ht
            cases hd
            have := flatL_sound (P := P) (π := π) (w := w) (cs := cs) (fuel := f) (fl := flatD P n) (fun t d l cs x a b c => flatD_sound a b c) _ 0 r (by
              intro it hi
              obtain ⟨⟨fd, d⟩, hm, rfl⟩ := List.mem_map.1 hi
              obtain ⟨i, hi2⟩ := List.mem_iff_getElem?.1 hm
              rw [List.getElem?_zip_eq_some] at hi2
              obtain ⟨j1, j2⟩ := hi2
              simp only at j1 j2 ⊢
              have := k3 i fd (by rw [← Array.getElem?_toList]; exact j1)
              rw [List.getElem?_map] at j2
              cases hx : xs[i]? with
              | none => rw [hx] at j2; cases j2
              | some y =>
                rw [hx] at j2 this
                refine ⟨y, this, by simpa using j2⟩) h1 (by rw [hr, k1]; exact Nat.le_refl _)
            simpa using this
          · cases h
      · cases h
    · rename_i ps s d hu
      cases h
      rcases trod_iface hu ht with ⟨rfl, rfl⟩ | ⟨u, v, name, y, rfl, hx⟩
      · cases hd
      · exact .cons _ _ _ _ (.opi _ _) .nil
    · rename_i ps hu
      cases h
      rcases trod_iface hu ht with ⟨rfl, rfl⟩ | ⟨u, v, name, y, rfl, hx⟩
      · exact .cons _ _ _ _ .nili .nil
      · rw [hx] at hd; cases hd
    · cases h
end

/-! ### The first heap -/
noncomputable def h0T (l : List (Nat × Nat × List AV)) : T Blk := List.rec .e (fun y _ ih => ih.put (some (.cells (lays 0 (y.2.2.map some) .e) none y.2.2.length y.2.1 0 0 false [])) (Pos.of y.1)) l
noncomputable def h0 (l : List (Nat × Nat × List AV)) : Hp := ⟨h0T l, gN⟩
theorem h0T_get : ∀ {l : List (Nat × Nat × List AV)} {g : Nat} {x : Blk}, (h0T l).get (Pos.of g) = some x → ∃ y ∈ l, y.1 = g ∧ x = .cells (lays 0 (y.2.2.map some) .e) none y.2.2.length y.2.1 0 0 false []
  | [], g, x, h => by
    have h : (T.e : T Blk).get (Pos.of g) = some x := h
    rw [T.get_e] at h
    cases h
  | y :: l, g, x, h => by
    have h : (Hp.set ⟨h0T l, 0⟩ y.1 (.cells (lays 0 (y.2.2.map some) .e) none y.2.2.length y.2.1 0 0 false [])).get g = some x := h
    rw [Hp.get_set] at h
    split at h
    · rename_i e
      cases h
      exact ⟨y, List.mem_cons_self, e.symm, rfl⟩
    · obtain ⟨y', k1, k2⟩ := h0T_get (l := l) (g := g) (x := x) h
      exact ⟨y', List.mem_cons_of_mem _ k1, k2⟩
noncomputable def pi0 (W : World) : Pi := fun g => bif Nat.blt g gN then (match W.heap[g]? with
  | some (.cells arr _ _) => some (g, arr.size)
  | _ => some (g, 0)) else none
theorem pi0_some {W : World} {g : Nat} {p : Nat × Nat} (h : pi0 W g = some p) : g < gN ∧ p.1 = g := by
  unfold pi0 at h
  rw [Bool.cond_eq_ite] at h
  split at h
  · rename_i hg
    refine ⟨by simpa [Nat.blt_eq] using hg, ?_⟩
    split at h <;> cases h <;> rfl
  · cases h
theorem HRel.first {W : World} {l : List (Nat × Nat × List AV)} (hsz : gN ≤ W.heap.size) (hl : ∀ y ∈ l, y.1 < gN ∧ (∃ cs, W.heap[y.1]? = some (.cells cs y.2.1) ∧ ∀ π, VRs π y.2.2 cs.toList) ∧ y.2.2.all AV.isCell = true) : HRel (pi0 W) W.heap.size (h0 l) W := by
  refine ⟨Nat.le_refl _, ?_, ?_, ?_, ?_⟩
  · intro g hg
    unfold pi0
    have : Nat.blt g gN = true := by rw [Nat.blt_eq]; exact hg
    rw [this, cond_true]
    split <;> exact ⟨_, rfl⟩
  · intro b x hx
    obtain ⟨y, hy, rfl, rfl⟩ := h0T_get hx
    obtain ⟨k1, ⟨cs, k2, k3⟩, k4⟩ := hl y hy
    have hp : pi0 W y.1 = some (y.1, cs.size) := by
      unfold pi0
      have : Nat.blt y.1 gN = true := by rw [Nat.blt_eq]; exact k1
      rw [this, cond_true, k2]
    refine ⟨y.1, cs.size, _, hp, k2, ?_, fun h => by cases h⟩
    have hlen : y.2.2.length = cs.size := by rw [(k3 (pi0 W)).length]; simp
    exact BR_row (π := pi0 W) (by omega) (fun j v hj hv => by
      rw [List.getElem?_map] at hv
      cases hv2 : y.2.2[j]? with
      | none => rw [hv2] at hv; cases hv
      | some u =>
        rw [hv2] at hv
        cases hv
        obtain ⟨cv, a, b⟩ := (k3 (pi0 W)).get hv2
        exact ⟨cv, by rw [← Array.getElem?_toList]; exact a, b⟩) (isCell_one (k3 (pi0 W)) k4) (0, 0) (fun h => by cases h)
  · intro b p hp
    obtain ⟨k1, k2⟩ := pi0_some hp
    exact ⟨k1, by omega⟩
  · intro b x b' x' c z z' _ _ hp hp' hne
    have h1 := (pi0_some hp).2
    have h2 := (pi0_some hp').2
    simp only at h1 h2
    exact absurd (h1.symm.trans h2) hne
def retTrue : CR → Bool
  | .ret (.bool true) _ => true
  | _ => false
theorem closed_sound {P : Program} (hm : P.follows .mixedOrders = true) (hX : extOk P = true) {kn : CallF → CallF} (hk : KnOk P kn) {n f : Nat} {l : List (Nat × Nat × List AV)} (hE : retTrue (callB P (codeN P kn n) f [] (h0 l)) = true)
    {W : World} (hsz : gN ≤ W.heap.size) (hl : ∀ y ∈ l, y.1 < gN ∧ (∃ cs, W.heap[y.1]? = some (.cells cs y.2.1) ∧ ∀ π, VRs π y.2.2 cs.toList) ∧ y.2.2.all AV.isCell = true) :
    Calls P f #[] W fun e W' => e = .returned (.bool true) ∧ Below W.heap.size W W' := by
  have hH := HRel.first hsz hl
  have hok : (callB P (codeN P kn n) f [] (h0 l)).ok := by
    cases hc : callB P (codeN P kn n) f [] (h0 l) with
    | bad w => rw [hc] at hE; cases hE
    | _ => trivial
  refine (call_sound hm (opsOk hX) hk n _ _ _ _ f [] #[] hH .nil hok).mono fun e W' ho => ?_
  cases hc : callB P (codeN P kn n) f [] (h0 l) with
  | bad w => rw [hc] at hE; cases hE
  | pan c h => rw [hc] at hE; cases hE
  | ret v h =>
    rw [hc] at hE ho
    obtain ⟨π', cv, rfl, h1, h2⟩ := ho
    have hv : v = .bool true := by
      cases v <;> first | (cases hE; done) | skip
      rename_i b
      cases b
      · cases hE
      · rfl
    subst hv
    cases h1
    refine ⟨rfl, h2.out.1, h2.out.2.1, h2.out.2.2, h2.size, fun k hk => ?_⟩
    refine h2.fr k hk fun b x z hx hw _ => ?_
    obtain ⟨y, _, _, rfl⟩ := h0T_get hx
    cases hw
/-- What a seat's list gives. -/
noncomputable def firstG (P : Program) (x : String × DataW Unit) : Option (Nat × Nat × List AV) :=
  (P.globalNamed x.1).bind fun g => (P.globals[g]?).bind fun gl => (((begin P (fun _ _ => 0) default).world.heap[g]?).bind Obj.row?).bind fun r => (flatD P 12 gl.type x.2).bind fun vs =>
    bif Nat.blt g gN && Nat.blt g P.globals.size && vs.all AV.isCell then some (g, r.2, vs) else none
noncomputable def firstL (P : Program) (laid : List (String × DataW Unit)) : List (Nat × Nat × List AV) := laid.filterMap (firstG P)
theorem laid_first {P : Program} {W : World} (hS : W.ShapedOpen P) : ∀ {laid : List (String × DataW Unit)} {ps : List MemPlace}, DataW.LaidVars P W laid ps → ∀ y ∈ firstL P laid, y.1 < gN ∧ (∃ cs, W.heap[y.1]? = some (.cells cs y.2.1) ∧ ∀ π, VRs π y.2.2 cs.toList) ∧ y.2.2.all AV.isCell = true
  | [], _, _, y, hy => by cases hy
  | (n, d) :: laid, ps, hL, y, hy => by
    obtain ⟨g, t, cs, fuel, p, q, h1, h2, h3, h4, h5, _⟩ := hL
    unfold firstL at hy
    rw [List.filterMap_cons] at hy
    cases hf : firstG P (n, d) with
    | none =>
      rw [hf] at hy
      exact laid_first hS h5 y hy
    | some y0 =>
      rw [hf] at hy
      rcases List.mem_cons.1 hy with rfl | hy
      · unfold firstG at hf
        rw [h1] at hf
        simp only [Option.bind_some] at hf
        cases hgl : P.globals[g]? with
        | none => rw [hgl] at hf; cases hf
        | some gl =>
          rw [hgl] at hf h2
          simp only [Option.bind_some, Option.map_some, Option.some.injEq] at hf h2
          cases hr : ((begin P (fun _ _ => 0) default).world.heap[g]?).bind Obj.row? with
          | none => rw [hr] at hf; cases hf
          | some r =>
            rw [hr] at hf
            simp only [Option.bind_some] at hf
            cases hfl : flatD P 12 gl.type d with
            | none => rw [hfl] at hf; cases hf
            | some vs =>
              rw [hfl] at hf
              simp only [Option.bind_some] at hf
              rw [Bool.cond_eq_ite] at hf
              split at hf
              · rename_i hc
                cases hf
                simp only [Bool.and_eq_true, Nat.blt_eq] at hc
                obtain ⟨⟨c1, c2⟩, c3⟩ := hc
                obtain ⟨cs', k1, k2, _⟩ := hS.1 g r.1 r.2 c2 hr
                have hcs : cs' = cs := by
                  unfold World.var? at h3
                  rw [h1] at h3
                  simp only [Option.bind_some, k1, Option.some.injEq] at h3
                  exact h3
                subst hcs
                refine ⟨c1, ⟨cs', k1, fun π => ?_⟩, c3⟩
                rw [h2] at hfl
                exact flatD_sound hfl h4 rfl
              · cases hf
      · exact laid_first hS h5 y hy
theorem shaped_size {P : Program} {W : World} (hS : W.ShapedOpen P) {g : Nat} (hg : gN = g + 1) (hlt : g < P.globals.size) {r : Array Value × TypeId} (hr : ((begin P (fun _ _ => 0) default).world.heap[g]?).bind Obj.row? = some r) : gN ≤ W.heap.size := by
  obtain ⟨cs, k1, _⟩ := hS.1 g r.1 r.2 hlt hr
  have := (Array.getElem?_eq_some_iff.1 k1).1
  omega
end Go.Proofs.YthfenjgelbkloaaGreatDoor.Ev

namespace Go.Proofs.YthfenjgelbkloaaGreatDoor.Ev
open Go Go.RowKit

/-- A call that is known already: its function, its arguments, the next block's number; what must be there; what it comes to; what is known behind it. -/
structure KF where
  f : Nat
  args : List AV
  nx : Nat
  hin : List (Nat × Blk)
  v : AV
  hout : List (Nat × Blk)
  nx' : Nat
noncomputable def putsT (l : List (Nat × Blk)) (t : T Blk) : T Blk := List.rec (motive := fun _ => T Blk → T Blk) (fun t => t) (fun y _ ih t => (ih t).put (some y.2) (Pos.of y.1)) l t
noncomputable def delsT (l : List (Nat × Blk)) (t : T Blk) : T Blk := List.rec (motive := fun _ => T Blk → T Blk) (fun t => t) (fun y _ ih t => (ih t).put none (Pos.of y.1)) l t
theorem putsT_get : ∀ {l : List (Nat × Blk)} {t : T Blk} {b : Nat} {x : Blk}, (putsT l t).get (Pos.of b) = some x → ((b, x) ∈ l ∧ (putsT l .e).get (Pos.of b) = some x) ∨ t.get (Pos.of b) = some x
  | [], t, b, x, h => .inr h
  | y :: l, t, b, x, h => by
    have h : (Hp.set ⟨putsT l t, 0⟩ y.1 y.2).get b = some x := h
    rw [Hp.get_set] at h
    have goal : (putsT (y :: l) .e).get (Pos.of b) = (Hp.set ⟨putsT l .e, 0⟩ y.1 y.2).get b := rfl
    split at h
    · rename_i e
      cases h
      exact .inl ⟨by rw [e]; exact List.mem_cons_self, by rw [goal, Hp.get_set, if_pos e]⟩
    · rename_i hne
      rcases putsT_get (l := l) (t := t) (b := b) (x := x) h with ⟨h1, h2⟩ | h
      · exact .inl ⟨List.mem_cons_of_mem _ h1, by rw [goal, Hp.get_set, if_neg hne]; exact h2⟩
      · exact .inr h
theorem delsT_get : ∀ {l : List (Nat × Blk)} {t : T Blk} {b : Nat} {x : Blk}, (delsT l t).get (Pos.of b) = some x → (∀ y, (b, y) ∉ l) ∧ t.get (Pos.of b) = some x
  | [], t, b, x, h => ⟨fun y => by simp, h⟩
  | y :: l, t, b, x, h => by
    have h : (Hp.del ⟨delsT l t, 0⟩ y.1).get b = some x := h
    rw [Hp.get_del] at h
    split at h
    · cases h
    · rename_i hne
      obtain ⟨h1, h2⟩ := delsT_get (l := l) (t := t) (b := b) (x := x) h
      refine ⟨fun z hz => ?_, h2⟩
      rcases List.mem_cons.1 hz with e | e
      · exact hne (by rw [← e])
      · exact h1 z e
theorem putsT_mem : ∀ {l : List (Nat × Blk)} {t : T Blk} {b : Nat} {y : Blk}, (b, y) ∈ l → ∃ x, (putsT l t).get (Pos.of b) = some x
  | [], _, _, _, h => by cases h
  | z :: l, t, b, y, h => by
    show ∃ x, (Hp.set ⟨putsT l t, 0⟩ z.1 z.2).get b = some x
    rw [Hp.get_set]
    by_cases e : b = z.1
    · rw [if_pos e]; exact ⟨_, rfl⟩
    · rw [if_neg e]
      rcases List.mem_cons.1 h with e' | h'
      · exact absurd (by rw [← e']) e
      · exact putsT_mem h'
noncomputable def KF.inH (F : KF) : Hp := ⟨putsT F.hin .e, F.nx⟩
noncomputable def KF.outH (F : KF) : Hp := ⟨putsT F.hout .e, F.nx'⟩
/-- What a fact says. -/
def FactOk (P : Program) (F : KF) : Prop := ∀ (B : Nat) (π : Pi) (w : World) (cargs : Array Value), HRel π B F.inH w → VRs π F.args cargs.toList →
  Calls P F.f cargs w fun e w' => ∃ π' cv, e = .returned cv ∧ VR π' F.v cv ∧ Step B π F.inH w π' F.outH w'
noncomputable def hasB (l : List (Nat × Blk)) (h : Hp) : Bool := l.all fun y => oo (h.get y.1) false fun x => eqBlk y.2 x
def sibIn (l : List (Nat × Blk)) : Bool := l.all fun y => y.2.sibs.all fun s => l.any fun z => Nat.beq z.1 s
/-- The check of a fact. -/
noncomputable def factC (F : KF) (c : CR) : Bool :=
  match c with
  | .ret v h => AV.beq v F.v && Nat.beq h.nx F.nx' && hasB F.hout h
  | _ => false
noncomputable def factB (P : Program) (kn : CallF → CallF) (n : Nat) (F : KF) : Bool := factC F (callB P (codeN P kn n) F.f F.args F.inH)
section
variable {P : Program} {B : Nat} {π π' : Pi} {H Hin H' HB : Hp} {w w' : World}
theorem hasB_get {l : List (Nat × Blk)} {h : Hp} (hb : hasB l h = true) {b : Nat} {x : Blk} (hm : (b, x) ∈ l) : ∃ y, h.get b = some y ∧ (y = x ∨ ∃ es es' c, x = .map es c ∧ y = .map es' c ∧ es.Perm es') := by
  have := List.all_eq_true.1 hb _ hm
  simp only at this
  cases hg : h.get b with
  | none => rw [hg] at this; cases this
  | some y =>
    rw [hg] at this
    have this : eqBlk x y = true := this
    refine ⟨y, rfl, ?_⟩
    rcases eqBlk_spec this with rfl | ⟨es, es', c, h1, h2, h3⟩
    · exact .inl rfl
    · exact .inr ⟨es, es', c, h1, h2, h3⟩
theorem fact_ok (hm : P.follows .mixedOrders = true) (hX : extOk P = true) {kn : CallF → CallF} (hk : KnOk P kn) {n : Nat} {F : KF} (hF : factB P kn n F = true) : FactOk P F := by
  intro B π w cargs hH ha
  unfold factB at hF
  have hok : (callB P (codeN P kn n) F.f F.args F.inH).ok := by
    cases hc : callB P (codeN P kn n) F.f F.args F.inH with
    | bad w => rw [hc] at hF; cases hF
    | _ => trivial
  refine (call_sound hm (opsOk hX) hk n B π F.inH w F.f F.args cargs hH ha hok).mono fun e w' ho => ?_
  cases hc : callB P (codeN P kn n) F.f F.args F.inH with
  | bad w => rw [hc] at hF; cases hF
  | pan c h => rw [hc] at hF; cases hF
  | ret v h =>
    rw [hc] at hF ho
    obtain ⟨π', cv, rfl, h1, h2⟩ := ho
    have hF : (AV.beq v F.v && Nat.beq h.nx F.nx' && hasB F.hout h) = true := hF
    rw [Bool.and_eq_true, Bool.and_eq_true] at hF
    obtain ⟨⟨f1, f2⟩, f3⟩ := hF
    have f1 := AV.beq_eq _ _ f1
    have f2 : h.nx = F.nx' := Nat.eq_of_beq_eq_true f2
    subst f1
    refine ⟨π', cv, rfl, h1, h2.alike (fun b x hx => ?_) (by show h.nx ≤ F.nx'; omega)⟩
    rcases putsT_get hx with ⟨hx, _⟩ | hx
    · obtain ⟨y, k1, k2⟩ := hasB_get f3 hx
      rcases k2 with rfl | ⟨es, es', c, rfl, rfl, k3⟩
      · exact .inl k1
      · exact .inr ⟨es, es', c, rfl, k1, k3⟩
    · rw [T.get_e] at hx; cases hx
/-- What a run over a part of the heap does not turn stays. -/
theorem Step.merge2 (hs : HRel π B H w) (hle : ∀ b x, Hin.get b = some x → ∃ y, H.get b = some y ∧ y.wr = x.wr ∧ y.isC = x.isC ∧ y.sib = x.sib) (hnx : Hin.nx = H.nx)
    (hC : ∀ b x s, Hin.get b = some x → s ∈ x.sib → H.get s ≠ none → Hin.get s ≠ none) (he : Step B π Hin w π' H' w') (hnB : HB.nx = H'.nx)
    (hB : ∀ c y, HB.get c = some y → H'.get c = some y ∨ (H.get c = some y ∧ Hin.get c = none)) : Step B π H w π' HB w' := by
  have noWr : ∀ b x c z, H.get b = some x → Hin.get b = none → π b = some (c, z) → ∀ b2 x2 z2, Hin.get b2 = some x2 → x2.wr = true → π b2 ≠ some (c, z2) := by
    intro b x c z hx hn hp b2 x2 z2 hx2 hw2 hp2
    obtain ⟨y2, q1, q2, q3, q4⟩ := hle b2 x2 hx2
    have hne : b2 ≠ b := by intro e; subst e; rw [hn] at hx2; cases hx2
    have := ((hs.sep b2 y2 b x c z2 z q1 hx hp2 hp hne).2 (by rw [q2]; exact hw2)).1
    rw [q4] at this
    exact hC b2 x2 b hx2 this (by rw [hx]; exact fun e => by cases e) hn
  have newNo : ∀ b x c z, H.get b = some x → Hin.get b = none → π b = some (c, z) → ∀ b' z', π' b' = some (c, z') → π b' ≠ none := by
    intro b x c z hx hn hp b' z' hp' hb'
    rcases (he.new b' _ hp' hb').2 with q | ⟨b0, x0, z0, q1, q2, q3⟩
    · have := (hs.dom _ _ hp).2
      simp at q this; omega
    · exact noWr b x c z hx hn hp b0 x0 z0 q1 q2 q3
  refine ⟨he.ext, ⟨he.rel.low, he.rel.glob, ?_, fun b p hp => by rw [hnB]; exact he.rel.dom b p hp, ?_⟩, ?_, he.size, by rw [hnB, ← hnx]; exact he.nx, ?_, ?_, he.out, he.evo⟩
  · intro b x hx
    rcases hB b x hx with hx | ⟨hx, hn⟩
    · exact he.rel.blk b x hx
    · obtain ⟨c, z, o, k1, k2, k3, k4⟩ := hs.blk b x hx
      refine ⟨c, z, o, he.ext _ _ k1, ?_, k3.on he.ext he.evo (fun b p hp => (hs.dom b p hp).2), k4⟩
      rw [he.fr c (hs.dom _ _ k1).2 (noWr b x c z hx hn k1)]
      exact k2
  · intro b x b' x' c z z' hx hx' hp hp' hne
    rcases hB b x hx with k | ⟨k, kn⟩
    · rcases hB b' x' hx' with k' | ⟨k', kn'⟩
      · exact he.rel.sep b x b' x' c z z' k k' hp hp' hne
      · obtain ⟨c2, z2, o2, q1, q2, q3, q4⟩ := hs.blk b' x' k'
        have e2 := he.ext _ _ q1
        rw [hp'] at e2; cases e2
        cases hb : π b with
        | none => exact absurd hb (newNo b' x' c z' k' kn' q1 b z hp)
        | some p =>
          have e1 := he.ext _ _ hb
          rw [hp] at e1; cases e1
          rcases he.old b x k with ⟨y0, r1, r2⟩ | hge
          · obtain ⟨yA, s1, s2, s3, s4⟩ := hle b y0 r1
            have hwx : x.wr = false := by
              cases hw : x.wr with
              | false => rfl
              | true => exact absurd hb (noWr b' x' c z' k' kn' q1 b y0 z r1 (r2 hw))
            refine ⟨?_, fun h => by rw [hwx] at h; cases h⟩
            have hC' := (hs.sep b' x' b yA c z' z k' s1 q1 hb (fun e => hne e.symm)).1
            have hkeep : w'.heap[c]? = some o2 := by rw [he.fr c (hs.dom _ _ q1).2 (noWr b' x' c z' k' kn' q1)]; exact q2
            obtain ⟨c3, z3, o3, t1, t2, t3, t4⟩ := he.rel.blk b x k
            rw [hp] at t1; cases t1
            rw [hkeep] at t2; cases t2
            cases x' with
            | cells t d n e lo hi w s =>
              obtain ⟨arr, fz, rfl, _⟩ := q3
              cases x with
              | cells => rfl
              | map => obtain ⟨_, _, h, _⟩ := t3; cases h
              | loop => obtain ⟨_, h, _⟩ := t3; cases h
              | dfr => obtain ⟨_, h, _⟩ := t3; cases h
              | siter => exact t3.elim
              | miter => obtain ⟨_, _, _, h, _⟩ := t3; cases h
            | _ => cases hC'
          · have := (hs.dom _ _ hb).1
            omega
    · obtain ⟨c2, z2, o2, q1, q2, q3, q4⟩ := hs.blk b x k
      have e2 := he.ext _ _ q1
      rw [hp] at e2; cases e2
      rcases hB b' x' hx' with k' | ⟨k', kn'⟩
      · cases hb : π b' with
        | none => exact absurd hb (newNo b x c z k kn q1 b' z' hp')
        | some p =>
          have e1 := he.ext _ _ hb
          rw [hp'] at e1; cases e1
          rcases he.old b' x' k' with ⟨y0, r1, r2⟩ | hge
          · obtain ⟨yA, s1, s2, s3, s4⟩ := hle b' y0 r1
            have := hs.sep b x b' yA c z z' k s1 q1 hb hne
            refine ⟨this.1, fun h => ⟨(this.2 h).1, ?_⟩⟩
            have hA := (this.2 h).2
            cases hw : x'.wr with
            | false => rfl
            | true => have := r2 hw; rw [← s2, hA] at this; cases this
          · have := (hs.dom _ _ hb).1
            omega
      · obtain ⟨c3, z3, o3, p1, _⟩ := hs.blk b' x' k'
        have e1 := he.ext _ _ p1
        rw [hp'] at e1; cases e1
        exact hs.sep b x b' x' c z z' k k' q1 p1 hne
  · intro c hc hno
    refine he.fr c hc fun b x z hx hw hp => ?_
    obtain ⟨y, k1, k2, _⟩ := hle b x hx
    exact hno b y z k1 (by rw [k2]; exact hw) hp
  · intro b p hp hn
    obtain ⟨q1, q2⟩ := he.new b p hp hn
    refine ⟨by omega, ?_⟩
    rcases q2 with q2 | ⟨b0, x0, z0, r1, r2, r3⟩
    · exact .inl q2
    · obtain ⟨y, k1, k2, _⟩ := hle b0 x0 r1
      exact .inr ⟨b0, y, z0, k1, by rw [k2]; exact r2, r3⟩
  · intro b x hx
    rcases hB b x hx with hx | ⟨hx, _⟩
    · rcases he.old b x hx with ⟨y0, r1, r2⟩ | hge
      · obtain ⟨y, k1, k2, _⟩ := hle b y0 r1
        exact .inl ⟨y, k1, fun h => by rw [k2]; exact r2 h⟩
      · exact .inr (by omega)
    · exact .inl ⟨x, hx, id⟩
end
theorem beqs_eq : ∀ {l m : List AV}, AV.beqs l m = true → l = m
  | [], [], _ => rfl
  | [], _ :: _, h => by simp [AV.beqs] at h
  | _ :: _, [], h => by simp [AV.beqs] at h
  | x :: l, y :: m, h => by
    rw [AV.beqs, Bool.and_eq_true] at h
    rw [AV.beq_eq _ _ h.1, beqs_eq h.2]
/-- Does a fact fit a call? -/
noncomputable def fitsF (F : KF) (f : Nat) (args : List AV) (h : Hp) : Bool := ob (Nat.beq F.f f) false (ob (Nat.beq F.nx h.nx) false (ob (AV.beqs F.args args) false (hasB F.hin h)))
noncomputable def useF (F : KF) (h : Hp) : CR := .ret F.v ⟨putsT F.hout (delsT F.hin h.t), F.nx'⟩
noncomputable def knF (F : KF) : CallF → CallF := fun cf f args h => ob (fitsF F f args h) (cf f args h) (useF F h)
/-- Are blocks that share with these among them, or nowhere? -/
noncomputable def sibOut (l : List (Nat × Blk)) (h : Hp) : Bool := l.all fun y => y.2.sibs.all fun s => l.any (fun z => Nat.beq z.1 s) || oo (h.get s) true fun _ => false
noncomputable def knG (F : KF) : CallF → CallF := fun cf f args h => ob (fitsF F f args h && sibOut F.hin h) (cf f args h) (useF F h)
theorem knId_ok (P : Program) : KnOk P (fun cf => cf) := fun _ h => h
section
variable {P : Program}
theorem knF_ok {F : KF} (hF : FactOk P F) (hs : sibIn F.hin = true) {kn : CallF → CallF} (hk : KnOk P kn) : KnOk P (fun cf => knF F (kn cf)) := by
  intro cf hcf B π H w f args cargs hH ha hok
  have hok : (ob (fitsF F f args H) (kn cf f args H) (useF F H)).ok := hok
  show Calls P f cargs w (COut B π H w (ob (fitsF F f args H) (kn cf f args H) (useF F H)))
  cases hfit : fitsF F f args H with
  | false =>
    rw [hfit, ob_false] at hok
    rw [ob_false]
    exact hk cf hcf B π H w f args cargs hH ha hok
  | true =>
    rw [ob_true]
    unfold fitsF at hfit
    cases h1 : Nat.beq F.f f with
    | false => rw [h1, ob_false] at hfit; cases hfit
    | true =>
    cases h2 : Nat.beq F.nx H.nx with
    | false => rw [h1, h2, ob_true, ob_false] at hfit; cases hfit
    | true =>
    cases h3 : AV.beqs F.args args with
    | false => rw [h1, h2, h3, ob_true, ob_true, ob_false] at hfit; cases hfit
    | true =>
    rw [h1, h2, h3, ob_true, ob_true, ob_true] at hfit
    have h1 : F.f = f := Nat.eq_of_beq_eq_true h1
    have h2 : F.nx = H.nx := Nat.eq_of_beq_eq_true h2
    have h3 : F.args = args := beqs_eq h3
    subst h1 h3
    have hmem : ∀ b x, F.inH.get b = some x → (b, x) ∈ F.hin := by
      intro b x hx
      rcases putsT_get hx with ⟨h, _⟩ | h
      · exact h
      · rw [T.get_e] at h; cases h
    have hin : HRel π B F.inH w := hH.alike (fun b x hx => by
      obtain ⟨y, k1, k2⟩ := hasB_get hfit (hmem b x hx)
      rcases k2 with rfl | ⟨es, es', c, rfl, rfl, k3⟩
      · exact .inl k1
      · exact .inr ⟨es, es', c, rfl, k1, k3⟩) (by show H.nx ≤ F.nx; omega)
    refine (hF B π w cargs hin ha).mono fun e w' ⟨π', cv, he, hv, hst⟩ => ?_
    refine ⟨π', cv, he, hv, Step.merge2 hH ?_ h2 ?_ hst rfl ?_⟩
    · intro b x hx
      obtain ⟨y, k1, k2⟩ := hasB_get hfit (hmem b x hx)
      rcases k2 with rfl | ⟨es, es', c, rfl, rfl, k3⟩
      · exact ⟨_, k1, rfl, rfl, rfl⟩
      · exact ⟨_, k1, rfl, rfl, rfl⟩
    · intro b x s hx hm _ hn
      have := List.all_eq_true.1 hs _ (hmem b x hx)
      have hsb : x.sibs = x.sib := by cases x <;> rfl
      simp only at this
      rw [hsb] at this
      have := List.all_eq_true.1 this s hm
      obtain ⟨⟨b2, y2⟩, q1, q2⟩ := List.any_eq_true.1 this
      have q2 : b2 = s := Nat.eq_of_beq_eq_true q2
      subst q2
      obtain ⟨u, hu⟩ := putsT_mem (t := .e) q1
      have hu : F.inH.get b2 = some u := hu
      rw [hu] at hn; cases hn
    · intro c y hy
      rcases putsT_get hy with ⟨_, h⟩ | h
      · exact .inl h
      · right
        obtain ⟨k1, k2⟩ := delsT_get h
        refine ⟨k2, ?_⟩
        cases hg : F.inH.get c with
        | none => rfl
        | some x => exact absurd (hmem c x hg) (k1 x)
theorem knG_ok {F : KF} (hF : FactOk P F) {kn : CallF → CallF} (hk : KnOk P kn) : KnOk P (fun cf => knG F (kn cf)) := by
  intro cf hcf B π H w f args cargs hH ha hok
  have hok : (ob (fitsF F f args H && sibOut F.hin H) (kn cf f args H) (useF F H)).ok := hok
  show Calls P f cargs w (COut B π H w (ob (fitsF F f args H && sibOut F.hin H) (kn cf f args H) (useF F H)))
  cases hfit : (fitsF F f args H && sibOut F.hin H) with
  | false =>
    rw [hfit, ob_false] at hok
    rw [ob_false]
    exact hk cf hcf B π H w f args cargs hH ha hok
  | true =>
    rw [ob_true]
    rw [Bool.and_eq_true] at hfit
    obtain ⟨hfit, hs⟩ := hfit
    unfold fitsF at hfit
    cases h1 : Nat.beq F.f f with
    | false => rw [h1, ob_false] at hfit; cases hfit
    | true =>
    cases h2 : Nat.beq F.nx H.nx with
    | false => rw [h1, h2, ob_true, ob_false] at hfit; cases hfit
    | true =>
    cases h3 : AV.beqs F.args args with
    | false => rw [h1, h2, h3, ob_true, ob_true, ob_false] at hfit; cases hfit
    | true =>
    rw [h1, h2, h3, ob_true, ob_true, ob_true] at hfit
    have h1 : F.f = f := Nat.eq_of_beq_eq_true h1
    have h2 : F.nx = H.nx := Nat.eq_of_beq_eq_true h2
    have h3 : F.args = args := beqs_eq h3
    subst h1 h3
    have hmem : ∀ b x, F.inH.get b = some x → (b, x) ∈ F.hin := by
      intro b x hx
      rcases putsT_get hx with ⟨h, _⟩ | h
      · exact h
      · rw [T.get_e] at h; cases h
    have hin : HRel π B F.inH w := hH.alike (fun b x hx => by
      obtain ⟨y, k1, k2⟩ := hasB_get hfit (hmem b x hx)
      rcases k2 with rfl | ⟨es, es', c, rfl, rfl, k3⟩
      · exact .inl k1
      · exact .inr ⟨es, es', c, rfl, k1, k3⟩) (by show H.nx ≤ F.nx; omega)
    refine (hF B π w cargs hin ha).mono fun e w' ⟨π', cv, he, hv, hst⟩ => ?_
    refine ⟨π', cv, he, hv, Step.merge2 hH ?_ h2 ?_ hst rfl ?_⟩
    · intro b x hx
      obtain ⟨y, k1, k2⟩ := hasB_get hfit (hmem b x hx)
      rcases k2 with rfl | ⟨es, es', c, rfl, rfl, k3⟩
      · exact ⟨_, k1, rfl, rfl, rfl⟩
      · exact ⟨_, k1, rfl, rfl, rfl⟩
    · intro b x s hx hm hne hn
      have := List.all_eq_true.1 hs _ (hmem b x hx)
      have hsb : x.sibs = x.sib := by cases x <;> rfl
      simp only at this
      rw [hsb] at this
      have := List.all_eq_true.1 this s hm
      rw [Bool.or_eq_true] at this
      rcases this with this | this
      · obtain ⟨⟨b2, y2⟩, q1, q2⟩ := List.any_eq_true.1 this
        have q2 : b2 = s := Nat.eq_of_beq_eq_true q2
        subst q2
        obtain ⟨u, hu⟩ := putsT_mem (t := .e) q1
        have hu : F.inH.get b2 = some u := hu
        rw [hu] at hn; cases hn
      · cases hg : H.get s with
        | none => exact hne hg
        | some y => rw [hg] at this; cases this
    · intro c y hy
      rcases putsT_get hy with ⟨_, h⟩ | h
      · exact .inl h
      · right
        obtain ⟨k1, k2⟩ := delsT_get h
        refine ⟨k2, ?_⟩
        cases hg : F.inH.get c with
        | none => rfl
        | some x => exact absurd (hmem c x hg) (k1 x)
end
end Go.Proofs.YthfenjgelbkloaaGreatDoor.Ev

namespace Go.Proofs.YthfenjgelbkloaaGreatDoor.Ev
open Go Go.RowKit

/-- A list as a tree by number, from i on. -/
noncomputable def mkT {α : Type} (l : List α) : Nat → T α → T α := List.rec (fun _ t => t) (fun x _ ih i t => ih (Nat.succ i) (t.put (some x) (Pos.of i))) l
theorem mkT_get {α : Type} (l : List α) : ∀ (i : Nat) (t : T α) (f : Nat), (∀ j, i ≤ j → t.get (Pos.of j) = none) → (mkT l i t).get (Pos.of f) = if f < i then t.get (Pos.of f) else l[f - i]? := by
  induction l with
  | nil =>
    intro i t f ht
    show t.get (Pos.of f) = _
    by_cases h : f < i
    · rw [if_pos h]
    · rw [if_neg h, ht f (by omega)]; simp
  | cons x l ih =>
    intro i t f ht
    show (mkT l (i + 1) (t.put (some x) (Pos.of i))).get (Pos.of f) = _
    rw [ih (i + 1) (t.put (some x) (Pos.of i)) f (fun j hj => by rw [T.get_putN, if_neg (by omega)]; exact ht j (by omega))]
    by_cases h1 : f < i
    · rw [if_pos (by omega), if_pos h1, T.get_putN, if_neg (by omega)]
    · rw [if_neg h1]
      by_cases h2 : f = i
      · subst h2
        rw [if_pos (by omega), T.get_putN, if_pos rfl, Nat.sub_self]; rfl
      · rw [if_neg (by omega), show f - i = (f - (i + 1)) + 1 by omega, List.getElem?_cons_succ]
noncomputable def fastS (lt : T (List Nat)) (ih : List Nat → List Nat → T Bool → List Nat) (f : Nat) (rest seen : List Nat) (t : T Bool) : List Nat :=
  oo (t.get (Pos.of f)) (ih (oo (lt.get (Pos.of f)) [] (fun l => l) ++ rest) (f :: seen) (t.put (some true) (Pos.of f))) fun _ => ih rest seen t
noncomputable def fastC (lt : T (List Nat)) (n : Nat) : List Nat → List Nat → T Bool → List Nat :=
  Nat.rec (fun _ seen _ => seen.reverse) (fun _ ih todo seen t => List.rec seen.reverse (fun f rest _ => fastS lt ih f rest seen t) todo) n
theorem fastC_eq {P : Program} {lt : T (List Nat)} (h : ∀ f, (P.funcs[f]?).elim [] P.leadsTo = oo (lt.get (Pos.of f)) [] (fun l => l)) :
    ∀ (n : Nat) (todo seen : List Nat) (t : T Bool), (∀ x, (t.get (Pos.of x)).isSome = true ↔ x ∈ seen) → P.closureVia n todo seen = fastC lt n todo seen t
  | 0, todo, seen, t, _ => by cases todo <;> rfl
  | n + 1, [], seen, t, _ => rfl
  | n + 1, f :: todo, seen, t, ht => by
    show (if seen.contains f then P.closureVia n todo seen else P.closureVia n ((P.funcs[f]?).elim [] P.leadsTo ++ todo) (f :: seen)) = fastS lt (fastC lt n) f todo seen t
    unfold fastS
    by_cases hm : f ∈ seen
    · rw [if_pos (by simpa using hm)]
      obtain ⟨b, hb⟩ := Option.isSome_iff_exists.1 ((ht f).2 hm)
      rw [hb]
      exact fastC_eq h n todo seen t ht
    · rw [if_neg (by simpa using hm)]
      have hb : t.get (Pos.of f) = none := by
        cases hg : t.get (Pos.of f) with
        | none => rfl
        | some b => exact absurd ((ht f).1 (by rw [hg]; rfl)) hm
      rw [hb, oo_none, ← h f]
      refine fastC_eq h n _ _ _ fun x => ?_
      rw [T.get_putN]
      by_cases hx : x = f
      · subst hx; simp
      · rw [if_neg hx, ht x]; simp [hx]
/-- How much fuel there is. -/
noncomputable def fuelC (l : List (List Nat)) : Nat := List.rec 1 (fun x _ ih => Nat.add ih (Nat.succ x.length)) l
theorem fuelC_eq (l : List (List Nat)) : fuelC l = 1 + (l.map fun x => x.length + 1).sum := by
  induction l with
  | nil => rfl
  | cons x l ih =>
    show fuelC l + (x.length + 1) = _
    rw [ih, List.map_cons, List.sum_cons]; omega
theorem clo_of {P : Program} {L : List (List Nat)} {f : Nat} {R : List Nat} (hL : P.funcs.toList.map P.leadsTo = L) (hR : fastC (mkT L 0 .e) (fuelC L) [f] [] .e = R) : P.closure f = R := by
  unfold Program.closure
  have e : (P.funcs.toList.map fun g => (P.leadsTo g).length + 1) = L.map fun x => x.length + 1 := by rw [← hL, List.map_map]; rfl
  rw [e, ← fuelC_eq, ← hR]
  refine fastC_eq (fun g => ?_) _ _ _ _ (fun x => by rw [T.get_e]; simp)
  rw [mkT_get L 0 .e g (fun j _ => T.get_e _), if_neg (by omega), ← hL, Nat.sub_zero, List.getElem?_map, Array.getElem?_toList]
  cases P.funcs[g]? <;> rfl
end Go.Proofs.YthfenjgelbkloaaGreatDoor.Ev

namespace Go.Proofs.YthfenjgelbkloaaGreatDoor.Ev
open Go Go.RowKit

/-! ### Numbers laid on -/
/-- At a call of one of these functions the next block's number is the next multiple of X. -/
noncomputable def knUp (fs : List Nat) (X : Nat) : CallF → CallF := fun cf f args h => ob (fs.any (Nat.beq f)) (cf f args h) (fN (Nat.mul X (Nat.succ (Nat.div h.nx X))) fun n => ob (Nat.ble h.nx n) (cf f args h) (cf f args ⟨h.t, n⟩))
section
variable {P : Program} {B : Nat} {π π' : Pi} {H H' : Hp} {w w' : World}
theorem Step.up {n : Nat} (hn : H.nx ≤ n) (h : Step B π ⟨H.t, n⟩ w π' H' w') : Step B π H w π' H' w' :=
  ⟨h.ext, h.rel, h.fr, h.size, Nat.le_trans hn h.nx, fun b p h1 h2 => let ⟨a, c⟩ := h.new b p h1 h2; ⟨Nat.le_trans hn a, c⟩, fun b x hx => (h.old b x hx).imp id (fun a => Nat.le_trans hn a), h.out, h.evo⟩
theorem COut.up {n : Nat} (hn : H.nx ≤ n) {r : CR} {e : Ending} (h : COut B π ⟨H.t, n⟩ w r e w') : COut B π H w r e w' := by
  cases r with
  | bad s => trivial
  | ret v h' => obtain ⟨π', cv, a, b, c⟩ := h; exact ⟨π', cv, a, b, c.up hn⟩
  | pan ch h' => obtain ⟨π', cv, a, b, c⟩ := h; exact ⟨π', cv, a, b, c.up hn⟩
theorem knUp_ok (fs : List Nat) (X : Nat) {kn : CallF → CallF} (hk : KnOk P kn) : KnOk P (fun cf => knUp fs X (kn cf)) := by
  intro cf hcf B π H w f args cargs hH ha hok
  show Calls P f cargs w (COut B π H w (knUp fs X (kn cf) f args H))
  have hok : (knUp fs X (kn cf) f args H).ok := hok
  unfold knUp at hok ⊢
  rw [fN_eq] at hok ⊢
  cases h1 : fs.any (Nat.beq f) with
  | false => rw [h1] at hok; exact hk cf hcf B π H w f args cargs hH ha hok
  | true =>
    rw [h1, ob_true] at hok
    rw [ob_true]
    cases h2 : Nat.ble H.nx (Nat.mul X (Nat.succ (Nat.div H.nx X))) with
    | false => rw [h2] at hok; exact hk cf hcf B π H w f args cargs hH ha hok
    | true =>
      rw [h2, ob_true] at hok
      rw [ob_true]
      have hn := Nat.le_of_ble_eq_true h2
      exact (hk cf hcf B π _ w f args cargs (hH.less (H' := ⟨H.t, Nat.mul X (Nat.succ (Nat.div H.nx X))⟩) (fun b x h => h) hn) ha hok).mono fun e w' ho => COut.up (n := Nat.mul X (Nat.succ (Nat.div H.nx X))) hn ho
end

/-! ### The rest of a function's code -/
noncomputable def kEnd (P : Program) (fn : Func) : XK := fun x r h q => match q.df with
  | [] => (match x with
    | .ret => oo (resF P fn r h) (.bad "results") fun v => .ret v h
    | _ => .bad "end")
  | _ => .bad "end: defers"
theorem kEnd_other {P : Program} {fn : Func} {x : X} {r : T AV} {h : Hp} {q : Q} (hd : q.df = []) (hx : x ≠ .ret) : kEnd P fn x r h q = .bad "end" := by
  unfold kEnd
  rw [hd]
  cases x with
  | ret => exact absurd rfl hx
  | _ => rfl
theorem tail_sound {P : Program} (hm : P.follows .mixedOrders = true) (hX : extOk P = true) {kn : CallF → CallF} (hk : KnOk P kn) {n : Nat} {c : Code} {r : T AV} {h : Hp} {q : Q} {fn : Func}
    (hE : retTrue (codeN P kn n c r h q (kEnd P fn)) = true) (hc : codeOk q.sz c = true) (hrc : q.rc = .no) (hrd : q.rd = none) {B : Nat} {π : Pi} {a : Act} {w : World} (hH : HRel π B h w) (hS : St π q r a) :
    c.wp P (bodyPost P fn fun e w' => e = .returned (.bool true) ∧ ∃ π' h', Step B π h w π' h' w') a w := by
  have hok : (codeN P kn n c r h q (kEnd P fn)).ok := by
    cases hc : codeN P kn n c r h q (kEnd P fn) with
    | bad w => rw [hc] at hE; cases hE
    | _ => trivial
  refine wpIn_wide (n := 0) |>.1 ?_
  refine wpIn_mono (codeN_sound hm (opsOk hX) hk n c r h q (kEnd P fn) hok hc hrc B π a w none 0 hH hS (by rw [hrd]; trivial)) ?_
  intro e a' w' hp
  obtain ⟨x, r', h', q', π', a1, a2, a3, a4, a5⟩ := hp
  obtain ⟨b1, b2⟩ := a5 hok
  cases hd : q'.df with
  | cons d ds =>
    have : kEnd P fn x r' h' q' = .bad "end: defers" := by unfold kEnd; rw [hd]
    rw [this] at b1
    exact b1.elim
  | nil =>
    have hdf := a2.df
    rw [hd] at hdf
    have hdn : a'.defers = [] := by cases hq : a'.defers with
      | nil => rfl
      | cons y l => rw [hq] at hdf; cases hdf
    cases x with
    | ret =>
      have hke : kEnd P fn .ret r' h' q' = oo (resF P fn r' h') (.bad "results") fun v => .ret v h' := by unfold kEnd; rw [hd]
      cases hr : resF P fn r' h' with
      | none => rw [hke, hr] at b1; exact b1.elim
      | some v =>
        obtain ⟨cv, k1, k2⟩ := resF_sound a4.rel a2.rr hr
        have hout : COut B π h w (kEnd P fn .ret r' h' q') (.returned cv) w' := by
          rw [hke, hr]; exact ⟨π', cv, rfl, k2, a4⟩
        have ho := b2 B π h w (.returned cv) w' hout
        have hcv : cv = .bool true := by
          cases hres : codeN P kn n c r h q (kEnd P fn) with
          | bad s => rw [hres] at hE; cases hE
          | pan ch hh => rw [hres] at hE; cases hE
          | ret v' hh =>
            rw [hres] at hE ho
            obtain ⟨π2, cv2, e1, e2, _⟩ := ho
            cases e1
            have hv : v' = .bool true := by
              cases v' <;> first | (cases hE; done) | skip
              rename_i b
              cases b
              · cases hE
              · rfl
            subst hv
            cases e2; rfl
        subst hcv
        cases e with
        | ret => exact ⟨hdn, _, k1, rfl, π', h', a4⟩
        | _ => exact a1.elim
    | nrm => rw [kEnd_other hd (fun h => by cases h)] at b1; exact b1.elim
    | ext i => rw [kEnd_other hd (fun h => by cases h)] at b1; exact b1.elim
    | gto l => rw [kEnd_other hd (fun h => by cases h)] at b1; exact b1.elim
    | pan ch => rw [kEnd_other hd (fun h => by cases h)] at b1; exact b1.elim
end Go.Proofs.YthfenjgelbkloaaGreatDoor.Ev
