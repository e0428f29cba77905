/- The evaluator's soundness, 33: append. -/
import Derived.Test.YtmoejaloachlkaaGreatDoorGa
namespace Go.Proofs.YtmoejaloachlkaaGreatDoor.Ev
open Go Go.RowKit

section
variable {P : Program} {B : Nat} {π : Pi} {H H' : Hp} {w : World} {v : AV} {as : List AV} {cargs : Array Value} {ts : Array TypeId} {u : TypeId}
/-- What is appended. -/
def ApOk (P : Program) (ts : Array TypeId) (e s : Nat) (cx : Value) (k : Nat) (vs : List Value) (w : World) : Prop :=
  vs.length = k * s ∧ ((appMk P ts = some false ∧ (∀ w' : World, (Builtin.lenOf cx).run P w' = .ok k w') ∧ ∀ w' : World, w'.heap = w.heap → (Builtin.firstCells s k cx).run P w' = .ok vs.toArray w') ∨
    (appMk P ts = some true ∧ (∃ j, cx = .int j (k : Int)) ∧ k < 16777216 ∧ (∀ i, P.info? e = some i → i.bytes < 65536) ∧ ∃ cz, (∀ w : World, (zeroValue e).run P w = .ok cz w) ∧ cz.cells.size = s ∧ vs = (Builtin.zeroCells cz.cells k).toList))
theorem appMk_false (h : appMk P ts = some false) : ts[1]? = none ∨ ∃ t d, ts[1]? = some t ∧ P.underlying t = some d ∧ ∀ k, d ≠ .int k := by
  unfold appMk at h
  split at h
  · rename_i t ht
    split at h
    · cases h
    · rename_i d hd hn
      exact .inr ⟨t, d, ht, hn, fun k e => by subst e; exact hd k rfl⟩
    · cases h
  · rename_i ht; exact .inl ht
theorem appMk_true (h : appMk P ts = some true) : ∃ t k, ts[1]? = some t ∧ P.underlying t = some (.int k) := by
  unfold appMk at h
  split at h
  · rename_i t ht
    split at h
    · rename_i k hk; exact ⟨t, k, ht, hk⟩
    · cases h
    · cases h
  · cases h
theorem run_append_in {st e s k n cap : Nat} {g' : Bool} {bs : Option Addr} {cx : Value} {vs : List Value} {i : TypeInfo} (ht : ts[0]? = some st) (hu : P.underlying st = some (.slice e)) (hg : tAgg P e = some (g', s)) (hi : P.info? e = some i) (hA : ApOk P ts e s cx k vs w) (hle : n + k ≤ cap) :
    (Builtin.append_ ts u [.slice bs n cap, cx].toArray).run P w = ((match (generalizing := false) bs with
      | some a => storeCells (a.add (n * s)) vs
      | none => pure ()).run P w).andThen fun _ w => .ok (.slice bs (n + k) cap) w := by
  obtain ⟨hl, ⟨h1, h2, h3⟩ | ⟨h1, ⟨j, rfl⟩, h3, h4, cz, h5, h6, h7⟩⟩ := hA
  · rcases appMk_false h1 with h1 | ⟨t, d, h1, hd, hn⟩
    · unfold Builtin.append_
      simp only [ht, h1, List.getElem?_toArray, List.getElem?_cons_zero, List.getElem?_cons_succ, Sem.run_bind, run_underlying hu, Result.andThen_ok, tAgg_size hg, Sem.run_pure, Bool.false_eq_true, if_false, h2 w, hle, if_true, Bool.not_false, h3 w rfl]
      cases bs <;> simp
    · unfold Builtin.append_
      have hm : (match d with | .int _ => true | _ => false) = false := by cases d <;> first | rfl | exact absurd rfl (hn _)
      simp only [ht, h1, List.getElem?_toArray, List.getElem?_cons_zero, List.getElem?_cons_succ, Sem.run_bind, run_underlying hu, run_underlying hd, Result.andThen_ok, tAgg_size hg, Sem.run_pure, hm, Bool.false_eq_true, if_false, h2 w, hle, if_true, Bool.not_false, h3 w rfl]
      cases bs <;> simp
  · obtain ⟨t, kk, h1, hk⟩ := appMk_true h1
    have hw : IntKind.i64.wrap (k : Int) = (k : Int) := lim_wrap .i64 k (by show k < big63; unfold big63; omega)
    have hb := h4 i hi
    have hmul : k * i.bytes ≤ 16777216 * 65536 := Nat.mul_le_mul (by omega) (by omega)
    have c1 : ¬ (k : Int) < 0 := by omega
    have h48 : (2 : Int) ^ 48 = 281474976710656 := rfl
    have c2 : ¬ (k : Int) * (i.bytes : Int) > 2 ^ 48 := by
      rw [h48]
      have : ((k * i.bytes : Nat) : Int) = (k : Int) * (i.bytes : Int) := by simp
      rw [← this]
      omega
    have ha : ∀ w : World, (asInt (.int j (k : Int))).run P w = .ok (k : Int) w := fun _ => rfl
    unfold Builtin.append_
    simp only [ht, h1, List.getElem?_toArray, List.getElem?_cons_zero, List.getElem?_cons_succ, Sem.run_bind, run_underlying hu, run_underlying hk, Result.andThen_ok, tAgg_size hg, Sem.run_pure, if_true, ha, hw, c1, if_false, run_typeInfo hi, c2, Int.toNat_natCast, hle, Bool.not_true, Bool.false_eq_true]
    by_cases h0 : k * s = 0
    · have hv : vs = [] := List.length_eq_zero_iff.1 (by rw [hl, h0])
      simp only [h0, if_true, Sem.run_pure, Result.andThen_ok, hv]
      cases bs <;> simp
    · simp only [h0, if_false, Sem.run_bind, h5, Result.andThen_ok, Sem.run_pure, h7]
      cases bs <;> simp
theorem run_append_more {st e s k n cap : Nat} {g' : Bool} {bs : Option Addr} {cx cz : Value} {vs olds : List Value} {i : TypeInfo} (ht : ts[0]? = some st) (hu : P.underlying st = some (.slice e)) (hg : tAgg P e = some (g', s)) (hi : P.info? e = some i) (hA : ApOk P ts e s cx k vs w)
    (hcz : ∀ w : World, (zeroValue e).run P w = .ok cz w) (hold : ∀ w' : World, w'.heap = w.heap → (Builtin.firstCells s n (.slice bs n cap)).run P w' = .ok olds.toArray w') (hgr : cap < n + k) (hm : n + k < 16777216) (hb : i.bytes < 65536) :
    ∃ (nc : Nat) (w1 : World), w1.heap = w.heap ∧ (w1.os = w.os ∧ w1.tape = w.tape ∧ w1.output = w.output) ∧ n + k ≤ nc ∧ nc < big63 ∧
      (Builtin.append_ ts u [.slice bs n cap, cx].toArray).run P w = .ok (.slice (some ⟨w.heap.size, 0, none⟩) (n + k) nc) (w1.alloc (.cells (olds ++ vs ++ (Builtin.zeroCells cz.cells (nc - (n + k))).toList).toArray e)) := by
  have hroom : ∀ m (w : World), (askRoom m).run P w = .ok () w := by intro m w; unfold askRoom; split <;> rfl
  have hp63 : (2 : Nat) ^ 63 = 9223372036854775808 := rfl
  have hcap : (n + k) + w.tape w.drawn (.appendCap (n + k) cap e) % (2 ^ 63 - (n + k)) < big63 := by
    have h1 := Nat.mod_lt (w.tape w.drawn (.appendCap (n + k) cap e)) (show 0 < 2 ^ 63 - (n + k) by rw [hp63]; omega)
    generalize hM : 2 ^ 63 - (n + k) = M at *
    rw [hp63] at hM
    unfold big63
    omega
  have hch : (choose (.appendCap (n + k) cap e)).run P w = .ok ((n + k) + w.tape w.drawn (.appendCap (n + k) cap e) % (2 ^ 63 - (n + k))) { w with drawn := w.drawn + 1 } := by
    simp [choose, Sem.run, Question.forced, Question.cut]
  refine ⟨(n + k) + w.tape w.drawn (.appendCap (n + k) cap e) % (2 ^ 63 - (n + k)), { w with drawn := w.drawn + 1 }, rfl, ⟨rfl, rfl, rfl⟩, Nat.le_add_right _ _, hcap, ?_⟩
  generalize (n + k) + w.tape w.drawn (.appendCap (n + k) cap e) % (2 ^ 63 - (n + k)) = nc at *
  have hn1 : ¬ (n + k ≤ cap) := by omega
  have hmax : IntKind.i64.max = 9223372036854775807 := rfl
  have c3 : ¬ (((n + k : Nat) : Int) > IntKind.i64.max) := by rw [hmax]; omega
  have h48n : (2 : Nat) ^ 48 = 281474976710656 := rfl
  have hfit : ¬ (Builtin.nextslicecap (n + k) cap * i.bytes > 2 ^ 48) := by
    have h1 : (n + k) * i.bytes ≤ 16777216 * 65536 := Nat.mul_le_mul (by omega) (by omega)
    have := growslice_fits (bytes := i.bytes) hgr (by omega)
    rw [h48n]; omega
  have hrow : ∀ (vs' : Array Value), (newRow e vs').run P { w with drawn := w.drawn + 1 } = .ok ⟨w.heap.size, 0, none⟩ (World.alloc { w with drawn := w.drawn + 1 } (.cells vs' e)) := fun vs' => by simp [newRow]
  have hhe : ({ w with drawn := w.drawn + 1 } : World).heap = w.heap := rfl
  have happ : olds.toArray ++ vs.toArray ++ Builtin.zeroCells cz.cells (nc - (n + k)) = (olds ++ vs ++ (Builtin.zeroCells cz.cells (nc - (n + k))).toList).toArray := by apply Array.ext'; simp
  obtain ⟨hl, ⟨h1, h2, h3⟩ | ⟨h1, ⟨j, rfl⟩, h3, h4, cz', h5, h6, h7⟩⟩ := hA
  · rcases appMk_false h1 with h1 | ⟨t, d, h1, hd, hn⟩
    · unfold Builtin.append_
      simp only [ht, h1, List.getElem?_toArray, List.getElem?_cons_zero, List.getElem?_cons_succ, Sem.run_bind, run_underlying hu, Result.andThen_ok, tAgg_size hg, Sem.run_pure, Bool.false_eq_true, if_false, h2 w, hn1, Bool.not_false, if_true, run_typeInfo hi, c3, hfit, false_and, hch, hroom, hold _ hhe, h3 _ hhe, hcz, hrow, happ]
    · have hm : (match d with | .int _ => true | _ => false) = false := by cases d <;> first | rfl | exact absurd rfl (hn _)
      unfold Builtin.append_
      simp only [ht, h1, List.getElem?_toArray, List.getElem?_cons_zero, List.getElem?_cons_succ, Sem.run_bind, run_underlying hu, run_underlying hd, hm, Result.andThen_ok, tAgg_size hg, Sem.run_pure, Bool.false_eq_true, if_false, h2 w, hn1, Bool.not_false, if_true, run_typeInfo hi, c3, hfit, false_and, hch, hroom, hold _ hhe, h3 _ hhe, hcz, hrow, happ]
  · obtain ⟨t, kk, h1, hk⟩ := appMk_true h1
    have hw : IntKind.i64.wrap (k : Int) = (k : Int) := lim_wrap .i64 k (by show k < big63; unfold big63; omega)
    have hmul : k * i.bytes ≤ 16777216 * 65536 := Nat.mul_le_mul (by omega) (by omega)
    have c1 : ¬ (k : Int) < 0 := by omega
    have h48 : (2 : Int) ^ 48 = 281474976710656 := rfl
    have c2 : ¬ (k : Int) * (i.bytes : Int) > 2 ^ 48 := by
      rw [h48]
      have : ((k * i.bytes : Nat) : Int) = (k : Int) * (i.bytes : Int) := by simp
      rw [← this]
      omega
    have ha : ∀ w : World, (asInt (.int j (k : Int))).run P w = .ok (k : Int) w := fun _ => rfl
    have hzz : cz' = cz := by
      have := (h5 w).symm.trans (hcz w)
      injection this
    subst hzz
    have happ' : olds.toArray ++ Builtin.zeroCells cz'.cells k ++ Builtin.zeroCells cz'.cells (nc - (n + k)) = (olds ++ vs ++ (Builtin.zeroCells cz'.cells (nc - (n + k))).toList).toArray := by apply Array.ext'; simp [h7]
    unfold Builtin.append_
    simp only [ht, h1, List.getElem?_toArray, List.getElem?_cons_zero, List.getElem?_cons_succ, Sem.run_bind, run_underlying hu, run_underlying hk, Result.andThen_ok, tAgg_size hg, Sem.run_pure, if_true, ha, hw, c1, if_false, run_typeInfo hi, c2, Int.toNat_natCast, hn1, Bool.not_true, Bool.false_eq_true, c3, hfit, false_and, hch, hroom, hold _ hhe]
    by_cases h0 : k * s = 0
    · have hv : vs = [] := List.length_eq_zero_iff.1 (by rw [hl, h0])
      subst hv
      have happ0 : olds.toArray ++ #[] ++ Builtin.zeroCells cz'.cells (nc - (n + k)) = (olds ++ [] ++ (Builtin.zeroCells cz'.cells (nc - (n + k))).toList).toArray := by apply Array.ext'; simp
      simp only [h0, if_true, Sem.run_pure, Result.andThen_ok, Sem.run_bind, hcz, hrow, happ0]
    · simp only [h0, if_false, Sem.run_bind, hcz, Result.andThen_ok, Sem.run_pure, hrow, happ']
end
end Go.Proofs.YtmoejaloachlkaaGreatDoor.Ev
