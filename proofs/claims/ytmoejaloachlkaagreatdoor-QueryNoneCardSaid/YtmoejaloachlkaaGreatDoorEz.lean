/- The evaluator's soundness, 6: places, cuts, equality. -/
import Derived.Test.YtmoejaloachlkaaGreatDoorEy
namespace Go.Proofs.YtmoejaloachlkaaGreatDoor.Ev
open Go Go.RowKit

section
variable {P : Program} {B : Nat} {π : Pi} {H H' : Hp} {w : World} {r : T AV} {a : Act} {v : AV}
theorem avPtr_eqO {β : Type} {x : AV} {k : Nat → Nat → Option β} {u : β} (h : avPtr x none k = some u) : ∃ b o, x = .ptr b o ∧ k b o = some u := avPtr_some (p := (· = some u)) h (by simp)
theorem avAgg_eqO {β : Type} {x : AV} {k : List AV → Option β} {u : β} (h : avAgg x none k = some u) : ∃ l, x = .agg l ∧ k l = some u := avAgg_some (p := (· = some u)) h (by simp)
theorem avStr_eqO {β : Type} {x : AV} {k : Nat → Nat → Option β} {u : β} (h : avStr x none k = some u) : ∃ n v, x = .str n v ∧ k n v = some u := avStr_some (p := (· = some u)) h (by simp)
theorem avInt_eqO {β : Type} {x : AV} {k : IntKind → Int → Option β} {u : β} (h : avInt x none k = some u) : ∃ j n, x = .int j n ∧ k j n = some u := avInt_some (p := (· = some u)) h (by simp)
theorem avSl_eqO {β : Type} {x : AV} {k : Nat → Nat → Nat → Nat → Bool → Nat → Option β} {u : β} (h : avSl x none k = some u) : ∃ b o n l e s, x = .sl b o n l e s ∧ k b o n l e s = some u := avSl_some (p := (· = some u)) h (by simp)
theorem addO_eq (o n : Nat) : addO o n = o + n := by
  unfold addO
  cases h : Nat.beq n 0 with
  | true => have : n = 0 := Nat.eq_of_beq_eq_true h; subst this; rfl
  | false => rfl
theorem intN_eq {x : AV} {n : Nat} (h : intN x = some n) : ∃ k, x = .int k n := by
  obtain ⟨k, m, rfl, h1⟩ := avInt_eqO h
  cases m with
  | ofNat m => have : m = n := by simpa [oi] using h1
               subst this; exact ⟨k, rfl⟩
  | negSucc m => simp [oi] at h1
theorem VR.int_inv {k : IntKind} {n : Int} {cv : Value} (h : VR π (.int k n) cv) : cv = .int k n := by cases h; rfl
theorem fieldOf_eq {t : TypeId} {f : Nat} {fd : Field} (h : fieldOf P t f = some fd) : ∃ fs : Array Field, P.underlying t = some (.struct fs) ∧ fs[f]? = some fd := by
  unfold fieldOf at h
  split at h
  · rename_i fs hu; exact ⟨fs, hu, h⟩
  · cases h
theorem fieldAddr_sound {t : TypeId} {x : AV} {f : Nat} {cx : Value} (hx : VR π x cx) (h : fieldAddrA P t x f = some v) : ∃ cv, (Instr.fieldAt t cx f).run P w = .ok cv w ∧ VR π v cv := by
  obtain ⟨n, h1, h2⟩ := oo_eq h
  obtain ⟨b, o, rfl, h3⟩ := avPtr_eqO h2
  rw [fN_eq, addO_eq] at h3; cases h3
  cases hx with
  | ptr b o c z hp =>
    unfold fOff at h1
    split at h1
    · rename_i fd hf
      obtain ⟨fs, hu, hg⟩ := fieldOf_eq hf
      split at h1
      · rename_i g s hs
        cases h1
        refine ⟨.pointer (some ⟨c, o + fd.offset, none⟩), ?_, .ptr _ _ _ _ hp⟩
        have hsu : (Instr.sureAddr (.pointer (some ⟨c, o, none⟩))).run P w = .ok ⟨c, o, none⟩ w := rfl
        unfold Instr.fieldAt
        simp only [Sem.run_bind, run_underlying hu, Result.andThen_ok, hg, hsu]
        unfold fieldPlace
        simp only [Sem.run_bind, tAgg_size hs, Result.andThen_ok]
        rw [if_neg (by simp), Addr.add_lit']; rfl
      · cases h1
    · cases h1
theorem partA_sound {t : TypeId} {l : List AV} {cs : Array Value} (hl : VRs π l cs.toList) {off : Nat} (h : partA P t l off = some v) : ∃ cv, (part t cs off).run P w = .ok cv w ∧ VR π v cv := by
  unfold partA at h
  split at h
  · rename_i s hs
    cases h
    refine ⟨.agg (cs.extract off (off + s)), ?_, .agg _ _ ?_⟩
    · unfold part
      simp only [Sem.run_bind, tAgg_isAgg hs, Result.andThen_ok, if_true, tAgg_size hs, Sem.run_pure]
    · have := (hl.drop off).take s
      rw [Array.toList_extract, List.extract_eq_take_drop]
      simpa using this
  · rename_i s hs
    obtain ⟨cv, h1, h2⟩ := hl.get h
    refine ⟨cv, ?_, h2⟩
    rw [Array.getElem?_toList] at h1
    unfold part
    simp only [Sem.run_bind, tAgg_isAgg hs, Result.andThen_ok, Bool.false_eq_true, if_false, h1, Sem.run_pure]
  · cases h
theorem field_sound {t : TypeId} {l : List AV} {f : Nat} {fd : Field} {cx : Value} (hx : VR π (.agg l) cx) (hf : fieldOf P t f = some fd) (h : partA P fd.type l fd.offset = some v) : ∃ cv, (Instr.field t cx f).run P w = .ok cv w ∧ VR π v cv := by
  cases hx with
  | agg _ cs hl =>
    obtain ⟨fs, hu, hg⟩ := fieldOf_eq hf
    obtain ⟨cv, h1, h2⟩ := partA_sound (P := P) (w := w) hl h
    refine ⟨cv, ?_, h2⟩
    unfold Instr.field
    simp only [Sem.run_bind, run_underlying hu, Result.andThen_ok, hg]
    exact h1
theorem seqT_eq {t : TypeId} {g : Bool × Nat × Nat} (h : seqT P t = some g) : (∃ e a, P.underlying t = some (.slice e) ∧ tAgg P e = some (a, g.2.2) ∧ g.1 = true) ∨ (∃ e a, P.underlying t = some (.array g.2.1 e) ∧ tAgg P e = some (a, g.2.2) ∧ g.1 = false) := by
  unfold seqT at h
  split at h
  · rename_i e hu
    split at h
    · rename_i a s hs; cases h; exact .inl ⟨e, a, hu, hs, rfl⟩
    · cases h
  · rename_i n e hu
    split at h
    · rename_i a s hs; cases h; exact .inr ⟨e, a, hu, hs, rfl⟩
    · cases h
  · cases h
theorem ptrAt_eq {b o i n s : Nat} (h : ptrAt b o i n s = some v) : i < n ∧ v = .ptr b (o + i * s) := by
  obtain ⟨h1, h2⟩ := ob_eq h
  rw [fN_eq, addO_eq] at h2
  exact ⟨by simpa [Nat.blt_eq] using h1, (Option.some.inj h2).symm⟩
theorem idxAddr_sound {t : TypeId} {x ix : AV} {cx cix : Value} (hx : VR π x cx) (hix : VR π ix cix) (h : idxAddr P t x ix = some v) : ∃ cv, (Instr.indexAt t cx cix).run P w = .ok cv w ∧ VR π v cv := by
  obtain ⟨g, h1, h⟩ := oo_eq h
  obtain ⟨i, h2, h⟩ := oo_eq h
  obtain ⟨k, rfl⟩ := intN_eq h2
  rw [hix.int_inv]
  rcases seqT_eq h1 with ⟨e, ag, hu, hs, hg⟩ | ⟨e, ag, hu, hs, hg⟩
  · rw [hg] at h
    obtain ⟨b, o, n, lo, ex, s, rfl, h3⟩ := avSl_eqO (show avSl x none _ = some v from h)
    obtain ⟨h4, h5⟩ := ob_eq h3
    have h4 : s = g.2.2 := Nat.eq_of_beq_eq_true h4
    obtain ⟨h6, rfl⟩ := ptrAt_eq h5
    cases hx with
    | sl _ _ _ _ _ _ c z cap hp =>
      refine ⟨.pointer (some ⟨c, o + i * s, none⟩), ?_, .ptr _ _ _ _ hp⟩
      have hlt : (0 : Int) ≤ (i : Int) ∧ (i : Int) < (n : Int) := by omega
      unfold Instr.indexAt
      simp only [asIntOf, Sem.run_bind, Sem.run_pure, Result.andThen_ok, run_underlying hu]
      rw [if_pos hlt]
      simp only [Sem.run_bind, tAgg_size hs, Result.andThen_ok, Sem.run_pure, Int.toNat_natCast, Addr.add_lit', h4]
  · rw [hg] at h
    obtain ⟨b, o, rfl, h3⟩ := avPtr_eqO (show avPtr x none _ = some v from h)
    obtain ⟨h6, rfl⟩ := ptrAt_eq h3
    cases hx with
    | ptr _ _ c z hp =>
      refine ⟨.pointer (some ⟨c, o + i * g.2.2, none⟩), ?_, .ptr _ _ _ _ hp⟩
      have hlt : (0 : Int) ≤ (i : Int) ∧ (i : Int) < (g.2.1 : Int) := by omega
      have hsu : (Instr.sureAddr (.pointer (some ⟨c, o, none⟩))).run P w = .ok ⟨c, o, none⟩ w := rfl
      unfold Instr.indexAt
      simp only [asIntOf, Sem.run_bind, Sem.run_pure, Result.andThen_ok, run_underlying hu, hsu]
      rw [if_pos hlt]
      simp only [Sem.run_bind, tAgg_size hs, Result.andThen_ok, Sem.run_pure, Int.toNat_natCast, Addr.add_lit']
theorem byte_at (s : ByteArray) (i : Nat) (h : i < s.size) : (s[i].toNat : Nat) = strAt s.size (natOf s.data.toList) i := by
  have := natOf_get s.data.toList i (by simpa using h)
  unfold strAt
  rw [show s.size = s.data.toList.length by simp, ← this]
  rfl
theorem index_sound {t : TypeId} {x ix : AV} {cx cix : Value} (hx : VR π x cx) (hix : VR π ix cix) (h : indexA P t x ix = some v) : ∃ cv, (Instr.index t cx cix).run P w = .ok cv w ∧ VR π v cv := by
  obtain ⟨i, h2, h0⟩ := oo_eq h
  obtain ⟨k, rfl⟩ := intN_eq h2
  rw [hix.int_inv]
  cases hb : isStr P t with
  | true =>
    rw [hb] at h0
    obtain ⟨n, u, rfl, h3⟩ := avStr_eqO (show avStr x none _ = some v from h0)
    obtain ⟨h4, h5⟩ := ob_eq h3
    have h4 : i < n := by simpa [Nat.blt_eq] using h4
    rw [fN_eq] at h5; cases h5
    have hu : P.underlying t = some .string := by
      unfold isStr at hb; split at hb
      · assumption
      · cases hb
    cases hx with
    | str s =>
      refine ⟨.int .u8 (s[i].toNat : Int), ?_, ?_⟩
      · unfold Instr.index
        simp only [asIntOf, Sem.run_bind, Sem.run_pure, Result.andThen_ok, run_underlying hu]
        rw [if_pos (by omega)]
        have : s[(i : Int).toNat]? = some s[i] := by rw [Int.toNat_natCast]; exact getElem?_pos s i h4
        rw [this]; rfl
      · rw [← byte_at s i h4]; exact .int _ _
  | false =>
    rw [hb] at h0
    obtain ⟨⟨n, e, s⟩, h3, h4⟩ := oo_eq (show oo (arrT P t) none _ = some v from h0)
    obtain ⟨l, rfl, h5⟩ := avAgg_eqO h4
    obtain ⟨h6, h7⟩ := ob_eq h5
    have h6 : i < n := by simpa [Nat.blt_eq] using h6
    unfold arrT at h3
    split at h3
    · rename_i n' e' hu
      split at h3
      · rename_i g s' hs
        cases h3
        cases hx with
        | agg _ cs hl =>
          obtain ⟨cv, k1, k2⟩ := partA_sound (P := P) (w := w) hl h7
          refine ⟨cv, ?_, k2⟩
          unfold Instr.index
          simp only [asIntOf, Sem.run_bind, Sem.run_pure, Result.andThen_ok, run_underlying hu]
          rw [if_pos (by omega)]
          simp only [Sem.run_bind, tAgg_size hs, Result.andThen_ok, Int.toNat_natCast]
          exact k1
      · cases h3
    · cases h3

/-! ### Cuts -/
theorem optN_none {d n : Nat} (h : optN none d = some n) : n = d := by cases h; rfl
theorem optN_some {x : AV} {d n : Nat} (h : optN (some x) d = some n) : ∃ k, x = .int k n := by
  unfold optN at h
  split at h
  · rename_i h1; cases h1
  · rename_i k m h1; cases h; cases h1; exact ⟨_, rfl⟩
  · cases h
/-- An operand that may be none. -/
inductive OR1 (π : Pi) : Option AV → Option Value → Prop where
  | none : OR1 π none none
  | some (v : AV) (v' : Value) (h : VR π v v') : OR1 π (some v) (some v')
theorem bound_run {k : IntKind} {n y : Nat} {code : BoundsCode} (h : n ≤ y) : (Instr.sliceBound (.int k (n : Int)) y code).run P w = .ok n w := by
  unfold Instr.sliceBound
  simp only [asIntOf, Sem.run_bind, Sem.run_pure, Result.andThen_ok]
  rw [if_pos (by omega)]
  simp
theorem bounds_run2 {sl : Bool} {len cap l h : Nat} {lo hi : Option AV} {lo' hi' : Option Value} (h1 : OR1 π lo lo') (h2 : OR1 π hi hi') (e1 : optN lo 0 = some l) (e2 : optN hi len = some h) (hl : l ≤ h) (hc : h ≤ cap) : (Instr.sliceBounds sl len cap lo' hi' none).run P w = .ok (l, h, cap) w := by
  unfold Instr.sliceBounds
  simp only [Sem.run_bind, Sem.run_pure, Result.andThen_ok]
  cases h2 with
  | none =>
    have := optN_none e2; subst this
    cases h1 with
    | none => have := optN_none e1; subst this; simp [bound_run (P := P) (w := w) hc]
    | some v v' hv =>
      obtain ⟨k, rfl⟩ := optN_some e1
      rw [hv.int_inv]
      simp [bound_run (P := P) (w := w) hl, bound_run (P := P) (w := w) hc]
  | some u u' hu =>
    obtain ⟨k, rfl⟩ := optN_some e2
    rw [hu.int_inv]
    simp only [bound_run (P := P) (w := w) hc, Result.andThen_ok]
    cases h1 with
    | none => have := optN_none e1; subst this; simp [bound_run (P := P) (w := w) hc]
    | some v v' hv =>
      obtain ⟨k, rfl⟩ := optN_some e1
      rw [hv.int_inv]
      simp [bound_run (P := P) (w := w) hl, bound_run (P := P) (w := w) hc]
theorem bounds_run3 {sl : Bool} {len cap l h m : Nat} {lo hi : Option AV} {lo' hi' : Option Value} {mx : AV} {mx' : Value} (h1 : OR1 π lo lo') (h2 : OR1 π hi hi') (hi0 : hi ≠ none) (h3 : VR π mx mx') (e1 : optN lo 0 = some l) (e2 : optN hi len = some h) (e3 : intN mx = some m) (hl : l ≤ h) (hc : h ≤ m) (hm : m ≤ cap) :
    (Instr.sliceBounds sl len cap lo' hi' (some mx')).run P w = .ok (l, h, m) w := by
  obtain ⟨k, rfl⟩ := intN_eq e3
  rw [h3.int_inv]
  unfold Instr.sliceBounds
  simp only [Sem.run_bind, Sem.run_pure, Result.andThen_ok, bound_run (P := P) (w := w) hm]
  cases h2 with
  | none => exact absurd rfl hi0
  | some u u' hu =>
    obtain ⟨k, rfl⟩ := optN_some e2
    rw [hu.int_inv]
    simp only [bound_run (P := P) (w := w) hc, Result.andThen_ok]
    cases h1 with
    | none => have := optN_none e1; subst this; simp [bound_run (P := P) (w := w) hc]
    | some v v' hv =>
      obtain ⟨k, rfl⟩ := optN_some e1
      rw [hv.int_inv]
      simp [bound_run (P := P) (w := w) hl, bound_run (P := P) (w := w) hc]
theorem optA_sound (hH : HRel π B H w) (hR : RR π r a.tmps) {x : Option Operand} {o : Option AV} (h : optA r x = some o) : OR1 π o (x.map a.eval) := by
  cases x with
  | none => cases h; exact .none
  | some x =>
    simp only [optA, Option.map_eq_some_iff] at h
    obtain ⟨u, h1, rfl⟩ := h
    exact .some _ _ (opnd_sound hH hR h1)
/-- A cut of cells: what it is. -/
theorem cutSl_inv {b o n lo s : Nat} {ex : Bool} {l h m : Option AV} (e : cutSl b o n lo ex s l h m = some v) : ∃ l' h', optN l 0 = some l' ∧ optN h n = some h' ∧ l' ≤ h' ∧ h' ≤ lo ∧
    ((m = none ∧ (l' = 0 ∧ v = .sl b o h' lo ex s ∨ 0 < l' ∧ l' < lo ∧ v = .sl b (o + l' * s) (h' - l') (lo - l') ex s ∨ l' = lo ∧ ex = true ∧ v = .sl b o (h' - l') (lo - l') ex s ∨ l' = lo ∧ v = .slz)) ∨
     (∃ mx m', m = some mx ∧ intN mx = some m' ∧ h' ≤ m' ∧ m' ≤ lo ∧ (l' = m' ∧ v = .sl b o (h' - l') (m' - l') true s ∨ l' ≠ m' ∧ v = .sl b (o + l' * s) (h' - l') (m' - l') true s))) := by
  unfold cutSl at e
  split at e
  · rename_i l' h' hl hh
    split at e
    · cases hb : (Nat.ble l' h' && Nat.ble h' lo) with
      | false => rw [hb] at e; cases e
      | true =>
        rw [hb, cond_true] at e
        simp only [Bool.and_eq_true, Nat.ble_eq] at hb
        refine ⟨l', h', hl, hh, hb.1, hb.2, .inl ⟨rfl, ?_⟩⟩
        cases h0 : Nat.beq l' 0 with
        | true =>
          rw [h0, cond_true] at e
          exact .inl ⟨Nat.eq_of_beq_eq_true h0, (Option.some.inj e).symm⟩
        | false =>
          rw [h0, cond_false] at e
          have h0' : l' ≠ 0 := fun k => by subst k; simp at h0
          cases h1 : Nat.blt l' lo with
          | true =>
            rw [h1, cond_true] at e
            exact .inr (.inl ⟨by omega, by simpa [Nat.blt_eq] using h1, (Option.some.inj e).symm⟩)
          | false =>
            rw [h1, cond_false] at e
            have h1' : l' = lo := by
              have : ¬ l' < lo := fun k => by
                have : Nat.blt l' lo = true := by simpa [Nat.blt_eq] using k
                rw [this] at h1; cases h1
              omega
            cases ex with
            | true => exact .inr (.inr (.inl ⟨h1', rfl, (Option.some.inj e).symm⟩))
            | false => exact .inr (.inr (.inr ⟨h1', (Option.some.inj e).symm⟩))
    · rename_i mx
      split at e
      · rename_i m' hm
        cases hb : (Nat.ble l' h' && Nat.ble h' m' && Nat.ble m' lo) with
        | false => rw [hb] at e; cases e
        | true =>
          rw [hb, cond_true] at e
          simp only [Bool.and_eq_true, Nat.ble_eq] at hb
          refine ⟨l', h', hl, hh, hb.1.1, by omega, .inr ⟨mx, m', rfl, hm, hb.1.2, hb.2, ?_⟩⟩
          cases h0 : Nat.beq l' m' with
          | true =>
            rw [h0, cond_true] at e
            exact .inl ⟨Nat.eq_of_beq_eq_true h0, (Option.some.inj e).symm⟩
          | false =>
            rw [h0, cond_false] at e
            have h0' : l' ≠ m' := fun k => by subst k; simp at h0
            refine .inr ⟨h0', ?_⟩
            rw [← Option.some.inj e]
            cases h1 : Nat.beq l' 0 with
            | true => have := Nat.eq_of_beq_eq_true h1; subst this; simp
            | false => rfl
      · cases e
  · cases e
/-- A cut of real cells. -/
theorem cut_sound {b c z o n lo s cap : Nat} {ex : Bool} (hp : π b = some (c, z)) (k1 : lo ≤ cap) (k2 : ex = true → cap = lo) (k3 : o + cap * s ≤ z) (k4 : cap < big63) {l h m : Option AV} {l' h' m' : Option Value} (hl : OR1 π l l') (hh : OR1 π h h') (hm : OR1 π m m') (hmh : m ≠ none → h ≠ none) (sl : Bool)
    (e : cutSl b o n lo ex s l h m = some v) : ∃ i j k, (Instr.sliceBounds sl n cap l' h' m').run P w = .ok (i, j, k) w ∧ VR π v (.slice (some (if k = i then ⟨c, o, none⟩ else (⟨c, o, none⟩ : Addr).add (i * s))) (j - i) (k - i)) := by
  obtain ⟨i, j, e1, e2, h1, h2, h3⟩ := cutSl_inv e
  have mul_sub : ∀ x y : Nat, y ≤ x → x * s = (x - y) * s + y * s := fun x y hxy => by rw [← Nat.add_mul, Nat.sub_add_cancel hxy]
  rcases h3 with ⟨rfl, h3⟩ | ⟨mx, m2, rfl, e3, h4, h5, h3⟩
  · cases hm with
    | none =>
      refine ⟨i, j, cap, bounds_run2 (P := P) (w := w) hl hh e1 e2 h1 (by omega), ?_⟩
      rcases h3 with ⟨rfl, rfl⟩ | ⟨i0, i1, rfl⟩ | ⟨i0, rfl, rfl⟩ | ⟨i0, rfl⟩
      · rw [show (if cap = 0 then (⟨c, o, none⟩ : Addr) else (⟨c, o, none⟩ : Addr).add (0 * s)) = ⟨c, o, none⟩ by split <;> simp [Addr.add]]
        exact .sl _ _ _ _ _ _ _ _ _ hp h2 k1 k2 k3 k4
      · rw [if_neg (by omega), Addr.add_lit']
        refine .sl _ _ _ _ _ _ _ _ _ hp (by omega) (by omega) (fun he => by rw [k2 he]) ?_ (by omega)
        have := mul_sub cap i (by omega); omega
      · have := k2 rfl
        rw [if_pos (by omega)]
        refine .sl _ _ _ _ _ _ _ _ _ hp (by omega) (by omega) (fun he => by omega) ?_ (by omega)
        have := mul_sub cap i (by omega); omega
      · have hj : j = i := by omega
        rw [hj, Nat.sub_self]
        split
        · exact .slz _ _
        · exact .slz _ _
  · cases hm with
    | some mx mx' hmx =>
      refine ⟨i, j, m2, bounds_run3 (P := P) (w := w) hl hh (hmh (by simp)) hmx e1 e2 e3 h1 h4 (by omega), ?_⟩
      have hms := mul_sub cap m2 (by omega)
      have hmi := mul_sub m2 i (by omega)
      rcases h3 with ⟨i0, rfl⟩ | ⟨i0, rfl⟩
      · rw [if_pos (by omega)]
        exact .sl _ _ _ _ _ _ _ _ _ hp (by omega) (Nat.le_refl _) (fun _ => rfl) (by omega) (by omega)
      · rw [if_neg (by omega), Addr.add_lit']
        exact .sl _ _ _ _ _ _ _ _ _ hp (by omega) (Nat.le_refl _) (fun _ => rfl) (by omega) (by omega)
theorem okHM_ne {h m : Option AV} (e : okHM h m = true) : m ≠ none → h ≠ none := by
  intro hm
  cases m with
  | none => exact absurd rfl hm
  | some m => cases h with
    | none => cases e
    | some h => simp
theorem extract_nat (s : ByteArray) (l h : Nat) (hl : l ≤ h) (hh : h ≤ s.size) : VR π (strCut s.size (natOf s.data.toList) l h) (.string (s.extract l h)) := by
  have h1 : (s.extract l h).size = h - l := by simp; omega
  have h2 : natOf (s.extract l h).data.toList = natOf s.data.toList / 256 ^ (s.size - h) % 256 ^ (h - l) := by
    have : (s.extract l h).data.toList = (s.data.toList.take h).drop l := by
      rw [ByteArray.data_extract, Array.toList_extract, List.extract_eq_take_drop]
      rw [List.drop_take]
    rw [this, natOf_drop, natOf_take, List.length_take]
    have hsz : s.data.toList.length = s.size := by simp
    rw [hsz, Nat.min_eq_left hh]
  unfold strCut
  rw [← h2]
  have := VR.str (π := π) (s.extract l h)
  rwa [h1] at this
theorem fits_le (hH : HRel π B H w) {b n c z : Nat} (h : fits H b n = true) (hp : π b = some (c, z)) : n ≤ z := by
  unfold fits at h
  split at h
  · rename_i hb
    obtain ⟨c', arr, fz, h1, h2, h3, _⟩ := hH.cells hb
    rw [hp] at h1; cases h1
    have := Nat.le_of_ble_eq_true h; omega
  · cases h
theorem slice_sound (hH : HRel π B H w) {t : TypeId} {x : AV} {cx : Value} {l h m : Option AV} {l' h' m' : Option Value} (hx : VR π x cx) (hl : OR1 π l l') (hh : OR1 π h h') (hm : OR1 π m m') (e : sliceA P t x l h m H = some v) : ∃ cv, (Instr.sliceAt t cx l' h' m').run P w = .ok cv w ∧ VR π v cv := by
  obtain ⟨hk, e'⟩ := ob_eq e
  clear e
  have e := e'
  clear e'
  have hmh := okHM_ne hk
  unfold Instr.sliceAt
  split at e
  · rename_i n u hu
    split at e
    · rename_i i j hi hj
      cases hb : (Nat.ble i j && Nat.ble j n) with
      | false => rw [hb] at e; cases e
      | true =>
        rw [hb, cond_true] at e; cases e
        simp only [Bool.and_eq_true, Nat.ble_eq] at hb
        cases hx with
        | str s =>
          cases hm
          refine ⟨.string (s.extract i j), ?_, extract_nat s i j hb.1 hb.2⟩
          simp only [Sem.run_bind, run_underlying hu, Result.andThen_ok]
          unfold Instr.slice
          simp only [Sem.run_bind, run_underlying hu, Result.andThen_ok, Option.isSome_none, Bool.false_eq_true, if_false]
          simp [bounds_run2 (P := P) (w := w) hl hh hi hj hb.1 hb.2]
    · cases e
  · rename_i el b o n lo ex s hu
    split at e
    · rename_i g s' hs
      cases hb : Nat.beq s s' with
      | false => rw [hb] at e; cases e
      | true =>
        rw [hb, cond_true] at e
        have := Nat.eq_of_beq_eq_true hb; subst this
        cases hx with
        | sl _ _ _ _ _ _ c z cap hp h1 h2 h3 h4 h5 =>
          obtain ⟨i, j, k, r1, r2⟩ := cut_sound (P := P) (w := w) hp h2 h3 h4 h5 hl hh hm hmh true e
          refine ⟨_, ?_, r2⟩
          simp only [Sem.run_bind, run_underlying hu, Result.andThen_ok]
          unfold Instr.slice
          simp only [Sem.run_bind, run_underlying hu, Result.andThen_ok, r1, tAgg_size hs, Sem.run_pure]
          split <;> rfl
    · cases e
  · rename_i el hu
    split at e
    · rename_i gs e1 e2 e3 hsl
      cases e
      cases hx
      refine ⟨.slice none 0 0, ?_, .nils⟩
      simp only [Sem.run_bind, run_underlying hu, Result.andThen_ok]
      have hb : (Instr.sliceBounds true 0 0 l' h' m').run P w = .ok (0, 0, 0) w := by
        cases hm with
        | none => exact bounds_run2 (P := P) (w := w) hl hh e1 e2 (Nat.le_refl _) (Nat.le_refl _)
        | some mx mx' hmx =>
          obtain ⟨k, rfl⟩ := optN_some e3
          exact bounds_run3 (P := P) (w := w) hl hh (hmh (by simp)) hmx e1 e2 rfl (Nat.le_refl _) (Nat.le_refl _) (Nat.le_refl _)
      obtain ⟨g, s⟩ := gs
      unfold Instr.slice
      simp only [Sem.run_bind, run_underlying hu, Result.andThen_ok, hb, tAgg_size hsl, Sem.run_pure]
      rfl
    · cases e
  · rename_i el hu
    split at e
    · rename_i gs e1 e2 hsl
      cases e
      obtain ⟨g, s⟩ := gs
      cases hx with
      | slz ad cap =>
        cases hm
        have hb := bounds_run2 (P := P) (w := w) (sl := true) (cap := cap) hl hh e1 e2 (Nat.le_refl _) (Nat.zero_le _)
        refine ⟨.slice (if cap = 0 then some ad else (some ad).map (·.add (0 * s))) 0 cap, ?_, ?_⟩
        · simp only [Sem.run_bind, run_underlying hu, Result.andThen_ok]
          unfold Instr.slice
          simp only [Sem.run_bind, run_underlying hu, Result.andThen_ok, hb, tAgg_size hsl, Sem.run_pure, Nat.sub_zero]
        · split <;> exact .slz _ _
    · cases e
  · rename_i n el b o hu
    split at e
    · rename_i g s hs
      cases hb : (fits H b (o + n * s) && Nat.blt n big63) with
      | false => rw [hb] at e; cases e
      | true =>
        rw [hb, cond_true] at e
        simp only [Bool.and_eq_true, Nat.blt_eq] at hb
        cases hx with
        | ptr _ _ c z hp =>
          have hsu : (Instr.sureAddr (.pointer (some ⟨c, o, none⟩))).run P w = .ok ⟨c, o, none⟩ w := rfl
          obtain ⟨i, j, k, r1, r2⟩ := cut_sound (P := P) (w := w) hp (Nat.le_refl n) (fun _ => rfl) (fits_le hH hb.1 hp) hb.2 hl hh hm hmh false e
          refine ⟨_, ?_, r2⟩
          simp only [Sem.run_bind, run_underlying hu, Result.andThen_ok, hsu, r1, tAgg_size hs, Sem.run_pure]
    · cases e
  · rename_i el b o hu
    split at e
    · rename_i n el2 hu2
      split at e
      · rename_i g s hs
        cases hb : (fits H b (o + n * s) && Nat.blt n big63) with
        | false => rw [hb] at e; cases e
        | true =>
          rw [hb, cond_true] at e
          simp only [Bool.and_eq_true, Nat.blt_eq] at hb
          cases hx with
          | ptr _ _ c z hp =>
            obtain ⟨i, j, k, r1, r2⟩ := cut_sound (P := P) (w := w) hp (Nat.le_refl n) (fun _ => rfl) (fits_le hH hb.1 hp) hb.2 hl hh hm hmh false e
            refine ⟨_, ?_, r2⟩
            simp only [Sem.run_bind, run_underlying hu, Result.andThen_ok]
            unfold Instr.slice
            simp only [Sem.run_bind, run_underlying hu, run_underlying hu2, Result.andThen_ok, asAddr, Sem.run_pure, r1, tAgg_size hs]
      · cases e
    · cases e
  · cases e
end
end Go.Proofs.YtmoejaloachlkaaGreatDoor.Ev
