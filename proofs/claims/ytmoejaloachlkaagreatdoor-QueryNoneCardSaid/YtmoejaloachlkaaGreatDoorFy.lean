/- The evaluator's soundness, 30: builtins, the small ones. -/
import Derived.Test.YtmoejaloachlkaaGreatDoorFx
import Derived.Lib.UnsafeStr
namespace Go.Proofs.YtmoejaloachlkaaGreatDoor.Ev
open Go Go.RowKit

section
variable {P : Program} {B : Nat} {π : Pi} {H H' : Hp} {w : World} {v : AV} {as : List AV} {cargs : Array Value} {ts : Array TypeId} {u : TypeId}
theorem arr_cons {x : AV} {l : List AV} (ha : VRs π (x :: l) cargs.toList) : ∃ cx vs, cargs = (cx :: vs).toArray ∧ VR π x cx ∧ VRs π l vs := by
  generalize hc : cargs.toList = cl at ha
  cases ha with
  | cons _ cx _ vs h h' => exact ⟨cx, vs, by apply Array.ext'; rw [hc], h, h'⟩
theorem len_run (hH : HRel π B H w) (ha : VRs π as cargs.toList) : ORun P B π H w (do let y ← Builtin.len_ ts u cargs; pure (.value y)) (lenB P ts as H) := by
  unfold lenB
  cases ht : ts[0]? with
  | none => trivial
  | some t =>
    cases hx : nth as 0 with
    | none => trivial
    | some x =>
      show ORun P B π H w _ (oo (lenA P t x H) (.bad "len") fun n => fN n fun n => .val (.int .i64 (.ofNat n)) H)
      cases hl : lenA P t x H with
      | none => trivial
      | some n =>
        show ORun P B π H w _ (fN n fun n => .val (.int .i64 (.ofNat n)) H)
        rw [fN_eq]
        cases as with
        | nil => cases hx
        | cons y l =>
          have : y = x := by simpa [nth] using hx
          subst this
          obtain ⟨cx, vs, rfl, h1, _⟩ := arr_cons ha
          exact OVal.pure hH (lenA_sound hH ht h1 (by simp) hl) (.int _ _)
theorem cap_run (hH : HRel π B H w) (ha : VRs π as cargs.toList) : ORun P B π H w (do let y ← Builtin.cap_ ts u cargs; pure (.value y)) (builtinB P .cap ts as H) := by
  unfold builtinB
  simp only
  split
  · rename_i t b o n lo ex s l ht
    split
    · rename_i e hu
      rw [Bool.cond_eq_ite]
      split
      · rename_i hex
        obtain ⟨cx, vs, rfl, h1, _⟩ := arr_cons ha
        cases h1 with
        | sl _ _ _ _ _ _ c z cap hp k1 k2 k3 k4 k5 =>
          have := k3 hex
          subst this
          refine OVal.pure hH ?_ (.int _ _)
          unfold Builtin.cap_
          simp only [ht, List.getElem?_toArray, List.getElem?_cons_zero, Sem.run_bind, run_underlying hu, Result.andThen_ok]
          rfl
      · trivial
    · trivial
  · rename_i t l ht
    split
    · rename_i e hu
      obtain ⟨cx, vs, rfl, h1, _⟩ := arr_cons ha
      cases h1
      refine OVal.pure hH ?_ (.int _ _)
      unfold Builtin.cap_
      simp only [ht, List.getElem?_toArray, List.getElem?_cons_zero, Sem.run_bind, run_underlying hu, Result.andThen_ok]
      rfl
    · trivial
  · trivial
theorem max_run (hH : HRel π B H w) (ha : VRs π as cargs.toList) : ORun P B π H w (do let y ← Builtin.max_ ts u cargs; pure (.value y)) (builtinB P .max ts as H) := by
  unfold builtinB
  simp only
  split
  · rename_i x l
    split
    · rename_i y hy
      obtain ⟨cx, vs, rfl, h1, h2⟩ := arr_cons ha
      obtain ⟨cv, k1, k2⟩ := minA_sound (P := P) (w := w) true h1 h2 hy
      exact OVal.pure hH k1 k2
    · trivial
  · trivial
theorem min_run (hH : HRel π B H w) (ha : VRs π as cargs.toList) : ORun P B π H w (do let y ← Builtin.min_ ts u cargs; pure (.value y)) (builtinB P .min ts as H) := by
  unfold builtinB
  simp only
  split
  · rename_i x l
    split
    · rename_i y hy
      obtain ⟨cx, vs, rfl, h1, h2⟩ := arr_cons ha
      obtain ⟨cv, k1, k2⟩ := minA_sound (P := P) (w := w) false h1 h2 hy
      exact OVal.pure hH k1 k2
    · trivial
  · trivial
theorem sliceData_run (hH : HRel π B H w) (ha : VRs π as cargs.toList) : ORun P B π H w (do let y ← Builtin.unsafeSliceData_ ts u cargs; pure (.value y)) (builtinB P .unsafeSliceData ts as H) := by
  unfold builtinB
  simp only
  split
  · obtain ⟨cx, vs, rfl, h1, h2⟩ := arr_cons ha
    cases h2
    cases h1
    exact OVal.pure hH (Lib.run_unsafeSliceData_nil _ ts u 0 0) .nilp
  · rename_i b o n lo ex s
    obtain ⟨cx, vs, rfl, h1, h2⟩ := arr_cons ha
    cases h2
    rw [Bool.cond_eq_ite]
    split
    · rename_i hlo
      have hlo : 0 < lo := by simpa [Nat.blt_eq] using hlo
      cases h1 with
      | sl _ _ _ _ _ _ c z cap hp k1 k2 k3 k4 k5 => exact OVal.pure hH (Lib.run_unsafeSliceData_row _ ts u ⟨c, o, none⟩ n cap (by omega)) (.ptr _ _ _ _ hp)
    · trivial
  · trivial
theorem delete_run (hH : HRel π B H w) (ha : VRs π as cargs.toList) : ORun P B π H w (do let y ← Builtin.delete_ ts u cargs; pure (.value y)) (builtinB P .delete ts as H) := by
  unfold builtinB
  simp only
  split
  · rename_i t m k ht
    split
    · rename_i h' hd
      obtain ⟨cx, vs, rfl, h1, h2⟩ := arr_cons ha
      cases h2 with
      | cons _ ck _ vs' h2 h3 =>
        cases h3
        obtain ⟨w', k1, k2⟩ := mapDel_sound (P := P) (u := u) hH ht h1 h2 hd
        exact OVal.mk k1 (.tup _ _ .nil) k2
    · trivial
  · trivial
theorem zeroCells_VRs {e : TypeId} {z : List AV} (hz : zeroC P e = some z) (n : Nat) : ∃ cz s g, tAgg P e = some (g, s) ∧ (∀ w : World, (zeroValue e).run P w = .ok cz w) ∧ cz.cells.size = s ∧ VRs π (repl z n) (Builtin.zeroCells cz.cells n).toList ∧ (∀ m, ∀ x ∈ (Builtin.zeroCells cz.cells m).toList, x.oneCell' = true) ∧ ∀ m, (Builtin.zeroCells cz.cells m).size = m * s := by
  obtain ⟨za, cz, s, g, k1, k2, k3, k4, k5, k6, k7, k8⟩ := zeroC_run (P := P) (π := π) (w := (default : World)) hz
  have hrun : ∀ w : World, (zeroValue e).run P w = .ok cz w := by
    intro w
    obtain ⟨za', cz', s', g', j1, j2, j3, j4, j5, j6, j7, j8⟩ := zeroC_run (P := P) (π := π) (w := w) hz
    have : cz' = cz := by
      unfold zeroValue typeInfo at k6 j6
      revert k6 j6
      cases hp : P.info? e with
      | none => simp [hp]
      | some i =>
        cases hz0 : i.zero with
        | none => simp [hp, hz0]
        | some z0 => simp [hp, hz0]; intro a b; rw [← a, ← b]
    rw [← this]; exact j6
  have hcs : cz.cells.size = s := by rw [← k4, k8.length]; simp
  have hone := isCell_one k8 k5
  refine ⟨cz, s, g, k3, hrun, hcs, ?_, ?_, ?_⟩
  · unfold Builtin.zeroCells
    rw [Array.toList_map, Array.toList_range]
    rcases Nat.eq_zero_or_pos s with h0 | h0
    · have : z = [] := List.length_eq_zero_iff.1 (by rw [k4]; exact h0)
      subst this
      rw [repl_nil, hcs, h0, Nat.mul_zero]
      exact .nil
    · exact repl_range z cz.cells n k8 (by rw [k4]; exact h0)
  · intro m x hx
    unfold Builtin.zeroCells at hx
    rw [Array.toList_map, Array.toList_range] at hx
    obtain ⟨i, hi, rfl⟩ := List.mem_map.1 hx
    have hi : i < m * cz.cells.size := by simpa using hi
    have h0 : 0 < cz.cells.size := by
      rcases Nat.eq_zero_or_pos cz.cells.size with h | h
      · rw [h] at hi; omega
      · exact h
    have hlt : i % cz.cells.size < cz.cells.size := Nat.mod_lt _ h0
    refine hone _ ?_
    rw [getElem!_pos cz.cells _ hlt]
    simp
  · intro m
    unfold Builtin.zeroCells
    simp [hcs]
theorem clear_run (hH : HRel π B H w) (ha : VRs π as cargs.toList) : ORun P B π H w (do let y ← Builtin.clear_ ts u cargs; pure (.value y)) (builtinB P .clear ts as H) := by
  unfold builtinB
  simp only
  split
  · rename_i t x l ht
    obtain ⟨cx, vs, rfl, h1, h2⟩ := arr_cons ha
    split
    · rename_i kt vt hu
      cases h1
      refine ⟨π, w, undef, .value (.tuple #[]), ?_, .inl rfl, .tup _ _ .nil, .refl hH⟩
      unfold Builtin.clear_
      simp only [ht, List.getElem?_toArray, List.getElem?_cons_zero, Sem.run_bind, run_underlying hu, Result.andThen_ok]
      rfl
    · rename_i e hu
      cases h1
      refine ⟨π, w, undef, .value (.tuple #[]), ?_, .inl rfl, .tup _ _ .nil, .refl hH⟩
      unfold Builtin.clear_
      simp only [ht, List.getElem?_toArray, List.getElem?_cons_zero, Sem.run_bind, run_underlying hu, Result.andThen_ok]
      rfl
    · rename_i e hu
      cases h1
      refine ⟨π, w, undef, .value (.tuple #[]), ?_, .inl rfl, .tup _ _ .nil, .refl hH⟩
      unfold Builtin.clear_
      simp only [ht, List.getElem?_toArray, List.getElem?_cons_zero, Sem.run_bind, run_underlying hu, Result.andThen_ok]
      rfl
    · rename_i b kt vt hu
      split
      · rename_i es c hb
        obtain ⟨m, z, l, es', a1, a2, a3, a4, a5, a6, a7, a8⟩ := hH.map hb
        cases h1 with
        | map _ m' z' hp =>
          rw [hp] at a1; cases a1
          obtain ⟨q1, q2⟩ := objSet_step (P := P) (x' := .map [] c) (o' := .map #[] c) hH hb rfl rfl hp a2 (by simp) (by
            intro l' k' e
            cases e
            exact ⟨l, c, rfl, Nat.le_refl _, fun _ e' he' => by simp at he'⟩) ⟨#[], [], rfl, .refl _, .nil, by simp, by simp, by simp, by simp⟩
          refine ⟨π, _, undef, .value (.tuple #[]), ?_, .inl rfl, .tup _ _ .nil, q2⟩
          unfold Builtin.clear_
          simp only [ht, List.getElem?_toArray, List.getElem?_cons_zero, Sem.run_bind, run_underlying hu, Result.andThen_ok, run_getObj_map a2, q1]
          rfl
      · trivial
    · rename_i b o n lo ex s e hu
      cases n with
      | zero =>
        cases h1
        refine ⟨π, w, undef, .value (.tuple #[]), ?_, .inl rfl, .tup _ _ .nil, .refl hH⟩
        unfold Builtin.clear_
        simp only [ht, List.getElem?_toArray, List.getElem?_cons_zero, Sem.run_bind, run_underlying hu, Result.andThen_ok]
        rfl
      | succ n =>
        simp only
        split
        · rename_i z g s' hz hg
          rw [Bool.cond_eq_ite]
          split
          · split
            · rename_i h' hst
              obtain ⟨cz, s2, g2, k1, k2, k3, k4, k5, k6⟩ := zeroCells_VRs (P := P) (π := π) hz (n + 1)
              cases h1 with
              | sl _ _ _ _ _ _ c z' cap hp q1 q2 q3 q4 q5 =>
                obtain ⟨w', r1, r2⟩ := stores_sound P hH hp hst (VOs.of k4) (k5 (n + 1))
                refine ⟨π, w', undef, .value (.tuple #[]), ?_, .inl rfl, .tup _ _ .nil, r2⟩
                unfold Builtin.clear_
                simp only [ht, List.getElem?_toArray, List.getElem?_cons_zero, Sem.run_bind, run_underlying hu, Result.andThen_ok, k2, r1]
                rfl
            · trivial
          · trivial
        · trivial
    · trivial
  · trivial
end
end Go.Proofs.YtmoejaloachlkaaGreatDoor.Ev
