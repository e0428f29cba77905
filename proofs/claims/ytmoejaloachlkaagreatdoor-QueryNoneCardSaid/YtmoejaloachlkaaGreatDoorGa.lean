/- The evaluator's soundness, 32: append, copy. -/
import Derived.Test.YtmoejaloachlkaaGreatDoorFz
namespace Go.Proofs.YtmoejaloachlkaaGreatDoor.Ev
open Go Go.RowKit

section
variable {P : Program} {B : Nat} {π : Pi} {H H' : Hp} {w : World} {v : AV} {as : List AV} {cargs : Array Value} {ts : Array TypeId} {u : TypeId}
/-- What is appended or copied, out of a slice or a text. -/
theorem appended_sound (hH : HRel π B H w) {x : AV} {cx : Value} {e s k : Nat} {l : List (Option AV)} (hx : VR π x cx) (h : appended P e s false x H = some (k, l)) :
    ∃ vs : List Value, vs.length = k * s ∧ VOs π l vs ∧ (∀ v ∈ vs, v.oneCell' = true) ∧ (∀ w' : World, (Builtin.lenOf cx).run P w' = .ok k w') ∧ ∀ m, m ≤ k → ∀ w' : World, w'.heap = w.heap → (Builtin.firstCells s m cx).run P w' = .ok (vs.take (m * s)).toArray w' := by
  unfold appended at h
  rw [cond_false] at h
  cases x <;> first | (cases h; done) | skip
  case nils =>
    cases h
    cases hx
    exact ⟨[], by simp, ⟨rfl, by simp⟩, by simp, fun _ => rfl, fun m hm w' _ => by simp [Builtin.firstCells]⟩
  case slz =>
    cases h
    cases hx with
    | slz a cap =>
      refine ⟨[], by simp, ⟨rfl, by simp⟩, by simp, fun _ => rfl, fun m hm w' _ => ?_⟩
      have : m = 0 := by omega
      subst this
      rw [Builtin.firstCells, Nat.zero_mul]
      rfl
  case sl b o n lo ex s' =>
    simp only at h
    rw [Bool.cond_eq_ite] at h
    split at h
    case isFalse => cases h
    rename_i h1
    have h2 := h
    clear h
    have h1 : s = s' := Nat.eq_of_beq_eq_true h1
    subst h1
    cases hb : H.get b with
    | none => rw [hb] at h2; cases h2
    | some blk =>
      rw [hb] at h2
      cases blk <;> first | (cases h2; done) | skip
      rename_i tr d m e' flo fhi wr sib
      cases h2
      cases hx with
      | sl _ _ _ _ _ _ c z cap hp k1 k2 k3 k4 k5 =>
        have hle : k * s ≤ cap * s := Nat.mul_le_mul_right s (Nat.le_trans k1 k2)
        obtain ⟨vs, q1, q2, q3, q4⟩ := rdo_sound (P := P) (o := o) (cnt := k * s) hH hb hp (by omega)
        exact ⟨vs, q1, q3, q4, fun _ => rfl, fun m hm w' hw => q2 w' hw (m * s) (Nat.mul_le_mul_right s hm)⟩
  case str n v =>
    simp only at h
    obtain ⟨h1, h2⟩ := cond_some h
    have h1 : s = 1 := Nat.eq_of_beq_eq_true h1
    subst h1
    cases h2
    cases hx with
    | str st =>
      refine ⟨(st.data.map fun b => Value.int .u8 b.toNat).toList, by simp, str_cells st, ?_, fun _ => rfl, fun m hm w' _ => ?_⟩
      · intro v hv
        rw [Array.toList_map] at hv
        obtain ⟨b, _, rfl⟩ := List.mem_map.1 hv
        rfl
      · rw [Builtin.firstCells, Sem.run_pure]
        congr 1
        apply Array.ext'
        simp
theorem copy_run (hH : HRel π B H w) (ha : VRs π as cargs.toList) : ORun P B π H w (do let y ← Builtin.copy_ ts u cargs; pure (.value y)) (copyA P ts as H) := by
  unfold copyA
  split
  · rename_i st d x ht
    obtain ⟨cd, vs0, rfl, h1, h2⟩ := arr_cons ha
    cases h2 with
    | cons _ cx _ vs1 h2 h3 =>
    cases h3
    split
    · rename_i e he
      have hu := elemSl_eq he
      split
      · rename_i g sz hg
        have base : ∀ {k : Nat} {new : List (Option AV)}, appended P e sz false x H = some (k, new) → ∃ vs : List Value, vs.length = k * sz ∧ VOs π new vs ∧ (∀ v ∈ vs, v.oneCell' = true) ∧ ∀ bs n cap, cd = .slice bs n cap → (Builtin.copy_ ts u [cd, cx].toArray).run P w = ((match (generalizing := false) bs with
            | some a => storeCells a (vs.take (Nat.min k n * sz))
            | none => pure ()).run P w).andThen fun _ w => .ok (.int .i64 (Nat.min k n)) w := by
          intro k new hap
          obtain ⟨vs, q1, q2, q3, q4, q5⟩ := appended_sound hH h2 hap
          refine ⟨vs, q1, q2, q3, fun bs n cap hcd => ?_⟩
          subst hcd
          unfold Builtin.copy_
          simp only [ht, List.getElem?_toArray, List.getElem?_cons_zero, List.getElem?_cons_succ, Sem.run_bind, run_underlying hu, Result.andThen_ok, q4 w, tAgg_size hg, q5 _ (Nat.min_le_left k n) w rfl]
          cases bs with
          | none => rfl
          | some a => simp only [Sem.run_bind]; rfl
        split
        · rename_i q hap
          obtain ⟨k, new⟩ := q
          obtain ⟨vs, _, _, _, q5⟩ := base hap
          cases h1
          refine OVal.pure hH ?_ (.int _ _)
          rw [q5 none 0 0 rfl]
          rw [show Nat.min k 0 = 0 from Nat.min_zero k]
          rfl
        · rename_i q hap
          obtain ⟨k, new⟩ := q
          obtain ⟨vs, _, _, _, q5⟩ := base hap
          cases h1 with
          | slz a cap =>
            refine OVal.pure hH ?_ (.int _ _)
            rw [q5 (some a) 0 cap rfl]
            rw [show Nat.min k 0 = 0 from Nat.min_zero k, Nat.zero_mul]
            rfl
        · rename_i b o n lo ex sz' k new hap
          obtain ⟨vs, q1, q2, q3, q5⟩ := base hap
          rw [Bool.cond_eq_ite]
          split
          · simp only
            split
            · rename_i h' hst
              cases h1 with
              | sl _ _ _ _ _ _ c z cap hp k1 k2 k3 k4 k5 =>
                obtain ⟨w', r1, r2⟩ := stores_sound (vs := vs.take (Nat.min k n * sz)) P hH hp hst (q2.take _) (fun v hv => q3 v (List.mem_of_mem_take hv))
                refine OVal.mk (cv := .int .i64 (Nat.min k n)) ?_ (.int _ _) r2
                rw [q5 _ n cap rfl]
                simp only [r1, Result.andThen_ok]
            · trivial
          · trivial
        · trivial
      · trivial
    · trivial
  · trivial
end
end Go.Proofs.YtmoejaloachlkaaGreatDoor.Ev
