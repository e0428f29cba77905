/- Arenas of ints, said by what each number holds. -/
import Derived.Test.YtkaldclkpdjalaaAI
namespace Go.Proofs.Ytkaldclkpdjalaa
open Go.RowKit

def encI (vi : Nat → Option Int) : Nat → Option (List Value) := fun m => (vi m).map fun x => [.int .i64 x]
def TI (w : World) (base b last : Nat) (count : Int) (vi : Nat → Option Int) : Prop := AI.Arn w base b last count (encI vi)
def gi (vi : Nat → Option Int) (id : Int) : Option Int := if 1 ≤ id then vi (id - 1).toNat else none
def ui (vi : Nat → Option Int) (id : Int) (x : Option Int) : Nat → Option Int := fun k => if k = (id - 1).toNat then x else vi k

theorem encI_none : encI (fun _ => none) = fun _ => none := rfl
theorem upd_encI (vi : Nat → Option Int) (id : Int) (x : Option Int) : upd (encI vi) (id - 1).toNat (x.map fun x => [.int .i64 x]) = encI (ui vi id x) := by
  funext k
  unfold upd encI ui
  by_cases h : k = (id - 1).toNat
  · rw [if_pos h, if_pos h]
  · rw [if_neg h, if_neg h]

theorem new_i (w : World) (base : Nat) (hb : base ≤ w.heap.size) :
    Calls Try.prog 24 #[] w fun e w' => e = .returned (.pointer (some ⟨w.heap.size, 0, none⟩)) ∧ TI w' base w.heap.size 0 0 (fun _ => none) ∧ TF base AI.tags w w' :=
  AI.new_any w base hb

theorem put_i {w : World} {base b last : Nat} {count : Int} {vi : Nat → Option Int} (h : TI w base b last count vi) (x : Int)
    (hl : last < 1099511627776) (hc1 : -1099511627776 < count) (hc2 : count < 1099511627776) (hbase : base ≤ w.heap.size) :
    Calls Try.prog 25 #[.pointer (some ⟨b, 0, none⟩), .int .i64 x] w fun e w' => e = .returned (.int .i64 ((last : Int) + 1)) ∧
      TI w' base b (last + 1) (count + 1) (ui vi ((last : Int) + 1) (some x)) ∧ TF base AI.tags w w' := by
  refine (AI.put_any h x hl hc1 hc2 hbase).mono ?_
  rintro e w' ⟨h1, h2, h3⟩
  have := upd_encI vi ((last : Int) + 1) (some x)
  rw [show ((last : Int) + 1 - 1).toNat = last by omega] at this
  refine ⟨h1, ?_, h3⟩
  unfold TI
  rw [← this]; exact h2

theorem get_i {w : World} {base b last : Nat} {count : Int} {vi : Nat → Option Int} (h : TI w base b last count vi) (id : Int) (hl : last < 1099511627776) :
    Calls Try.prog 26 #[.pointer (some ⟨b, 0, none⟩), .int .i64 id] w fun e w' => e = .returned (.tuple #[.int .i64 ((gi vi id).getD 0), .bool (gi vi id).isSome]) ∧ w = w' := by
  unfold gi
  by_cases h1 : 1 ≤ id
  · rw [if_pos h1]
    cases hv : vi (id - 1).toNat with
    | none => exact AI.get_none h id hl (.inr (by unfold encI; rw [hv]; rfl))
    | some x => exact AI.get_some h id hl h1 x (by unfold encI; rw [hv]; rfl)
  · rw [if_neg h1]
    exact AI.get_none h id hl (.inl (by omega))

theorem set_i {w : World} {base b last : Nat} {count : Int} {vi : Nat → Option Int} (h : TI w base b last count vi) (id x : Int) (hl : last < 1099511627776) :
    Calls Try.prog 27 #[.pointer (some ⟨b, 0, none⟩), .int .i64 id, .int .i64 x] w fun e w' => e = .returned (.bool (gi vi id).isSome) ∧
      TI w' base b last count (if (gi vi id).isSome then ui vi id (some x) else vi) ∧ TF base AI.tags w w' := by
  cases hv : (gi vi id) with
  | none =>
    have : id < 1 ∨ encI vi (id - 1).toNat = none := by
      unfold gi at hv
      by_cases h1 : 1 ≤ id
      · rw [if_pos h1] at hv; exact .inr (by unfold encI; rw [hv]; rfl)
      · exact .inl (by omega)
    refine (AI.set_none h id x hl this).mono ?_
    rintro e w' ⟨h1, rfl⟩
    exact ⟨h1, h, TF.refl _ _ _⟩
  | some y =>
    have : 1 ≤ id ∧ vi (id - 1).toNat = some y := by
      unfold gi at hv
      by_cases h1 : 1 ≤ id
      · rw [if_pos h1] at hv; exact ⟨h1, hv⟩
      · rw [if_neg h1] at hv; simp at hv
    refine (AI.set_some h id hl this.1 x (by unfold encI; rw [this.2]; rfl)).mono ?_
    rintro e w' ⟨h1, h2, h3⟩
    refine ⟨h1, ?_, h3⟩
    have e1 := upd_encI vi id (some x)
    simp only [Option.isSome_some, if_true]
    unfold TI
    rw [← e1]; exact h2

theorem drop_i {w : World} {base b last : Nat} {count : Int} {vi : Nat → Option Int} (h : TI w base b last count vi) (id : Int) (hl : last < 1099511627776) (hc1 : -1099511627776 < count) (hc2 : count < 1099511627776) :
    Calls Try.prog 28 #[.pointer (some ⟨b, 0, none⟩), .int .i64 id] w fun e w' => e = .returned (.bool (gi vi id).isSome) ∧
      TI w' base b last (if (gi vi id).isSome then count - 1 else count) (if (gi vi id).isSome then ui vi id none else vi) ∧ TF base AI.tags w w' := by
  cases hv : (gi vi id) with
  | none =>
    have : id < 1 ∨ encI vi (id - 1).toNat = none := by
      unfold gi at hv
      by_cases h1 : 1 ≤ id
      · rw [if_pos h1] at hv; exact .inr (by unfold encI; rw [hv]; rfl)
      · exact .inl (by omega)
    refine (AI.drop_none h id hl this).mono ?_
    rintro e w' ⟨h1, rfl⟩
    exact ⟨h1, h, TF.refl _ _ _⟩
  | some y =>
    have : 1 ≤ id ∧ vi (id - 1).toNat = some y := by
      unfold gi at hv
      by_cases h1 : 1 ≤ id
      · rw [if_pos h1] at hv; exact ⟨h1, hv⟩
      · rw [if_neg h1] at hv; simp at hv
    refine (AI.drop_some h id hl hc1 hc2 this.1 (by unfold encI; rw [this.2]; rfl)).mono ?_
    rintro e w' ⟨h1, h2, h3⟩
    refine ⟨h1, ?_, h3⟩
    have e1 := upd_encI vi id none
    simp only [Option.isSome_some, if_true]
    unfold TI
    rw [← e1]; exact h2

theorem len_i {w : World} {base b last : Nat} {count : Int} {vi : Nat → Option Int} (h : TI w base b last count vi) :
    Calls Try.prog 32 #[.pointer (some ⟨b, 0, none⟩)] w fun e w' => e = .returned (.int .i64 count) ∧ w = w' := AI.len_any h

theorem gi_ui_self (vi : Nat → Option Int) (id : Int) (x : Option Int) (h : 1 ≤ id) : gi (ui vi id x) id = x := by
  unfold gi ui; rw [if_pos h, if_pos rfl]
theorem gi_ui_other (vi : Nat → Option Int) (id id' : Int) (x : Option Int) (h : id' ≠ id) (h1 : 1 ≤ id) : gi (ui vi id x) id' = gi vi id' := by
  unfold gi ui
  by_cases h2 : 1 ≤ id'
  · rw [if_pos h2, if_pos h2, if_neg (by omega)]
  · rw [if_neg h2, if_neg h2]
theorem gi_pos {vi : Nat → Option Int} {id x : Int} (h : gi vi id = some x) : 1 ≤ id := by
  unfold gi at h
  by_cases h2 : 1 ≤ id
  · exact h2
  · rw [if_neg h2] at h; simp at h

end Go.Proofs.Ytkaldclkpdjalaa
