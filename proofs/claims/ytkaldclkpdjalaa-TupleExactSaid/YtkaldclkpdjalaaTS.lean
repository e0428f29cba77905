/- Arenas of strings, said by what each number holds. -/
import Derived.Test.YtkaldclkpdjalaaAS
namespace Go.Proofs.Ytkaldclkpdjalaa
open Go.RowKit

def encS (vi : Nat → Option ByteArray) : Nat → Option (List Value) := fun m => (vi m).map fun x => [.string x]
def TS (w : World) (base b last : Nat) (count : Int) (vi : Nat → Option ByteArray) : Prop := AS.Arn w base b last count (encS vi)
def gs (vi : Nat → Option ByteArray) (id : Int) : Option ByteArray := if 1 ≤ id then vi (id - 1).toNat else none
def us (vi : Nat → Option ByteArray) (id : Int) (x : Option ByteArray) : Nat → Option ByteArray := fun k => if k = (id - 1).toNat then x else vi k

theorem encS_none : encS (fun _ => none) = fun _ => none := rfl
theorem upd_encS (vi : Nat → Option ByteArray) (id : Int) (x : Option ByteArray) : upd (encS vi) (id - 1).toNat (x.map fun x => [.string x]) = encS (us vi id x) := by
  funext k
  unfold upd encS us
  by_cases h : k = (id - 1).toNat
  · rw [if_pos h, if_pos h]
  · rw [if_neg h, if_neg h]

theorem new_s (w : World) (base : Nat) (hb : base ≤ w.heap.size) :
    Calls Try.prog 8 #[] w fun e w' => e = .returned (.pointer (some ⟨w.heap.size, 0, none⟩)) ∧ TS w' base w.heap.size 0 0 (fun _ => none) ∧ TF base AS.tags w w' :=
  AS.new_any w base hb

theorem put_s {w : World} {base b last : Nat} {count : Int} {vi : Nat → Option ByteArray} (h : TS w base b last count vi) (x : ByteArray)
    (hl : last < 1099511627776) (hc1 : -1099511627776 < count) (hc2 : count < 1099511627776) (hbase : base ≤ w.heap.size) :
    Calls Try.prog 11 #[.pointer (some ⟨b, 0, none⟩), .string x] w fun e w' => e = .returned (.int .i64 ((last : Int) + 1)) ∧
      TS w' base b (last + 1) (count + 1) (us vi ((last : Int) + 1) (some x)) ∧ TF base AS.tags w w' := by
  refine (AS.put_any h x hl hc1 hc2 hbase).mono ?_
  rintro e w' ⟨h1, h2, h3⟩
  have := upd_encS vi ((last : Int) + 1) (some x)
  rw [show ((last : Int) + 1 - 1).toNat = last by omega] at this
  refine ⟨h1, ?_, h3⟩
  unfold TS
  rw [← this]; exact h2

theorem get_s {w : World} {base b last : Nat} {count : Int} {vi : Nat → Option ByteArray} (h : TS w base b last count vi) (id : Int) (hl : last < 1099511627776) :
    Calls Try.prog 36 #[.pointer (some ⟨b, 0, none⟩), .int .i64 id] w fun e w' => e = .returned (.tuple #[.string ((gs vi id).getD ⟨#[]⟩), .bool (gs vi id).isSome]) ∧ w = w' := by
  unfold gs
  by_cases h1 : 1 ≤ id
  · rw [if_pos h1]
    cases hv : vi (id - 1).toNat with
    | none => exact AS.get_none h id hl (.inr (by unfold encS; rw [hv]; rfl))
    | some x => exact AS.get_some h id hl h1 x (by unfold encS; rw [hv]; rfl)
  · rw [if_neg h1]
    exact AS.get_none h id hl (.inl (by omega))

theorem set_s {w : World} {base b last : Nat} {count : Int} {vi : Nat → Option ByteArray} (h : TS w base b last count vi) (id : Int) (x : ByteArray) (hl : last < 1099511627776) :
    Calls Try.prog 35 #[.pointer (some ⟨b, 0, none⟩), .int .i64 id, .string x] w fun e w' => e = .returned (.bool (gs vi id).isSome) ∧
      TS w' base b last count (if (gs vi id).isSome then us vi id (some x) else vi) ∧ TF base AS.tags w w' := by
  cases hv : (gs vi id) with
  | none =>
    have : id < 1 ∨ encS vi (id - 1).toNat = none := by
      unfold gs at hv
      by_cases h1 : 1 ≤ id
      · rw [if_pos h1] at hv; exact .inr (by unfold encS; rw [hv]; rfl)
      · exact .inl (by omega)
    refine (AS.set_none h id x hl this).mono ?_
    rintro e w' ⟨h1, rfl⟩
    exact ⟨h1, h, TF.refl _ _ _⟩
  | some y =>
    have : 1 ≤ id ∧ vi (id - 1).toNat = some y := by
      unfold gs at hv
      by_cases h1 : 1 ≤ id
      · rw [if_pos h1] at hv; exact ⟨h1, hv⟩
      · rw [if_neg h1] at hv; simp at hv
    refine (AS.set_some h id hl this.1 x (by unfold encS; rw [this.2]; rfl)).mono ?_
    rintro e w' ⟨h1, h2, h3⟩
    refine ⟨h1, ?_, h3⟩
    have e1 := upd_encS vi id (some x)
    simp only [Option.isSome_some, if_true]
    unfold TS
    rw [← e1]; exact h2

theorem drop_s {w : World} {base b last : Nat} {count : Int} {vi : Nat → Option ByteArray} (h : TS w base b last count vi) (id : Int) (hl : last < 1099511627776) (hc1 : -1099511627776 < count) (hc2 : count < 1099511627776) :
    Calls Try.prog 17 #[.pointer (some ⟨b, 0, none⟩), .int .i64 id] w fun e w' => e = .returned (.bool (gs vi id).isSome) ∧
      TS w' base b last (if (gs vi id).isSome then count - 1 else count) (if (gs vi id).isSome then us vi id none else vi) ∧ TF base AS.tags w w' := by
  cases hv : (gs vi id) with
  | none =>
    have : id < 1 ∨ encS vi (id - 1).toNat = none := by
      unfold gs at hv
      by_cases h1 : 1 ≤ id
      · rw [if_pos h1] at hv; exact .inr (by unfold encS; rw [hv]; rfl)
      · exact .inl (by omega)
    refine (AS.drop_none h id hl this).mono ?_
    rintro e w' ⟨h1, rfl⟩
    exact ⟨h1, h, TF.refl _ _ _⟩
  | some y =>
    have : 1 ≤ id ∧ vi (id - 1).toNat = some y := by
      unfold gs at hv
      by_cases h1 : 1 ≤ id
      · rw [if_pos h1] at hv; exact ⟨h1, hv⟩
      · rw [if_neg h1] at hv; simp at hv
    refine (AS.drop_some h id hl hc1 hc2 this.1 (by unfold encS; rw [this.2]; rfl)).mono ?_
    rintro e w' ⟨h1, h2, h3⟩
    refine ⟨h1, ?_, h3⟩
    have e1 := upd_encS vi id none
    simp only [Option.isSome_some, if_true]
    unfold TS
    rw [← e1]; exact h2

theorem len_s {w : World} {base b last : Nat} {count : Int} {vi : Nat → Option ByteArray} (h : TS w base b last count vi) :
    Calls Try.prog 20 #[.pointer (some ⟨b, 0, none⟩)] w fun e w' => e = .returned (.int .i64 count) ∧ w = w' := AS.len_any h

theorem gs_us_self (vi : Nat → Option ByteArray) (id : Int) (x : Option ByteArray) (h : 1 ≤ id) : gs (us vi id x) id = x := by
  unfold gs us; rw [if_pos h, if_pos rfl]
theorem gs_us_other (vi : Nat → Option ByteArray) (id id' : Int) (x : Option ByteArray) (h : id' ≠ id) (h1 : 1 ≤ id) : gs (us vi id x) id' = gs vi id' := by
  unfold gs us
  by_cases h2 : 1 ≤ id'
  · rw [if_pos h2, if_pos h2, if_neg (by omega)]
  · rw [if_neg h2, if_neg h2]
theorem gs_pos {vi : Nat → Option ByteArray} {id : Int} {x : ByteArray} (h : gs vi id = some x) : 1 ≤ id := by
  unfold gs at h
  by_cases h2 : 1 ≤ id
  · exact h2
  · rw [if_neg h2] at h; simp at h

end Go.Proofs.Ytkaldclkpdjalaa
