/- The comparisons of numbers, texts, values: their contracts. They only read. -/
import Derived.Test.YthbabhnbiilimaaGreatDoorProg
import Derived.Test.YthbabhnbiilimaaGreatDoorMsA
namespace Go.Proofs.YthbabhnbiilimaaGreatDoor
open Go.RowKit

theorem cmp_int (w : World) (x y : Int) : Calls Tryz.prog 22 #[.int .i64 x, .int .i64 y] w fun e w' => e = .returned (.int .i64 (cmpI x y)) ∧ w' = w := by
  by_cases h1 : x < y
  · have HG : Hid (cmpI x y = -1) := Lib.hid (by rw [cmpI, if_pos h1])
    go_enter Tryz.func22, Tryz.ntmps22
    go_wp2
    go_ret
    exact ⟨by rw [HG.out]; rfl, rfl⟩
  · by_cases h2 : y < x
    · have HG : Hid (cmpI x y = 1) := Lib.hid (by rw [cmpI, if_neg h1, if_pos h2])
      go_enter Tryz.func22, Tryz.ntmps22
      go_wp2
      go_ret
      exact ⟨by rw [HG.out]; rfl, rfl⟩
    · have HG : Hid (cmpI x y = 0) := Lib.hid (by rw [cmpI, if_neg h1, if_neg h2])
      go_enter Tryz.func22, Tryz.ntmps22
      go_wp2
      go_ret
      exact ⟨by rw [HG.out]; rfl, rfl⟩
theorem cmp_int64 (w : World) (x y : Int) : Calls Tryz.prog 93 #[.int .i64 x, .int .i64 y] w fun e w' => e = .returned (.int .i64 (cmpI x y)) ∧ w' = w := by
  by_cases h1 : x < y
  · have HG : Hid (cmpI x y = -1) := Lib.hid (by rw [cmpI, if_pos h1])
    go_enter Tryz.func93, Tryz.ntmps93
    go_wp2
    go_ret
    exact ⟨by rw [HG.out]; rfl, rfl⟩
  · by_cases h2 : y < x
    · have HG : Hid (cmpI x y = 1) := Lib.hid (by rw [cmpI, if_neg h1, if_pos h2])
      go_enter Tryz.func93, Tryz.ntmps93
      go_wp2
      go_ret
      exact ⟨by rw [HG.out]; rfl, rfl⟩
    · have HG : Hid (cmpI x y = 0) := Lib.hid (by rw [cmpI, if_neg h1, if_neg h2])
      go_enter Tryz.func93, Tryz.ntmps93
      go_wp2
      go_ret
      exact ⟨by rw [HG.out]; rfl, rfl⟩
theorem cmp_text (w : World) (x y : ByteArray) : Calls Tryz.prog 94 #[.string x, .string y] w fun e w' => e = .returned (.int .i64 (cmpT x.toList y.toList)) ∧ w' = w := by
  obtain ⟨a, ha⟩ : ∃ a, Op.bytesLess x.toList y.toList = a := ⟨_, rfl⟩
  obtain ⟨b, hb⟩ : ∃ b, (x.toList == y.toList) = b := ⟨_, rfl⟩
  have hx : (x.toList == x.toList) = true := by simp
  have hy : (y.toList == y.toList) = true := by simp
  have HA := Lib.hid ha
  have HB := Lib.hid hb
  cases a <;> cases b <;>
  · go_enter Tryz.func94, Tryz.ntmps94
    go_wp2
    go_ret
    exact ⟨by rw [cmpT, HA.out, HB.out]; rfl, rfl⟩
theorem bit_any (w : World) (b : Bool) : Calls Tryz.prog 92 #[.bool b] w fun e w' => e = .returned (.int .i64 (bitI b)) ∧ w' = w := by
  cases b <;>
  · go_enter Tryz.func92, Tryz.ntmps92
    go_wp2
    go_ret
    exact ⟨rfl, rfl⟩
def signI (a b : Bool) : Int := if a then -1 else if b then 1 else 0
theorem sign_any (w : World) (a b : Bool) : Calls Tryz.prog 99 #[.bool a, .bool b] w fun e w' => e = .returned (.int .i64 (signI a b)) ∧ w' = w := by
  cases a <;> cases b <;>
  · go_enter Tryz.func99, Tryz.ntmps99
    go_wp2
    go_ret
    exact ⟨rfl, rfl⟩
end Go.Proofs.YthbabhnbiilimaaGreatDoor
