/- Which type bears the name of the listed errors' dynamic type: the search, by pieces. No conditions. -/
import Derived.Test.YthfenjgelbkloaaGreatDoorProg
import Derived.KernelRfl
import Derived.Lay
namespace Go.Proofs.YthfenjgelbkloaaGreatDoor
open Go
namespace Wit
theorem piece {p : Nat → Bool} {a b : Nat} (h : ((List.range' a b).all fun u => !p u) = true) (j : Nat) (h1 : a ≤ j) (h2 : j < a + b) : p j = false := by
  have := List.all_eq_true.1 h j (List.mem_range'_1.2 ⟨h1, h2⟩)
  simpa using this
theorem find_of {p : Nat → Bool} {n k : Nat} (h : ∀ j, j < k → p j = false) (hk : k < n) (h1 : p k = true) : (List.range n).find? p = some k := by
  rw [List.find?_range_eq_some]
  exact ⟨h1, by simp [hk], fun j hj => by simp [h j hj]⟩
set_option maxRecDepth 100000 in
theorem s0 : ((List.range' 0 80).all fun u => !(Tryz.prog.typeName? 3 u == some "*errors.errorString")) = true := by kernel_rfl
set_option maxRecDepth 100000 in
theorem s1 : ((List.range' 80 80).all fun u => !(Tryz.prog.typeName? 3 u == some "*errors.errorString")) = true := by kernel_rfl
set_option maxRecDepth 100000 in
theorem s2 : ((List.range' 160 80).all fun u => !(Tryz.prog.typeName? 3 u == some "*errors.errorString")) = true := by kernel_rfl
set_option maxRecDepth 100000 in
theorem s3 : ((List.range' 240 80).all fun u => !(Tryz.prog.typeName? 3 u == some "*errors.errorString")) = true := by kernel_rfl
set_option maxRecDepth 100000 in
theorem s4 : ((List.range' 320 80).all fun u => !(Tryz.prog.typeName? 3 u == some "*errors.errorString")) = true := by kernel_rfl
set_option maxRecDepth 100000 in
theorem s5 : ((List.range' 400 80).all fun u => !(Tryz.prog.typeName? 3 u == some "*errors.errorString")) = true := by kernel_rfl
set_option maxRecDepth 100000 in
theorem s6 : ((List.range' 480 80).all fun u => !(Tryz.prog.typeName? 3 u == some "*errors.errorString")) = true := by kernel_rfl
set_option maxRecDepth 100000 in
theorem s7 : ((List.range' 560 80).all fun u => !(Tryz.prog.typeName? 3 u == some "*errors.errorString")) = true := by kernel_rfl
set_option maxRecDepth 100000 in
theorem s8 : ((List.range' 640 56).all fun u => !(Tryz.prog.typeName? 3 u == some "*errors.errorString")) = true := by kernel_rfl
theorem sk : (Tryz.prog.typeName? 3 696 == some "*errors.errorString") = true := by kernel_rfl
theorem types : Tryz.prog.types.size = 986 := by kernel_rfl
theorem found : ((List.range Tryz.prog.types.size).find? fun u => Tryz.prog.typeName? 3 u == some "*errors.errorString") = some 696 := by
  rw [types]
  refine find_of (p := fun u => Tryz.prog.typeName? 3 u == some "*errors.errorString") (fun j hj => ?_) (by omega) sk
  by_cases h0 : j < 80
  · exact piece s0 j (by omega) (by omega)
  by_cases h1 : j < 160
  · exact piece s1 j (by omega) (by omega)
  by_cases h2 : j < 240
  · exact piece s2 j (by omega) (by omega)
  by_cases h3 : j < 320
  · exact piece s3 j (by omega) (by omega)
  by_cases h4 : j < 400
  · exact piece s4 j (by omega) (by omega)
  by_cases h5 : j < 480
  · exact piece s5 j (by omega) (by omega)
  by_cases h6 : j < 560
  · exact piece s6 j (by omega) (by omega)
  by_cases h7 : j < 640
  · exact piece s7 j (by omega) (by omega)
  exact piece s8 j (by omega) (by omega)
end Wit
end Go.Proofs.YthfenjgelbkloaaGreatDoor
