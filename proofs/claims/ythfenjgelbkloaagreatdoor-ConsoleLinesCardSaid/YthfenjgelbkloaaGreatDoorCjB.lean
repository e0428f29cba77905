/- The row's closed facts, ahead of the row itself (they speak of the program alone). No conditions. -/
import Derived.Test.YthfenjgelbkloaaGreatDoorCj0
namespace Go.Proofs.YthfenjgelbkloaaGreatDoor.consoleLines.Pre
open Go
theorem range_all (f : Nat → Bool) (n m : Nat) (h1 : (List.range n).all f = true) (h2 : ((List.range m).all fun i => f (n + i)) = true) : (List.range (n + m)).all f = true := by
  rw [List.range_add, List.all_append, h1, List.all_map]
  exact h2
set_option maxRecDepth 100000 in
theorem tsize : Tryz.prog.types.size = 986 := by kernel_rfl
set_option maxRecDepth 100000 in
theorem s0 : (List.range 50).all (rowFine Tryz.prog) = true := by kernel_rfl
set_option maxRecDepth 100000 in
theorem r1 : ((List.range 50).all fun i => rowFine Tryz.prog (50 + i)) = true := by kernel_rfl
set_option maxRecDepth 100000 in
theorem s1 : (List.range 100).all (rowFine Tryz.prog) = true := range_all (rowFine Tryz.prog) 50 50 s0 r1
set_option maxRecDepth 100000 in
theorem r2 : ((List.range 50).all fun i => rowFine Tryz.prog (100 + i)) = true := by kernel_rfl
set_option maxRecDepth 100000 in
theorem s2 : (List.range 150).all (rowFine Tryz.prog) = true := range_all (rowFine Tryz.prog) 100 50 s1 r2
set_option maxRecDepth 100000 in
theorem r3 : ((List.range 50).all fun i => rowFine Tryz.prog (150 + i)) = true := by kernel_rfl
set_option maxRecDepth 100000 in
theorem s3 : (List.range 200).all (rowFine Tryz.prog) = true := range_all (rowFine Tryz.prog) 150 50 s2 r3
set_option maxRecDepth 100000 in
theorem r4 : ((List.range 50).all fun i => rowFine Tryz.prog (200 + i)) = true := by kernel_rfl
set_option maxRecDepth 100000 in
theorem s4 : (List.range 250).all (rowFine Tryz.prog) = true := range_all (rowFine Tryz.prog) 200 50 s3 r4
set_option maxRecDepth 100000 in
theorem r5 : ((List.range 50).all fun i => rowFine Tryz.prog (250 + i)) = true := by kernel_rfl
set_option maxRecDepth 100000 in
theorem s5 : (List.range 300).all (rowFine Tryz.prog) = true := range_all (rowFine Tryz.prog) 250 50 s4 r5
set_option maxRecDepth 100000 in
theorem r6 : ((List.range 50).all fun i => rowFine Tryz.prog (300 + i)) = true := by kernel_rfl
set_option maxRecDepth 100000 in
theorem s6 : (List.range 350).all (rowFine Tryz.prog) = true := range_all (rowFine Tryz.prog) 300 50 s5 r6
set_option maxRecDepth 100000 in
theorem r7 : ((List.range 50).all fun i => rowFine Tryz.prog (350 + i)) = true := by kernel_rfl
set_option maxRecDepth 100000 in
theorem s7 : (List.range 400).all (rowFine Tryz.prog) = true := range_all (rowFine Tryz.prog) 350 50 s6 r7
set_option maxRecDepth 100000 in
theorem r8 : ((List.range 50).all fun i => rowFine Tryz.prog (400 + i)) = true := by kernel_rfl
set_option maxRecDepth 100000 in
theorem s8 : (List.range 450).all (rowFine Tryz.prog) = true := range_all (rowFine Tryz.prog) 400 50 s7 r8
set_option maxRecDepth 100000 in
theorem r9 : ((List.range 50).all fun i => rowFine Tryz.prog (450 + i)) = true := by kernel_rfl
set_option maxRecDepth 100000 in
theorem s9 : (List.range 500).all (rowFine Tryz.prog) = true := range_all (rowFine Tryz.prog) 450 50 s8 r9
set_option maxRecDepth 100000 in
theorem r10 : ((List.range 50).all fun i => rowFine Tryz.prog (500 + i)) = true := by kernel_rfl
set_option maxRecDepth 100000 in
theorem s10 : (List.range 550).all (rowFine Tryz.prog) = true := range_all (rowFine Tryz.prog) 500 50 s9 r10
set_option maxRecDepth 100000 in
theorem r11 : ((List.range 50).all fun i => rowFine Tryz.prog (550 + i)) = true := by kernel_rfl
set_option maxRecDepth 100000 in
theorem s11 : (List.range 600).all (rowFine Tryz.prog) = true := range_all (rowFine Tryz.prog) 550 50 s10 r11
set_option maxRecDepth 100000 in
theorem r12 : ((List.range 50).all fun i => rowFine Tryz.prog (600 + i)) = true := by kernel_rfl
set_option maxRecDepth 100000 in
theorem s12 : (List.range 650).all (rowFine Tryz.prog) = true := range_all (rowFine Tryz.prog) 600 50 s11 r12
set_option maxRecDepth 100000 in
theorem r13 : ((List.range 50).all fun i => rowFine Tryz.prog (650 + i)) = true := by kernel_rfl
set_option maxRecDepth 100000 in
theorem s13 : (List.range 700).all (rowFine Tryz.prog) = true := range_all (rowFine Tryz.prog) 650 50 s12 r13
set_option maxRecDepth 100000 in
theorem r14 : ((List.range 50).all fun i => rowFine Tryz.prog (700 + i)) = true := by kernel_rfl
set_option maxRecDepth 100000 in
theorem s14 : (List.range 750).all (rowFine Tryz.prog) = true := range_all (rowFine Tryz.prog) 700 50 s13 r14
set_option maxRecDepth 100000 in
theorem r15 : ((List.range 50).all fun i => rowFine Tryz.prog (750 + i)) = true := by kernel_rfl
set_option maxRecDepth 100000 in
theorem s15 : (List.range 800).all (rowFine Tryz.prog) = true := range_all (rowFine Tryz.prog) 750 50 s14 r15
set_option maxRecDepth 100000 in
theorem r16 : ((List.range 50).all fun i => rowFine Tryz.prog (800 + i)) = true := by kernel_rfl
set_option maxRecDepth 100000 in
theorem s16 : (List.range 850).all (rowFine Tryz.prog) = true := range_all (rowFine Tryz.prog) 800 50 s15 r16
set_option maxRecDepth 100000 in
theorem r17 : ((List.range 50).all fun i => rowFine Tryz.prog (850 + i)) = true := by kernel_rfl
set_option maxRecDepth 100000 in
theorem s17 : (List.range 900).all (rowFine Tryz.prog) = true := range_all (rowFine Tryz.prog) 850 50 s16 r17
set_option maxRecDepth 100000 in
theorem r18 : ((List.range 50).all fun i => rowFine Tryz.prog (900 + i)) = true := by kernel_rfl
set_option maxRecDepth 100000 in
theorem s18 : (List.range 950).all (rowFine Tryz.prog) = true := range_all (rowFine Tryz.prog) 900 50 s17 r18
set_option maxRecDepth 100000 in
theorem r19 : ((List.range 36).all fun i => rowFine Tryz.prog (950 + i)) = true := by kernel_rfl
set_option maxRecDepth 100000 in
theorem s19 : (List.range 986).all (rowFine Tryz.prog) = true := range_all (rowFine Tryz.prog) 950 36 s18 r19
set_option maxRecDepth 100000 in
theorem j2 : (laidOutB Tryz.prog) = true := by
  unfold laidOutB
  rw [tsize, s19]
  kernel_rfl
end Go.Proofs.YthfenjgelbkloaaGreatDoor.consoleLines.Pre
