/- The row's closed facts, ahead of the row itself (they speak of the program alone). No conditions. -/
import Derived.Test.YthfenjgelbkloaaGreatDoorCj0
namespace Go.Proofs.YthfenjgelbkloaaGreatDoor.consoleLines.Pre
open Go
/-- A map type's elements are a type that there is. -/
def mapFine (P : Program) (n t : Nat) : Bool := match P.underlying t with | some (.map _ e) => decide (e < n) | _ => true
theorem mapsRowed_of {P : Program} {n : Nat} (hs : P.types.size = n) (h : (List.range n).all (mapFine P n) = true) : mapsRowed P = true := by
  subst hs
  exact h
theorem range_all2 (f : Nat → Bool) (n m : Nat) (h1 : (List.range n).all f = true) (h2 : ((List.range m).all fun i => f (n + i)) = true) : (List.range (n + m)).all f = true := by
  rw [List.range_add, List.all_append, h1, List.all_map]
  exact h2
set_option maxRecDepth 100000 in
theorem mt : Tryz.prog.types.size = 986 := by kernel_rfl
set_option maxRecDepth 100000 in
theorem ms0 : (List.range 50).all (mapFine Tryz.prog 986) = true := by kernel_rfl
set_option maxRecDepth 100000 in
theorem mr1 : ((List.range 50).all fun i => mapFine Tryz.prog 986 (50 + i)) = true := by kernel_rfl
theorem ms1 : (List.range 100).all (mapFine Tryz.prog 986) = true := range_all2 (mapFine Tryz.prog 986) 50 50 ms0 mr1
set_option maxRecDepth 100000 in
theorem mr2 : ((List.range 50).all fun i => mapFine Tryz.prog 986 (100 + i)) = true := by kernel_rfl
theorem ms2 : (List.range 150).all (mapFine Tryz.prog 986) = true := range_all2 (mapFine Tryz.prog 986) 100 50 ms1 mr2
set_option maxRecDepth 100000 in
theorem mr3 : ((List.range 50).all fun i => mapFine Tryz.prog 986 (150 + i)) = true := by kernel_rfl
theorem ms3 : (List.range 200).all (mapFine Tryz.prog 986) = true := range_all2 (mapFine Tryz.prog 986) 150 50 ms2 mr3
set_option maxRecDepth 100000 in
theorem mr4 : ((List.range 50).all fun i => mapFine Tryz.prog 986 (200 + i)) = true := by kernel_rfl
theorem ms4 : (List.range 250).all (mapFine Tryz.prog 986) = true := range_all2 (mapFine Tryz.prog 986) 200 50 ms3 mr4
set_option maxRecDepth 100000 in
theorem mr5 : ((List.range 50).all fun i => mapFine Tryz.prog 986 (250 + i)) = true := by kernel_rfl
theorem ms5 : (List.range 300).all (mapFine Tryz.prog 986) = true := range_all2 (mapFine Tryz.prog 986) 250 50 ms4 mr5
set_option maxRecDepth 100000 in
theorem mr6 : ((List.range 50).all fun i => mapFine Tryz.prog 986 (300 + i)) = true := by kernel_rfl
theorem ms6 : (List.range 350).all (mapFine Tryz.prog 986) = true := range_all2 (mapFine Tryz.prog 986) 300 50 ms5 mr6
set_option maxRecDepth 100000 in
theorem mr7 : ((List.range 50).all fun i => mapFine Tryz.prog 986 (350 + i)) = true := by kernel_rfl
theorem ms7 : (List.range 400).all (mapFine Tryz.prog 986) = true := range_all2 (mapFine Tryz.prog 986) 350 50 ms6 mr7
set_option maxRecDepth 100000 in
theorem mr8 : ((List.range 50).all fun i => mapFine Tryz.prog 986 (400 + i)) = true := by kernel_rfl
theorem ms8 : (List.range 450).all (mapFine Tryz.prog 986) = true := range_all2 (mapFine Tryz.prog 986) 400 50 ms7 mr8
set_option maxRecDepth 100000 in
theorem mr9 : ((List.range 50).all fun i => mapFine Tryz.prog 986 (450 + i)) = true := by kernel_rfl
theorem ms9 : (List.range 500).all (mapFine Tryz.prog 986) = true := range_all2 (mapFine Tryz.prog 986) 450 50 ms8 mr9
set_option maxRecDepth 100000 in
theorem mr10 : ((List.range 50).all fun i => mapFine Tryz.prog 986 (500 + i)) = true := by kernel_rfl
theorem ms10 : (List.range 550).all (mapFine Tryz.prog 986) = true := range_all2 (mapFine Tryz.prog 986) 500 50 ms9 mr10
set_option maxRecDepth 100000 in
theorem mr11 : ((List.range 50).all fun i => mapFine Tryz.prog 986 (550 + i)) = true := by kernel_rfl
theorem ms11 : (List.range 600).all (mapFine Tryz.prog 986) = true := range_all2 (mapFine Tryz.prog 986) 550 50 ms10 mr11
set_option maxRecDepth 100000 in
theorem mr12 : ((List.range 50).all fun i => mapFine Tryz.prog 986 (600 + i)) = true := by kernel_rfl
theorem ms12 : (List.range 650).all (mapFine Tryz.prog 986) = true := range_all2 (mapFine Tryz.prog 986) 600 50 ms11 mr12
set_option maxRecDepth 100000 in
theorem mr13 : ((List.range 50).all fun i => mapFine Tryz.prog 986 (650 + i)) = true := by kernel_rfl
theorem ms13 : (List.range 700).all (mapFine Tryz.prog 986) = true := range_all2 (mapFine Tryz.prog 986) 650 50 ms12 mr13
set_option maxRecDepth 100000 in
theorem mr14 : ((List.range 50).all fun i => mapFine Tryz.prog 986 (700 + i)) = true := by kernel_rfl
theorem ms14 : (List.range 750).all (mapFine Tryz.prog 986) = true := range_all2 (mapFine Tryz.prog 986) 700 50 ms13 mr14
set_option maxRecDepth 100000 in
theorem mr15 : ((List.range 50).all fun i => mapFine Tryz.prog 986 (750 + i)) = true := by kernel_rfl
theorem ms15 : (List.range 800).all (mapFine Tryz.prog 986) = true := range_all2 (mapFine Tryz.prog 986) 750 50 ms14 mr15
set_option maxRecDepth 100000 in
theorem mr16 : ((List.range 50).all fun i => mapFine Tryz.prog 986 (800 + i)) = true := by kernel_rfl
theorem ms16 : (List.range 850).all (mapFine Tryz.prog 986) = true := range_all2 (mapFine Tryz.prog 986) 800 50 ms15 mr16
set_option maxRecDepth 100000 in
theorem mr17 : ((List.range 50).all fun i => mapFine Tryz.prog 986 (850 + i)) = true := by kernel_rfl
theorem ms17 : (List.range 900).all (mapFine Tryz.prog 986) = true := range_all2 (mapFine Tryz.prog 986) 850 50 ms16 mr17
set_option maxRecDepth 100000 in
theorem mr18 : ((List.range 50).all fun i => mapFine Tryz.prog 986 (900 + i)) = true := by kernel_rfl
theorem ms18 : (List.range 950).all (mapFine Tryz.prog 986) = true := range_all2 (mapFine Tryz.prog 986) 900 50 ms17 mr18
set_option maxRecDepth 100000 in
theorem mr19 : ((List.range 36).all fun i => mapFine Tryz.prog 986 (950 + i)) = true := by kernel_rfl
theorem ms19 : (List.range 986).all (mapFine Tryz.prog 986) = true := range_all2 (mapFine Tryz.prog 986) 950 36 ms18 mr19
theorem j3 : (mapsRowed Tryz.prog) = true := mapsRowed_of mt ms19
end Go.Proofs.YthfenjgelbkloaaGreatDoor.consoleLines.Pre
