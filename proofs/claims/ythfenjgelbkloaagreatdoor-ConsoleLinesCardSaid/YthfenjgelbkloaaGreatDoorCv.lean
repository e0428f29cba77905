/- The number of the function that lays the listed variables: the search, by pieces. No conditions. -/
import Derived.Test.YthfenjgelbkloaaGreatDoorProg
import Derived.KernelRfl
import Derived.LaidByTextLater
namespace Go.Proofs.YthfenjgelbkloaaGreatDoor
open Go
namespace TieBy
set_option maxRecDepth 100000 in
theorem v0 : ((List.range' 0 90).filter fun i => (Tryz.prog.funcs[i]?).any (·.name == "gosem.cut.vars")) = [] := by kernel_rfl
set_option maxRecDepth 100000 in
theorem v1 : ((List.range' 90 90).filter fun i => (Tryz.prog.funcs[i]?).any (·.name == "gosem.cut.vars")) = [] := by kernel_rfl
set_option maxRecDepth 100000 in
theorem v2 : ((List.range' 180 90).filter fun i => (Tryz.prog.funcs[i]?).any (·.name == "gosem.cut.vars")) = [] := by kernel_rfl
set_option maxRecDepth 100000 in
theorem v3 : ((List.range' 270 90).filter fun i => (Tryz.prog.funcs[i]?).any (·.name == "gosem.cut.vars")) = [] := by kernel_rfl
set_option maxRecDepth 100000 in
theorem v4 : ((List.range' 360 90).filter fun i => (Tryz.prog.funcs[i]?).any (·.name == "gosem.cut.vars")) = [] := by kernel_rfl
set_option maxRecDepth 100000 in
theorem v5 : ((List.range' 450 90).filter fun i => (Tryz.prog.funcs[i]?).any (·.name == "gosem.cut.vars")) = [] := by kernel_rfl
set_option maxRecDepth 100000 in
theorem v6 : ((List.range' 540 90).filter fun i => (Tryz.prog.funcs[i]?).any (·.name == "gosem.cut.vars")) = [] := by kernel_rfl
set_option maxRecDepth 100000 in
theorem v7 : ((List.range' 630 90).filter fun i => (Tryz.prog.funcs[i]?).any (·.name == "gosem.cut.vars")) = [] := by kernel_rfl
set_option maxRecDepth 100000 in
theorem v8 : ((List.range' 720 90).filter fun i => (Tryz.prog.funcs[i]?).any (·.name == "gosem.cut.vars")) = [] := by kernel_rfl
set_option maxRecDepth 100000 in
theorem v9 : ((List.range' 810 90).filter fun i => (Tryz.prog.funcs[i]?).any (·.name == "gosem.cut.vars")) = [] := by kernel_rfl
set_option maxRecDepth 100000 in
theorem v10 : ((List.range' 900 12).filter fun i => (Tryz.prog.funcs[i]?).any (·.name == "gosem.cut.vars")) = [911] := by kernel_rfl
theorem funcs : Tryz.prog.funcs.size = 912 := by kernel_rfl
theorem parts : List.range 912 = List.range' 0 90 ++ (List.range' 90 90 ++ (List.range' 180 90 ++ (List.range' 270 90 ++ (List.range' 360 90 ++ (List.range' 450 90 ++ (List.range' 540 90 ++ (List.range' 630 90 ++ (List.range' 720 90 ++ (List.range' 810 90 ++ (List.range' 900 12)))))))))) := by kernel_rfl
theorem named_of {P : Program} {name : String} {n g : Nat} (hs : P.funcs.size = n) (h : ((List.range n).filter fun i => (P.funcs[i]?).any (·.name == name)) = [g]) : P.funcNamed name = some g := by
  subst hs
  unfold Program.funcNamed
  rw [h]
theorem vid_of {P : Program} {g : Nat} (h : P.funcNamed "gosem.cut.vars" = some g) : varsId P = g := by
  unfold varsId
  rw [h]
  rfl
theorem cat {p : Nat → Bool} {n : Nat} {a b k l : List Nat} (h : List.range n = a ++ b) (h1 : a.filter p = k) (h2 : b.filter p = l) : (List.range n).filter p = k ++ l := by
  rw [h, List.filter_append, h1, h2]
theorem cat2 {p : Nat → Bool} {a b k l : List Nat} (h1 : a.filter p = k) (h2 : b.filter p = l) : (a ++ b).filter p = k ++ l := by
  rw [List.filter_append, h1, h2]
theorem vfound : Tryz.prog.funcNamed "gosem.cut.vars" = some 911 := named_of funcs (cat parts v0 (cat2 v1 (cat2 v2 (cat2 v3 (cat2 v4 (cat2 v5 (cat2 v6 (cat2 v7 (cat2 v8 (cat2 v9 (v10)))))))))))
theorem vid : varsId Tryz.prog = 911 := vid_of vfound
end TieBy
end Go.Proofs.YthfenjgelbkloaaGreatDoor
