/- The places of the listed variables. They speak of the program alone. No conditions. -/
import Derived.Test.YtagfemkpoogfeaaGreatDoorWt
namespace Go.Proofs.YtagfemkpoogfeaaGreatDoor
open Go
namespace TieBy
def p1 : List MemPlace := [.cell 4 0, .cell 4 1, .cell 4 2, .cell 4 3, .cell 4 4, .cell 4 5, .cell 4 6, .cell 4 7, .cell 4 8, .cell 4 9, .cell 4 10, .cell 4 11, .cell 4 12, .cell 4 13, .cell 4 14, .cell 4 15, .cell 4 16, .cell 4 17, .cell 4 18, .cell 4 19, .cell 4 20, .cell 4 21, .cell 4 22, .cell 4 23, .cell 4 24, .cell 4 25, .cell 4 26, .cell 4 27, .cell 4 28, .cell 4 29, .cell 4 30, .cell 4 31]
def p2 : List MemPlace := [.cell 5 0, .cell 5 1, .cell 5 2, .cell 5 3, .cell 5 4, .cell 5 5, .cell 5 6, .cell 5 7, .cell 5 8, .cell 5 9, .cell 5 10, .cell 5 11, .cell 5 12, .cell 5 13, .cell 5 14, .cell 5 15, .cell 5 16, .cell 5 17, .cell 5 18, .cell 5 19, .cell 5 20, .cell 5 21, .cell 5 22, .cell 5 23, .cell 5 24, .cell 5 25, .cell 5 26, .cell 5 27, .cell 5 28, .cell 5 29, .cell 5 30, .cell 5 31, .cell 5 32, .cell 5 33, .cell 5 34, .cell 5 35, .cell 5 36, .cell 5 37, .cell 5 38, .cell 5 39, .cell 5 40, .cell 5 41, .cell 5 42, .cell 5 43, .cell 5 44, .cell 5 45, .cell 5 46, .cell 5 47, .cell 5 48, .cell 5 49, .cell 5 50, .cell 5 51, .cell 5 52, .cell 5 53, .cell 5 54, .cell 5 55, .cell 5 56, .cell 5 57, .cell 5 58, .cell 5 59, .cell 5 60, .cell 5 61, .cell 5 62, .cell 5 63]
def p3 : List MemPlace := [.cell 3 0, .cell 3 1, .cell 3 2, .cell 3 3, .cell 3 4, .cell 3 5, .cell 3 6, .cell 3 7, .cell 3 8, .cell 3 9, .cell 3 10, .cell 3 11, .cell 3 12, .cell 3 13, .cell 3 14, .cell 3 15, .cell 3 16, .cell 3 17, .cell 3 18, .cell 3 19]
def p4 : List MemPlace := [.cell 1 0, .cell 11 0, .cell 0 0, .cell 12 0]
/-- The places that they take. -/
def places : List MemPlace := p1 ++ (p2 ++ (p3 ++ p4))
theorem apart : decide places.Nodup = true := by kernel_rfl
theorem rows_append {P : Program} {w : World} {a b : List MemPlace} (ha : laidRowsB P w a = true) (hb : laidRowsB P w b = true) : laidRowsB P w (a ++ b) = true := by
  unfold laidRowsB at ha hb ⊢
  rw [List.all_append, ha, hb]
  rfl
theorem nineP {α : Type} {o : Option (α × List MemPlace)} {P : Program} {w : World} (h : o.map (·.2) = some places) (hr : laidRowsB P w places = true) : o.map (fun x => decide x.2.Nodup && laidRowsB P w x.2) = some true := by
  cases o with
  | none => cases h
  | some x =>
    have e : x.2 = places := by simpa using h
    have k : (decide x.2.Nodup && laidRowsB P w x.2) = true := by rw [e, apart, hr]; rfl
    simp only [Option.map_some, k]
end TieBy
end Go.Proofs.YtagfemkpoogfeaaGreatDoor
