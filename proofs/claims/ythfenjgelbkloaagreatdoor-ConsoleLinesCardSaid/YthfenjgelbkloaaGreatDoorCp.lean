/- The places of the listed variables. They speak of the program alone. No conditions. -/
import Derived.Test.YthfenjgelbkloaaGreatDoorCt
namespace Go.Proofs.YthfenjgelbkloaaGreatDoor
open Go
namespace TieBy
def p1 : List MemPlace := [.cell 6 0, .cell 6 1, .cell 6 2, .cell 6 3, .cell 6 4, .cell 6 5, .cell 6 6, .cell 6 7, .cell 6 8, .cell 6 9, .cell 6 10, .cell 6 11, .cell 6 12, .cell 6 13, .cell 6 14, .cell 6 15, .cell 6 16, .cell 6 17, .cell 6 18, .cell 6 19, .cell 6 20, .cell 6 21, .cell 6 22, .cell 6 23, .cell 6 24, .cell 6 25, .cell 6 26, .cell 6 27, .cell 6 28, .cell 6 29, .cell 6 30, .cell 6 31]
def p2 : List MemPlace := [.cell 7 0, .cell 7 1, .cell 7 2, .cell 7 3, .cell 7 4, .cell 7 5, .cell 7 6, .cell 7 7, .cell 7 8, .cell 7 9, .cell 7 10, .cell 7 11, .cell 7 12, .cell 7 13, .cell 7 14, .cell 7 15, .cell 7 16, .cell 7 17, .cell 7 18, .cell 7 19, .cell 7 20, .cell 7 21, .cell 7 22, .cell 7 23, .cell 7 24, .cell 7 25, .cell 7 26, .cell 7 27, .cell 7 28, .cell 7 29, .cell 7 30, .cell 7 31]
def p3 : List MemPlace := [.cell 7 32, .cell 7 33, .cell 7 34, .cell 7 35, .cell 7 36, .cell 7 37, .cell 7 38, .cell 7 39, .cell 7 40, .cell 7 41, .cell 7 42, .cell 7 43, .cell 7 44, .cell 7 45, .cell 7 46, .cell 7 47, .cell 7 48, .cell 7 49, .cell 7 50, .cell 7 51, .cell 7 52, .cell 7 53, .cell 7 54, .cell 7 55, .cell 7 56, .cell 7 57, .cell 7 58, .cell 7 59, .cell 7 60, .cell 7 61, .cell 7 62, .cell 7 63]
def p4 : List MemPlace := [.cell 0 0, .cell 0 1, .cell 0 2, .cell 0 3, .cell 0 4, .cell 0 5, .cell 0 6, .cell 0 7, .cell 0 8, .cell 0 9, .cell 0 10, .cell 0 11, .cell 0 12, .cell 0 13, .cell 0 14, .cell 0 15, .cell 0 16, .cell 0 17, .cell 0 18, .cell 0 19, .cell 5 0, .cell 5 1, .cell 5 2, .cell 5 3, .cell 5 4, .cell 5 5, .cell 5 6, .cell 5 7, .cell 5 8, .cell 5 9, .cell 5 10, .cell 5 11]
def p5 : List MemPlace := [.cell 5 12, .cell 5 13, .cell 5 14, .cell 5 15, .cell 5 16, .cell 5 17, .cell 5 18, .cell 5 19, .cell 5 20, .cell 5 21, .cell 5 22, .cell 5 23, .cell 5 24, .cell 5 25, .cell 5 26, .cell 5 27, .cell 5 28, .cell 5 29, .cell 5 30, .cell 5 31, .cell 3 0, .cell 13 0, .cell 2 0, .cell 14 0]
/-- The places that they take. -/
def places : List MemPlace := p1 ++ (p2 ++ (p3 ++ (p4 ++ (p5))))
theorem apart : decide places.Nodup = true := by kernel_rfl
theorem rows_append {P : Program} {w : World} {a b : List MemPlace} (ha : laidRowsB P w a = true) (hb : laidRowsB P w b = true) : laidRowsB P w (a ++ b) = true := by
  unfold laidRowsB at ha hb ⊢
  rw [List.all_append, ha, hb]
  rfl
theorem nineP {α : Type} {o : Option (α × List MemPlace)} {P : Program} {w : World} (h : o.map (·.2) = some places) (hr : laidRowsB P w places = true) : o.map (fun x => decide x.2.Nodup && laidRowsB P w x.2) = some true := by
  cases o with
  | none => cases h
  | some x =>
    have e : x.2 = places := by simpa using h
    have k : (decide x.2.Nodup && laidRowsB P w x.2) = true := by rw [e, apart, hr]; rfl
    simp only [Option.map_some, k]
end TieBy
end Go.Proofs.YthfenjgelbkloaaGreatDoor
