/- What the listed package-level variables hold, as the evaluator's first heap. No conditions. -/
import Derived.Test.YtggofakkkkkbcaaGreatDoorV8
import Derived.Test.YtggofakkkkkbcaaGreatDoorRows
namespace Go.Proofs.YtggofakkkkkbcaaGreatDoor.Ev
open Go Go.RowKit
def hl : List (Nat × Nat × List AV) := [(0, 193, [.opi]),
  (1, 193, [.opi]),
  (3, 739, [(.int .u64 (.ofNat 1)), (.int .u64 (.ofNat 10)), (.int .u64 (.ofNat 100)), (.int .u64 (.ofNat 1000)), (.int .u64 (.ofNat 10000)), (.int .u64 (.ofNat 100000)), (.int .u64 (.ofNat 1000000)), (.int .u64 (.ofNat 10000000)), (.int .u64 (.ofNat 100000000)), (.int .u64 (.ofNat 1000000000)), (.int .u64 (.ofNat 10000000000)), (.int .u64 (.ofNat 100000000000)), (.int .u64 (.ofNat 1000000000000)), (.int .u64 (.ofNat 10000000000000)), (.int .u64 (.ofNat 100000000000000)), (.int .u64 (.ofNat 1000000000000000)), (.int .u64 (.ofNat 10000000000000000)), (.int .u64 (.ofNat 100000000000000000)), (.int .u64 (.ofNat 1000000000000000000)), (.int .u64 (.ofNat 10000000000000000000))]),
  (4, 777, [(.int .u8 (.ofNat 0)), (.int .u8 (.ofNat 1)), (.int .u8 (.ofNat 28)), (.int .u8 (.ofNat 2)), (.int .u8 (.ofNat 29)), (.int .u8 (.ofNat 14)), (.int .u8 (.ofNat 24)), (.int .u8 (.ofNat 3)), (.int .u8 (.ofNat 30)), (.int .u8 (.ofNat 22)), (.int .u8 (.ofNat 20)), (.int .u8 (.ofNat 15)), (.int .u8 (.ofNat 25)), (.int .u8 (.ofNat 17)), (.int .u8 (.ofNat 4)), (.int .u8 (.ofNat 8)), (.int .u8 (.ofNat 31)), (.int .u8 (.ofNat 27)), (.int .u8 (.ofNat 13)), (.int .u8 (.ofNat 23)), (.int .u8 (.ofNat 21)), (.int .u8 (.ofNat 19)), (.int .u8 (.ofNat 16)), (.int .u8 (.ofNat 7)), (.int .u8 (.ofNat 26)), (.int .u8 (.ofNat 12)), (.int .u8 (.ofNat 18)), (.int .u8 (.ofNat 6)), (.int .u8 (.ofNat 11)), (.int .u8 (.ofNat 5)), (.int .u8 (.ofNat 10)), (.int .u8 (.ofNat 9))]),
  (5, 778, [(.int .u8 (.ofNat 0)), (.int .u8 (.ofNat 1)), (.int .u8 (.ofNat 56)), (.int .u8 (.ofNat 2)), (.int .u8 (.ofNat 57)), (.int .u8 (.ofNat 49)), (.int .u8 (.ofNat 28)), (.int .u8 (.ofNat 3)), (.int .u8 (.ofNat 61)), (.int .u8 (.ofNat 58)), (.int .u8 (.ofNat 42)), (.int .u8 (.ofNat 50)), (.int .u8 (.ofNat 38)), (.int .u8 (.ofNat 29)), (.int .u8 (.ofNat 17)), (.int .u8 (.ofNat 4)), (.int .u8 (.ofNat 62)), (.int .u8 (.ofNat 47)), (.int .u8 (.ofNat 59)), (.int .u8 (.ofNat 36)), (.int .u8 (.ofNat 45)), (.int .u8 (.ofNat 43)), (.int .u8 (.ofNat 51)), (.int .u8 (.ofNat 22)), (.int .u8 (.ofNat 53)), (.int .u8 (.ofNat 39)), (.int .u8 (.ofNat 33)), (.int .u8 (.ofNat 30)), (.int .u8 (.ofNat 24)), (.int .u8 (.ofNat 18)), (.int .u8 (.ofNat 12)), (.int .u8 (.ofNat 5)), (.int .u8 (.ofNat 63)), (.int .u8 (.ofNat 55)), (.int .u8 (.ofNat 48)), (.int .u8 (.ofNat 27)), (.int .u8 (.ofNat 60)), (.int .u8 (.ofNat 41)), (.int .u8 (.ofNat 37)), (.int .u8 (.ofNat 16)), (.int .u8 (.ofNat 46)), (.int .u8 (.ofNat 35)), (.int .u8 (.ofNat 44)), (.int .u8 (.ofNat 21)), (.int .u8 (.ofNat 52)), (.int .u8 (.ofNat 32)), (.int .u8 (.ofNat 23)), (.int .u8 (.ofNat 11)), (.int .u8 (.ofNat 54)), (.int .u8 (.ofNat 26)), (.int .u8 (.ofNat 40)), (.int .u8 (.ofNat 15)), (.int .u8 (.ofNat 34)), (.int .u8 (.ofNat 20)), (.int .u8 (.ofNat 31)), (.int .u8 (.ofNat 10)), (.int .u8 (.ofNat 25)), (.int .u8 (.ofNat 14)), (.int .u8 (.ofNat 19)), (.int .u8 (.ofNat 9)), (.int .u8 (.ofNat 13)), (.int .u8 (.ofNat 8)), (.int .u8 (.ofNat 7)), (.int .u8 (.ofNat 6))])]
noncomputable def gB : List (Nat × Blk) := hl.map fun y => (y.1, .cells (lays 0 (y.2.2.map some) .e) none y.2.2.length y.2.1 0 0 false [])
theorem hl_eq : firstL Tryz.prog Rows.eagerCascadeRow.laid = hl := by kernel_rfl
theorem mixed : Tryz.prog.follows .mixedOrders = true := by kernel_rfl
theorem extFine : extOk Tryz.prog = true := by kernel_rfl
/-- A block by name. -/
def k0 : Blk := .cells (.n (some (.int .i64 (.ofNat 0))) (.n (some (.int .i64 (.ofNat 0))) (.n (some (.int .i64 (.ofNat 6))) (.n (some (.int .i64 (.ofNat 10))) (.n (some (.int .i64 (.ofNat 20))) (.n (some (.int .i64 (.ofNat 46))) (.n (some (.int .i64 (.ofNat 92))) .e (.n (some (.int .i64 (.ofNat 142))) .e .e)) (.n (some (.int .i64 (.ofNat 69))) (.n (some (.int .i64 (.ofNat 167))) .e .e) (.n (some (.int .i64 (.ofNat 115))) .e .e))) (.n (some (.int .i64 (.ofNat 32))) (.n (some (.int .i64 (.ofNat 81))) .e (.n (some (.int .i64 (.ofNat 133))) .e .e)) (.n (some (.int .i64 (.ofNat 54))) (.n (some (.int .i64 (.ofNat 159))) .e .e) (.n (some (.int .i64 (.ofNat 106))) .e .e)))) (.n (some (.int .i64 (.ofNat 14))) (.n (some (.int .i64 (.ofNat 38))) (.n (some (.int .i64 (.ofNat 85))) .e (.n (some (.int .i64 (.ofNat 137))) .e .e)) (.n (some (.int .i64 (.ofNat 60))) (.n (some (.int .i64 (.ofNat 163))) .e .e) (.n (some (.int .i64 (.ofNat 111))) .e .e))) (.n (some (.int .i64 (.ofNat 28))) (.n (some (.int .i64 (.ofNat 76))) (.n (some (.int .i64 (.ofNat 172))) .e .e) (.n (some (.int .i64 (.ofNat 124))) .e .e)) (.n (some (.int .i64 (.ofNat 50))) (.n (some (.int .i64 (.ofNat 146))) .e .e) (.n (some (.int .i64 (.ofNat 102))) .e .e))))) (.n (some (.int .i64 (.ofNat 8))) (.n (some (.int .i64 (.ofNat 18))) (.n (some (.int .i64 (.ofNat 40))) (.n (some (.int .i64 (.ofNat 87))) .e (.n (some (.int .i64 (.ofNat 140))) .e .e)) (.n (some (.int .i64 (.ofNat 65))) (.n (some (.int .i64 (.ofNat 165))) .e .e) (.n (some (.int .i64 (.ofNat 113))) .e .e))) (.n (some (.int .i64 (.ofNat 30))) (.n (some (.int .i64 (.ofNat 78))) .e (.n (some (.int .i64 (.ofNat 128))) .e .e)) (.n (some (.int .i64 (.ofNat 52))) (.n (some (.int .i64 (.ofNat 151))) .e .e) (.n (some (.int .i64 (.ofNat 104))) .e .e)))) (.n (some (.int .i64 (.ofNat 12))) (.n (some (.int .i64 (.ofNat 34))) (.n (some (.int .i64 (.ofNat 83))) .e (.n (some (.int .i64 (.ofNat 135))) .e .e)) (.n (some (.int .i64 (.ofNat 58))) (.n (some (.int .i64 (.ofNat 161))) .e .e) (.n (some (.int .i64 (.ofNat 108))) .e .e))) (.n (some (.int .i64 (.ofNat 26))) (.n (some (.int .i64 (.ofNat 74))) (.n (some (.int .i64 (.ofNat 170))) .e .e) (.n (some (.int .i64 (.ofNat 119))) .e .e)) (.n (some (.int .i64 (.ofNat 48))) (.n (some (.int .i64 (.ofNat 144))) .e .e) (.n (some (.int .i64 (.ofNat 100))) .e .e)))))) (.n (some (.int .i64 (.ofNat 0))) (.n (some (.int .i64 (.ofNat 0))) (.n (some (.int .i64 (.ofNat 0))) (.n (some (.int .i64 (.ofNat 0))) (.n (some (.int .i64 (.ofNat 0))) .e (.n (some (.int .i64 (.ofNat 0))) .e .e)) (.n (some (.int .i64 (.ofNat 0))) (.n (some (.int .i64 (.ofNat 1))) .e .e) (.n (some (.int .i64 (.ofNat 0))) .e .e))) (.n (some (.int .i64 (.ofNat 4))) (.n (some (.int .i64 (.ofNat 4))) .e (.n (some (.int .i64 (.ofNat 0))) .e .e)) (.n (some (.int .i64 (.ofNat 0))) (.n (some (.int .i64 (.ofNat 0))) .e .e) (.n (some (.int .i64 (.ofNat 4))) .e .e)))) (.n (some (.int .i64 (.ofNat 0))) (.n (some (.int .i64 (.ofNat 4))) (.n (some (.int .i64 (.ofNat 4))) .e (.n (some (.int .i64 (.ofNat 1))) .e .e)) (.n (some (.int .i64 (.ofNat 0))) (.n (some (.int .i64 (.ofNat 0))) .e .e) (.n (some (.int .i64 (.ofNat 4))) .e .e))) (.n (some (.int .i64 (.ofNat 4))) (.n (some (.int .i64 (.ofNat 4))) (.n (some (.int .i64 (.ofNat 4))) .e .e) (.n (some (.int .i64 (.ofNat 3))) .e .e)) (.n (some (.int .i64 (.ofNat 0))) (.n (some (.int .i64 (.ofNat 0))) .e .e) (.n (some (.int .i64 (.ofNat 4))) .e .e))))) (.n (some (.int .i64 (.ofNat 4))) (.n (some (.int .i64 (.ofNat 4))) (.n (some (.int .i64 (.ofNat 0))) (.n (some (.int .i64 (.ofNat 0))) .e (.n (some (.int .i64 (.ofNat 4))) .e .e)) (.n (some (.int .i64 (.ofNat 3))) (.n (some (.int .i64 (.ofNat 4))) .e .e) (.n (some (.int .i64 (.ofNat 4))) .e .e))) (.n (some (.int .i64 (.ofNat 0))) (.n (some (.int .i64 (.ofNat 1))) .e (.n (some (.int .i64 (.ofNat 0))) .e .e)) (.n (some (.int .i64 (.ofNat 4))) (.n (some (.int .i64 (.ofNat 0))) .e .e) (.n (some (.int .i64 (.ofNat 0))) .e .e)))) (.n (some (.int .i64 (.ofNat 4))) (.n (some (.int .i64 (.ofNat 0))) (.n (some (.int .i64 (.ofNat 0))) .e (.n (some (.int .i64 (.ofNat 4))) .e .e)) (.n (some (.int .i64 (.ofNat 4))) (.n (some (.int .i64 (.ofNat 4))) .e .e) (.n (some (.int .i64 (.ofNat 1))) .e .e))) (.n (some (.int .i64 (.ofNat 0))) (.n (some (.int .i64 (.ofNat 0))) (.n (some (.int .i64 (.ofNat 4))) .e .e) (.n (some (.int .i64 (.ofNat 0))) .e .e)) (.n (some (.int .i64 (.ofNat 4))) (.n (some (.int .i64 (.ofNat 4))) .e .e) (.n (some (.int .i64 (.ofNat 0))) .e .e))))))) (.n (some (.str 5 427020088179)) (.n (some (.str 1 80)) (.n (some (.str 1 120)) (.n (some (.str 5 427020088179)) (.n (some (.str 1 82)) (.n (some (.str 7 30521787425186156)) .e (.n (some (.str 1 120)) .e .e)) (.n (some (.str 4 2003330414)) (.n (some (.str 1 120)) .e .e) (.n (some (.str 3 6647396)) .e .e))) (.n (some (.str 1 58)) (.n (some (.str 1 58)) .e (.n (some (.str 1 81)) .e .e)) (.n (some (.str 3 6909556)) (.n (some (.str 1 82)) .e .e) (.n (some (.str 1 61)) .e .e)))) (.n (some (.str 3 6909556)) (.n (some (.str 1 125)) (.n (some (.str 1 41)) .e (.n (some (.str 1 120)) .e .e)) (.n (some (.str 4 1920298085)) (.n (some (.str 1 120)) .e .e) (.n (some (.str 1 125)) .e .e))) (.n (some (.str 1 123)) (.n (some (.str 1 40)) (.n (some (.str 1 59)) .e .e) (.n (some (.str 1 50)) .e .e)) (.n (some (.str 1 120)) (.n (some (.str 4 1952998766)) .e .e) (.n (some (.str 1 123)) .e .e))))) (.n (some (.str 1 123)) (.n (some (.str 1 125)) (.n (some (.str 5 427020088179)) (.n (some (.str 4 1952998766)) .e (.n (some (.str 1 58)) .e .e)) (.n (some (.str 1 49)) (.n (some (.str 1 61)) .e .e) (.n (some (.str 1 59)) .e .e))) (.n (some (.str 1 120)) (.n (some (.str 1 120)) .e (.n (some (.str 4 2003330414)) .e .e)) (.n (some (.str 1 58)) (.n (some (.str 7 30521787425186156)) .e .e) (.n (some (.str 1 120)) .e .e)))) (.n (some (.str 1 58)) (.n (some (.str 3 6909556)) (.n (some (.str 1 120)) .e (.n (some (.str 1 40)) .e .e)) (.n (some (.str 1 125)) (.n (some (.str 1 123)) .e .e) (.n (some (.str 1 120)) .e .e))) (.n (some (.str 1 81)) (.n (some (.str 1 80)) (.n (some (.str 1 125)) .e .e) (.n (some (.str 4 1920298085)) .e .e)) (.n (some (.str 1 123)) (.n (some (.str 1 41)) .e .e) (.n (some (.str 1 81)) .e .e)))))) (.n (some (.int .i64 (.ofNat 5))) (.n (some (.int .i64 (.ofNat 9))) (.n (some (.int .i64 (.ofNat 19))) (.n (some (.int .i64 (.ofNat 45))) (.n (some (.int .i64 (.ofNat 91))) .e (.n (some (.int .i64 (.ofNat 141))) .e .e)) (.n (some (.int .i64 (.ofNat 68))) (.n (some (.int .i64 (.ofNat 166))) .e .e) (.n (some (.int .i64 (.ofNat 114))) .e .e))) (.n (some (.int .i64 (.ofNat 31))) (.n (some (.int .i64 (.ofNat 80))) .e (.n (some (.int .i64 (.ofNat 132))) .e .e)) (.n (some (.int .i64 (.ofNat 53))) (.n (some (.int .i64 (.ofNat 158))) .e .e) (.n (some (.int .i64 (.ofNat 105))) .e .e)))) (.n (some (.int .i64 (.ofNat 13))) (.n (some (.int .i64 (.ofNat 37))) (.n (some (.int .i64 (.ofNat 84))) .e (.n (some (.int .i64 (.ofNat 136))) .e .e)) (.n (some (.int .i64 (.ofNat 59))) (.n (some (.int .i64 (.ofNat 162))) .e .e) (.n (some (.int .i64 (.ofNat 110))) .e .e))) (.n (some (.int .i64 (.ofNat 27))) (.n (some (.int .i64 (.ofNat 75))) (.n (some (.int .i64 (.ofNat 171))) .e .e) (.n (some (.int .i64 (.ofNat 123))) .e .e)) (.n (some (.int .i64 (.ofNat 49))) (.n (some (.int .i64 (.ofNat 145))) .e .e) (.n (some (.int .i64 (.ofNat 101))) .e .e))))) (.n (some (.int .i64 (.ofNat 7))) (.n (some (.int .i64 (.ofNat 17))) (.n (some (.int .i64 (.ofNat 39))) (.n (some (.int .i64 (.ofNat 86))) .e (.n (some (.int .i64 (.ofNat 139))) .e .e)) (.n (some (.int .i64 (.ofNat 64))) (.n (some (.int .i64 (.ofNat 164))) .e .e) (.n (some (.int .i64 (.ofNat 112))) .e .e))) (.n (some (.int .i64 (.ofNat 29))) (.n (some (.int .i64 (.ofNat 77))) (.n (some (.int .i64 (.ofNat 173))) .e .e) (.n (some (.int .i64 (.ofNat 127))) .e .e)) (.n (some (.int .i64 (.ofNat 51))) (.n (some (.int .i64 (.ofNat 150))) .e .e) (.n (some (.int .i64 (.ofNat 103))) .e .e)))) (.n (some (.int .i64 (.ofNat 11))) (.n (some (.int .i64 (.ofNat 33))) (.n (some (.int .i64 (.ofNat 82))) .e (.n (some (.int .i64 (.ofNat 134))) .e .e)) (.n (some (.int .i64 (.ofNat 57))) (.n (some (.int .i64 (.ofNat 160))) .e .e) (.n (some (.int .i64 (.ofNat 107))) .e .e))) (.n (some (.int .i64 (.ofNat 25))) (.n (some (.int .i64 (.ofNat 73))) (.n (some (.int .i64 (.ofNat 169))) .e .e) (.n (some (.int .i64 (.ofNat 118))) .e .e)) (.n (some (.int .i64 (.ofNat 47))) (.n (some (.int .i64 (.ofNat 143))) .e .e) (.n (some (.int .i64 (.ofNat 99))) .e .e)))))))) none 232 189 0 0 false []
/-- A block by name. -/
def k1 : Blk := .cells (.n (some (.str 1 120)) (.n (some (.str 0 0)) .e .e) (.n (some (.int .i64 (.ofNat 2))) .e .e)) none 3 139 0 0 true []
/-- A block by name. -/
def k2 : Blk := .cells (.n (some (.str 1 80)) (.n (some (.sl 436 0 1 1 false 3)) .e (.n (some (.str 0 0)) .e .e)) (.n (some (.str 0 0)) (.n (some (.sl 471 0 1 1 false 3)) .e .e) (.n (some (.str 1 81)) .e .e))) none 6 90 0 0 false []
/-- A block by name. -/
def k3 : Blk := .cells (.n (some (.str 1 80)) (.n (some (.sl 436 0 1 1 false 3)) (.n (some (.str 1 82)) .e .e) (.n (some (.str 0 0)) .e (.n (some (.sl 506 0 1 1 false 3)) .e .e))) (.n (some (.str 0 0)) (.n (some (.sl 471 0 1 1 false 3)) .e .e) (.n (some (.str 1 81)) .e (.n (some (.str 0 0)) .e .e)))) none 9 90 0 0 true [479]
/-- A block by name. -/
def k4 : Blk := .cells (.n (some (.str 1 120)) .e (.n (some (.str 1 120)) .e .e)) none 2 418 0 0 true []
/-- A block by name. -/
def k5 : Blk := .cells (.n (some (.int .i64 (.ofNat 1))) (.n (some (.str 1 80)) (.n (some .nils) (.n (some .nils) .e .e) (.n (some (.int .i64 (.ofNat 0))) .e (.n (some .nils) .e .e))) (.n (some .nils) (.n (some (.int .i64 (.ofNat 0))) .e .e) (.n (some (.int .i64 (.ofNat 0))) .e (.n (some (.str 0 0)) .e .e)))) (.n (some (.str 0 0)) (.n (some .nils) (.n (some (.str 0 0)) .e .e) (.n (some (.str 0 0)) .e (.n (some (.str 0 0)) .e .e))) (.n (some (.sl 568 0 1 1 false 2)) (.n (some (.bool false)) .e .e) (.n (some .nils) .e (.n (some .nils) .e .e))))) none 19 200 0 0 true []
/-- A block by name. -/
def k6 : Blk := .cells (.n (some (.str 1 120)) (.n (some (.str 1 120)) (.n (some (.str 0 0)) .e .e) (.n (some (.bool false)) .e (.n (some .nils) .e .e))) (.n (some (.int .i64 (.ofNat 2))) (.n (some (.int .i64 (.ofNat 0))) .e .e) (.n (some (.int .i64 (.ofNat 0))) .e (.n (some .nils) .e .e)))) none 9 296 0 0 true []
/-- A block by name. -/
def k7 : Blk := .cells (.n (some (.int .i64 (.ofNat 2))) (.n (some (.sl 653 0 1 1 false 9)) (.n (some (.bool false)) .e (.n (some .nils) .e .e)) (.n (some (.str 0 0)) .e (.n (some (.str 0 0)) .e .e))) (.n (some (.str 1 81)) (.n (some (.int .i64 (.ofNat 0))) .e (.n (some .nils) .e .e)) (.n (some (.int .i64 (.ofNat 0))) (.n (some (.str 0 0)) .e .e) (.n (some (.int .i64 (.ofNat 0))) .e .e)))) none 12 148 0 0 true []
/-- A block by name. -/
def k8 : Blk := .cells (.n (some (.str 1 49)) (.n (some (.str 0 0)) (.n (some (.sl 575 0 1 1 false 19)) .e .e) (.n (some (.bool false)) .e .e)) (.n (some (.int .i64 (.ofNat 0))) (.n (some (.bool false)) .e .e) (.n (some (.str 0 0)) .e (.n (some (.sl 662 0 1 1 false 12)) .e .e)))) none 8 95 0 0 false []
/-- A block by name. -/
def k9 : Blk := .cells (.n (some (.int .i64 (.ofNat 1))) (.n (some (.str 1 81)) (.n (some .nils) (.n (some .nils) .e .e) (.n (some (.int .i64 (.ofNat 0))) .e (.n (some .nils) .e .e))) (.n (some .nils) (.n (some (.int .i64 (.ofNat 0))) .e .e) (.n (some (.int .i64 (.ofNat 0))) .e (.n (some (.str 0 0)) .e .e)))) (.n (some (.str 0 0)) (.n (some .nils) (.n (some (.str 0 0)) .e .e) (.n (some (.str 0 0)) .e (.n (some (.str 0 0)) .e .e))) (.n (some (.sl 719 0 1 1 false 2)) (.n (some (.bool false)) .e .e) (.n (some .nils) .e (.n (some .nils) .e .e))))) none 19 200 0 0 true []
/-- A block by name. -/
def k10 : Blk := .cells (.n (some (.int .i64 (.ofNat 2))) (.n (some (.sl 804 0 1 1 false 9)) (.n (some (.bool false)) .e (.n (some .nils) .e .e)) (.n (some (.str 0 0)) .e (.n (some (.str 0 0)) .e .e))) (.n (some (.str 1 82)) (.n (some (.int .i64 (.ofNat 0))) .e (.n (some .nils) .e .e)) (.n (some (.int .i64 (.ofNat 0))) (.n (some (.str 0 0)) .e .e) (.n (some (.int .i64 (.ofNat 0))) .e .e)))) none 12 148 0 0 true []
/-- A block by name. -/
def k11 : Blk := .cells (.n (some (.str 1 49)) (.n (some (.str 0 0)) (.n (some (.sl 575 0 1 1 false 19)) (.n (some (.sl 726 0 1 1 false 19)) .e .e) (.n (some (.str 0 0)) .e .e)) (.n (some (.bool false)) (.n (some (.bool false)) .e .e) (.n (some (.str 1 50)) .e .e))) (.n (some (.int .i64 (.ofNat 0))) (.n (some (.bool false)) (.n (some (.bool false)) .e .e) (.n (some (.int .i64 (.ofNat 0))) .e .e)) (.n (some (.str 0 0)) (.n (some (.str 0 0)) .e .e) (.n (some (.sl 662 0 1 1 false 12)) .e (.n (some (.sl 813 0 1 1 false 12)) .e .e))))) none 16 95 0 0 true [665]
/-- A block by name. -/
def k12 : Blk := .map [((.str 1 82), (.int .i64 (.ofNat 2))), ((.str 1 81), (.int .i64 (.ofNat 1))), ((.str 1 80), (.int .i64 (.ofNat 0)))] 3
/-- A block by name. -/
def k13 : Blk := .cells (.n (some (.sl 2393 0 3 3 false 3)) .e (.n (some (.map 2350)) .e .e)) none 2 205 0 0 true []
/-- A block by name. -/
def k14 : Blk := .cells (.n (some (.str 1 80)) (.n (some (.sl 2363 0 1 1 false 3)) .e (.n (some (.str 0 0)) .e .e)) (.n (some (.str 0 0)) (.n (some (.sl 2377 0 1 1 false 3)) .e .e) (.n (some (.str 1 81)) .e .e))) none 6 90 0 0 false []
/-- A block by name. -/
def k15 : Blk := .cells (.n (some (.str 1 80)) (.n (some (.sl 2363 0 1 1 false 3)) (.n (some (.str 1 82)) .e .e) (.n (some (.str 0 0)) .e (.n (some (.sl 2391 0 1 1 false 3)) .e .e))) (.n (some (.str 0 0)) (.n (some (.sl 2377 0 1 1 false 3)) .e .e) (.n (some (.str 1 81)) .e (.n (some (.str 0 0)) .e .e)))) none 9 90 0 0 true [2379]
/-- A block by name. -/
def k16 : Blk := .cells (.n (some (.int .i64 (.ofNat 1))) (.n (some (.str 1 80)) (.n (some .nils) (.n (some .nils) .e .e) (.n (some (.int .i64 (.ofNat 0))) .e (.n (some .nils) .e .e))) (.n (some .nils) (.n (some (.int .i64 (.ofNat 0))) .e .e) (.n (some (.int .i64 (.ofNat 0))) .e (.n (some (.str 0 0)) .e .e)))) (.n (some (.str 0 0)) (.n (some .nils) (.n (some (.str 0 0)) .e .e) (.n (some (.str 0 0)) .e (.n (some (.str 0 0)) .e .e))) (.n (some (.sl 3810 0 1 1 false 2)) (.n (some (.bool false)) .e .e) (.n (some .nils) .e (.n (some .nils) .e .e))))) none 19 200 0 0 true []
/-- A block by name. -/
def k17 : Blk := .cells (.n (some (.int .i64 (.ofNat 0))) (.n (some (.sl 3816 0 1 1 false 19)) .e .e) (.n (some (.int .i64 (.ofNat 0))) .e .e)) none 3 213 0 0 false []
/-- A block by name. -/
def k18 : Blk := .cells (.n (some (.int .i64 (.ofNat 1))) (.n (some (.str 1 81)) (.n (some .nils) (.n (some .nils) .e .e) (.n (some (.int .i64 (.ofNat 0))) .e (.n (some .nils) .e .e))) (.n (some .nils) (.n (some (.int .i64 (.ofNat 0))) .e .e) (.n (some (.int .i64 (.ofNat 0))) .e (.n (some (.str 0 0)) .e .e)))) (.n (some (.str 0 0)) (.n (some .nils) (.n (some (.str 0 0)) .e .e) (.n (some (.str 0 0)) .e (.n (some (.str 0 0)) .e .e))) (.n (some (.sl 3846 0 1 1 false 2)) (.n (some (.bool false)) .e .e) (.n (some .nils) .e (.n (some .nils) .e .e))))) none 19 200 0 0 true []
/-- A block by name. -/
def k19 : Blk := .cells (.n (some (.int .i64 (.ofNat 0))) (.n (some (.sl 3816 0 1 1 false 19)) .e (.n (some (.int .i64 (.ofNat 0))) .e .e)) (.n (some (.int .i64 (.ofNat 0))) (.n (some (.sl 3852 0 1 1 false 19)) .e .e) (.n (some (.int .i64 (.ofNat 1))) .e .e))) none 6 213 0 0 true [3819]
/-- A block by name. -/
def k20 : Blk := .cells (.n (some (.map 4068)) (.n (some (.int .i64 (.ofNat 0))) .e .e) (.n (some (.map 4069)) .e (.n (some (.int .i64 (.ofNat 0))) .e .e))) none 4 232 0 0 true []
/-- A block by name. -/
def k21 : Blk := .cells (.n (some .nils) .e (.n (some (.fn 182 [] [])) .e .e)) none 2 165 0 0 true []
/-- A block by name. -/
def k22 : Blk := .cells (.n (some (.str 1 49)) (.n (some (.str 0 0)) (.n (some (.sl 575 0 1 1 false 19)) (.n (some (.sl 726 0 1 1 false 19)) .e .e) (.n (some (.str 0 0)) .e .e)) (.n (some (.bool false)) (.n (some (.bool false)) .e .e) (.n (some (.str 1 50)) .e .e))) (.n (some (.int .i64 (.ofNat 0))) (.n (some (.bool false)) (.n (some (.bool false)) .e .e) (.n (some (.int .i64 (.ofNat 0))) .e .e)) (.n (some (.str 0 0)) (.n (some (.str 0 0)) .e .e) (.n (some (.sl 662 0 1 1 false 12)) .e (.n (some (.sl 813 0 1 1 false 12)) .e .e))))) none 16 95 0 0 true []
/-- A block by name. -/
def k23 : Blk := .cells (.n (some (.str 4 1835100526)) .e .e) none 1 9 0 0 true []
/-- A block by name. -/
def k24 : Blk := .cells (.n (some (.sl 4078 0 2 2 false 8)) (.n (some (.sl 4087 0 2 2 false 1)) (.n (some (.fn 105 [] [])) .e .e) (.n (some (.map 4080)) .e .e)) (.n (some (.sl 3855 0 2 2 false 3)) (.n (some (.bool false)) .e .e) (.n (some (.sl 4079 0 1 1 true 1)) .e .e))) none 7 238 0 0 true []
/-- A block by name. -/
def k25 : Blk := .map [((.int .i64 (.ofNat 7)), (.fn 70 [(.ptr 4067 0)] [])), ((.int .i64 (.ofNat 6)), (.fn 69 [(.ptr 4067 0)] [])), ((.int .i64 (.ofNat 5)), (.fn 68 [(.ptr 4067 0)] [])), ((.int .i64 (.ofNat 4)), (.fn 67 [(.ptr 4067 0)] [])), ((.int .i64 (.ofNat 3)), (.fn 66 [(.ptr 4067 0)] [])), ((.int .i64 (.ofNat 2)), (.fn 65 [(.ptr 4067 0)] [])), ((.int .i64 (.ofNat 1)), (.fn 64 [(.ptr 4067 0)] []))] 7
/-- A block by name. -/
def k26 : Blk := .map [((.int .i64 (.ofNat 7)), (.fn 77 [] [])), ((.int .i64 (.ofNat 6)), (.fn 76 [] [])), ((.int .i64 (.ofNat 5)), (.fn 75 [] [])), ((.int .i64 (.ofNat 4)), (.fn 74 [] [])), ((.int .i64 (.ofNat 3)), (.fn 73 [] [])), ((.int .i64 (.ofNat 2)), (.fn 72 [] [])), ((.int .i64 (.ofNat 1)), (.fn 71 [] []))] 7
/-- A block by name. -/
def k27 : Blk := .cells (.n (some (.sl 514 0 3 3 false 3)) (.n (some .nils) (.n (some (.int .i64 (.ofNat 4))) .e .e) (.n (some (.int .i64 (.ofNat 9))) .e (.n (some (.sl 7965 0 3 3 false 6)) .e .e))) (.n (some (.sl 816 0 2 2 false 8)) (.n (some (.int .i64 (.ofNat 200))) .e .e) (.n (some (.ptr 2351 0)) .e (.n (some (.sl 3855 0 2 2 false 3)) .e .e)))) none 9 113 0 0 true []
/-- A block by name. -/
def k28 : Blk := .cells (.n (some (.sl 514 0 3 3 false 3)) (.n (some .nils) (.n (some (.ptr 2351 0)) (.n (some (.map 4089)) .e .e) (.n (some (.sl 3855 0 2 2 false 3)) .e .e)) (.n (some (.int .i64 (.ofNat 200))) (.n (some (.sl 4088 0 2 2 true 1)) .e .e) (.n (some (.ptr 4081 0)) .e .e))) (.n (some (.sl 816 0 2 2 false 8)) (.n (some (.int .i64 (.ofNat 4))) (.n (some (.fn 23 [] [(.ptr 4310 0)])) .e .e) (.n (some (.ptr 4070 0)) .e .e)) (.n (some (.int .i64 (.ofNat 9))) (.n (some (.ifc 106 (.ptr 4065 0))) .e .e) (.n (some (.ptr 4075 0)) .e (.n (some (.map 4090)) .e .e))))) none 16 123 0 0 true []
/-- A block by name. -/
def k29 : Blk := .cells (.n (some (.sl 4078 0 2 2 false 8)) (.n (some (.sl 4087 0 2 2 false 1)) (.n (some (.fn 321 [] [(.ptr 6730 0)])) .e .e) (.n (some (.map 4080)) .e .e)) (.n (some (.sl 3855 0 2 2 false 3)) (.n (some (.bool true)) .e .e) (.n (some (.sl 4079 0 1 1 true 1)) .e .e))) none 7 238 0 0 true []
/-- A block by name. -/
def k30 : Blk := .cells (.n (some (.int .i64 (.ofNat 2))) (.n (some (.int .i64 (.ofNat 1))) .e (.n (some .nils) .e .e)) (.n (some (.bool false)) .e (.n (some (.str 0 0)) .e .e))) none 5 57 0 0 true []
/-- A block by name. -/
def k31 : Blk := .cells (.n (some (.int .i64 (.ofNat 1))) .e .e) none 1 3 0 0 true []
/-- A block by name. -/
def k32 : Blk := .cells (.n (some (.int .i64 (.ofNat 2))) .e .e) none 1 3 0 0 true []
/-- A block by name. -/
def k33 : Blk := .cells (.n (some (.int .i64 (.ofNat 1))) (.n (some (.sl 4384 0 1 1 false 5)) (.n (some (.int .i64 (.ofNat 2))) .e (.n (some (.int .i64 (.ofNat 2))) .e .e)) (.n (some (.int .i64 (.ofNat 1))) .e (.n (some (.sl 5759 0 1 1 false 5)) .e .e))) (.n (some (.str 1 80)) (.n (some (.sl 4386 0 1 1 false 1)) .e (.n (some (.bool false)) .e .e)) (.n (some (.bool true)) (.n (some (.sl 5761 0 1 1 false 1)) .e .e) (.n (some (.str 1 81)) .e .e)))) none 12 67 0 0 false []
/-- A block by name. -/
def k34 : Blk := .map [((.str 24 340282366920938463481821351505477763072), (.ptr 4663 0))] 1
/-- A block by name. -/
def k35 : Blk := .map [((.str 24 680564733841876926963642703010955526144), (.ptr 6363 0))] 1
/-- A block by name. -/
def k36 : Blk := .cells (.n (some (.int .i64 (.ofNat 1))) (.n (some (.sl 4384 0 1 1 false 5)) (.n (some (.int .i64 (.ofNat 2))) (.n (some (.sl 7957 0 1 1 false 5)) .e .e) (.n (some (.int .i64 (.ofNat 2))) .e .e)) (.n (some (.int .i64 (.ofNat 1))) (.n (some (.int .i64 (.ofNat 3))) .e .e) (.n (some (.sl 5759 0 1 1 false 5)) .e (.n (some (.int .i64 (.ofNat 3))) .e .e)))) (.n (some (.str 1 80)) (.n (some (.sl 4386 0 1 1 false 1)) (.n (some (.str 1 82)) .e .e) (.n (some (.bool false)) .e (.n (some (.sl 7959 0 1 1 false 1)) .e .e))) (.n (some (.bool true)) (.n (some (.sl 5761 0 1 1 false 1)) .e .e) (.n (some (.str 1 81)) .e (.n (some (.bool false)) .e .e))))) none 18 67 0 0 true [5767]
/-- A block by name. -/
def k37 : Blk := .cells (.n (some (.map 8184)) .e (.n (some (.map 8509)) .e .e)) none 2 239 0 0 true [4084]
/-- A block by name. -/
def k38 : Blk := .cells (.n (some (.map 8241)) .e (.n (some (.map 8566)) .e .e)) (some .nilm) 2 177 0 0 true []
/-- A block by name. -/
def k39 : Blk := .map [((.str 24 340282366920938463481821351505477763072), (.int .i64 (.ofNat 1)))] 1
/-- A block by name. -/
def k40 : Blk := .map [((.str 24 680564733841876926963642703010955526144), (.int .i64 (.ofNat 1)))] 1
/-- A block by name. -/
def k41 : Blk := .cells (.n (some (.sl 4078 0 2 2 false 8)) (.n (some (.sl 4087 0 2 2 false 1)) (.n (some (.fn 105 [] [])) .e .e) (.n (some (.map 4080)) .e .e)) (.n (some (.sl 3855 0 2 2 false 3)) (.n (some (.bool true)) .e .e) (.n (some (.sl 4079 0 1 1 true 1)) .e .e))) none 7 238 0 0 true []
/-- A block by name. -/
def k42 : Blk := .cells (.n (some (.int .i64 (.ofNat 1))) .e .e) (some (.int .i64 (.ofNat 0))) 1 3 0 0 true []
/-- A block by name. -/
def k43 : Blk := .cells (.n (some (.int .i64 (.ofNat 1))) (.n (some (.sl 4322 0 1 1 true 5)) .e (.n (some (.int .i64 (.ofNat 1))) .e .e)) (.n (some (.str 1 80)) (.n (some (.sl 4323 0 1 1 true 1)) .e .e) (.n (some (.bool true)) .e .e))) none 6 67 0 0 true []
/-- A block by name. -/
def k44 : Blk := .cells (.n (some (.int .i64 (.ofNat 1))) .e .e) none 1 3 0 0 false []
/-- A block by name. -/
def k45 : Blk := .map [((.agg [(.int .i64 (.ofNat 0)), (.str 24 340282366920938463481821351505477763072)]), (.agg []))] 1
/-- A block by name. -/
def k46 : Blk := .cells (.n (some (.str 1 81)) (.n (some (.int .i64 (.ofNat 1))) .e .e) (.n (some (.sl 5115 0 1 1 false 5)) .e (.n (some (.map 5109)) .e .e))) none 4 373 0 0 true []
/-- A block by name. -/
def k47 : Blk := .cells (.n (some (.int .i64 (.ofNat 0))) (.n (some (.sl 5128 0 1 1 false 6)) .e (.n (some (.map 5116)) .e .e)) (.n (some (.sl 5123 0 1 1 false 3)) .e (.n (some (.int .i64 (.ofNat 2))) .e .e))) none 5 377 0 0 true []
/-- A block by name. -/
def k48 : Blk := .cells (.n (some (.int .i64 (.ofNat 1))) (.n (some .nils) .e .e) (.n (some (.int .i64 (.ofNat 1))) .e .e)) none 3 351 0 0 true []
/-- A block by name. -/
def k49 : Blk := .cells (.n (some (.str 1 120)) (.n (some (.bool false)) .e (.n (some (.str 0 0)) .e .e)) (.n (some (.int .i64 (.ofNat 2))) (.n (some .nils) .e .e) (.n (some (.int .i64 (.ofNat 1))) .e .e))) none 6 482 0 0 true []
/-- A block by name. -/
def k50 : Blk := .cells (.n (some (.int .i64 (.ofNat 2))) .e .e) (some (.int .i64 (.ofNat 0))) 1 3 0 0 true []
/-- A block by name. -/
def k51 : Blk := .cells (.n (some (.int .i64 (.ofNat 2))) (.n (some (.sl 5697 0 1 1 true 5)) .e (.n (some (.int .i64 (.ofNat 2))) .e .e)) (.n (some (.str 1 81)) (.n (some (.sl 5698 0 1 1 true 1)) .e .e) (.n (some (.bool false)) .e .e))) none 6 67 0 0 true []
/-- A block by name. -/
def k52 : Blk := .cells (.n (some (.sl 5751 0 1 1 false 1)) .e (.n (some (.fn 182 [] [])) .e .e)) none 2 165 0 0 true []
/-- A block by name. -/
def k53 : Blk := .cells (.n (some (.int .i64 (.ofNat 2))) (.n (some .nils) .e .e) (.n (some (.int .i64 (.ofNat 2))) .e .e)) none 3 351 0 0 true []
/-- A block by name. -/
def k54 : Blk := .map [((.agg [(.str 1 82), (.str 9 36893488147419103233)]), (.ptr 6894 0)), ((.agg [(.str 1 81), (.str 9 36893488147419103233)]), (.ptr 5110 0))] 2
/-- A block by name. -/
def k55 : Blk := .map [((.agg [(.int .i64 (.ofNat 1)), (.str 24 680564733841876926963642703010955526144)]), (.ptr 6901 0)), ((.agg [(.int .i64 (.ofNat 0)), (.str 24 340282366920938463481821351505477763072)]), (.ptr 5117 0))] 2
/-- A block by name. -/
def k56 : Blk := .cells (.n (some (.map 4068)) (.n (some (.int .i64 (.ofNat 4))) .e .e) (.n (some (.map 4069)) .e (.n (some (.int .i64 (.ofNat 2))) .e .e))) none 4 232 0 0 true []
/-- A block by name. -/
def k57 : Blk := .map [((.int .i64 (.ofNat 3)), (.ptr 7897 0)), ((.int .i64 (.ofNat 2)), (.ptr 5699 0)), ((.int .i64 (.ofNat 1)), (.ptr 4324 0))] 3
/-- A block by name. -/
def k58 : Blk := .cells (.n (some (.sl 7916 0 3 3 false 1)) .e (.n (some (.fn 182 [] [])) .e .e)) none 2 165 0 0 true []
/-- A block by name. -/
def k59 : Blk := .map [((.str 1 82), (.ptr 7917 0)), ((.str 1 81), (.ptr 5719 0)), ((.str 1 80), (.ptr 4344 0))] 3
/-- A block by name. -/
def k60 : Blk := .map [((.agg [(.str 1 82), (.str 9 36893488147419103233)]), (.ptr 7947 0)), ((.agg [(.str 1 81), (.str 9 36893488147419103233)]), (.ptr 5749 0)), ((.agg [(.str 1 80), (.str 9 36893488147419103233)]), (.ptr 4374 0))] 3
/-- A block by name. -/
def k61 : Blk := .cells (.n (some (.ptr 2351 0)) (.n (some (.int .i64 (.ofNat 3))) (.n (some (.map 4073)) .e .e) (.n (some (.map 4071)) .e .e)) (.n (some (.int .i64 (.ofNat 9))) (.n (some (.ptr 4072 0)) .e .e) (.n (some (.int .i64 (.ofNat 3))) .e (.n (some (.map 4074)) .e .e)))) none 8 171 0 0 true []
/-- A block by name. -/
def k62 : Blk := .cells (.n (some (.int .i64 (.ofNat 1))) .e (.n (some (.int .i64 (.ofNat 2))) .e .e)) none 2 3 0 0 false []
/-- A block by name. -/
def k63 : Blk := .cells (.n (some (.int .i64 (.ofNat 1))) (.n (some (.sl 6362 0 1 1 false 6)) .e .e) (.n (some (.sl 6357 0 1 1 false 3)) .e (.n (some (.bool true)) .e .e))) none 4 479 0 0 true []
/-- A block by name. -/
def k64 : Blk := .map [((.agg [(.int .i64 (.ofNat 1)), (.str 24 680564733841876926963642703010955526144)]), (.agg []))] 1
/-- A block by name. -/
def k65 : Blk := .cells (.n (some (.str 1 82)) (.n (some (.int .i64 (.ofNat 3))) .e .e) (.n (some (.sl 6899 0 1 1 false 5)) .e (.n (some (.map 6893)) .e .e))) none 4 373 0 0 true []
/-- A block by name. -/
def k66 : Blk := .map [((.agg [(.str 1 82), (.str 9 36893488147419103233)]), (.agg []))] 1
/-- A block by name. -/
def k67 : Blk := .cells (.n (some (.int .i64 (.ofNat 1))) (.n (some (.sl 6912 0 1 1 false 6)) .e (.n (some (.map 6900)) .e .e)) (.n (some (.sl 6907 0 1 1 false 3)) .e (.n (some (.int .i64 (.ofNat 4))) .e .e))) none 5 377 0 0 true []
/-- A block by name. -/
def k68 : Blk := .cells (.n (some (.int .i64 (.ofNat 3))) .e .e) (some (.int .i64 (.ofNat 0))) 1 3 0 0 true []
/-- A block by name. -/
def k69 : Blk := .cells (.n (some (.int .i64 (.ofNat 3))) (.n (some (.sl 7895 0 1 1 true 5)) .e (.n (some (.int .i64 (.ofNat 3))) .e .e)) (.n (some (.str 1 82)) (.n (some (.sl 7896 0 1 1 true 1)) .e .e) (.n (some (.bool false)) .e .e))) none 6 67 0 0 true []
/-- A block by name. -/
def k70 : Blk := .cells (.n (some (.int .i64 (.ofNat 1))) (.n (some (.int .i64 (.ofNat 3))) .e .e) (.n (some (.int .i64 (.ofNat 2))) .e .e)) none 3 3 0 0 true [5718]
/-- A block by name. -/
def k71 : Blk := .cells (.n (some (.sl 7919 0 1 1 false 1)) .e (.n (some (.fn 182 [] [])) .e .e)) none 2 165 0 0 true []
/-- A block by name. -/
def k72 : Blk := .cells (.n (some (.int .i64 (.ofNat 3))) .e .e) none 1 3 0 0 true []
/-- A block by name. -/
def k73 : Blk := .cells (.n (some (.sl 7949 0 1 1 false 1)) .e (.n (some (.fn 182 [] [])) .e .e)) none 2 165 0 0 true []
/-- A block by name. -/
def k74 : Blk := .cells (.n (some (.int .i64 (.ofNat 0))) (.n (some (.sl 4662 0 1 1 false 6)) .e .e) (.n (some (.sl 4657 0 1 1 false 3)) .e (.n (some (.bool true)) .e .e))) none 4 479 0 0 true []
/-- A block by name. -/
def k75 : Blk := .map [((.agg [(.str 1 81), (.str 9 36893488147419103233)]), (.agg []))] 1
/-- A block by name. -/
def k76 : Blk := .cells (.n (some (.sl 5721 0 1 1 false 1)) .e (.n (some (.fn 182 [] [])) .e .e)) none 2 165 0 0 true []
/-- A block by name. -/
def k77 : Blk := .cells (.n (some (.sl 514 0 3 3 false 3)) (.n (some .nils) (.n (some (.int .i64 (.ofNat 4))) .e .e) (.n (some (.int .i64 (.ofNat 9))) .e (.n (some (.sl 9168 0 4 4 false 6)) .e .e))) (.n (some (.sl 816 0 2 2 false 8)) (.n (some (.int .i64 (.ofNat 200))) .e .e) (.n (some (.ptr 2351 0)) .e (.n (some (.sl 3855 0 2 2 false 3)) .e .e)))) none 9 113 0 0 true []
/-- A block by name. -/
def k78 : Blk := .cells (.n (some (.int .i64 (.ofNat 1))) (.n (some (.sl 4384 0 1 1 false 5)) (.n (some (.int .i64 (.ofNat 2))) (.n (some (.sl 7957 0 1 1 false 5)) .e .e) (.n (some (.int .i64 (.ofNat 2))) .e .e)) (.n (some (.int .i64 (.ofNat 1))) (.n (some (.int .i64 (.ofNat 3))) .e .e) (.n (some (.sl 5759 0 1 1 false 5)) .e (.n (some (.int .i64 (.ofNat 3))) .e .e)))) (.n (some (.str 1 80)) (.n (some (.sl 4386 0 1 1 false 1)) (.n (some (.str 1 82)) .e .e) (.n (some (.bool false)) .e (.n (some (.sl 7959 0 1 1 false 1)) .e .e))) (.n (some (.bool true)) (.n (some (.sl 5761 0 1 1 false 1)) .e .e) (.n (some (.str 1 81)) .e (.n (some (.bool false)) .e .e))))) none 18 67 0 0 false []
/-- A block by name. -/
def k79 : Blk := .cells (.n (some (.int .i64 (.ofNat 4))) .e .e) none 1 3 0 0 true []
/-- A block by name. -/
def k80 : Blk := .cells (.n (some (.int .i64 (.ofNat 1))) (.n (some (.sl 4384 0 1 1 false 5)) (.n (some (.int .i64 (.ofNat 2))) (.n (some (.sl 7957 0 1 1 false 5)) .e (.n (some (.int .i64 (.ofNat 4))) .e .e)) (.n (some (.int .i64 (.ofNat 2))) .e (.n (some (.int .i64 (.ofNat 4))) .e .e))) (.n (some (.int .i64 (.ofNat 1))) (.n (some (.int .i64 (.ofNat 3))) .e (.n (some (.sl 9159 0 1 1 false 5)) .e .e)) (.n (some (.sl 5759 0 1 1 false 5)) .e (.n (some (.int .i64 (.ofNat 3))) .e .e)))) (.n (some (.str 1 80)) (.n (some (.sl 4386 0 1 1 false 1)) (.n (some (.str 1 82)) .e (.n (some (.bool true)) .e .e)) (.n (some (.bool false)) .e (.n (some (.sl 7959 0 1 1 false 1)) .e .e))) (.n (some (.bool true)) (.n (some (.sl 5761 0 1 1 false 1)) .e (.n (some (.str 1 81)) .e .e)) (.n (some (.str 1 81)) (.n (some (.sl 9161 0 1 1 false 1)) .e .e) (.n (some (.bool false)) .e .e))))) none 24 67 0 0 true [7965]
/-- A block by name. -/
def k81 : Blk := .cells (.n (some (.int .i64 (.ofNat 4))) (.n (some .nils) .e .e) (.n (some (.int .i64 (.ofNat 4))) .e .e)) none 3 351 0 0 true []
/-- A block by name. -/
def k82 : Blk := .cells (.n (some (.int .i64 (.ofNat 1))) (.n (some (.sl 9890 0 1 1 false 6)) .e .e) (.n (some (.sl 9885 0 1 1 false 3)) .e (.n (some (.bool false)) .e .e))) none 4 479 0 0 true []
/-- A block by name. -/
def k83 : Blk := .map [((.str 24 680564733841876926963642703010955526144), (.int .i64 (.ofNat 1))), ((.str 24 1361129467683753853927285406021911052288), (.int .i64 (.ofNat 1)))] 2
/-- A block by name. -/
def k84 : Blk := .cells (.n (some (.sl 514 0 3 3 false 3)) (.n (some .nils) (.n (some (.int .i64 (.ofNat 4))) .e .e) (.n (some (.int .i64 (.ofNat 9))) .e (.n (some (.sl 9168 0 2 4 false 6)) .e .e))) (.n (some (.sl 816 0 2 2 false 8)) (.n (some (.int .i64 (.ofNat 200))) .e .e) (.n (some (.ptr 2351 0)) .e (.n (some (.sl 3855 0 2 2 false 3)) .e .e)))) none 9 113 0 0 true []
/-- A block by name. -/
def k85 : Blk := .cells (.n (some (.int .i64 (.ofNat 1))) (.n (some (.sl 4384 0 1 1 false 5)) (.n (some (.int .i64 (.ofNat 4))) (.n (some .nils) .e (.n (some (.int .i64 (.ofNat 0))) .e .e)) (.n (some (.int .i64 (.ofNat 4))) .e (.n (some (.int .i64 (.ofNat 0))) .e .e))) (.n (some (.int .i64 (.ofNat 1))) (.n (some (.int .i64 (.ofNat 0))) .e (.n (some .nils) .e .e)) (.n (some (.sl 9159 0 1 1 false 5)) .e (.n (some (.int .i64 (.ofNat 0))) .e .e)))) (.n (some (.str 1 80)) (.n (some (.sl 4386 0 1 1 false 1)) (.n (some (.str 0 0)) .e (.n (some (.bool false)) .e .e)) (.n (some (.bool true)) .e (.n (some .nils) .e .e))) (.n (some (.bool true)) (.n (some (.sl 9161 0 1 1 false 1)) .e (.n (some (.str 0 0)) .e .e)) (.n (some (.str 1 81)) (.n (some .nils) .e .e) (.n (some (.bool false)) .e .e))))) none 24 67 0 0 true [7965]
/-- A block by name. -/
def k86 : Blk := .map [((.str 24 1361129467683753853927285406021911052288), (.ptr 9891 0))] 1
/-- A block by name. -/
def k87 : Blk := .cells (.n (some (.map 11542)) .e (.n (some (.map 11859)) .e .e)) none 2 239 0 0 true [4084]
/-- A block by name. -/
def k88 : Blk := .cells (.n (some (.map 11599)) .e (.n (some (.map 11916)) .e .e)) (some .nilm) 2 177 0 0 true []
/-- A block by name. -/
def k89 : Blk := .map [((.str 24 1361129467683753853927285406021911052288), (.int .i64 (.ofNat 1)))] 1
/-- A block by name. -/
def k90 : Blk := .cells (.n (some (.str 1 120)) (.n (some (.bool false)) .e (.n (some (.str 0 0)) .e .e)) (.n (some (.int .i64 (.ofNat 2))) (.n (some .nils) .e .e) (.n (some (.int .i64 (.ofNat 1))) .e .e))) none 6 60 0 0 true []
/-- A block by name. -/
def k91 : Blk := .map [((.agg [(.str 1 81), (.str 9 36893488147419103233)]), (.ptr 5110 0))] 2
/-- A block by name. -/
def k92 : Blk := .map [((.agg [(.int .i64 (.ofNat 0)), (.str 24 340282366920938463481821351505477763072)]), (.ptr 5117 0))] 2
/-- A block by name. -/
def k93 : Blk := .cells (.n (some (.map 4068)) (.n (some (.int .i64 (.ofNat 4))) .e .e) (.n (some (.map 4069)) .e (.n (some (.int .i64 (.ofNat 1))) .e .e))) none 4 232 0 0 true []
/-- A block by name. -/
def k94 : Blk := .map [((.int .i64 (.ofNat 4)), (.ptr 9101 0)), ((.int .i64 (.ofNat 1)), (.ptr 4324 0))] 4
/-- A block by name. -/
def k95 : Blk := .cells (.n (some (.sl 9120 0 2 4 false 1)) .e (.n (some (.fn 182 [] [])) .e .e)) none 2 165 0 0 true []
/-- A block by name. -/
def k96 : Blk := .map [((.agg [(.str 1 81), (.str 9 36893488147419103233)]), (.ptr 5749 0)), ((.agg [(.str 1 80), (.str 9 36893488147419103233)]), (.ptr 4374 0))] 3
/-- A block by name. -/
def k97 : Blk := .cells (.n (some (.ptr 2351 0)) (.n (some (.int .i64 (.ofNat 4))) (.n (some (.map 4073)) .e .e) (.n (some (.map 4071)) .e .e)) (.n (some (.int .i64 (.ofNat 9))) (.n (some (.ptr 4072 0)) .e .e) (.n (some (.int .i64 (.ofNat 6))) .e (.n (some (.map 4074)) .e .e)))) none 8 171 0 0 true []
/-- A block by name. -/
def k98 : Blk := .cells (.n (some (.sl 11333 0 11 11 false 10)) .e .e) none 1 29 0 0 true []
/-- A block by name. -/
def k99 : Blk := .cells (.n (some (.sl 9151 0 1 2 false 1)) .e (.n (some (.fn 182 [] [])) .e .e)) none 2 165 0 0 true []
/-- A block by name. -/
def k100 : Blk := .cells (.n (some (.sl 7919 0 0 1 false 1)) .e (.n (some (.fn 182 [] [])) .e .e)) none 2 165 0 0 true []
/-- A block by name. -/
def k101 : Blk := .cells (.n (some (.int .i64 (.ofNat 0))) .e .e) none 1 3 0 0 true []
/-- A block by name. -/
def k102 : Blk := .cells (.n (some (.int .i64 (.ofNat 4))) .e .e) (some (.int .i64 (.ofNat 0))) 1 3 0 0 true []
/-- A block by name. -/
def k103 : Blk := .cells (.n (some (.int .i64 (.ofNat 4))) (.n (some (.sl 9099 0 1 1 true 5)) .e (.n (some (.int .i64 (.ofNat 4))) .e .e)) (.n (some (.str 1 81)) (.n (some (.sl 9100 0 1 1 true 1)) .e .e) (.n (some (.bool true)) .e .e))) none 6 67 0 0 true []
/-- A block by name. -/
def k104 : Blk := .cells (.n (some (.int .i64 (.ofNat 1))) (.n (some (.int .i64 (.ofNat 0))) .e .e) (.n (some (.int .i64 (.ofNat 4))) .e (.n (some (.int .i64 (.ofNat 0))) .e .e))) none 4 3 0 0 true [7916]
/-- A block by name. -/
def k105 : Blk := .cells (.n (some (.int .i64 (.ofNat 4))) .e (.n (some (.int .i64 (.ofNat 0))) .e .e)) none 2 3 0 0 true [5751]
/-- A block by name. -/
def k106 : Blk := .cells (.n (some (.int .i64 (.ofNat 1))) (.n (some (.bool true)) (.n (some (.str 0 0)) (.n (some (.int .i64 (.ofNat 0))) (.n (some (.int .i64 (.ofNat 4))) (.n (some (.bool false)) .e (.n (some (.int .i64 (.ofNat 0))) .e .e)) (.n (some (.str 0 0)) .e (.n (some (.int .i64 (.ofNat 0))) .e .e))) (.n (some (.bool false)) (.n (some (.int .i64 (.ofNat 0))) .e (.n (some (.str 0 0)) .e .e)) (.n (some (.int .i64 (.ofNat 0))) .e (.n (some (.int .i64 (.ofNat 11))) .e .e)))) (.n (some (.int .i64 (.ofNat 4))) (.n (some (.str 0 0)) (.n (some (.int .i64 (.ofNat 2))) .e (.n (some (.int .i64 (.ofNat 3))) .e .e)) (.n (some (.bool false)) .e (.n (some (.int .i64 (.ofNat 0))) .e .e))) (.n (some (.int .i64 (.ofNat 0))) (.n (some (.int .i64 (.ofNat 10))) .e (.n (some (.bool true)) .e .e)) (.n (some (.int .i64 (.ofNat 0))) (.n (some (.int .i64 (.ofNat 0))) .e .e) (.n (some (.str 0 0)) .e .e))))) (.n (some (.int .i64 (.ofNat 0))) (.n (some (.bool false)) (.n (some (.int .i64 (.ofNat 0))) (.n (some (.int .i64 (.ofNat 11))) .e (.n (some (.bool false)) .e .e)) (.n (some (.int .i64 (.ofNat 0))) .e (.n (some (.str 0 0)) .e .e))) (.n (some (.int .i64 (.ofNat 1))) (.n (some (.bool false)) .e (.n (some (.int .i64 (.ofNat 0))) .e .e)) (.n (some (.str 0 0)) .e (.n (some (.int .i64 (.ofNat 0))) .e .e)))) (.n (some (.int .i64 (.ofNat 0))) (.n (some (.int .i64 (.ofNat 0))) (.n (some (.str 0 0)) .e (.n (some (.int .i64 (.ofNat 0))) .e .e)) (.n (some (.int .i64 (.ofNat 1))) .e (.n (some (.bool false)) .e .e))) (.n (some (.str 0 0)) (.n (some (.int .i64 (.ofNat 0))) .e (.n (some (.int .i64 (.ofNat 1))) .e .e)) (.n (some (.bool false)) (.n (some (.str 0 0)) .e .e) (.n (some (.int .i64 (.ofNat 0))) .e .e)))))) (.n (some (.int .i64 (.ofNat 1))) (.n (some .nils) (.n (some (.int .i64 (.ofNat 0))) (.n (some (.int .i64 (.ofNat 0))) (.n (some (.int .i64 (.ofNat 0))) .e (.n (some (.int .i64 (.ofNat 0))) .e .e)) (.n (some .nils) .e (.n (some .nils) .e .e))) (.n (some (.int .i64 (.ofNat 2))) (.n (some (.int .i64 (.ofNat 0))) .e (.n (some .nils) .e .e)) (.n (some .nils) .e (.n (some (.int .i64 (.ofNat 13))) .e .e)))) (.n (some (.int .i64 (.ofNat 0))) (.n (some .nils) (.n (some .nils) .e (.n (some (.int .i64 (.ofNat 0))) .e .e)) (.n (some (.int .i64 (.ofNat 3))) .e (.n (some (.int .i64 (.ofNat 0))) .e .e))) (.n (some .nils) (.n (some (.int .i64 (.ofNat 0))) .e (.n (some (.int .i64 (.ofNat 4))) .e .e)) (.n (some (.int .i64 (.ofNat 1))) (.n (some .nils) .e .e) (.n (some .nils) .e .e))))) (.n (some (.int .i64 (.ofNat 0))) (.n (some (.int .i64 (.ofNat 0))) (.n (some .nils) (.n (some (.int .i64 (.ofNat 0))) .e (.n (some (.int .i64 (.ofNat 2))) .e .e)) (.n (some (.int .i64 (.ofNat 0))) .e (.n (some .nils) .e .e))) (.n (some (.int .i64 (.ofNat 0))) (.n (some (.int .i64 (.ofNat 0))) .e (.n (some (.int .i64 (.ofNat 0))) .e .e)) (.n (some (.sl 6672 0 1 1 false 3)) (.n (some (.int .i64 (.ofNat 0))) .e .e) (.n (some .nils) .e .e)))) (.n (some .nils) (.n (some (.int .i64 (.ofNat 0))) (.n (some .nils) .e (.n (some .nils) .e .e)) (.n (some (.int .i64 (.ofNat 0))) .e (.n (some (.int .i64 (.ofNat 0))) .e .e))) (.n (some (.sl 4888 0 1 1 false 3)) (.n (some .nils) .e (.n (some (.int .i64 (.ofNat 13))) .e .e)) (.n (some (.int .i64 (.ofNat 0))) (.n (some .nils) .e .e) (.n (some (.int .i64 (.ofNat 0))) .e .e))))))) none 100 40 0 0 false []
/-- A block by name. -/
def k107 : Blk := .cells (.n (some (.int .i64 (.ofNat 1))) (.n (some (.bool true)) (.n (some (.str 0 0)) (.n (some (.int .i64 (.ofNat 0))) (.n (some (.int .i64 (.ofNat 4))) (.n (some (.bool false)) .e (.n (some (.int .i64 (.ofNat 0))) .e .e)) (.n (some (.str 0 0)) .e (.n (some (.int .i64 (.ofNat 0))) .e .e))) (.n (some (.bool false)) (.n (some (.int .i64 (.ofNat 0))) .e (.n (some (.str 0 0)) .e .e)) (.n (some (.int .i64 (.ofNat 0))) (.n (some (.bool false)) .e .e) (.n (some (.int .i64 (.ofNat 11))) .e .e)))) (.n (some (.int .i64 (.ofNat 4))) (.n (some (.str 0 0)) (.n (some (.int .i64 (.ofNat 2))) .e (.n (some (.int .i64 (.ofNat 3))) .e .e)) (.n (some (.bool false)) (.n (some (.str 0 0)) .e .e) (.n (some (.int .i64 (.ofNat 0))) .e .e))) (.n (some (.int .i64 (.ofNat 0))) (.n (some (.int .i64 (.ofNat 10))) .e (.n (some (.bool true)) .e .e)) (.n (some (.int .i64 (.ofNat 0))) (.n (some (.int .i64 (.ofNat 0))) .e .e) (.n (some (.str 0 0)) .e .e))))) (.n (some (.int .i64 (.ofNat 0))) (.n (some (.bool false)) (.n (some (.int .i64 (.ofNat 0))) (.n (some (.int .i64 (.ofNat 11))) .e (.n (some (.bool false)) .e .e)) (.n (some (.int .i64 (.ofNat 0))) (.n (some (.int .i64 (.ofNat 0))) .e .e) (.n (some (.str 0 0)) .e .e))) (.n (some (.int .i64 (.ofNat 1))) (.n (some (.bool false)) .e (.n (some (.int .i64 (.ofNat 0))) .e .e)) (.n (some (.str 0 0)) (.n (some (.int .i64 (.ofNat 3))) .e .e) (.n (some (.int .i64 (.ofNat 0))) .e .e)))) (.n (some (.int .i64 (.ofNat 0))) (.n (some (.int .i64 (.ofNat 0))) (.n (some (.str 0 0)) .e (.n (some (.int .i64 (.ofNat 0))) .e .e)) (.n (some (.int .i64 (.ofNat 1))) (.n (some (.int .i64 (.ofNat 0))) .e .e) (.n (some (.bool false)) .e .e))) (.n (some (.str 0 0)) (.n (some (.int .i64 (.ofNat 0))) .e (.n (some (.int .i64 (.ofNat 1))) .e .e)) (.n (some (.bool false)) (.n (some (.str 0 0)) .e .e) (.n (some (.int .i64 (.ofNat 0))) .e .e)))))) (.n (some (.int .i64 (.ofNat 1))) (.n (some .nils) (.n (some (.int .i64 (.ofNat 0))) (.n (some (.int .i64 (.ofNat 0))) (.n (some (.int .i64 (.ofNat 0))) .e (.n (some (.int .i64 (.ofNat 0))) .e .e)) (.n (some .nils) (.n (some (.int .i64 (.ofNat 0))) .e .e) (.n (some .nils) .e .e))) (.n (some (.int .i64 (.ofNat 2))) (.n (some (.int .i64 (.ofNat 0))) .e (.n (some .nils) .e .e)) (.n (some .nils) (.n (some (.int .i64 (.ofNat 3))) .e .e) (.n (some (.int .i64 (.ofNat 13))) .e .e)))) (.n (some (.int .i64 (.ofNat 0))) (.n (some .nils) (.n (some .nils) .e (.n (some (.int .i64 (.ofNat 0))) .e .e)) (.n (some (.int .i64 (.ofNat 3))) (.n (some .nils) .e .e) (.n (some (.int .i64 (.ofNat 0))) .e .e))) (.n (some .nils) (.n (some (.int .i64 (.ofNat 0))) .e (.n (some (.int .i64 (.ofNat 4))) .e .e)) (.n (some (.int .i64 (.ofNat 1))) (.n (some .nils) .e .e) (.n (some .nils) .e .e))))) (.n (some (.int .i64 (.ofNat 0))) (.n (some (.int .i64 (.ofNat 0))) (.n (some .nils) (.n (some (.int .i64 (.ofNat 0))) .e (.n (some (.int .i64 (.ofNat 2))) .e .e)) (.n (some (.int .i64 (.ofNat 0))) (.n (some .nils) .e .e) (.n (some .nils) .e .e))) (.n (some (.int .i64 (.ofNat 0))) (.n (some (.int .i64 (.ofNat 0))) .e (.n (some (.int .i64 (.ofNat 0))) .e .e)) (.n (some (.sl 6672 0 1 1 false 3)) (.n (some (.int .i64 (.ofNat 0))) .e .e) (.n (some .nils) .e .e)))) (.n (some .nils) (.n (some (.int .i64 (.ofNat 0))) (.n (some .nils) .e (.n (some .nils) .e .e)) (.n (some (.int .i64 (.ofNat 0))) (.n (some (.int .i64 (.ofNat 0))) .e .e) (.n (some (.int .i64 (.ofNat 0))) .e .e))) (.n (some (.sl 4888 0 1 1 false 3)) (.n (some .nils) .e (.n (some (.int .i64 (.ofNat 13))) .e .e)) (.n (some (.int .i64 (.ofNat 0))) (.n (some .nils) .e .e) (.n (some (.int .i64 (.ofNat 0))) .e .e))))))) none 110 40 0 0 true [10360]
/-- A block by name. -/
def k108 : Blk := .cells (.n (some (.sl 514 0 3 3 false 3)) (.n (some .nils) (.n (some (.int .i64 (.ofNat 4))) .e .e) (.n (some (.int .i64 (.ofNat 9))) .e (.n (some (.sl 9168 0 3 4 false 6)) .e .e))) (.n (some (.sl 816 0 2 2 false 8)) (.n (some (.int .i64 (.ofNat 200))) .e .e) (.n (some (.ptr 2351 0)) .e (.n (some (.sl 3855 0 2 2 false 3)) .e .e)))) none 9 113 0 0 true []
/-- A block by name. -/
def k109 : Blk := .cells (.n (some (.sl 4078 0 2 2 false 8)) (.n (some (.sl 4087 0 2 2 false 1)) (.n (some (.fn 321 [] [(.ptr 12204 0)])) .e .e) (.n (some (.map 4080)) .e .e)) (.n (some (.sl 3855 0 2 2 false 3)) (.n (some (.bool true)) .e .e) (.n (some (.sl 4079 0 1 1 true 1)) .e .e))) none 7 238 0 0 true []
/-- A block by name. -/
def k110 : Blk := .cells (.n (some (.int .i64 (.ofNat 1))) (.n (some (.sl 4384 0 1 1 false 5)) (.n (some (.int .i64 (.ofNat 4))) (.n (some (.sl 13347 0 1 1 false 5)) .e (.n (some (.int .i64 (.ofNat 0))) .e .e)) (.n (some (.int .i64 (.ofNat 4))) .e (.n (some (.int .i64 (.ofNat 0))) .e .e))) (.n (some (.int .i64 (.ofNat 1))) (.n (some (.int .i64 (.ofNat 5))) .e (.n (some .nils) .e .e)) (.n (some (.sl 9159 0 1 1 false 5)) .e (.n (some (.int .i64 (.ofNat 7))) .e .e)))) (.n (some (.str 1 80)) (.n (some (.sl 4386 0 1 1 false 1)) (.n (some (.str 1 82)) .e (.n (some (.bool false)) .e .e)) (.n (some (.bool true)) .e (.n (some (.sl 13349 0 1 1 false 1)) .e .e))) (.n (some (.bool true)) (.n (some (.sl 9161 0 1 1 false 1)) .e (.n (some (.str 0 0)) .e .e)) (.n (some (.str 1 81)) (.n (some .nils) .e .e) (.n (some (.bool false)) .e .e))))) none 24 67 0 0 true [7965]
/-- A block by name. -/
def k111 : Blk := .cells (.n (some (.map 13573)) .e (.n (some (.map 13898)) .e .e)) none 2 239 0 0 true [4084]
/-- A block by name. -/
def k112 : Blk := .cells (.n (some (.map 13630)) .e (.n (some (.map 13955)) .e .e)) (some .nilm) 2 177 0 0 true []
/-- A block by name. -/
def k113 : Blk := .cells (.n (some (.int .i64 (.ofNat 5))) .e .e) none 1 3 0 0 true []
/-- A block by name. -/
def k114 : Blk := .map [((.agg [(.int .i64 (.ofNat 1)), (.str 24 1361129467683753853927285406021911052288)]), (.agg []))] 1
/-- A block by name. -/
def k115 : Blk := .cells (.n (some (.int .i64 (.ofNat 7))) .e .e) (some (.int .i64 (.ofNat 0))) 1 3 0 0 true []
/-- A block by name. -/
def k116 : Blk := .cells (.n (some (.int .i64 (.ofNat 7))) .e .e) none 1 3 0 0 true []
/-- A block by name. -/
def k117 : Blk := .cells (.n (some (.int .i64 (.ofNat 1))) (.n (some (.sl 819 0 1 1 true 6)) (.n (some (.int .i64 (.ofNat 0))) (.n (some (.int .i64 (.ofNat 9))) (.n (some (.int .i64 (.ofNat 0))) .e (.n (some (.int .i64 (.ofNat 9))) .e .e)) (.n (some (.int .i64 (.ofNat 0))) (.n (some (.int .i64 (.ofNat 0))) .e .e) (.n (some (.int .i64 (.ofNat 0))) .e .e))) (.n (some .nils) (.n (some .nils) .e (.n (some .nils) .e .e)) (.n (some (.sl 819 0 1 1 true 6)) (.n (some .nils) .e .e) (.n (some (.sl 819 0 1 1 true 6)) .e .e)))) (.n (some (.str 0 0)) (.n (some (.str 0 0)) (.n (some (.str 0 0)) .e (.n (some (.str 0 0)) .e .e)) (.n (some (.str 0 0)) (.n (some (.str 0 0)) .e .e) (.n (some (.str 0 0)) .e .e))) (.n (some (.int .i64 (.ofNat 6))) (.n (some (.int .i64 (.ofNat 3))) .e (.n (some (.int .i64 (.ofNat 6))) .e .e)) (.n (some (.int .i64 (.ofNat 2))) (.n (some (.int .i64 (.ofNat 3))) .e .e) (.n (some (.int .i64 (.ofNat 1))) .e .e))))) (.n (some (.str 1 80)) (.n (some (.bool false)) (.n (some (.bool false)) (.n (some (.bool false)) .e (.n (some (.bool false)) .e .e)) (.n (some (.bool false)) (.n (some (.bool false)) .e .e) (.n (some (.bool false)) .e .e))) (.n (some (.str 0 0)) (.n (some (.str 0 0)) .e (.n (some (.str 0 0)) .e .e)) (.n (some (.str 0 0)) (.n (some (.str 0 0)) .e .e) (.n (some (.str 1 81)) .e .e)))) (.n (some (.int .i64 (.ofNat 0))) (.n (some (.int .i64 (.ofNat 0))) (.n (some (.int .i64 (.ofNat 3))) .e (.n (some (.int .i64 (.ofNat 0))) .e .e)) (.n (some (.int .i64 (.ofNat 2))) (.n (some (.int .i64 (.ofNat 1))) .e .e) (.n (some (.int .i64 (.ofNat 0))) .e .e))) (.n (some .nils) (.n (some .nils) (.n (some .nils) .e .e) (.n (some .nils) .e .e)) (.n (some .nils) (.n (some .nils) .e .e) (.n (some .nils) .e .e)))))) none 56 46 0 0 true []
/-- A block by name. -/
def k118 : Blk := .cells (.n (some (.sl 16713 0 3 3 false 3)) .e (.n (some (.map 16670)) .e .e)) none 2 205 0 0 true []
/-- A block by name. -/
def k119 : Blk := .cells (.n (some (.str 1 80)) (.n (some (.sl 16683 0 1 1 false 3)) .e (.n (some (.str 0 0)) .e .e)) (.n (some (.str 0 0)) (.n (some (.sl 16697 0 1 1 false 3)) .e .e) (.n (some (.str 1 81)) .e .e))) none 6 90 0 0 false []
/-- A block by name. -/
def k120 : Blk := .cells (.n (some (.str 1 80)) (.n (some (.sl 16683 0 1 1 false 3)) (.n (some (.str 1 82)) .e .e) (.n (some (.str 0 0)) .e (.n (some (.sl 16711 0 1 1 false 3)) .e .e))) (.n (some (.str 0 0)) (.n (some (.sl 16697 0 1 1 false 3)) .e .e) (.n (some (.str 1 81)) .e (.n (some (.str 0 0)) .e .e)))) none 9 90 0 0 true [16699]
/-- A block by name. -/
def k121 : Blk := .cells (.n (some (.int .i64 (.ofNat 1))) (.n (some (.str 1 80)) (.n (some .nils) (.n (some .nils) .e .e) (.n (some (.int .i64 (.ofNat 0))) .e (.n (some .nils) .e .e))) (.n (some .nils) (.n (some (.int .i64 (.ofNat 0))) .e .e) (.n (some (.int .i64 (.ofNat 0))) .e (.n (some (.str 0 0)) .e .e)))) (.n (some (.str 0 0)) (.n (some .nils) (.n (some (.str 0 0)) .e .e) (.n (some (.str 0 0)) .e (.n (some (.str 0 0)) .e .e))) (.n (some (.sl 18130 0 1 1 false 2)) (.n (some (.bool false)) .e .e) (.n (some .nils) .e (.n (some .nils) .e .e))))) none 19 200 0 0 true []
/-- A block by name. -/
def k122 : Blk := .cells (.n (some (.int .i64 (.ofNat 0))) (.n (some (.sl 18136 0 1 1 false 19)) .e .e) (.n (some (.int .i64 (.ofNat 0))) .e .e)) none 3 213 0 0 false []
/-- A block by name. -/
def k123 : Blk := .cells (.n (some (.int .i64 (.ofNat 1))) (.n (some (.str 1 81)) (.n (some .nils) (.n (some .nils) .e .e) (.n (some (.int .i64 (.ofNat 0))) .e (.n (some .nils) .e .e))) (.n (some .nils) (.n (some (.int .i64 (.ofNat 0))) .e .e) (.n (some (.int .i64 (.ofNat 0))) .e (.n (some (.str 0 0)) .e .e)))) (.n (some (.str 0 0)) (.n (some .nils) (.n (some (.str 0 0)) .e .e) (.n (some (.str 0 0)) .e (.n (some (.str 0 0)) .e .e))) (.n (some (.sl 18166 0 1 1 false 2)) (.n (some (.bool false)) .e .e) (.n (some .nils) .e (.n (some .nils) .e .e))))) none 19 200 0 0 true []
/-- A block by name. -/
def k124 : Blk := .cells (.n (some (.int .i64 (.ofNat 0))) (.n (some (.sl 18136 0 1 1 false 19)) .e (.n (some (.int .i64 (.ofNat 0))) .e .e)) (.n (some (.int .i64 (.ofNat 0))) (.n (some (.sl 18172 0 1 1 false 19)) .e .e) (.n (some (.int .i64 (.ofNat 1))) .e .e))) none 6 213 0 0 true [18139]
/-- A block by name. -/
def k125 : Blk := .cells (.n (some (.map 18388)) (.n (some (.int .i64 (.ofNat 0))) .e .e) (.n (some (.map 18389)) .e (.n (some (.int .i64 (.ofNat 0))) .e .e))) none 4 232 0 0 true []
/-- A block by name. -/
def k126 : Blk := .cells (.n (some (.sl 18398 0 2 2 false 8)) (.n (some (.sl 18407 0 2 2 false 1)) (.n (some (.fn 105 [] [])) .e .e) (.n (some (.map 18400)) .e .e)) (.n (some (.sl 18175 0 2 2 false 3)) (.n (some (.bool false)) .e .e) (.n (some (.sl 18399 0 1 1 true 1)) .e .e))) none 7 238 0 0 true []
/-- A block by name. -/
def k127 : Blk := .map [((.int .i64 (.ofNat 7)), (.fn 70 [(.ptr 18387 0)] [])), ((.int .i64 (.ofNat 6)), (.fn 69 [(.ptr 18387 0)] [])), ((.int .i64 (.ofNat 5)), (.fn 68 [(.ptr 18387 0)] [])), ((.int .i64 (.ofNat 4)), (.fn 67 [(.ptr 18387 0)] [])), ((.int .i64 (.ofNat 3)), (.fn 66 [(.ptr 18387 0)] [])), ((.int .i64 (.ofNat 2)), (.fn 65 [(.ptr 18387 0)] [])), ((.int .i64 (.ofNat 1)), (.fn 64 [(.ptr 18387 0)] []))] 7
/-- A block by name. -/
def k128 : Blk := .cells (.n (some (.sl 514 0 3 3 false 3)) (.n (some .nils) (.n (some (.int .i64 (.ofNat 4))) .e .e) (.n (some (.int .i64 (.ofNat 9))) .e (.n (some (.sl 20082 0 2 2 false 6)) .e .e))) (.n (some (.sl 816 0 2 2 false 8)) (.n (some (.int .i64 (.ofNat 200))) .e .e) (.n (some (.ptr 16671 0)) .e (.n (some (.sl 18175 0 2 2 false 3)) .e .e)))) none 9 113 0 0 true []
/-- A block by name. -/
def k129 : Blk := .cells (.n (some (.sl 514 0 3 3 false 3)) (.n (some .nils) (.n (some (.ptr 16671 0)) (.n (some (.map 18409)) .e .e) (.n (some (.sl 18175 0 2 2 false 3)) .e .e)) (.n (some (.int .i64 (.ofNat 200))) (.n (some (.sl 18408 0 2 2 true 1)) .e .e) (.n (some (.ptr 18401 0)) .e .e))) (.n (some (.sl 816 0 2 2 false 8)) (.n (some (.int .i64 (.ofNat 4))) (.n (some (.fn 24 [] [])) .e .e) (.n (some (.ptr 18390 0)) .e .e)) (.n (some (.int .i64 (.ofNat 9))) (.n (some (.ifc 106 (.ptr 18385 0))) .e .e) (.n (some (.ptr 18395 0)) .e (.n (some (.map 18410)) .e .e))))) none 16 123 0 0 true []
/-- A block by name. -/
def k130 : Blk := .cells (.n (some (.sl 18398 0 2 2 false 8)) (.n (some (.sl 18407 0 2 2 false 1)) (.n (some (.fn 321 [] [(.ptr 21041 0)])) .e .e) (.n (some (.map 18400)) .e .e)) (.n (some (.sl 18175 0 2 2 false 3)) (.n (some (.bool true)) .e .e) (.n (some (.sl 18399 0 1 1 true 1)) .e .e))) none 7 238 0 0 true []
/-- A block by name. -/
def k131 : Blk := .cells (.n (some (.map 20291)) .e (.n (some (.map 20608)) .e .e)) none 2 239 0 0 true [18404]
/-- A block by name. -/
def k132 : Blk := .cells (.n (some (.map 20348)) .e (.n (some (.map 20677)) .e .e)) (some .nilm) 2 177 0 0 true []
/-- A block by name. -/
def k133 : Blk := .cells (.n (some (.int .i64 (.ofNat 1))) (.n (some (.sl 18703 0 1 1 false 5)) .e (.n (some (.int .i64 (.ofNat 1))) .e .e)) (.n (some (.str 1 80)) (.n (some (.sl 18705 0 1 1 false 1)) .e .e) (.n (some (.bool true)) .e .e))) none 6 67 0 0 false []
/-- A block by name. -/
def k134 : Blk := .cells (.n (some (.int .i64 (.ofNat 1))) (.n (some (.sl 18703 0 1 1 false 5)) (.n (some (.int .i64 (.ofNat 2))) .e (.n (some (.int .i64 (.ofNat 2))) .e .e)) (.n (some (.int .i64 (.ofNat 1))) .e (.n (some (.sl 20074 0 1 1 false 5)) .e .e))) (.n (some (.str 1 80)) (.n (some (.sl 18705 0 1 1 false 1)) .e (.n (some (.bool false)) .e .e)) (.n (some (.bool true)) (.n (some (.sl 20076 0 1 1 false 1)) .e .e) (.n (some (.str 1 81)) .e .e)))) none 12 67 0 0 true [18710]
/-- A block by name. -/
def k135 : Blk := .map [((.str 24 340282366920938463481821351505477763072), (.ptr 18980 0))] 1
/-- A block by name. -/
def k136 : Blk := .map [((.str 24 680564733841876926963642703010955526144), (.ptr 20676 0))] 1
/-- A block by name. -/
def k137 : Blk := .cells (.n (some (.map 21433)) .e (.n (some (.map 21750)) .e .e)) none 2 239 0 0 true [18404]
/-- A block by name. -/
def k138 : Blk := .cells (.n (some (.map 21490)) .e (.n (some (.map 21807)) .e .e)) (some .nilm) 2 177 0 0 true []
/-- A block by name. -/
def k139 : Blk := .cells (.n (some (.sl 514 0 3 3 false 3)) (.n (some .nils) (.n (some (.int .i64 (.ofNat 4))) .e .e) (.n (some (.int .i64 (.ofNat 9))) .e (.n (some (.sl 22276 0 3 3 false 6)) .e .e))) (.n (some (.sl 816 0 2 2 false 8)) (.n (some (.int .i64 (.ofNat 200))) .e .e) (.n (some (.ptr 16671 0)) .e (.n (some (.sl 18175 0 2 2 false 3)) .e .e)))) none 9 113 0 0 true []
/-- A block by name. -/
def k140 : Blk := .cells (.n (some (.int .i64 (.ofNat 1))) (.n (some (.sl 18703 0 1 1 false 5)) (.n (some (.int .i64 (.ofNat 2))) .e (.n (some (.int .i64 (.ofNat 2))) .e .e)) (.n (some (.int .i64 (.ofNat 1))) .e (.n (some (.sl 20074 0 1 1 false 5)) .e .e))) (.n (some (.str 1 80)) (.n (some (.sl 18705 0 1 1 false 1)) .e (.n (some (.bool false)) .e .e)) (.n (some (.bool true)) (.n (some (.sl 20076 0 1 1 false 1)) .e .e) (.n (some (.str 1 81)) .e .e)))) none 12 67 0 0 false []
/-- A block by name. -/
def k141 : Blk := .cells (.n (some (.int .i64 (.ofNat 1))) (.n (some (.sl 18703 0 1 1 false 5)) (.n (some (.int .i64 (.ofNat 2))) (.n (some (.sl 22268 0 1 1 false 5)) .e .e) (.n (some (.int .i64 (.ofNat 2))) .e .e)) (.n (some (.int .i64 (.ofNat 1))) (.n (some (.int .i64 (.ofNat 3))) .e .e) (.n (some (.sl 20074 0 1 1 false 5)) .e (.n (some (.int .i64 (.ofNat 3))) .e .e)))) (.n (some (.str 1 80)) (.n (some (.sl 18705 0 1 1 false 1)) (.n (some (.str 1 82)) .e .e) (.n (some (.bool false)) .e (.n (some (.sl 22270 0 1 1 false 1)) .e .e))) (.n (some (.bool true)) (.n (some (.sl 20076 0 1 1 false 1)) .e .e) (.n (some (.str 1 81)) .e (.n (some (.bool false)) .e .e))))) none 18 67 0 0 true [20082]
/-- A block by name. -/
def k142 : Blk := .cells (.n (some (.map 22493)) .e (.n (some (.map 22818)) .e .e)) none 2 239 0 0 true [18404]
/-- A block by name. -/
def k143 : Blk := .cells (.n (some (.map 22550)) .e (.n (some (.map 22875)) .e .e)) (some .nilm) 2 177 0 0 true []
/-- A block by name. -/
def k144 : Blk := .cells (.n (some (.sl 18398 0 2 2 false 8)) (.n (some (.sl 18407 0 2 2 false 1)) (.n (some (.fn 105 [] [])) .e .e) (.n (some (.map 18400)) .e .e)) (.n (some (.sl 18175 0 2 2 false 3)) (.n (some (.bool true)) .e .e) (.n (some (.sl 18399 0 1 1 true 1)) .e .e))) none 7 238 0 0 true []
/-- A block by name. -/
def k145 : Blk := .cells (.n (some (.int .i64 (.ofNat 1))) (.n (some (.sl 18641 0 1 1 true 5)) .e (.n (some (.int .i64 (.ofNat 1))) .e .e)) (.n (some (.str 1 80)) (.n (some (.sl 18642 0 1 1 true 1)) .e .e) (.n (some (.bool true)) .e .e))) none 6 67 0 0 true []
/-- A block by name. -/
def k146 : Blk := .cells (.n (some (.str 1 81)) (.n (some (.int .i64 (.ofNat 1))) .e .e) (.n (some (.sl 19430 0 1 1 false 5)) .e (.n (some (.map 19424)) .e .e))) none 4 373 0 0 true []
/-- A block by name. -/
def k147 : Blk := .cells (.n (some (.int .i64 (.ofNat 0))) (.n (some (.sl 19443 0 1 1 false 6)) .e (.n (some (.map 19431)) .e .e)) (.n (some (.sl 19438 0 1 1 false 3)) .e (.n (some (.int .i64 (.ofNat 2))) .e .e))) none 5 377 0 0 true []
/-- A block by name. -/
def k148 : Blk := .cells (.n (some (.int .i64 (.ofNat 2))) (.n (some (.sl 20012 0 1 1 true 5)) .e (.n (some (.int .i64 (.ofNat 2))) .e .e)) (.n (some (.str 1 81)) (.n (some (.sl 20013 0 1 1 true 1)) .e .e) (.n (some (.bool false)) .e .e))) none 6 67 0 0 true []
/-- A block by name. -/
def k149 : Blk := .cells (.n (some (.sl 20066 0 1 1 false 1)) .e (.n (some (.fn 182 [] [])) .e .e)) none 2 165 0 0 true []
/-- A block by name. -/
def k150 : Blk := .map [((.agg [(.str 1 82), (.str 9 36893488147419103233)]), (.ptr 21205 0)), ((.agg [(.str 1 81), (.str 9 36893488147419103233)]), (.ptr 19425 0))] 2
/-- A block by name. -/
def k151 : Blk := .map [((.agg [(.int .i64 (.ofNat 1)), (.str 24 680564733841876926963642703010955526144)]), (.ptr 21212 0)), ((.agg [(.int .i64 (.ofNat 0)), (.str 24 340282366920938463481821351505477763072)]), (.ptr 19432 0))] 2
/-- A block by name. -/
def k152 : Blk := .cells (.n (some (.map 18388)) (.n (some (.int .i64 (.ofNat 4))) .e .e) (.n (some (.map 18389)) .e (.n (some (.int .i64 (.ofNat 2))) .e .e))) none 4 232 0 0 true []
/-- A block by name. -/
def k153 : Blk := .map [((.int .i64 (.ofNat 3)), (.ptr 22208 0)), ((.int .i64 (.ofNat 2)), (.ptr 20014 0)), ((.int .i64 (.ofNat 1)), (.ptr 18643 0))] 3
/-- A block by name. -/
def k154 : Blk := .cells (.n (some (.sl 22227 0 3 3 false 1)) .e (.n (some (.fn 182 [] [])) .e .e)) none 2 165 0 0 true []
/-- A block by name. -/
def k155 : Blk := .map [((.str 1 82), (.ptr 22228 0)), ((.str 1 81), (.ptr 20034 0)), ((.str 1 80), (.ptr 18663 0))] 3
/-- A block by name. -/
def k156 : Blk := .map [((.agg [(.str 1 82), (.str 9 36893488147419103233)]), (.ptr 22258 0)), ((.agg [(.str 1 81), (.str 9 36893488147419103233)]), (.ptr 20064 0)), ((.agg [(.str 1 80), (.str 9 36893488147419103233)]), (.ptr 18693 0))] 3
/-- A block by name. -/
def k157 : Blk := .cells (.n (some (.ptr 16671 0)) (.n (some (.int .i64 (.ofNat 3))) (.n (some (.map 18393)) .e .e) (.n (some (.map 18391)) .e .e)) (.n (some (.int .i64 (.ofNat 9))) (.n (some (.ptr 18392 0)) .e .e) (.n (some (.int .i64 (.ofNat 3))) .e (.n (some (.map 18394)) .e .e)))) none 8 171 0 0 true []
/-- A block by name. -/
def k158 : Blk := .cells (.n (some (.int .i64 (.ofNat 1))) (.n (some (.sl 20675 0 1 1 false 6)) .e .e) (.n (some (.sl 20670 0 1 1 false 3)) .e (.n (some (.bool true)) .e .e))) none 4 479 0 0 true []
/-- A block by name. -/
def k159 : Blk := .cells (.n (some (.str 1 82)) (.n (some (.int .i64 (.ofNat 3))) .e .e) (.n (some (.sl 21210 0 1 1 false 5)) .e (.n (some (.map 21204)) .e .e))) none 4 373 0 0 true []
/-- A block by name. -/
def k160 : Blk := .cells (.n (some (.int .i64 (.ofNat 1))) (.n (some (.sl 21223 0 1 1 false 6)) .e (.n (some (.map 21211)) .e .e)) (.n (some (.sl 21218 0 1 1 false 3)) .e (.n (some (.int .i64 (.ofNat 4))) .e .e))) none 5 377 0 0 true []
/-- A block by name. -/
def k161 : Blk := .cells (.n (some (.int .i64 (.ofNat 3))) (.n (some (.sl 22206 0 1 1 true 5)) .e (.n (some (.int .i64 (.ofNat 3))) .e .e)) (.n (some (.str 1 82)) (.n (some (.sl 22207 0 1 1 true 1)) .e .e) (.n (some (.bool false)) .e .e))) none 6 67 0 0 true []
/-- A block by name. -/
def k162 : Blk := .cells (.n (some (.int .i64 (.ofNat 1))) (.n (some (.int .i64 (.ofNat 3))) .e .e) (.n (some (.int .i64 (.ofNat 2))) .e .e)) none 3 3 0 0 true [20033]
/-- A block by name. -/
def k163 : Blk := .cells (.n (some (.sl 22230 0 1 1 false 1)) .e (.n (some (.fn 182 [] [])) .e .e)) none 2 165 0 0 true []
/-- A block by name. -/
def k164 : Blk := .cells (.n (some (.sl 22260 0 1 1 false 1)) .e (.n (some (.fn 182 [] [])) .e .e)) none 2 165 0 0 true []
/-- A block by name. -/
def k165 : Blk := .cells (.n (some (.int .i64 (.ofNat 0))) (.n (some (.sl 18979 0 1 1 false 6)) .e .e) (.n (some (.sl 18974 0 1 1 false 3)) .e (.n (some (.bool true)) .e .e))) none 4 479 0 0 true []
/-- A block by name. -/
def k166 : Blk := .cells (.n (some (.sl 20036 0 1 1 false 1)) .e (.n (some (.fn 182 [] [])) .e .e)) none 2 165 0 0 true []
/-- A block by name. -/
def k167 : Blk := .cells (.n (some (.sl 514 0 3 3 false 3)) (.n (some .nils) (.n (some (.int .i64 (.ofNat 4))) .e .e) (.n (some (.int .i64 (.ofNat 9))) .e (.n (some (.sl 23471 0 4 4 false 6)) .e .e))) (.n (some (.sl 816 0 2 2 false 8)) (.n (some (.int .i64 (.ofNat 200))) .e .e) (.n (some (.ptr 16671 0)) .e (.n (some (.sl 18175 0 2 2 false 3)) .e .e)))) none 9 113 0 0 true []
/-- A block by name. -/
def k168 : Blk := .cells (.n (some (.int .i64 (.ofNat 1))) (.n (some (.sl 18703 0 1 1 false 5)) (.n (some (.int .i64 (.ofNat 2))) (.n (some (.sl 22268 0 1 1 false 5)) .e .e) (.n (some (.int .i64 (.ofNat 2))) .e .e)) (.n (some (.int .i64 (.ofNat 1))) (.n (some (.int .i64 (.ofNat 3))) .e .e) (.n (some (.sl 20074 0 1 1 false 5)) .e (.n (some (.int .i64 (.ofNat 3))) .e .e)))) (.n (some (.str 1 80)) (.n (some (.sl 18705 0 1 1 false 1)) (.n (some (.str 1 82)) .e .e) (.n (some (.bool false)) .e (.n (some (.sl 22270 0 1 1 false 1)) .e .e))) (.n (some (.bool true)) (.n (some (.sl 20076 0 1 1 false 1)) .e .e) (.n (some (.str 1 81)) .e (.n (some (.bool false)) .e .e))))) none 18 67 0 0 false []
/-- A block by name. -/
def k169 : Blk := .cells (.n (some (.int .i64 (.ofNat 1))) (.n (some (.sl 18703 0 1 1 false 5)) (.n (some (.int .i64 (.ofNat 2))) (.n (some (.sl 22268 0 1 1 false 5)) .e (.n (some (.int .i64 (.ofNat 4))) .e .e)) (.n (some (.int .i64 (.ofNat 2))) .e (.n (some (.int .i64 (.ofNat 4))) .e .e))) (.n (some (.int .i64 (.ofNat 1))) (.n (some (.int .i64 (.ofNat 3))) .e (.n (some (.sl 23462 0 1 1 false 5)) .e .e)) (.n (some (.sl 20074 0 1 1 false 5)) .e (.n (some (.int .i64 (.ofNat 3))) .e .e)))) (.n (some (.str 1 80)) (.n (some (.sl 18705 0 1 1 false 1)) (.n (some (.str 1 82)) .e (.n (some (.bool true)) .e .e)) (.n (some (.bool false)) .e (.n (some (.sl 22270 0 1 1 false 1)) .e .e))) (.n (some (.bool true)) (.n (some (.sl 20076 0 1 1 false 1)) .e (.n (some (.str 1 81)) .e .e)) (.n (some (.str 1 81)) (.n (some (.sl 23464 0 1 1 false 1)) .e .e) (.n (some (.bool false)) .e .e))))) none 24 67 0 0 true [22276]
/-- A block by name. -/
def k170 : Blk := .cells (.n (some (.map 23697)) .e (.n (some (.map 24124)) .e .e)) none 2 239 0 0 true [18404]
/-- A block by name. -/
def k171 : Blk := .cells (.n (some (.map 23754)) .e (.n (some (.map 24247)) .e .e)) (some .nilm) 2 177 0 0 true []
/-- A block by name. -/
def k172 : Blk := .map [((.str 24 680564733841876926963642703010955526144), (.ptr 20676 0)), ((.str 24 1361129467683753853927285406021911052288), (.ptr 24192 0))] 2
/-- A block by name. -/
def k173 : Blk := .cells (.n (some (.int .i64 (.ofNat 1))) (.n (some (.sl 24191 0 1 1 false 6)) .e .e) (.n (some (.sl 24186 0 1 1 false 3)) .e (.n (some (.bool false)) .e .e))) none 4 479 0 0 true []
/-- A block by name. -/
def k174 : Blk := .cells (.n (some (.sl 514 0 3 3 false 3)) (.n (some .nils) (.n (some (.int .i64 (.ofNat 4))) .e .e) (.n (some (.int .i64 (.ofNat 9))) .e (.n (some (.sl 23471 0 3 4 false 6)) .e .e))) (.n (some (.sl 816 0 2 2 false 8)) (.n (some (.int .i64 (.ofNat 200))) .e .e) (.n (some (.ptr 16671 0)) .e (.n (some (.sl 18175 0 2 2 false 3)) .e .e)))) none 9 113 0 0 true []
/-- A block by name. -/
def k175 : Blk := .cells (.n (some (.int .i64 (.ofNat 1))) (.n (some (.sl 18703 0 1 1 false 5)) (.n (some (.int .i64 (.ofNat 3))) (.n (some (.sl 23462 0 1 1 false 5)) .e (.n (some (.int .i64 (.ofNat 0))) .e .e)) (.n (some (.int .i64 (.ofNat 3))) .e (.n (some (.int .i64 (.ofNat 0))) .e .e))) (.n (some (.int .i64 (.ofNat 1))) (.n (some (.int .i64 (.ofNat 4))) .e (.n (some .nils) .e .e)) (.n (some (.sl 22268 0 1 1 false 5)) .e (.n (some (.int .i64 (.ofNat 4))) .e .e)))) (.n (some (.str 1 80)) (.n (some (.sl 18705 0 1 1 false 1)) (.n (some (.str 1 81)) .e (.n (some (.bool false)) .e .e)) (.n (some (.bool false)) .e (.n (some (.sl 23464 0 1 1 false 1)) .e .e))) (.n (some (.bool true)) (.n (some (.sl 22270 0 1 1 false 1)) .e (.n (some (.str 0 0)) .e .e)) (.n (some (.str 1 82)) (.n (some .nils) .e .e) (.n (some (.bool true)) .e .e))))) none 24 67 0 0 true [22276]
/-- A block by name. -/
def k176 : Blk := .map [((.str 24 1361129467683753853927285406021911052288), (.ptr 24192 0))] 1
/-- A block by name. -/
def k177 : Blk := .cells (.n (some (.sl 514 0 3 3 false 3)) (.n (some .nils) (.n (some (.int .i64 (.ofNat 4))) .e .e) (.n (some (.int .i64 (.ofNat 9))) .e (.n (some (.sl 23471 0 2 4 false 6)) .e .e))) (.n (some (.sl 816 0 2 2 false 8)) (.n (some (.int .i64 (.ofNat 200))) .e .e) (.n (some (.ptr 16671 0)) .e (.n (some (.sl 18175 0 2 2 false 3)) .e .e)))) none 9 113 0 0 true []
/-- A block by name. -/
def k178 : Blk := .map [((.agg [(.str 1 81), (.str 9 36893488147419103233)]), (.ptr 19425 0))] 2
/-- A block by name. -/
def k179 : Blk := .map [((.agg [(.int .i64 (.ofNat 0)), (.str 24 340282366920938463481821351505477763072)]), (.ptr 19432 0))] 2
/-- A block by name. -/
def k180 : Blk := .cells (.n (some (.map 18388)) (.n (some (.int .i64 (.ofNat 4))) .e .e) (.n (some (.map 18389)) .e (.n (some (.int .i64 (.ofNat 1))) .e .e))) none 4 232 0 0 true []
/-- A block by name. -/
def k181 : Blk := .map [((.int .i64 (.ofNat 4)), (.ptr 23404 0)), ((.int .i64 (.ofNat 1)), (.ptr 18643 0))] 4
/-- A block by name. -/
def k182 : Blk := .cells (.n (some (.sl 23423 0 2 4 false 1)) .e (.n (some (.fn 182 [] [])) .e .e)) none 2 165 0 0 true []
/-- A block by name. -/
def k183 : Blk := .map [((.agg [(.str 1 81), (.str 9 36893488147419103233)]), (.ptr 20064 0)), ((.agg [(.str 1 80), (.str 9 36893488147419103233)]), (.ptr 18693 0))] 3
/-- A block by name. -/
def k184 : Blk := .cells (.n (some (.ptr 16671 0)) (.n (some (.int .i64 (.ofNat 4))) (.n (some (.map 18393)) .e .e) (.n (some (.map 18391)) .e .e)) (.n (some (.int .i64 (.ofNat 9))) (.n (some (.ptr 18392 0)) .e .e) (.n (some (.int .i64 (.ofNat 6))) .e (.n (some (.map 18394)) .e .e)))) none 8 171 0 0 true []
/-- A block by name. -/
def k185 : Blk := .cells (.n (some (.map 25839)) .e (.n (some (.map 26156)) .e .e)) none 2 239 0 0 true [18404]
/-- A block by name. -/
def k186 : Blk := .cells (.n (some (.map 25896)) .e (.n (some (.map 26213)) .e .e)) (some .nilm) 2 177 0 0 true []
/-- A block by name. -/
def k187 : Blk := .cells (.n (some (.sl 23454 0 1 2 false 1)) .e (.n (some (.fn 182 [] [])) .e .e)) none 2 165 0 0 true []
/-- A block by name. -/
def k188 : Blk := .cells (.n (some (.sl 22230 0 0 1 false 1)) .e (.n (some (.fn 182 [] [])) .e .e)) none 2 165 0 0 true []
/-- A block by name. -/
def k189 : Blk := .cells (.n (some (.int .i64 (.ofNat 4))) (.n (some (.sl 23402 0 1 1 true 5)) .e (.n (some (.int .i64 (.ofNat 4))) .e .e)) (.n (some (.str 1 81)) (.n (some (.sl 23403 0 1 1 true 1)) .e .e) (.n (some (.bool true)) .e .e))) none 6 67 0 0 true []
/-- A block by name. -/
def k190 : Blk := .cells (.n (some (.int .i64 (.ofNat 1))) (.n (some (.int .i64 (.ofNat 0))) .e .e) (.n (some (.int .i64 (.ofNat 4))) .e (.n (some (.int .i64 (.ofNat 0))) .e .e))) none 4 3 0 0 true [22227]
/-- A block by name. -/
def k191 : Blk := .cells (.n (some (.int .i64 (.ofNat 4))) .e (.n (some (.int .i64 (.ofNat 0))) .e .e)) none 2 3 0 0 true [20066]
/-- A block by name. -/
def k192 : Blk := .cells (.n (some (.int .i64 (.ofNat 1))) (.n (some (.sl 18703 0 1 1 false 5)) (.n (some (.int .i64 (.ofNat 4))) (.n (some .nils) .e (.n (some (.int .i64 (.ofNat 0))) .e .e)) (.n (some (.int .i64 (.ofNat 4))) .e (.n (some (.int .i64 (.ofNat 0))) .e .e))) (.n (some (.int .i64 (.ofNat 1))) (.n (some (.int .i64 (.ofNat 0))) .e (.n (some .nils) .e .e)) (.n (some (.sl 23462 0 1 1 false 5)) .e (.n (some (.int .i64 (.ofNat 0))) .e .e)))) (.n (some (.str 1 80)) (.n (some (.sl 18705 0 1 1 false 1)) (.n (some (.str 0 0)) .e (.n (some (.bool false)) .e .e)) (.n (some (.bool true)) .e (.n (some .nils) .e .e))) (.n (some (.bool true)) (.n (some (.sl 23464 0 1 1 false 1)) .e (.n (some (.str 0 0)) .e .e)) (.n (some (.str 1 81)) (.n (some .nils) .e .e) (.n (some (.bool false)) .e .e))))) none 24 67 0 0 true [22276]
/-- A block by name. -/
def k193 : Blk := .cells (.n (some (.sl 18398 0 2 2 false 8)) (.n (some (.sl 18407 0 2 2 false 1)) (.n (some (.fn 321 [] [(.ptr 26499 0)])) .e .e) (.n (some (.map 18400)) .e .e)) (.n (some (.sl 18175 0 2 2 false 3)) (.n (some (.bool true)) .e .e) (.n (some (.sl 18399 0 1 1 true 1)) .e .e))) none 7 238 0 0 true []
/-- A block by name. -/
def k194 : Blk := .cells (.n (some (.map 26891)) .e (.n (some (.map 27208)) .e .e)) none 2 239 0 0 true [18404]
/-- A block by name. -/
def k195 : Blk := .cells (.n (some (.map 26948)) .e (.n (some (.map 27265)) .e .e)) (some .nilm) 2 177 0 0 true []
/-- A block by name. -/
def k196 : Blk := .cells (.n (some (.int .i64 (.ofNat 1))) (.n (some (.sl 18703 0 1 1 false 5)) (.n (some (.int .i64 (.ofNat 4))) (.n (some (.sl 27642 0 1 1 false 5)) .e (.n (some (.int .i64 (.ofNat 0))) .e .e)) (.n (some (.int .i64 (.ofNat 4))) .e (.n (some (.int .i64 (.ofNat 0))) .e .e))) (.n (some (.int .i64 (.ofNat 1))) (.n (some (.int .i64 (.ofNat 5))) .e (.n (some .nils) .e .e)) (.n (some (.sl 23462 0 1 1 false 5)) .e (.n (some (.int .i64 (.ofNat 7))) .e .e)))) (.n (some (.str 1 80)) (.n (some (.sl 18705 0 1 1 false 1)) (.n (some (.str 1 82)) .e (.n (some (.bool false)) .e .e)) (.n (some (.bool true)) .e (.n (some (.sl 27644 0 1 1 false 1)) .e .e))) (.n (some (.bool true)) (.n (some (.sl 23464 0 1 1 false 1)) .e (.n (some (.str 0 0)) .e .e)) (.n (some (.str 1 81)) (.n (some .nils) .e .e) (.n (some (.bool false)) .e .e))))) none 24 67 0 0 true [22276]
/-- A block by name. -/
def k197 : Blk := .cells (.n (some (.map 27866)) .e (.n (some (.map 28191)) .e .e)) none 2 239 0 0 true [18404]
/-- A block by name. -/
def k198 : Blk := .cells (.n (some (.map 27923)) .e (.n (some (.map 28248)) .e .e)) (some .nilm) 2 177 0 0 true []
/-- A block by name. -/
def k199 : Blk := .cells (.n (some (.str 1 80)) (.n (some (.sl 29714 0 1 1 false 3)) .e .e) (.n (some (.str 0 0)) .e .e)) none 3 90 0 0 false []
/-- A block by name. -/
def k200 : Blk := .cells (.n (some (.str 1 121)) (.n (some (.str 0 0)) .e .e) (.n (some (.int .i64 (.ofNat 2))) .e .e)) none 3 139 0 0 true []
/-- A block by name. -/
def k201 : Blk := .cells (.n (some (.str 1 80)) (.n (some (.sl 29714 0 1 1 false 3)) .e (.n (some (.str 0 0)) .e .e)) (.n (some (.str 0 0)) (.n (some (.sl 29749 0 1 1 false 3)) .e .e) (.n (some (.str 1 81)) .e .e))) none 6 90 0 0 true [29722]
/-- A block by name. -/
def k202 : Blk := .cells (.n (some (.int .i64 (.ofNat 1))) (.n (some (.str 1 80)) (.n (some .nils) (.n (some .nils) .e .e) (.n (some (.int .i64 (.ofNat 0))) .e (.n (some .nils) .e .e))) (.n (some .nils) (.n (some (.int .i64 (.ofNat 0))) .e .e) (.n (some (.int .i64 (.ofNat 0))) .e (.n (some (.str 0 0)) .e .e)))) (.n (some (.str 0 0)) (.n (some .nils) (.n (some (.str 0 0)) .e .e) (.n (some (.str 0 0)) .e (.n (some (.str 0 0)) .e .e))) (.n (some (.sl 29811 0 1 1 false 2)) (.n (some (.bool false)) .e .e) (.n (some .nils) .e (.n (some .nils) .e .e))))) none 19 200 0 0 true []
/-- A block by name. -/
def k203 : Blk := .cells (.n (some (.str 1 121)) (.n (some (.str 1 120)) (.n (some (.str 0 0)) .e .e) (.n (some (.bool false)) .e (.n (some .nils) .e .e))) (.n (some (.int .i64 (.ofNat 2))) (.n (some (.int .i64 (.ofNat 0))) .e .e) (.n (some (.int .i64 (.ofNat 0))) .e (.n (some .nils) .e .e)))) none 9 296 0 0 true []
/-- A block by name. -/
def k204 : Blk := .cells (.n (some (.int .i64 (.ofNat 2))) (.n (some (.sl 29896 0 1 1 false 9)) (.n (some (.bool false)) .e (.n (some .nils) .e .e)) (.n (some (.str 0 0)) .e (.n (some (.str 0 0)) .e .e))) (.n (some (.str 1 81)) (.n (some (.int .i64 (.ofNat 0))) .e (.n (some .nils) .e .e)) (.n (some (.int .i64 (.ofNat 0))) (.n (some (.str 0 0)) .e .e) (.n (some (.int .i64 (.ofNat 0))) .e .e)))) none 12 148 0 0 true []
/-- A block by name. -/
def k205 : Blk := .cells (.n (some (.str 1 114)) (.n (some (.str 0 0)) (.n (some (.sl 29818 0 1 1 false 19)) .e .e) (.n (some (.bool false)) .e .e)) (.n (some (.int .i64 (.ofNat 0))) (.n (some (.bool false)) .e .e) (.n (some (.str 0 0)) .e (.n (some (.sl 29905 0 1 1 false 12)) .e .e)))) none 8 95 0 0 true []
/-- A block by name. -/
def k206 : Blk := .map [((.str 1 81), (.int .i64 (.ofNat 1))), ((.str 1 80), (.int .i64 (.ofNat 0)))] 2
/-- A block by name. -/
def k207 : Blk := .cells (.n (some (.str 1 120)) (.n (some (.bool false)) .e (.n (some (.str 0 0)) .e .e)) (.n (some (.int .i64 (.ofNat 2))) (.n (some .nils) .e .e) (.n (some (.int .i64 (.ofNat 3))) .e .e))) none 6 60 0 0 true []
/-- A block by name. -/
def k208 : Blk := .cells (.n (some (.int .i64 (.ofNat 1))) (.n (some (.sl 29911 0 1 1 true 6)) (.n (some (.int .i64 (.ofNat 0))) (.n (some (.int .i64 (.ofNat 5))) .e (.n (some (.int .i64 (.ofNat 0))) .e .e)) (.n (some .nils) .e (.n (some .nils) .e .e))) (.n (some (.str 0 0)) (.n (some (.str 0 0)) .e (.n (some (.str 0 0)) .e .e)) (.n (some (.int .i64 (.ofNat 6))) .e (.n (some (.int .i64 (.ofNat 3))) .e .e)))) (.n (some (.str 1 80)) (.n (some (.bool false)) (.n (some (.bool false)) .e (.n (some (.bool false)) .e .e)) (.n (some (.str 0 0)) .e (.n (some (.str 0 0)) .e .e))) (.n (some (.int .i64 (.ofNat 0))) (.n (some (.int .i64 (.ofNat 0))) .e (.n (some (.int .i64 (.ofNat 1))) .e .e)) (.n (some .nils) (.n (some .nils) .e .e) (.n (some .nils) .e .e))))) none 24 46 0 0 true []
/-- A block by name. -/
def k209 : Blk := .cells (.n (some (.int .i64 (.ofNat 1))) (.n (some (.str 1 80)) (.n (some .nils) (.n (some .nils) .e .e) (.n (some (.int .i64 (.ofNat 0))) .e (.n (some .nils) .e .e))) (.n (some .nils) (.n (some (.int .i64 (.ofNat 0))) .e .e) (.n (some (.int .i64 (.ofNat 0))) .e (.n (some (.str 0 0)) .e .e)))) (.n (some (.str 0 0)) (.n (some .nils) (.n (some (.str 0 0)) .e .e) (.n (some (.str 0 0)) .e (.n (some (.str 0 0)) .e .e))) (.n (some (.sl 35680 0 1 1 false 2)) (.n (some (.bool false)) .e .e) (.n (some .nils) .e (.n (some .nils) .e .e))))) none 19 200 0 0 true []
/-- A block by name. -/
def k210 : Blk := .cells (.n (some (.int .i64 (.ofNat 0))) (.n (some (.sl 35686 0 1 1 false 19)) .e .e) (.n (some (.int .i64 (.ofNat 0))) .e .e)) none 3 213 0 0 true []
/-- A block by name. -/
def k211 : Blk := .cells (.n (some (.int .i64 (.ofNat 2))) (.n (some (.int .i64 (.ofNat 3))) .e (.n (some .nils) .e .e)) (.n (some (.bool false)) .e (.n (some (.str 0 0)) .e .e))) none 5 57 0 0 true []
end Go.Proofs.YtggofakkkkkbcaaGreatDoor.Ev
