/- What the listed package-level variables hold, as the evaluator's first heap. No conditions. -/
import Derived.Test.YtagfemkpoogfeaaGreatDoorV8
import Derived.Test.YtagfemkpoogfeaaGreatDoorProg
namespace Go.Proofs.YtagfemkpoogfeaaGreatDoor.Ev
open Go Go.RowKit
def hl : List (Nat × Nat × List AV) := [(4, 908, [(.int .u8 (.ofNat 0)), (.int .u8 (.ofNat 1)), (.int .u8 (.ofNat 28)), (.int .u8 (.ofNat 2)), (.int .u8 (.ofNat 29)), (.int .u8 (.ofNat 14)), (.int .u8 (.ofNat 24)), (.int .u8 (.ofNat 3)), (.int .u8 (.ofNat 30)), (.int .u8 (.ofNat 22)), (.int .u8 (.ofNat 20)), (.int .u8 (.ofNat 15)), (.int .u8 (.ofNat 25)), (.int .u8 (.ofNat 17)), (.int .u8 (.ofNat 4)), (.int .u8 (.ofNat 8)), (.int .u8 (.ofNat 31)), (.int .u8 (.ofNat 27)), (.int .u8 (.ofNat 13)), (.int .u8 (.ofNat 23)), (.int .u8 (.ofNat 21)), (.int .u8 (.ofNat 19)), (.int .u8 (.ofNat 16)), (.int .u8 (.ofNat 7)), (.int .u8 (.ofNat 26)), (.int .u8 (.ofNat 12)), (.int .u8 (.ofNat 18)), (.int .u8 (.ofNat 6)), (.int .u8 (.ofNat 11)), (.int .u8 (.ofNat 5)), (.int .u8 (.ofNat 10)), (.int .u8 (.ofNat 9))]),
  (5, 909, [(.int .u8 (.ofNat 0)), (.int .u8 (.ofNat 1)), (.int .u8 (.ofNat 56)), (.int .u8 (.ofNat 2)), (.int .u8 (.ofNat 57)), (.int .u8 (.ofNat 49)), (.int .u8 (.ofNat 28)), (.int .u8 (.ofNat 3)), (.int .u8 (.ofNat 61)), (.int .u8 (.ofNat 58)), (.int .u8 (.ofNat 42)), (.int .u8 (.ofNat 50)), (.int .u8 (.ofNat 38)), (.int .u8 (.ofNat 29)), (.int .u8 (.ofNat 17)), (.int .u8 (.ofNat 4)), (.int .u8 (.ofNat 62)), (.int .u8 (.ofNat 47)), (.int .u8 (.ofNat 59)), (.int .u8 (.ofNat 36)), (.int .u8 (.ofNat 45)), (.int .u8 (.ofNat 43)), (.int .u8 (.ofNat 51)), (.int .u8 (.ofNat 22)), (.int .u8 (.ofNat 53)), (.int .u8 (.ofNat 39)), (.int .u8 (.ofNat 33)), (.int .u8 (.ofNat 30)), (.int .u8 (.ofNat 24)), (.int .u8 (.ofNat 18)), (.int .u8 (.ofNat 12)), (.int .u8 (.ofNat 5)), (.int .u8 (.ofNat 63)), (.int .u8 (.ofNat 55)), (.int .u8 (.ofNat 48)), (.int .u8 (.ofNat 27)), (.int .u8 (.ofNat 60)), (.int .u8 (.ofNat 41)), (.int .u8 (.ofNat 37)), (.int .u8 (.ofNat 16)), (.int .u8 (.ofNat 46)), (.int .u8 (.ofNat 35)), (.int .u8 (.ofNat 44)), (.int .u8 (.ofNat 21)), (.int .u8 (.ofNat 52)), (.int .u8 (.ofNat 32)), (.int .u8 (.ofNat 23)), (.int .u8 (.ofNat 11)), (.int .u8 (.ofNat 54)), (.int .u8 (.ofNat 26)), (.int .u8 (.ofNat 40)), (.int .u8 (.ofNat 15)), (.int .u8 (.ofNat 34)), (.int .u8 (.ofNat 20)), (.int .u8 (.ofNat 31)), (.int .u8 (.ofNat 10)), (.int .u8 (.ofNat 25)), (.int .u8 (.ofNat 14)), (.int .u8 (.ofNat 19)), (.int .u8 (.ofNat 9)), (.int .u8 (.ofNat 13)), (.int .u8 (.ofNat 8)), (.int .u8 (.ofNat 7)), (.int .u8 (.ofNat 6))]),
  (3, 878, [(.int .u64 (.ofNat 1)), (.int .u64 (.ofNat 10)), (.int .u64 (.ofNat 100)), (.int .u64 (.ofNat 1000)), (.int .u64 (.ofNat 10000)), (.int .u64 (.ofNat 100000)), (.int .u64 (.ofNat 1000000)), (.int .u64 (.ofNat 10000000)), (.int .u64 (.ofNat 100000000)), (.int .u64 (.ofNat 1000000000)), (.int .u64 (.ofNat 10000000000)), (.int .u64 (.ofNat 100000000000)), (.int .u64 (.ofNat 1000000000000)), (.int .u64 (.ofNat 10000000000000)), (.int .u64 (.ofNat 100000000000000)), (.int .u64 (.ofNat 1000000000000000)), (.int .u64 (.ofNat 10000000000000000)), (.int .u64 (.ofNat 100000000000000000)), (.int .u64 (.ofNat 1000000000000000000)), (.int .u64 (.ofNat 10000000000000000000))]),
  (1, 246, [.opi]),
  (0, 246, [.opi])]
noncomputable def gB : List (Nat × Blk) := hl.map fun y => (y.1, .cells (lays 0 (y.2.2.map some) .e) none y.2.2.length y.2.1 0 0 false [])
theorem mixed : Tryz.prog.follows .mixedOrders = true := by kernel_rfl
theorem extFine : extOk Tryz.prog = true := by kernel_rfl
/-- A block by name. -/
def k0 : Blk := .cells (.n (some (.str 1 120)) (.n (some (.str 0 0)) .e .e) (.n (some (.int .i64 (.ofNat 2))) .e .e)) none 3 149 0 0 true []
/-- A block by name. -/
def k1 : Blk := .cells (.n (some (.str 1 80)) (.n (some (.sl 384 0 1 1 false 3)) .e .e) (.n (some (.str 0 0)) .e .e)) none 3 90 0 0 false []
/-- A block by name. -/
def k2 : Blk := .cells (.n (some (.str 1 80)) (.n (some (.sl 384 0 1 1 false 3)) .e (.n (some (.str 0 0)) .e .e)) (.n (some (.str 0 0)) (.n (some (.sl 419 0 1 1 false 3)) .e .e) (.n (some (.str 1 81)) .e .e))) none 6 90 0 0 true [392]
/-- A block by name. -/
def k3 : Blk := .cells (.n (some (.int .i64 (.ofNat 3))) (.n (some (.int .i64 (.ofNat 0))) (.n (some .nils) .e .e) (.n (some (.int .i64 (.ofNat 0))) .e .e)) (.n (some (.str 1 120)) (.n (some (.str 0 0)) .e .e) (.n (some (.bool false)) .e (.n (some .nils) .e .e)))) none 8 156 0 0 false []
/-- A block by name. -/
def k4 : Blk := .cells (.n (some (.int .i64 (.ofNat 3))) (.n (some (.int .i64 (.ofNat 0))) (.n (some .nils) (.n (some .nils) .e .e) (.n (some (.int .i64 (.ofNat 2))) .e .e)) (.n (some (.int .i64 (.ofNat 0))) (.n (some (.int .i64 (.ofNat 1))) .e .e) (.n (some (.int .i64 (.ofNat 1))) .e .e))) (.n (some (.str 1 120)) (.n (some (.str 0 0)) (.n (some (.str 0 0)) .e .e) (.n (some (.str 0 0)) .e .e)) (.n (some (.bool false)) (.n (some (.bool false)) .e .e) (.n (some .nils) .e (.n (some .nils) .e .e))))) none 16 156 0 0 true [552]
/-- A block by name. -/
def k5 : Blk := .cells (.n (some (.int .i64 (.ofNat 14))) (.n (some (.int .i64 (.ofNat 0))) (.n (some .nils) .e .e) (.n (some (.int .i64 (.ofNat 0))) .e .e)) (.n (some (.str 0 0)) (.n (some (.str 0 0)) .e .e) (.n (some (.bool false)) .e (.n (some (.sl 555 0 2 2 false 8)) .e .e)))) none 8 156 0 0 true []
/-- A block by name. -/
def k6 : Blk := .cells (.n (some (.int .i64 (.ofNat 1))) (.n (some (.str 1 80)) (.n (some .nils) (.n (some .nils) .e .e) (.n (some (.int .i64 (.ofNat 0))) .e (.n (some .nils) .e .e))) (.n (some (.sl 562 0 1 1 false 8)) (.n (some (.int .i64 (.ofNat 0))) .e .e) (.n (some (.int .i64 (.ofNat 0))) .e (.n (some (.str 0 0)) .e .e)))) (.n (some (.str 0 0)) (.n (some .nils) (.n (some (.str 0 0)) .e .e) (.n (some (.str 0 0)) .e (.n (some (.str 0 0)) .e .e))) (.n (some .nils) (.n (some (.bool false)) .e .e) (.n (some .nils) .e (.n (some .nils) .e .e))))) none 19 252 0 0 true []
/-- A block by name. -/
def k7 : Blk := .cells (.n (some (.int .i64 (.ofNat 3))) (.n (some (.int .i64 (.ofNat 0))) (.n (some .nils) (.n (some .nils) .e .e) (.n (some (.int .i64 (.ofNat 2))) .e .e)) (.n (some (.int .i64 (.ofNat 0))) (.n (some (.int .i64 (.ofNat 1))) .e .e) (.n (some (.int .i64 (.ofNat 1))) .e .e))) (.n (some (.str 1 120)) (.n (some (.str 0 0)) (.n (some (.str 0 0)) .e .e) (.n (some (.str 0 0)) .e .e)) (.n (some (.bool false)) (.n (some (.bool false)) .e .e) (.n (some .nils) .e (.n (some .nils) .e .e))))) none 16 156 0 0 true [702]
/-- A block by name. -/
def k8 : Blk := .cells (.n (some (.int .i64 (.ofNat 14))) (.n (some (.int .i64 (.ofNat 0))) (.n (some .nils) .e .e) (.n (some (.int .i64 (.ofNat 0))) .e .e)) (.n (some (.str 0 0)) (.n (some (.str 0 0)) .e .e) (.n (some (.bool false)) .e (.n (some (.sl 705 0 2 2 false 8)) .e .e)))) none 8 156 0 0 true []
/-- A block by name. -/
def k9 : Blk := .cells (.n (some (.int .i64 (.ofNat 1))) (.n (some (.str 1 80)) (.n (some .nils) (.n (some .nils) .e .e) (.n (some (.int .i64 (.ofNat 0))) .e (.n (some .nils) .e .e))) (.n (some (.sl 712 0 1 1 false 8)) (.n (some (.int .i64 (.ofNat 0))) .e .e) (.n (some (.int .i64 (.ofNat 0))) .e (.n (some (.str 0 0)) .e .e)))) (.n (some (.str 0 0)) (.n (some .nils) (.n (some (.str 0 0)) .e .e) (.n (some (.str 0 0)) .e (.n (some (.str 0 0)) .e .e))) (.n (some .nils) (.n (some (.bool false)) .e .e) (.n (some .nils) .e (.n (some .nils) .e .e))))) none 19 252 0 0 false []
/-- A block by name. -/
def k10 : Blk := .cells (.n (some (.int .i64 (.ofNat 1))) (.n (some (.str 1 80)) (.n (some .nils) (.n (some .nils) (.n (some (.bool false)) .e .e) (.n (some .nils) .e .e)) (.n (some (.int .i64 (.ofNat 0))) (.n (some .nils) .e .e) (.n (some .nils) .e (.n (some .nils) .e .e)))) (.n (some (.sl 712 0 1 1 false 8)) (.n (some (.int .i64 (.ofNat 0))) (.n (some (.str 0 0)) .e .e) (.n (some (.str 0 0)) .e (.n (some (.str 0 0)) .e .e))) (.n (some (.int .i64 (.ofNat 0))) (.n (some .nils) .e .e) (.n (some (.str 0 0)) .e (.n (some (.str 0 0)) .e .e))))) (.n (some (.str 0 0)) (.n (some .nils) (.n (some (.str 0 0)) (.n (some (.int .i64 (.ofNat 0))) .e .e) (.n (some (.str 1 81)) .e (.n (some .nils) .e .e))) (.n (some (.str 0 0)) (.n (some .nils) .e .e) (.n (some (.str 0 0)) .e (.n (some .nils) .e .e)))) (.n (some .nils) (.n (some (.bool false)) (.n (some (.int .i64 (.ofNat 0))) .e .e) (.n (some (.int .i64 (.ofNat 1))) .e (.n (some (.str 0 0)) .e .e))) (.n (some .nils) (.n (some .nils) .e .e) (.n (some .nils) .e (.n (some (.int .i64 (.ofNat 0))) .e .e)))))) none 38 252 0 0 true [719]
/-- A block by name. -/
def k11 : Blk := .cells (.n (some (.str 1 112)) (.n (some (.str 0 0)) (.n (some (.sl 569 0 1 1 false 19)) (.n (some (.sl 754 0 2 2 false 19)) .e .e) (.n (some (.str 0 0)) .e .e)) (.n (some (.bool false)) (.n (some (.bool false)) .e .e) (.n (some (.str 2 28785)) .e .e))) (.n (some (.int .i64 (.ofNat 0))) (.n (some (.bool false)) (.n (some (.bool false)) .e .e) (.n (some (.int .i64 (.ofNat 0))) .e .e)) (.n (some (.str 0 0)) (.n (some (.str 0 0)) .e .e) (.n (some .nils) .e (.n (some .nils) .e .e))))) none 16 95 0 0 false []
/-- A block by name. -/
def k12 : Blk := .cells (.n (some (.int .i64 (.ofNat 1))) (.n (some (.str 1 81)) (.n (some .nils) (.n (some .nils) .e .e) (.n (some (.int .i64 (.ofNat 0))) .e (.n (some .nils) .e .e))) (.n (some .nils) (.n (some (.int .i64 (.ofNat 0))) .e .e) (.n (some (.int .i64 (.ofNat 0))) .e (.n (some (.str 0 0)) .e .e)))) (.n (some (.str 0 0)) (.n (some .nils) (.n (some (.str 0 0)) .e .e) (.n (some (.str 0 0)) .e (.n (some (.str 0 0)) .e .e))) (.n (some .nils) (.n (some (.bool false)) .e .e) (.n (some .nils) .e (.n (some .nils) .e .e))))) none 19 252 0 0 true []
/-- A block by name. -/
def k13 : Blk := .cells (.n (some (.int .i64 (.ofNat 2))) (.n (some (.str 0 0)) (.n (some .nils) (.n (some .nils) .e .e) (.n (some (.int .i64 (.ofNat 0))) .e (.n (some .nils) .e .e))) (.n (some .nils) (.n (some (.int .i64 (.ofNat 0))) .e .e) (.n (some (.int .i64 (.ofNat 0))) .e (.n (some (.str 0 0)) .e .e)))) (.n (some (.str 0 0)) (.n (some (.sl 815 0 1 1 true 19)) (.n (some (.str 0 0)) .e .e) (.n (some (.str 0 0)) .e (.n (some (.str 0 0)) .e .e))) (.n (some .nils) (.n (some (.bool false)) .e .e) (.n (some .nils) .e (.n (some .nils) .e .e))))) none 19 252 0 0 true []
/-- A block by name. -/
def k14 : Blk := .cells (.n (some (.str 1 112)) (.n (some (.str 0 0)) (.n (some (.sl 569 0 1 1 false 19)) (.n (some (.sl 754 0 2 2 false 19)) .e (.n (some (.sl 822 0 1 1 false 19)) .e .e)) (.n (some (.str 0 0)) .e (.n (some (.str 0 0)) .e .e))) (.n (some (.bool false)) (.n (some (.bool false)) .e (.n (some (.bool false)) .e .e)) (.n (some (.str 2 28785)) .e (.n (some (.str 2 28273)) .e .e)))) (.n (some (.int .i64 (.ofNat 0))) (.n (some (.bool false)) (.n (some (.bool false)) .e (.n (some (.bool false)) .e .e)) (.n (some (.int .i64 (.ofNat 0))) .e (.n (some (.int .i64 (.ofNat 0))) .e .e))) (.n (some (.str 0 0)) (.n (some (.str 0 0)) .e (.n (some (.str 0 0)) .e .e)) (.n (some .nils) (.n (some .nils) .e .e) (.n (some .nils) .e .e))))) none 24 95 0 0 true [762]
/-- A block by name. -/
def k15 : Blk := .cells (.n (some (.int .i64 (.ofNat 3))) (.n (some (.int .i64 (.ofNat 0))) (.n (some .nils) (.n (some .nils) .e .e) (.n (some (.int .i64 (.ofNat 2))) .e .e)) (.n (some (.int .i64 (.ofNat 0))) (.n (some (.int .i64 (.ofNat 1))) .e .e) (.n (some (.int .i64 (.ofNat 1))) .e .e))) (.n (some (.str 1 120)) (.n (some (.str 0 0)) (.n (some (.str 0 0)) .e .e) (.n (some (.str 0 0)) .e .e)) (.n (some (.bool false)) (.n (some (.bool false)) .e .e) (.n (some .nils) .e (.n (some .nils) .e .e))))) none 16 156 0 0 true [3904]
/-- A block by name. -/
def k16 : Blk := .cells (.n (some (.int .i64 (.ofNat 14))) (.n (some (.int .i64 (.ofNat 0))) (.n (some .nils) .e .e) (.n (some (.int .i64 (.ofNat 0))) .e .e)) (.n (some (.str 0 0)) (.n (some (.str 0 0)) .e .e) (.n (some (.bool false)) .e (.n (some (.sl 3911 0 2 2 false 8)) .e .e)))) none 8 156 0 0 true []
/-- A block by name. -/
def k17 : Blk := .cells (.n (some (.int .i64 (.ofNat 1))) (.n (some (.str 1 80)) (.n (some .nils) (.n (some .nils) .e .e) (.n (some (.int .i64 (.ofNat 0))) .e (.n (some .nils) .e .e))) (.n (some (.sl 3912 0 1 1 false 8)) (.n (some (.int .i64 (.ofNat 0))) .e .e) (.n (some (.int .i64 (.ofNat 0))) .e (.n (some (.str 0 0)) .e .e)))) (.n (some (.str 0 0)) (.n (some .nils) (.n (some (.str 0 0)) .e .e) (.n (some (.str 0 0)) .e (.n (some (.str 0 0)) .e .e))) (.n (some .nils) (.n (some (.bool false)) .e .e) (.n (some .nils) .e (.n (some .nils) .e .e))))) none 19 252 0 0 true []
/-- A block by name. -/
def k18 : Blk := .cells (.n (some (.int .i64 (.ofNat 3))) (.n (some (.int .i64 (.ofNat 0))) (.n (some .nils) (.n (some .nils) .e .e) (.n (some (.int .i64 (.ofNat 2))) .e .e)) (.n (some (.int .i64 (.ofNat 0))) (.n (some (.int .i64 (.ofNat 1))) .e .e) (.n (some (.int .i64 (.ofNat 1))) .e .e))) (.n (some (.str 1 120)) (.n (some (.str 0 0)) (.n (some (.str 0 0)) .e .e) (.n (some (.str 0 0)) .e .e)) (.n (some (.bool false)) (.n (some (.bool false)) .e .e) (.n (some .nils) .e (.n (some .nils) .e .e))))) none 16 156 0 0 true [3972]
/-- A block by name. -/
def k19 : Blk := .cells (.n (some (.int .i64 (.ofNat 14))) (.n (some (.int .i64 (.ofNat 0))) (.n (some .nils) .e .e) (.n (some (.int .i64 (.ofNat 0))) .e .e)) (.n (some (.str 0 0)) (.n (some (.str 0 0)) .e .e) (.n (some (.bool false)) .e (.n (some (.sl 3979 0 2 2 false 8)) .e .e)))) none 8 156 0 0 true []
/-- A block by name. -/
def k20 : Blk := .cells (.n (some (.int .i64 (.ofNat 1))) (.n (some (.str 1 80)) (.n (some .nils) (.n (some .nils) .e .e) (.n (some (.int .i64 (.ofNat 0))) .e (.n (some .nils) .e .e))) (.n (some (.sl 3980 0 1 1 false 8)) (.n (some (.int .i64 (.ofNat 0))) .e .e) (.n (some (.int .i64 (.ofNat 0))) .e (.n (some (.str 0 0)) .e .e)))) (.n (some (.str 0 0)) (.n (some .nils) (.n (some (.str 0 0)) .e .e) (.n (some (.str 0 0)) .e (.n (some (.str 0 0)) .e .e))) (.n (some .nils) (.n (some (.bool false)) .e .e) (.n (some .nils) .e (.n (some .nils) .e .e))))) none 19 252 0 0 false []
/-- A block by name. -/
def k21 : Blk := .cells (.n (some (.int .i64 (.ofNat 1))) (.n (some (.str 1 80)) (.n (some .nils) (.n (some .nils) (.n (some (.bool false)) .e .e) (.n (some .nils) .e .e)) (.n (some (.int .i64 (.ofNat 0))) (.n (some .nils) .e .e) (.n (some .nils) .e (.n (some .nils) .e .e)))) (.n (some (.sl 3980 0 1 1 false 8)) (.n (some (.int .i64 (.ofNat 0))) (.n (some (.str 0 0)) .e .e) (.n (some (.str 0 0)) .e (.n (some (.str 0 0)) .e .e))) (.n (some (.int .i64 (.ofNat 0))) (.n (some .nils) .e .e) (.n (some (.str 0 0)) .e (.n (some (.str 0 0)) .e .e))))) (.n (some (.str 0 0)) (.n (some .nils) (.n (some (.str 0 0)) (.n (some (.int .i64 (.ofNat 0))) .e .e) (.n (some (.str 1 81)) .e (.n (some .nils) .e .e))) (.n (some (.str 0 0)) (.n (some .nils) .e .e) (.n (some (.str 0 0)) .e (.n (some .nils) .e .e)))) (.n (some .nils) (.n (some (.bool false)) (.n (some (.int .i64 (.ofNat 0))) .e .e) (.n (some (.int .i64 (.ofNat 1))) .e (.n (some (.str 0 0)) .e .e))) (.n (some .nils) (.n (some .nils) .e .e) (.n (some .nils) .e (.n (some (.int .i64 (.ofNat 0))) .e .e)))))) none 38 252 0 0 true [3982]
/-- A block by name. -/
def k22 : Blk := .cells (.n (some (.int .i64 (.ofNat 0))) (.n (some (.sl 3914 0 1 1 false 19)) .e (.n (some (.int .i64 (.ofNat 0))) .e .e)) (.n (some (.int .i64 (.ofNat 0))) (.n (some (.sl 3992 0 2 2 false 19)) .e .e) (.n (some (.int .i64 (.ofNat 1))) .e .e))) none 6 172 0 0 false []
/-- A block by name. -/
def k23 : Blk := .cells (.n (some (.int .i64 (.ofNat 2))) (.n (some (.str 0 0)) (.n (some .nils) (.n (some .nils) .e .e) (.n (some (.int .i64 (.ofNat 0))) .e (.n (some .nils) .e .e))) (.n (some .nils) (.n (some (.int .i64 (.ofNat 0))) .e .e) (.n (some (.int .i64 (.ofNat 0))) .e (.n (some (.str 0 0)) .e .e)))) (.n (some (.str 0 0)) (.n (some (.sl 4053 0 1 1 false 19)) (.n (some (.str 0 0)) .e .e) (.n (some (.str 0 0)) .e (.n (some (.str 0 0)) .e .e))) (.n (some .nils) (.n (some (.bool false)) .e .e) (.n (some .nils) .e (.n (some .nils) .e .e))))) none 19 252 0 0 true []
/-- A block by name. -/
def k24 : Blk := .cells (.n (some (.int .i64 (.ofNat 0))) (.n (some (.sl 3914 0 1 1 false 19)) (.n (some (.int .i64 (.ofNat 2))) .e .e) (.n (some (.int .i64 (.ofNat 0))) .e (.n (some (.sl 4055 0 1 1 false 19)) .e .e))) (.n (some (.int .i64 (.ofNat 0))) (.n (some (.sl 3992 0 2 2 false 19)) .e .e) (.n (some (.int .i64 (.ofNat 1))) .e (.n (some (.int .i64 (.ofNat 0))) .e .e)))) none 9 172 0 0 true [3995]
/-- A block by name. -/
def k25 : Blk := .map [((.str 1 81), (.int .i64 (.ofNat 1))), ((.str 1 80), (.int .i64 (.ofNat 0)))] 2
/-- A block by name. -/
def k26 : Blk := .cells (.n (some (.sl 2388 0 2 2 false 3)) .e (.n (some (.map 2359)) .e .e)) none 2 163 0 0 true []
/-- A block by name. -/
def k27 : Blk := .cells (.n (some (.str 1 80)) (.n (some (.sl 2372 0 1 1 false 3)) .e .e) (.n (some (.str 0 0)) .e .e)) none 3 90 0 0 false []
/-- A block by name. -/
def k28 : Blk := .cells (.n (some (.str 1 80)) (.n (some (.sl 2372 0 1 1 false 3)) .e (.n (some (.str 0 0)) .e .e)) (.n (some (.str 0 0)) (.n (some (.sl 2386 0 1 1 false 3)) .e .e) (.n (some (.str 1 81)) .e .e))) none 6 90 0 0 true [2374]
/-- A block by name. -/
def k29 : Blk := .cells (.n (some (.sl 4089 0 2 2 false 3)) .e (.n (some (.map 4060)) .e .e)) none 2 163 0 0 true []
/-- A block by name. -/
def k30 : Blk := .cells (.n (some (.str 1 80)) (.n (some (.sl 4073 0 1 1 false 3)) .e .e) (.n (some (.str 0 0)) .e .e)) none 3 90 0 0 false []
/-- A block by name. -/
def k31 : Blk := .cells (.n (some (.str 1 80)) (.n (some (.sl 4073 0 1 1 false 3)) .e (.n (some (.str 0 0)) .e .e)) (.n (some (.str 0 0)) (.n (some (.sl 4087 0 1 1 false 3)) .e .e) (.n (some (.str 1 81)) .e .e))) none 6 90 0 0 true [4075]
/-- A block by name. -/
def k32 : Blk := .cells (.n (some (.sl 4058 0 3 3 false 3)) (.n (some (.sl 4429 0 2 2 false 4)) .e (.n (some (.sl 4621 0 3 3 false 1)) .e .e)) (.n (some (.ptr 4061 0)) (.n (some (.sl 4730 0 3 3 false 1)) .e .e) (.n (some (.map 4090)) .e .e))) none 6 177 0 0 true []
/-- A block by name. -/
def k33 : Blk := .cells (.n (some (.int .i64 (.ofNat 0))) (.n (some (.sl 4111 0 1 1 false 8)) .e .e) (.n (some (.str 1 80)) .e (.n (some (.int .i64 (.ofNat 2))) .e .e))) none 4 292 0 0 false []
/-- A block by name. -/
def k34 : Blk := .cells (.n (some (.int .i64 (.ofNat 0))) .e .e) none 1 3 0 0 true []
/-- A block by name. -/
def k35 : Blk := .cells (.n (some (.int .i64 (.ofNat 0))) .e .e) none 1 3 0 0 false []
/-- A block by name. -/
def k36 : Blk := .cells (.n (some (.int .i64 (.ofNat 0))) (.n (some (.sl 4111 0 1 1 false 8)) (.n (some .nils) .e .e) (.n (some (.int .i64 (.ofNat 1))) .e .e)) (.n (some (.str 1 80)) (.n (some (.str 1 81)) .e .e) (.n (some (.int .i64 (.ofNat 2))) .e (.n (some (.int .i64 (.ofNat 2))) .e .e)))) none 8 292 0 0 true [4190]
/-- A block by name. -/
def k37 : Blk := .cells (.n (some (.int .i64 (.ofNat 1))) .e .e) none 1 3 0 0 true []
/-- A block by name. -/
def k38 : Blk := .cells (.n (some (.int .i64 (.ofNat 2))) .e .e) none 1 3 0 0 true []
/-- A block by name. -/
def k39 : Blk := .cells (.n (some (.ptr 4737 0)) .e (.n (some (.ptr 5237 0)) .e .e)) none 2 71 0 0 true []
/-- A block by name. -/
def k40 : Blk := .cells (.n (some (.int .i64 (.ofNat 0))) (.n (some (.sl 4768 0 1 1 false 8)) .e .e) (.n (some (.str 1 80)) .e (.n (some (.int .i64 (.ofNat 2))) .e .e))) none 4 292 0 0 false []
/-- A block by name. -/
def k41 : Blk := .cells (.n (some (.int .i64 (.ofNat 0))) (.n (some (.sl 4768 0 1 1 false 8)) (.n (some .nils) .e .e) (.n (some (.int .i64 (.ofNat 1))) .e .e)) (.n (some (.str 1 80)) (.n (some (.str 1 81)) .e .e) (.n (some (.int .i64 (.ofNat 2))) .e (.n (some (.int .i64 (.ofNat 2))) .e .e)))) none 8 292 0 0 true [4772]
/-- A block by name. -/
def k42 : Blk := .cells (.n (some (.sl 4816 0 2 2 false 3)) .e (.n (some (.map 4787)) .e .e)) none 2 163 0 0 true []
/-- A block by name. -/
def k43 : Blk := .cells (.n (some (.str 1 80)) (.n (some (.sl 4800 0 1 1 false 3)) .e .e) (.n (some (.str 0 0)) .e .e)) none 3 90 0 0 false []
/-- A block by name. -/
def k44 : Blk := .cells (.n (some (.str 1 80)) (.n (some (.sl 4800 0 1 1 false 3)) .e (.n (some (.str 0 0)) .e .e)) (.n (some (.str 0 0)) (.n (some (.sl 4814 0 1 1 false 3)) .e .e) (.n (some (.str 1 81)) .e .e))) none 6 90 0 0 true [4802]
/-- A block by name. -/
def k45 : Blk := .cells (.n (some (.sl 5067 0 1 1 false 1)) .e (.n (some (.sl 5080 0 1 1 false 1)) .e .e)) (some .nils) 2 306 0 0 true []
/-- A block by name. -/
def k46 : Blk := .cells (.n (some (.sl 4866 0 2 2 true 1)) (.n (some (.sl 4958 0 3 3 false 1)) .e (.n (some (.sl 5091 0 3 3 false 1)) .e .e)) (.n (some (.sl 4867 0 2 2 true 1)) .e (.n (some (.sl 5087 0 3 3 false 1)) .e .e))) none 5 216 0 0 true []
/-- A block by name. -/
def k47 : Blk := .cells (.n (some (.int .u64 (.ofNat 0))) .e (.n (some (.int .u64 (.ofNat 1))) .e .e)) none 2 299 0 0 true []
/-- A block by name. -/
def k48 : Blk := .cells (.n (some (.ptr 4950 0)) .e (.n (some (.ptr 4953 0)) .e .e)) none 2 296 0 0 false []
/-- A block by name. -/
def k49 : Blk := .cells (.n (some (.int .u64 (.ofNat 0))) .e (.n (some (.int .u64 (.ofNat 0))) .e .e)) none 2 299 0 0 true []
/-- A block by name. -/
def k50 : Blk := .cells (.n (some (.ptr 4950 0)) (.n (some (.ptr 4956 0)) .e .e) (.n (some (.ptr 4953 0)) .e .e)) none 3 296 0 0 true [4955]
/-- A block by name. -/
def k51 : Blk := .cells (.n (some (.int .i64 (.ofNat 0))) .e (.n (some (.int .i64 (.ofNat 1))) .e .e)) none 2 3 0 0 true [5072]
/-- A block by name. -/
def k52 : Blk := .cells (.n (some (.sl 5062 0 1 1 false 1)) .e (.n (some (.sl 5074 0 2 2 false 1)) .e .e)) none 2 179 0 0 false []
/-- A block by name. -/
def k53 : Blk := .cells (.n (some (.fn 151 [(.agg [(.ptr 4953 0), (.int .u64 (.ofNat 1))])] [])) .e .e) none 1 143 0 0 true []
/-- A block by name. -/
def k54 : Blk := .cells (.n (some (.sl 5062 0 1 1 false 1)) (.n (some (.sl 5085 0 1 1 false 1)) .e .e) (.n (some (.sl 5074 0 2 2 false 1)) .e .e)) none 3 179 0 0 true [5076]
/-- A block by name. -/
def k55 : Blk := .cells (.n (some (.int .i64 (.ofNat 3))) (.n (some (.int .i64 (.ofNat 0))) (.n (some .nils) (.n (some .nils) .e .e) (.n (some (.int .i64 (.ofNat 2))) .e .e)) (.n (some (.int .i64 (.ofNat 0))) (.n (some (.int .i64 (.ofNat 1))) .e .e) (.n (some (.int .i64 (.ofNat 1))) .e .e))) (.n (some (.str 1 120)) (.n (some (.str 0 0)) (.n (some (.str 0 0)) .e .e) (.n (some (.str 0 0)) .e .e)) (.n (some (.bool false)) (.n (some (.bool false)) .e .e) (.n (some .nils) .e (.n (some .nils) .e .e))))) none 16 156 0 0 true [5113]
/-- A block by name. -/
def k56 : Blk := .cells (.n (some (.int .i64 (.ofNat 14))) (.n (some (.int .i64 (.ofNat 0))) (.n (some .nils) .e .e) (.n (some (.int .i64 (.ofNat 0))) .e .e)) (.n (some (.str 0 0)) (.n (some (.str 0 0)) .e .e) (.n (some (.bool false)) .e (.n (some (.sl 5120 0 2 2 false 8)) .e .e)))) none 8 156 0 0 true []
/-- A block by name. -/
def k57 : Blk := .cells (.n (some (.int .i64 (.ofNat 1))) (.n (some (.str 1 80)) (.n (some .nils) (.n (some .nils) .e .e) (.n (some (.int .i64 (.ofNat 0))) .e (.n (some .nils) .e .e))) (.n (some (.sl 5121 0 1 1 false 8)) (.n (some (.int .i64 (.ofNat 0))) .e .e) (.n (some (.int .i64 (.ofNat 0))) .e (.n (some (.str 0 0)) .e .e)))) (.n (some (.str 0 0)) (.n (some .nils) (.n (some (.str 0 0)) .e .e) (.n (some (.str 0 0)) .e (.n (some (.str 0 0)) .e .e))) (.n (some .nils) (.n (some (.bool false)) .e .e) (.n (some .nils) .e (.n (some .nils) .e .e))))) none 19 252 0 0 true []
/-- A block by name. -/
def k58 : Blk := .cells (.n (some (.int .i64 (.ofNat 3))) (.n (some (.int .i64 (.ofNat 0))) (.n (some .nils) (.n (some .nils) .e .e) (.n (some (.int .i64 (.ofNat 2))) .e .e)) (.n (some (.int .i64 (.ofNat 0))) (.n (some (.int .i64 (.ofNat 1))) .e .e) (.n (some (.int .i64 (.ofNat 1))) .e .e))) (.n (some (.str 1 120)) (.n (some (.str 0 0)) (.n (some (.str 0 0)) .e .e) (.n (some (.str 0 0)) .e .e)) (.n (some (.bool false)) (.n (some (.bool false)) .e .e) (.n (some .nils) .e (.n (some .nils) .e .e))))) none 16 156 0 0 true [5147]
/-- A block by name. -/
def k59 : Blk := .cells (.n (some (.int .i64 (.ofNat 14))) (.n (some (.int .i64 (.ofNat 0))) (.n (some .nils) .e .e) (.n (some (.int .i64 (.ofNat 0))) .e .e)) (.n (some (.str 0 0)) (.n (some (.str 0 0)) .e .e) (.n (some (.bool false)) .e (.n (some (.sl 5154 0 2 2 false 8)) .e .e)))) none 8 156 0 0 true []
/-- A block by name. -/
def k60 : Blk := .cells (.n (some (.int .i64 (.ofNat 1))) (.n (some (.str 1 80)) (.n (some .nils) (.n (some .nils) .e .e) (.n (some (.int .i64 (.ofNat 0))) .e (.n (some .nils) .e .e))) (.n (some (.sl 5155 0 1 1 false 8)) (.n (some (.int .i64 (.ofNat 0))) .e .e) (.n (some (.int .i64 (.ofNat 0))) .e (.n (some (.str 0 0)) .e .e)))) (.n (some (.str 0 0)) (.n (some .nils) (.n (some (.str 0 0)) .e .e) (.n (some (.str 0 0)) .e (.n (some (.str 0 0)) .e .e))) (.n (some .nils) (.n (some (.bool false)) .e .e) (.n (some .nils) .e (.n (some .nils) .e .e))))) none 19 252 0 0 false []
/-- A block by name. -/
def k61 : Blk := .cells (.n (some (.int .i64 (.ofNat 1))) (.n (some (.str 1 80)) (.n (some .nils) (.n (some .nils) (.n (some (.bool false)) .e .e) (.n (some .nils) .e .e)) (.n (some (.int .i64 (.ofNat 0))) (.n (some .nils) .e .e) (.n (some .nils) .e (.n (some .nils) .e .e)))) (.n (some (.sl 5155 0 1 1 false 8)) (.n (some (.int .i64 (.ofNat 0))) (.n (some (.str 0 0)) .e .e) (.n (some (.str 0 0)) .e (.n (some (.str 0 0)) .e .e))) (.n (some (.int .i64 (.ofNat 0))) (.n (some .nils) .e .e) (.n (some (.str 0 0)) .e (.n (some (.str 0 0)) .e .e))))) (.n (some (.str 0 0)) (.n (some .nils) (.n (some (.str 0 0)) (.n (some (.int .i64 (.ofNat 0))) .e .e) (.n (some (.str 1 81)) .e (.n (some .nils) .e .e))) (.n (some (.str 0 0)) (.n (some .nils) .e .e) (.n (some (.str 0 0)) .e (.n (some .nils) .e .e)))) (.n (some .nils) (.n (some (.bool false)) (.n (some (.int .i64 (.ofNat 0))) .e .e) (.n (some (.int .i64 (.ofNat 1))) .e (.n (some (.str 0 0)) .e .e))) (.n (some .nils) (.n (some .nils) .e .e) (.n (some .nils) .e (.n (some (.int .i64 (.ofNat 0))) .e .e)))))) none 38 252 0 0 true [5157]
/-- A block by name. -/
def k62 : Blk := .cells (.n (some (.int .i64 (.ofNat 2))) (.n (some (.str 0 0)) (.n (some .nils) (.n (some .nils) .e .e) (.n (some (.int .i64 (.ofNat 0))) .e (.n (some .nils) .e .e))) (.n (some .nils) (.n (some (.int .i64 (.ofNat 0))) .e .e) (.n (some (.int .i64 (.ofNat 0))) .e (.n (some (.str 0 0)) .e .e)))) (.n (some (.str 0 0)) (.n (some (.sl 5188 0 1 1 false 19)) (.n (some (.str 0 0)) .e .e) (.n (some (.str 0 0)) .e (.n (some (.str 0 0)) .e .e))) (.n (some .nils) (.n (some (.bool false)) .e .e) (.n (some .nils) .e (.n (some .nils) .e .e))))) none 19 252 0 0 true []
/-- A block by name. -/
def k63 : Blk := .cells (.n (some (.sl 5123 0 1 1 false 19)) (.n (some (.bool true)) .e (.n (some (.ptr 5204 0)) .e .e)) (.n (some (.bool true)) (.n (some (.ptr 5206 0)) .e .e) (.n (some (.ptr 5202 0)) .e .e))) none 6 205 0 0 true []
/-- A block by name. -/
def k64 : Blk := .cells (.n (some .nils) (.n (some (.int .i64 (.ofNat 0))) .e .e) (.n (some (.int .i64 (.ofNat 0))) .e .e)) none 3 467 0 0 true []
/-- A block by name. -/
def k65 : Blk := .cells (.n (some (.sl 5167 0 2 2 false 19)) (.n (some (.bool true)) .e (.n (some (.ptr 5221 0)) .e .e)) (.n (some (.bool true)) (.n (some (.ptr 5223 0)) .e .e) (.n (some (.ptr 5219 0)) .e .e))) none 6 205 0 0 true []
/-- A block by name. -/
def k66 : Blk := .cells (.n (some (.map 5220)) .e (.n (some (.int .i64 (.ofNat 0))) .e .e)) none 2 380 0 0 true []
/-- A block by name. -/
def k67 : Blk := .cells (.n (some (.ptr 5194 0)) .e (.n (some (.ptr 5209 0)) .e .e)) none 2 192 0 0 false []
/-- A block by name. -/
def k68 : Blk := .cells (.n (some (.sl 5190 0 1 1 false 19)) (.n (some (.bool true)) .e (.n (some (.ptr 5232 0)) .e .e)) (.n (some (.bool false)) (.n (some (.ptr 5234 0)) .e .e) (.n (some (.ptr 5230 0)) .e .e))) none 6 205 0 0 true []
/-- A block by name. -/
def k69 : Blk := .cells (.n (some (.map 5231)) .e (.n (some (.int .i64 (.ofNat 1))) .e .e)) none 2 380 0 0 true []
/-- A block by name. -/
def k70 : Blk := .cells (.n (some (.ptr 5194 0)) (.n (some (.ptr 5226 0)) .e .e) (.n (some (.ptr 5209 0)) .e .e)) none 3 192 0 0 true [5224]
/-- A block by name. -/
def k71 : Blk := .cells (.n (some (.map 5238)) (.n (some (.int .i64 (.ofNat 0))) .e .e) (.n (some (.map 5239)) .e (.n (some (.int .i64 (.ofNat 0))) .e .e))) none 4 321 0 0 true []
/-- A block by name. -/
def k72 : Blk := .cells (.n (some .nils) .e (.n (some (.fn 295 [] [])) .e .e)) none 2 470 0 0 true []
/-- A block by name. -/
def k73 : Blk := .cells (.n (some (.str 1 112)) (.n (some (.str 0 0)) (.n (some (.sl 569 0 1 1 false 19)) (.n (some (.sl 754 0 2 2 false 19)) .e (.n (some (.sl 822 0 1 1 false 19)) .e .e)) (.n (some (.str 0 0)) .e (.n (some (.str 0 0)) .e .e))) (.n (some (.bool false)) (.n (some (.bool false)) .e (.n (some (.bool false)) .e .e)) (.n (some (.str 2 28785)) .e (.n (some (.str 2 28273)) .e .e)))) (.n (some (.int .i64 (.ofNat 0))) (.n (some (.bool false)) (.n (some (.bool false)) .e (.n (some (.bool false)) .e .e)) (.n (some (.int .i64 (.ofNat 0))) .e (.n (some (.int .i64 (.ofNat 0))) .e .e))) (.n (some (.str 0 0)) (.n (some (.str 0 0)) .e (.n (some (.str 0 0)) .e .e)) (.n (some .nils) (.n (some .nils) .e .e) (.n (some .nils) .e .e))))) none 24 95 0 0 true []
/-- A block by name. -/
def k74 : Blk := .cells (.n (some (.str 4 1835100526)) .e .e) none 1 9 0 0 true []
/-- A block by name. -/
def k75 : Blk := .cells (.n (some (.sl 5248 0 3 3 false 8)) (.n (some (.sl 5260 0 3 3 false 1)) (.n (some (.fn 161 [] [])) .e .e) (.n (some (.map 5250)) .e .e)) (.n (some (.sl 4058 0 3 3 false 3)) (.n (some (.bool false)) .e .e) (.n (some (.sl 5249 0 1 1 true 1)) .e .e))) none 7 333 0 0 true []
/-- A block by name. -/
def k76 : Blk := .map [((.int .i64 (.ofNat 7)), (.fn 85 [(.ptr 5237 0)] [])), ((.int .i64 (.ofNat 6)), (.fn 84 [(.ptr 5237 0)] [])), ((.int .i64 (.ofNat 5)), (.fn 83 [(.ptr 5237 0)] [])), ((.int .i64 (.ofNat 4)), (.fn 82 [(.ptr 5237 0)] [])), ((.int .i64 (.ofNat 3)), (.fn 81 [(.ptr 5237 0)] [])), ((.int .i64 (.ofNat 2)), (.fn 80 [(.ptr 5237 0)] [])), ((.int .i64 (.ofNat 1)), (.fn 79 [(.ptr 5237 0)] []))] 7
/-- A block by name. -/
def k77 : Blk := .map [((.int .i64 (.ofNat 7)), (.fn 92 [] [])), ((.int .i64 (.ofNat 6)), (.fn 91 [] [])), ((.int .i64 (.ofNat 5)), (.fn 90 [] [])), ((.int .i64 (.ofNat 4)), (.fn 89 [] [])), ((.int .i64 (.ofNat 3)), (.fn 88 [] [])), ((.int .i64 (.ofNat 2)), (.fn 87 [] [])), ((.int .i64 (.ofNat 1)), (.fn 86 [] []))] 7
/-- A block by name. -/
def k78 : Blk := .cells (.n (some (.int .u64 (.ofNat 1))) .e (.n (some (.int .u64 (.ofNat 1))) .e .e)) none 2 299 0 0 true []
/-- A block by name. -/
def k79 : Blk := .cells (.n (some (.map 5203)) .e (.n (some (.int .i64 (.ofNat 1))) .e .e)) none 2 380 0 0 true []
/-- A block by name. -/
def k80 : Blk := .cells (.n (some (.int .i64 (.ofNat 2))) .e .e) (some (.int .i64 (.ofNat 0))) 1 3 0 0 true []
/-- A block by name. -/
def k81 : Blk := .cells (.n (some (.int .i64 (.ofNat 1))) (.n (some (.sl 6129 0 1 1 false 5)) .e (.n (some (.int .i64 (.ofNat 1))) .e .e)) (.n (some (.str 1 80)) (.n (some (.sl 5560 0 1 1 true 1)) .e .e) (.n (some (.bool true)) .e .e))) none 6 340 0 0 true []
/-- A block by name. -/
def k82 : Blk := .cells (.n (some (.int .i64 (.ofNat 2))) (.n (some (.int .i64 (.ofNat 2))) .e (.n (some .nils) .e .e)) (.n (some (.bool false)) .e (.n (some (.str 0 0)) .e .e))) none 5 39 0 0 true []
/-- A block by name. -/
def k83 : Blk := .cells (.n (some (.int .i64 (.ofNat 1))) (.n (some .nils) .e .e) (.n (some (.int .i64 (.ofNat 2))) .e .e)) none 3 374 0 0 true []
/-- A block by name. -/
def k84 : Blk := .map [((.str 24 340282366920938463500268095579187314688), (.ptr 6974 0))] 1
/-- A block by name. -/
def k85 : Blk := .cells (.n (some (.int .i64 (.ofNat 3))) .e .e) none 1 3 0 0 true []
/-- A block by name. -/
def k86 : Blk := .cells (.n (some (.int .i64 (.ofNat 0))) (.n (some .nils) (.n (some (.int .i64 (.ofNat 0))) (.n (some .nils) (.n (some (.int .i64 (.ofNat 0))) (.n (some .nils) (.n (some (.int .i64 (.ofNat 0))) .e (.n (some .nils) .e .e)) (.n (some .nils) .e (.n (some .nils) .e .e))) (.n (some .nils) (.n (some .nils) .e (.n (some (.int .i64 (.ofNat 0))) .e .e)) (.n (some (.int .i64 (.ofNat 0))) .e (.n (some .nils) .e .e)))) (.n (some .nils) (.n (some (.int .i64 (.ofNat 0))) (.n (some .nils) .e (.n (some .nils) .e .e)) (.n (some .nils) .e (.n (some (.int .i64 (.ofNat 0))) .e .e))) (.n (some .nils) (.n (some (.int .i64 (.ofNat 0))) .e (.n (some .nils) .e .e)) (.n (some .nils) .e (.n (some .nils) .e .e))))) (.n (some .nils) (.n (some .nils) (.n (some .nils) (.n (some .nils) .e (.n (some (.int .i64 (.ofNat 0))) .e .e)) (.n (some (.int .i64 (.ofNat 0))) .e (.n (some .nils) .e .e))) (.n (some (.int .i64 (.ofNat 0))) (.n (some .nils) .e (.n (some .nils) .e .e)) (.n (some .nils) .e (.n (some (.int .i64 (.ofNat 0))) .e .e)))) (.n (some (.int .i64 (.ofNat 0))) (.n (some .nils) (.n (some (.int .i64 (.ofNat 0))) .e (.n (some .nils) .e .e)) (.n (some .nils) .e (.n (some .nils) .e .e))) (.n (some .nils) (.n (some .nils) .e (.n (some (.int .i64 (.ofNat 0))) .e .e)) (.n (some (.int .i64 (.ofNat 0))) .e (.n (some .nils) .e .e)))))) (.n (some .nils) (.n (some (.int .i64 (.ofNat 0))) (.n (some .nils) (.n (some (.int .i64 (.ofNat 0))) (.n (some .nils) .e (.n (some .nils) .e .e)) (.n (some .nils) .e (.n (some (.int .i64 (.ofNat 0))) .e .e))) (.n (some .nils) (.n (some (.int .i64 (.ofNat 0))) .e (.n (some .nils) .e .e)) (.n (some .nils) .e (.n (some .nils) .e .e)))) (.n (some .nils) (.n (some .nils) (.n (some .nils) .e (.n (some (.int .i64 (.ofNat 0))) .e .e)) (.n (some (.int .i64 (.ofNat 0))) .e (.n (some .nils) .e .e))) (.n (some (.int .i64 (.ofNat 0))) (.n (some .nils) .e (.n (some .nils) .e .e)) (.n (some .nils) .e (.n (some (.int .i64 (.ofNat 0))) .e .e))))) (.n (some .nils) (.n (some (.int .i64 (.ofNat 0))) (.n (some .nils) (.n (some (.int .i64 (.ofNat 0))) .e (.n (some .nils) .e .e)) (.n (some .nils) .e (.n (some .nils) .e .e))) (.n (some .nils) (.n (some .nils) .e (.n (some (.int .i64 (.ofNat 0))) .e .e)) (.n (some (.int .i64 (.ofNat 0))) .e (.n (some .nils) .e .e)))) (.n (some .nils) (.n (some (.int .i64 (.ofNat 0))) (.n (some .nils) .e (.n (some .nils) .e .e)) (.n (some .nils) .e (.n (some (.int .i64 (.ofNat 0))) .e .e))) (.n (some .nils) (.n (some (.int .i64 (.ofNat 0))) .e (.n (some .nils) .e .e)) (.n (some .nils) (.n (some (.int .u64 (.ofNat 0))) .e .e) (.n (some .nils) .e .e))))))) (.n (some .nils) (.n (some .nils) (.n (some .nils) (.n (some .nils) (.n (some .nils) (.n (some .nils) .e (.n (some (.int .i64 (.ofNat 0))) .e .e)) (.n (some (.int .i64 (.ofNat 0))) .e (.n (some .nils) .e .e))) (.n (some (.int .i64 (.ofNat 0))) (.n (some .nils) .e (.n (some .nils) .e .e)) (.n (some .nils) .e (.n (some (.int .i64 (.ofNat 0))) .e .e)))) (.n (some (.int .i64 (.ofNat 0))) (.n (some .nils) (.n (some (.int .i64 (.ofNat 0))) .e (.n (some .nils) .e .e)) (.n (some .nils) .e (.n (some .nils) .e .e))) (.n (some .nils) (.n (some .nils) .e (.n (some (.int .i64 (.ofNat 0))) .e .e)) (.n (some (.int .i64 (.ofNat 0))) .e (.n (some .nils) .e .e))))) (.n (some (.int .i64 (.ofNat 0))) (.n (some .nils) (.n (some (.int .i64 (.ofNat 0))) (.n (some .nils) .e (.n (some .nils) .e .e)) (.n (some .nils) .e (.n (some (.int .i64 (.ofNat 0))) .e .e))) (.n (some .nils) (.n (some (.int .i64 (.ofNat 0))) .e (.n (some .nils) .e .e)) (.n (some .nils) .e (.n (some .nils) .e .e)))) (.n (some .nils) (.n (some .nils) (.n (some .nils) .e (.n (some (.int .i64 (.ofNat 0))) .e .e)) (.n (some (.int .i64 (.ofNat 0))) .e (.n (some .nils) .e .e))) (.n (some (.int .i64 (.ofNat 0))) (.n (some .nils) .e (.n (some .nils) .e .e)) (.n (some .nils) .e (.n (some (.int .i64 (.ofNat 0))) .e .e)))))) (.n (some (.int .i64 (.ofNat 0))) (.n (some .nils) (.n (some (.int .i64 (.ofNat 0))) (.n (some .nils) (.n (some (.int .i64 (.ofNat 0))) .e (.n (some .nils) .e .e)) (.n (some .nils) .e (.n (some .nils) .e .e))) (.n (some .nils) (.n (some .nils) .e (.n (some (.int .i64 (.ofNat 0))) .e .e)) (.n (some (.int .i64 (.ofNat 0))) .e (.n (some .nils) .e .e)))) (.n (some .nils) (.n (some (.int .i64 (.ofNat 0))) (.n (some .nils) .e (.n (some .nils) .e .e)) (.n (some .nils) .e (.n (some (.int .i64 (.ofNat 0))) .e .e))) (.n (some .nils) (.n (some (.int .i64 (.ofNat 0))) .e (.n (some .nils) .e .e)) (.n (some .nils) .e (.n (some .nils) .e .e))))) (.n (some .nils) (.n (some .nils) (.n (some .nils) (.n (some .nils) .e (.n (some (.int .i64 (.ofNat 0))) .e .e)) (.n (some (.int .i64 (.ofNat 0))) .e (.n (some .nils) .e .e))) (.n (some (.int .i64 (.ofNat 0))) (.n (some .nils) .e (.n (some .nils) .e .e)) (.n (some .nils) .e (.n (some (.int .i64 (.ofNat 0))) .e .e)))) (.n (some (.int .i64 (.ofNat 0))) (.n (some .nils) (.n (some (.int .i64 (.ofNat 0))) .e (.n (some .nils) .e .e)) (.n (some .nils) .e (.n (some .nils) .e .e))) (.n (some .nils) (.n (some .nils) .e (.n (some (.int .i64 (.ofNat 0))) .e .e)) (.n (some (.int .i64 (.ofNat 0))) (.n (some .nils) .e .e) (.n (some .nils) .e .e)))))))) none 193 561 0 0 true []
/-- A block by name. -/
def k87 : Blk := .map [((.int .i64 (.ofNat 2)), (.agg [(.int .i64 (.ofNat 1)), (.int .i64 (.ofNat 3))]))] 1
/-- A block by name. -/
def k88 : Blk := .cells (.n (some (.int .i64 (.ofNat 0))) (.n (some (.int .i64 (.ofNat 0))) .e (.n (some .nils) .e .e)) (.n (some (.bool false)) .e (.n (some (.str 0 0)) .e .e))) none 5 39 0 0 true []
/-- A block by name. -/
def k89 : Blk := .cells (.n (some (.int .i64 (.ofNat 3))) .e .e) (some (.int .i64 (.ofNat 0))) 1 3 0 0 true []
/-- A block by name. -/
def k90 : Blk := .cells (.n (some (.int .i64 (.ofNat 1))) (.n (some .nils) .e .e) (.n (some (.int .i64 (.ofNat 2))) .e .e)) none 3 374 0 0 false []
/-- A block by name. -/
def k91 : Blk := .cells (.n (some (.str 1 80)) (.n (some (.sl 10209 0 1 1 false 3)) .e .e) (.n (some (.str 0 0)) .e .e)) none 3 90 0 0 true []
/-- A block by name. -/
def k92 : Blk := .cells (.n (some (.str 1 120)) .e (.n (some (.str 1 120)) .e .e)) none 2 455 0 0 true []
/-- A block by name. -/
def k93 : Blk := .cells (.n (some (.int .i64 (.ofNat 3))) (.n (some (.int .i64 (.ofNat 0))) (.n (some .nils) (.n (some .nils) .e .e) (.n (some (.int .i64 (.ofNat 2))) .e .e)) (.n (some (.int .i64 (.ofNat 0))) (.n (some (.int .i64 (.ofNat 0))) .e .e) (.n (some (.int .i64 (.ofNat 1))) .e .e))) (.n (some (.str 1 120)) (.n (some (.str 0 0)) (.n (some (.str 0 0)) .e .e) (.n (some (.str 0 0)) .e .e)) (.n (some (.bool false)) (.n (some (.bool false)) .e .e) (.n (some .nils) .e (.n (some .nils) .e .e))))) none 16 156 0 0 true [10364]
/-- A block by name. -/
def k94 : Blk := .cells (.n (some (.int .i64 (.ofNat 14))) (.n (some (.int .i64 (.ofNat 0))) (.n (some .nils) .e .e) (.n (some (.int .i64 (.ofNat 0))) .e .e)) (.n (some (.str 0 0)) (.n (some (.str 0 0)) .e .e) (.n (some (.bool false)) .e (.n (some (.sl 10367 0 2 2 false 8)) .e .e)))) none 8 156 0 0 true []
/-- A block by name. -/
def k95 : Blk := .cells (.n (some (.int .i64 (.ofNat 1))) (.n (some (.str 1 80)) (.n (some .nils) (.n (some .nils) .e .e) (.n (some (.int .i64 (.ofNat 0))) .e (.n (some .nils) .e .e))) (.n (some (.sl 10374 0 1 1 false 8)) (.n (some (.int .i64 (.ofNat 0))) .e .e) (.n (some (.int .i64 (.ofNat 0))) .e (.n (some (.str 0 0)) .e .e)))) (.n (some (.str 1 112)) (.n (some .nils) (.n (some (.str 0 0)) .e .e) (.n (some (.str 0 0)) .e (.n (some (.str 0 0)) .e .e))) (.n (some (.sl 10278 0 1 1 false 2)) (.n (some (.bool false)) .e .e) (.n (some .nils) .e (.n (some .nils) .e .e))))) none 19 252 0 0 true []
/-- A block by name. -/
def k96 : Blk := .cells (.n (some (.int .i64 (.ofNat 2))) (.n (some (.int .i64 (.ofNat 0))) (.n (some .nils) .e .e) (.n (some (.int .i64 (.ofNat 0))) .e .e)) (.n (some (.str 1 120)) (.n (some (.str 0 0)) .e .e) (.n (some (.bool false)) .e (.n (some .nils) .e .e)))) none 8 156 0 0 false []
/-- A block by name. -/
def k97 : Blk := .cells (.n (some (.int .i64 (.ofNat 2))) (.n (some (.int .i64 (.ofNat 0))) (.n (some .nils) (.n (some .nils) .e .e) (.n (some (.int .i64 (.ofNat 2))) .e .e)) (.n (some (.int .i64 (.ofNat 0))) (.n (some (.int .i64 (.ofNat 1))) .e .e) (.n (some (.int .i64 (.ofNat 1))) .e .e))) (.n (some (.str 1 120)) (.n (some (.str 0 0)) (.n (some (.str 0 0)) .e .e) (.n (some (.str 0 0)) .e .e)) (.n (some (.bool false)) (.n (some (.bool false)) .e .e) (.n (some .nils) .e (.n (some .nils) .e .e))))) none 16 156 0 0 true [10524]
/-- A block by name. -/
def k98 : Blk := .cells (.n (some (.str 1 120)) (.n (some (.str 0 0)) (.n (some (.str 0 0)) .e .e) (.n (some (.bool false)) .e (.n (some (.sl 10527 0 2 2 false 8)) .e .e))) (.n (some (.int .i64 (.ofNat 17))) (.n (some (.int .i64 (.ofNat 0))) .e .e) (.n (some (.int .i64 (.ofNat 0))) .e (.n (some .nils) .e .e)))) none 9 402 0 0 true []
/-- A block by name. -/
def k99 : Blk := .cells (.n (some (.int .i64 (.ofNat 3))) (.n (some (.sl 10540 0 1 1 false 9)) (.n (some (.bool false)) .e (.n (some .nils) .e .e)) (.n (some (.str 1 112)) .e (.n (some (.str 0 0)) .e .e))) (.n (some (.str 0 0)) (.n (some (.int .i64 (.ofNat 0))) .e (.n (some .nils) .e .e)) (.n (some (.int .i64 (.ofNat 2))) (.n (some (.str 0 0)) .e .e) (.n (some (.int .i64 (.ofNat 0))) .e .e)))) none 12 158 0 0 true []
/-- A block by name. -/
def k100 : Blk := .cells (.n (some (.str 1 114)) (.n (some (.str 0 0)) (.n (some (.sl 10381 0 1 1 false 19)) .e .e) (.n (some (.bool false)) .e .e)) (.n (some (.int .i64 (.ofNat 0))) (.n (some (.bool false)) .e .e) (.n (some (.str 0 0)) .e (.n (some (.sl 10549 0 1 1 false 12)) .e .e)))) none 8 95 0 0 true []
/-- A block by name. -/
def k101 : Blk := .cells (.n (some (.int .i64 (.ofNat 3))) (.n (some (.int .i64 (.ofNat 0))) (.n (some .nils) (.n (some .nils) .e .e) (.n (some (.int .i64 (.ofNat 2))) .e .e)) (.n (some (.int .i64 (.ofNat 0))) (.n (some (.int .i64 (.ofNat 0))) .e .e) (.n (some (.int .i64 (.ofNat 1))) .e .e))) (.n (some (.str 1 120)) (.n (some (.str 0 0)) (.n (some (.str 0 0)) .e .e) (.n (some (.str 0 0)) .e .e)) (.n (some (.bool false)) (.n (some (.bool false)) .e .e) (.n (some .nils) .e (.n (some .nils) .e .e))))) none 16 156 0 0 true [12660]
/-- A block by name. -/
def k102 : Blk := .cells (.n (some (.int .i64 (.ofNat 14))) (.n (some (.int .i64 (.ofNat 0))) (.n (some .nils) .e .e) (.n (some (.int .i64 (.ofNat 0))) .e .e)) (.n (some (.str 0 0)) (.n (some (.str 0 0)) .e .e) (.n (some (.bool false)) .e (.n (some (.sl 12667 0 2 2 false 8)) .e .e)))) none 8 156 0 0 true []
/-- A block by name. -/
def k103 : Blk := .cells (.n (some (.int .i64 (.ofNat 1))) (.n (some (.str 1 80)) (.n (some .nils) (.n (some .nils) .e .e) (.n (some (.int .i64 (.ofNat 0))) .e (.n (some .nils) .e .e))) (.n (some (.sl 12668 0 1 1 false 8)) (.n (some (.int .i64 (.ofNat 0))) .e .e) (.n (some (.int .i64 (.ofNat 0))) .e (.n (some (.str 0 0)) .e .e)))) (.n (some (.str 1 112)) (.n (some .nils) (.n (some (.str 0 0)) .e .e) (.n (some (.str 0 0)) .e (.n (some (.str 0 0)) .e .e))) (.n (some (.sl 12643 0 1 1 false 2)) (.n (some (.bool false)) .e .e) (.n (some .nils) .e (.n (some .nils) .e .e))))) none 19 252 0 0 true []
/-- A block by name. -/
def k104 : Blk := .cells (.n (some (.int .i64 (.ofNat 0))) (.n (some (.sl 12670 0 1 1 false 19)) .e .e) (.n (some (.int .i64 (.ofNat 0))) .e .e)) none 3 172 0 0 true []
/-- A block by name. -/
def k105 : Blk := .cells (.n (some (.str 1 120)) (.n (some (.bool false)) .e (.n (some (.str 0 0)) .e .e)) (.n (some (.int .i64 (.ofNat 2))) (.n (some .nils) .e .e) (.n (some (.int .i64 (.ofNat 2))) .e .e))) none 6 42 0 0 true []
/-- A block by name. -/
def k106 : Blk := .cells (.n (some (.int .i64 (.ofNat 1))) (.n (some (.sl 10556 0 1 1 true 6)) (.n (some (.int .i64 (.ofNat 0))) (.n (some (.int .i64 (.ofNat 9))) .e .e) (.n (some .nils) .e .e)) (.n (some (.str 0 0)) (.n (some (.str 0 0)) .e .e) (.n (some (.int .i64 (.ofNat 6))) .e .e))) (.n (some (.str 1 80)) (.n (some (.bool false)) (.n (some (.bool false)) .e .e) (.n (some (.str 0 0)) .e .e)) (.n (some (.int .i64 (.ofNat 0))) (.n (some (.int .i64 (.ofNat 0))) .e .e) (.n (some .nils) .e (.n (some .nils) .e .e))))) none 16 46 0 0 true []
/-- A block by name. -/
def k107 : Blk := .cells (.n (some (.int .i64 (.ofNat 1))) (.n (some .nils) .e .e) (.n (some (.int .i64 (.ofNat 1))) .e .e)) none 3 374 0 0 true []
/-- A block by name. -/
def k108 : Blk := .cells (.n (some (.sl 16271 0 1 1 false 3)) .e (.n (some (.map 16256)) .e .e)) none 2 163 0 0 true []
/-- A block by name. -/
def k109 : Blk := .cells (.n (some (.str 1 80)) (.n (some (.sl 16269 0 1 1 false 3)) .e .e) (.n (some (.str 0 0)) .e .e)) none 3 90 0 0 true []
/-- A block by name. -/
def k110 : Blk := .cells (.n (some (.int .i64 (.ofNat 14))) (.n (some (.int .i64 (.ofNat 0))) (.n (some .nils) .e .e) (.n (some (.int .i64 (.ofNat 0))) .e .e)) (.n (some (.str 0 0)) (.n (some (.str 0 0)) .e .e) (.n (some (.bool false)) .e (.n (some (.sl 17325 0 2 2 false 8)) .e .e)))) none 8 156 0 0 true []
/-- A block by name. -/
def k111 : Blk := .cells (.n (some (.int .i64 (.ofNat 1))) (.n (some (.str 1 80)) (.n (some .nils) (.n (some .nils) .e .e) (.n (some (.int .i64 (.ofNat 0))) .e (.n (some .nils) .e .e))) (.n (some (.sl 17326 0 1 1 false 8)) (.n (some (.int .i64 (.ofNat 0))) .e .e) (.n (some (.int .i64 (.ofNat 0))) .e (.n (some (.str 0 0)) .e .e)))) (.n (some (.str 1 112)) (.n (some .nils) (.n (some (.str 0 0)) .e .e) (.n (some (.str 0 0)) .e (.n (some (.str 0 0)) .e .e))) (.n (some (.sl 17301 0 1 1 false 2)) (.n (some (.bool false)) .e .e) (.n (some .nils) .e (.n (some .nils) .e .e))))) none 19 252 0 0 true []
/-- A block by name. -/
def k112 : Blk := .cells (.n (some (.int .i64 (.ofNat 0))) (.n (some (.sl 17328 0 1 1 false 19)) .e .e) (.n (some (.int .i64 (.ofNat 0))) .e .e)) none 3 172 0 0 true []
/-- A block by name. -/
def k113 : Blk := .cells (.n (some (.sl 17348 0 1 1 false 3)) .e (.n (some (.map 17333)) .e .e)) none 2 163 0 0 true []
/-- A block by name. -/
def k114 : Blk := .cells (.n (some (.str 1 80)) (.n (some (.sl 17346 0 1 1 false 3)) .e .e) (.n (some (.str 0 0)) .e .e)) none 3 90 0 0 true []
/-- A block by name. -/
def k115 : Blk := .cells (.n (some (.sl 17331 0 1 1 false 3)) (.n (some (.sl 17449 0 1 1 false 4)) .e (.n (some (.sl 17452 0 1 1 false 1)) .e .e)) (.n (some (.ptr 17334 0)) (.n (some (.sl 17590 0 1 1 false 1)) .e .e) (.n (some (.map 17349)) .e .e))) none 6 177 0 0 true []
/-- A block by name. -/
def k116 : Blk := .cells (.n (some (.int .i64 (.ofNat 0))) (.n (some (.sl 17370 0 1 1 false 8)) .e .e) (.n (some (.str 1 80)) .e (.n (some (.int .i64 (.ofNat 1))) .e .e))) none 4 292 0 0 true []
/-- A block by name. -/
def k117 : Blk := .cells (.n (some (.ptr 17597 0)) .e (.n (some (.ptr 17828 0)) .e .e)) none 2 71 0 0 true []
/-- A block by name. -/
def k118 : Blk := .cells (.n (some (.sl 10217 0 1 1 false 3)) (.n (some .nils) (.n (some (.int .i64 (.ofNat 3))) .e (.n (some (.ptr 17350 0)) .e .e)) (.n (some (.int .i64 (.ofNat 4))) (.n (some (.map 17596)) .e .e) (.n (some (.int .i64 (.ofNat 1))) .e .e))) (.n (some (.sl 10552 0 1 1 false 8)) (.n (some (.int .i64 (.ofNat 100))) (.n (some (.sl 17826 0 1 1 false 1)) .e .e) (.n (some (.sl 17632 0 1 1 false 4)) .e .e)) (.n (some (.ptr 17634 0)) (.n (some (.ptr 17686 0)) .e .e) (.n (some (.sl 17995 0 1 1 false 6)) .e .e)))) none 14 133 0 0 true []
/-- A block by name. -/
def k119 : Blk := .cells (.n (some (.int .i64 (.ofNat 3))) (.n (some (.int .i64 (.ofNat 0))) (.n (some .nils) (.n (some .nils) .e .e) (.n (some (.int .i64 (.ofNat 2))) .e .e)) (.n (some (.int .i64 (.ofNat 0))) (.n (some (.int .i64 (.ofNat 0))) .e .e) (.n (some (.int .i64 (.ofNat 1))) .e .e))) (.n (some (.str 1 120)) (.n (some (.str 0 0)) (.n (some (.str 0 0)) .e .e) (.n (some (.str 0 0)) .e .e)) (.n (some (.bool false)) (.n (some (.bool false)) .e .e) (.n (some .nils) .e (.n (some .nils) .e .e))))) none 16 156 0 0 true [17620]
/-- A block by name. -/
def k120 : Blk := .cells (.n (some (.int .i64 (.ofNat 14))) (.n (some (.int .i64 (.ofNat 0))) (.n (some .nils) .e .e) (.n (some (.int .i64 (.ofNat 0))) .e .e)) (.n (some (.str 0 0)) (.n (some (.str 0 0)) .e .e) (.n (some (.bool false)) .e (.n (some (.sl 17627 0 2 2 false 8)) .e .e)))) none 8 156 0 0 true []
/-- A block by name. -/
def k121 : Blk := .cells (.n (some (.int .i64 (.ofNat 0))) (.n (some (.sl 17628 0 1 1 false 8)) .e .e) (.n (some (.str 1 80)) .e (.n (some (.int .i64 (.ofNat 1))) .e .e))) none 4 292 0 0 true []
/-- A block by name. -/
def k122 : Blk := .cells (.n (some (.sl 17648 0 1 1 false 3)) .e (.n (some (.map 17633)) .e .e)) none 2 163 0 0 true []
/-- A block by name. -/
def k123 : Blk := .cells (.n (some (.str 1 80)) (.n (some (.sl 17646 0 1 1 false 3)) .e .e) (.n (some (.str 0 0)) .e .e)) none 3 90 0 0 true []
/-- A block by name. -/
def k124 : Blk := .cells (.n (some (.int .i64 (.ofNat 1))) .e .e) (some (.int .i64 (.ofNat 0))) 1 3 0 0 true []
/-- A block by name. -/
def k125 : Blk := .cells (.n (some (.sl 17772 0 1 1 false 1)) .e .e) (some .nils) 1 306 0 0 true []
/-- A block by name. -/
def k126 : Blk := .cells (.n (some (.sl 17684 0 1 1 true 1)) (.n (some (.sl 17728 0 1 1 false 1)) .e (.n (some (.sl 17775 0 1 1 false 1)) .e .e)) (.n (some (.sl 17685 0 1 1 true 1)) .e (.n (some (.sl 17769 0 1 1 false 1)) .e .e))) none 5 216 0 0 true []
/-- A block by name. -/
def k127 : Blk := .cells (.n (some (.ptr 17726 0)) .e .e) none 1 296 0 0 true []
/-- A block by name. -/
def k128 : Blk := .cells (.n (some (.sl 17767 0 1 1 false 1)) .e .e) none 1 179 0 0 true []
/-- A block by name. -/
def k129 : Blk := .cells (.n (some (.fn 151 [(.agg [(.ptr 17726 0), (.int .u64 (.ofNat 1))])] [])) .e .e) none 1 143 0 0 true []
/-- A block by name. -/
def k130 : Blk := .cells (.n (some (.int .i64 (.ofNat 3))) (.n (some (.int .i64 (.ofNat 0))) (.n (some .nils) (.n (some .nils) .e .e) (.n (some (.int .i64 (.ofNat 2))) .e .e)) (.n (some (.int .i64 (.ofNat 0))) (.n (some (.int .i64 (.ofNat 0))) .e .e) (.n (some (.int .i64 (.ofNat 1))) .e .e))) (.n (some (.str 1 120)) (.n (some (.str 0 0)) (.n (some (.str 0 0)) .e .e) (.n (some (.str 0 0)) .e .e)) (.n (some (.bool false)) (.n (some (.bool false)) .e .e) (.n (some .nils) .e (.n (some .nils) .e .e))))) none 16 156 0 0 true [17799]
/-- A block by name. -/
def k131 : Blk := .cells (.n (some (.int .i64 (.ofNat 14))) (.n (some (.int .i64 (.ofNat 0))) (.n (some .nils) .e .e) (.n (some (.int .i64 (.ofNat 0))) .e .e)) (.n (some (.str 0 0)) (.n (some (.str 0 0)) .e .e) (.n (some (.bool false)) .e (.n (some (.sl 17806 0 2 2 false 8)) .e .e)))) none 8 156 0 0 true []
/-- A block by name. -/
def k132 : Blk := .cells (.n (some (.int .i64 (.ofNat 1))) (.n (some (.str 1 80)) (.n (some .nils) (.n (some .nils) .e .e) (.n (some (.int .i64 (.ofNat 0))) .e (.n (some .nils) .e .e))) (.n (some (.sl 17807 0 1 1 false 8)) (.n (some (.int .i64 (.ofNat 0))) .e .e) (.n (some (.int .i64 (.ofNat 0))) .e (.n (some (.str 0 0)) .e .e)))) (.n (some (.str 1 112)) (.n (some .nils) (.n (some (.str 0 0)) .e .e) (.n (some (.str 0 0)) .e (.n (some (.str 0 0)) .e .e))) (.n (some (.sl 17782 0 1 1 false 2)) (.n (some (.bool false)) .e .e) (.n (some .nils) .e (.n (some .nils) .e .e))))) none 19 252 0 0 true []
/-- A block by name. -/
def k133 : Blk := .cells (.n (some (.sl 17809 0 1 1 false 19)) (.n (some (.bool true)) .e (.n (some (.ptr 17823 0)) .e .e)) (.n (some (.bool true)) (.n (some (.ptr 17825 0)) .e .e) (.n (some (.ptr 17821 0)) .e .e))) none 6 205 0 0 true []
/-- A block by name. -/
def k134 : Blk := .cells (.n (some (.ptr 17813 0)) .e .e) none 1 192 0 0 true []
/-- A block by name. -/
def k135 : Blk := .cells (.n (some (.map 17829)) (.n (some (.int .i64 (.ofNat 0))) .e .e) (.n (some (.map 17830)) .e (.n (some (.int .i64 (.ofNat 0))) .e .e))) none 4 321 0 0 true []
/-- A block by name. -/
def k136 : Blk := .cells (.n (some (.sl 17924 0 1 1 false 1)) .e (.n (some (.fn 295 [] [])) .e .e)) none 2 470 0 0 true []
/-- A block by name. -/
def k137 : Blk := .cells (.n (some (.sl 17839 0 1 1 false 8)) (.n (some (.sl 17845 0 1 1 false 1)) (.n (some (.fn 161 [] [])) .e .e) (.n (some (.map 17841)) .e .e)) (.n (some (.sl 17331 0 1 1 false 3)) (.n (some (.bool false)) .e .e) (.n (some (.sl 17840 0 1 1 true 1)) .e .e))) none 7 333 0 0 true []
/-- A block by name. -/
def k138 : Blk := .map [((.int .i64 (.ofNat 7)), (.fn 85 [(.ptr 17828 0)] [])), ((.int .i64 (.ofNat 6)), (.fn 84 [(.ptr 17828 0)] [])), ((.int .i64 (.ofNat 5)), (.fn 83 [(.ptr 17828 0)] [])), ((.int .i64 (.ofNat 4)), (.fn 82 [(.ptr 17828 0)] [])), ((.int .i64 (.ofNat 3)), (.fn 81 [(.ptr 17828 0)] [])), ((.int .i64 (.ofNat 2)), (.fn 80 [(.ptr 17828 0)] [])), ((.int .i64 (.ofNat 1)), (.fn 79 [(.ptr 17828 0)] []))] 7
/-- A block by name. -/
def k139 : Blk := .cells (.n (some (.str 1 112)) (.n (some (.bool false)) .e (.n (some (.str 0 0)) .e .e)) (.n (some (.int .i64 (.ofNat 5))) (.n (some .nils) .e .e) (.n (some (.int .i64 (.ofNat 1))) .e .e))) none 6 389 0 0 false []
/-- A block by name. -/
def k140 : Blk := .cells (.n (some (.str 1 112)) (.n (some (.bool false)) (.n (some (.str 1 120)) .e (.n (some (.str 0 0)) .e .e)) (.n (some (.str 0 0)) .e (.n (some (.bool false)) .e .e))) (.n (some (.int .i64 (.ofNat 5))) (.n (some .nils) .e (.n (some (.int .i64 (.ofNat 2))) .e .e)) (.n (some (.int .i64 (.ofNat 1))) (.n (some .nils) .e .e) (.n (some (.int .i64 (.ofNat 2))) .e .e)))) none 12 389 0 0 true [18637]
/-- A block by name. -/
def k141 : Blk := .map [((.str 24 340282366920938463481821351505477763072), (.ptr 18788 0))] 1
/-- A block by name. -/
def k142 : Blk := .cells (.n (some (.str 1 112)) (.n (some (.bool false)) (.n (some (.str 1 120)) .e (.n (some (.str 0 0)) .e .e)) (.n (some (.str 0 0)) .e (.n (some (.bool false)) .e .e))) (.n (some (.int .i64 (.ofNat 5))) (.n (some .nils) .e (.n (some (.int .i64 (.ofNat 2))) .e .e)) (.n (some (.int .i64 (.ofNat 1))) (.n (some .nils) .e .e) (.n (some (.int .i64 (.ofNat 2))) .e .e)))) none 12 389 0 0 true [18782]
/-- A block by name. -/
def k143 : Blk := .cells (.n (some (.int .i64 (.ofNat 2))) (.n (some (.int .i64 (.ofNat 0))) .e (.n (some .nils) .e .e)) (.n (some (.bool false)) .e (.n (some (.str 0 0)) .e .e))) none 5 39 0 0 true []
end Go.Proofs.YtagfemkpoogfeaaGreatDoor.Ev
