/- Calls that are known: what they come to. No conditions. -/
import Derived.Test.YtagfemkpoogfeaaGreatDoorWa
import Derived.Test.YtagfemkpoogfeaaGreatDoorWb15
import Derived.Test.YtagfemkpoogfeaaGreatDoorWb6
namespace Go.Proofs.YtagfemkpoogfeaaGreatDoor.Ev
open Go Go.RowKit
noncomputable def F8 : KF := ⟨21, [(.agg [(.sl 10217 0 1 1 false 3), (.sl 10552 0 1 1 false 8), .nils]), (.sl 10557 0 2 2 true 8), (.agg [(.int .i64 (.ofNat 4)), (.int .i64 (.ofNat 100)), (.int .i64 (.ofNat 3))])], 10558, gB ++ [(10209, k0),
   (10217, k91),
   (10278, k92),
   (10364, k3),
   (10367, k93),
   (10374, k94),
   (10381, k95),
   (10524, k96),
   (10527, k97),
   (10540, k98),
   (10549, k99),
   (10552, k100),
   (10556, k105),
   (10557, k106)], (.tup [(.sl 15217 0 6 6 false 10), (.int .i64 (.ofNat 0))]), gB ++ [(10209, k0),
   (10217, k91),
   (10278, k92),
   (10364, k3),
   (10367, k93),
   (10374, k94),
   (10381, k95),
   (10524, k96),
   (10527, k97),
   (10540, k98),
   (10549, k99),
   (10552, k100),
   (10556, k105),
   (10557, k106),
   (13710, k107),
   (14578, k83),
   (14921, .cells (.n (some (.int .i64 (.ofNat 1))) (.n (some (.bool true)) (.n (some (.str 0 0)) (.n (some (.int .i64 (.ofNat 0))) (.n (some (.int .i64 (.ofNat 4))) .e (.n (some (.str 0 0)) .e .e)) (.n (some (.bool false)) .e (.n (some (.int .i64 (.ofNat 0))) .e .e))) (.n (some (.int .i64 (.ofNat 4))) (.n (some (.str 0 0)) .e (.n (some (.bool false)) .e .e)) (.n (some (.int .i64 (.ofNat 0))) .e (.n (some (.int .i64 (.ofNat 0))) .e .e)))) (.n (some (.int .i64 (.ofNat 0))) (.n (some (.bool false)) (.n (some (.int .i64 (.ofNat 0))) .e (.n (some (.int .i64 (.ofNat 0))) .e .e)) (.n (some (.int .i64 (.ofNat 2))) .e (.n (some (.str 0 0)) .e .e))) (.n (some (.int .i64 (.ofNat 0))) (.n (some (.int .i64 (.ofNat 0))) .e (.n (some (.int .i64 (.ofNat 2))) .e .e)) (.n (some (.str 0 0)) (.n (some (.int .i64 (.ofNat 0))) .e .e) (.n (some (.bool false)) .e .e))))) (.n (some (.int .i64 (.ofNat 1))) (.n (some .nils) (.n (some (.int .i64 (.ofNat 0))) (.n (some (.int .i64 (.ofNat 0))) .e (.n (some .nils) .e .e)) (.n (some (.int .i64 (.ofNat 1))) .e (.n (some .nils) .e .e))) (.n (some (.int .i64 (.ofNat 0))) (.n (some .nils) .e (.n (some (.int .i64 (.ofNat 1))) .e .e)) (.n (some .nils) (.n (some (.int .i64 (.ofNat 0))) .e .e) (.n (some (.int .i64 (.ofNat 0))) .e .e)))) (.n (some (.int .i64 (.ofNat 0))) (.n (some (.int .i64 (.ofNat 0))) (.n (some .nils) .e (.n (some (.int .i64 (.ofNat 0))) .e .e)) (.n (some (.int .i64 (.ofNat 0))) .e (.n (some (.sl 14578 0 1 1 false 3)) .e .e))) (.n (some .nils) (.n (some (.int .i64 (.ofNat 0))) .e (.n (some (.int .i64 (.ofNat 0))) .e .e)) (.n (some (.sl 13710 0 1 1 false 3)) (.n (some .nils) .e .e) (.n (some (.int .i64 (.ofNat 0))) .e .e)))))) none 50 75 0 0 false []),
   (15217, .cells (.n (some (.int .i64 (.ofNat 1))) (.n (some (.bool true)) (.n (some (.str 0 0)) (.n (some (.int .i64 (.ofNat 0))) (.n (some (.int .i64 (.ofNat 4))) .e (.n (some (.str 0 0)) .e .e)) (.n (some (.bool false)) (.n (some (.int .i64 (.ofNat 0))) .e .e) (.n (some (.int .i64 (.ofNat 0))) .e .e))) (.n (some (.int .i64 (.ofNat 4))) (.n (some (.str 0 0)) (.n (some (.int .i64 (.ofNat 2))) .e .e) (.n (some (.bool false)) .e .e)) (.n (some (.int .i64 (.ofNat 0))) (.n (some (.int .i64 (.ofNat 10))) .e .e) (.n (some (.int .i64 (.ofNat 0))) .e .e)))) (.n (some (.int .i64 (.ofNat 0))) (.n (some (.bool false)) (.n (some (.int .i64 (.ofNat 0))) .e (.n (some (.int .i64 (.ofNat 0))) .e .e)) (.n (some (.int .i64 (.ofNat 2))) (.n (some (.bool false)) .e .e) (.n (some (.str 0 0)) .e .e))) (.n (some (.int .i64 (.ofNat 0))) (.n (some (.int .i64 (.ofNat 0))) (.n (some (.str 0 0)) .e .e) (.n (some (.int .i64 (.ofNat 2))) .e .e)) (.n (some (.str 0 0)) (.n (some (.int .i64 (.ofNat 0))) .e .e) (.n (some (.bool false)) .e .e))))) (.n (some (.int .i64 (.ofNat 1))) (.n (some .nils) (.n (some (.int .i64 (.ofNat 0))) (.n (some (.int .i64 (.ofNat 0))) .e (.n (some .nils) .e .e)) (.n (some (.int .i64 (.ofNat 1))) (.n (some (.int .i64 (.ofNat 0))) .e .e) (.n (some .nils) .e .e))) (.n (some (.int .i64 (.ofNat 0))) (.n (some .nils) (.n (some .nils) .e .e) (.n (some (.int .i64 (.ofNat 1))) .e .e)) (.n (some .nils) (.n (some (.int .i64 (.ofNat 0))) .e .e) (.n (some (.int .i64 (.ofNat 0))) .e .e)))) (.n (some (.int .i64 (.ofNat 0))) (.n (some (.int .i64 (.ofNat 0))) (.n (some .nils) (.n (some (.int .i64 (.ofNat 0))) .e .e) (.n (some (.int .i64 (.ofNat 0))) .e .e)) (.n (some (.int .i64 (.ofNat 0))) (.n (some (.int .i64 (.ofNat 0))) .e .e) (.n (some (.sl 14578 0 1 1 false 3)) .e .e))) (.n (some .nils) (.n (some (.int .i64 (.ofNat 0))) (.n (some .nils) .e .e) (.n (some (.int .i64 (.ofNat 0))) .e .e)) (.n (some (.sl 13710 0 1 1 false 3)) (.n (some .nils) .e .e) (.n (some (.int .i64 (.ofNat 0))) .e .e)))))) none 60 75 0 0 true [14921])], 15218⟩
theorem F8_ok : FactOk Tryz.prog F8 := fact_ok mixed extFine (knF_ok F16_ok F16_sib (knF_ok F7_ok F7_sib (knId_ok _))) (n := 3000) (by kernel_rfl)
theorem F8_sib : sibIn F8.hin = true := by kernel_rfl
end Go.Proofs.YtagfemkpoogfeaaGreatDoor.Ev
