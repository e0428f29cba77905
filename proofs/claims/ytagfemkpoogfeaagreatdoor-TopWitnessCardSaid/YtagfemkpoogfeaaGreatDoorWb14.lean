/- Calls that are known: what they come to. No conditions. -/
import Derived.Test.YtagfemkpoogfeaaGreatDoorWa
namespace Go.Proofs.YtagfemkpoogfeaaGreatDoor.Ev
open Go Go.RowKit
noncomputable def F15 : KF := ⟨4, [(.str 90 2142127701295255723888216498648423250159877298201129563551129456874147988129128426740756882416108592093869638882837180091979800806099654422290240161208390762610238758234028906684383810591952824571089343422233433173604)], 9941, gB, (.tup [(.agg [(.sl 10217 0 1 1 false 3), (.sl 10552 0 1 1 false 8), .nils]), (.int .i64 (.ofNat 0)), (.int .i64 (.ofNat 0))]), gB ++ [(10209, k0),
   (10217, k91),
   (10278, k92),
   (10364, k3),
   (10367, k93),
   (10374, k94),
   (10381, k95),
   (10524, k96),
   (10527, k97),
   (10540, k98),
   (10549, k99),
   (10552, k100)], 10553⟩
theorem F15_ok : FactOk Tryz.prog F15 := fact_ok mixed extFine (knId_ok _) (n := 3000) (by kernel_rfl)
theorem F15_sib : sibIn F15.hin = true := by kernel_rfl
end Go.Proofs.YtagfemkpoogfeaaGreatDoor.Ev
