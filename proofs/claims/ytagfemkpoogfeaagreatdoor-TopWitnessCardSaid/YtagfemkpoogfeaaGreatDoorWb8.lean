/- Calls that are known: what they come to. No conditions. -/
import Derived.Test.YtagfemkpoogfeaaGreatDoorWa
namespace Go.Proofs.YtagfemkpoogfeaaGreatDoor.Ev
open Go Go.RowKit
noncomputable def F9 : KF := ⟨30, [(.agg [(.sl 10217 0 1 1 false 3), (.sl 10552 0 1 1 false 8), .nils])], 15221, gB ++ [(10209, k0),
   (10217, k91),
   (10278, k92),
   (10364, k3),
   (10367, k93),
   (10374, k94),
   (10381, k95),
   (10524, k96),
   (10527, k97),
   (10540, k98),
   (10549, k99),
   (10552, k100)], (.int .i64 (.ofNat 0)), gB ++ [(10209, k0),
   (10217, k91),
   (10278, k92),
   (10364, k3),
   (10367, k93),
   (10374, k94),
   (10381, k95),
   (10524, k96),
   (10527, k97),
   (10540, k98),
   (10549, k99),
   (10552, k100)], 16255⟩
theorem F9_ok : FactOk Tryz.prog F9 := fact_ok mixed extFine (knId_ok _) (n := 3000) (by kernel_rfl)
theorem F9_sib : sibIn F9.hin = true := by kernel_rfl
end Go.Proofs.YtagfemkpoogfeaaGreatDoor.Ev
