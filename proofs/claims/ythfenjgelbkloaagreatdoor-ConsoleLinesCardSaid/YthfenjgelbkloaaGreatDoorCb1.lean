/- Calls that are known: what they come to. No conditions. -/
import Derived.Test.YthfenjgelbkloaaGreatDoorCa
namespace Go.Proofs.YthfenjgelbkloaaGreatDoor.Ev
open Go Go.RowKit
noncomputable def F1 : KF := ⟨7, [(.str 74 6295147529031264086211580993755352814397140657729722008695741280554275274736867016119951293608450562773832464043248546833567415121461838595153123900942323224672991776047326330122)], 10, gB, (.tup [(.agg [(.sl 321 0 2 2 false 3), (.sl 302 0 1 1 false 8), .nils]), (.int .i64 (.ofNat 0)), (.int .i64 (.ofNat 0))]), gB ++ [(214, k0),
   (222, k1),
   (268, k2),
   (299, k3),
   (302, k4),
   (321, k5)], 322⟩
theorem F1_ok : FactOk Tryz.prog F1 := fact_ok mixed extFine (knId_ok _) (n := 3000) (by kernel_rfl)
theorem F1_sib : sibIn F1.hin = true := by kernel_rfl
noncomputable def F2 : KF := ⟨8, [(.agg [(.sl 321 0 2 2 false 3), (.sl 302 0 1 1 false 8), .nils])], 323, gB ++ [(214, k0),
   (222, k1),
   (268, k2),
   (299, k3),
   (302, k4),
   (321, k5)], (.int .i64 (.ofNat 0)), gB ++ [(214, k0),
   (222, k1),
   (268, k2),
   (299, k3),
   (302, k4),
   (321, k5)], 938⟩
theorem F2_ok : FactOk Tryz.prog F2 := fact_ok mixed extFine (knId_ok _) (n := 3000) (by kernel_rfl)
theorem F2_sib : sibIn F2.hin = true := by kernel_rfl
end Go.Proofs.YthfenjgelbkloaaGreatDoor.Ev
