/- Calls that are known: what they come to. No conditions. -/
import Derived.Test.YtggofakkkkkbcaaGreatDoorPa
namespace Go.Proofs.YtggofakkkkkbcaaGreatDoor.Ev
open Go Go.RowKit
noncomputable def F37 : KF := ⟨17, [(.agg [(.sl 24557 0 2 2 false 3), (.sl 24708 0 1 1 false 8), .nils])], 32471, gB ++ [(24514, k0),
   (24522, k132),
   (24549, k133),
   (24557, k134),
   (24611, k2),
   (24618, k135),
   (24696, k136),
   (24705, k137),
   (24708, k138)], (.int .i64 (.ofNat 0)), gB ++ [(24514, k0),
   (24522, k132),
   (24549, k133),
   (24557, k134),
   (24611, k2),
   (24618, k135),
   (24696, k136),
   (24705, k137),
   (24708, k138)], 33324⟩
theorem F37_ok : FactOk Tryz.prog F37 := fact_ok mixed extFine (knId_ok _) (n := 3000) (by kernel_rfl)
theorem F37_sib : sibIn F37.hin = true := by kernel_rfl
end Go.Proofs.YtggofakkkkkbcaaGreatDoor.Ev
