/- Calls that are known: what they come to. No conditions. -/
import Derived.Test.YtggofakkkkkbcaaGreatDoorSa
import Derived.Test.YtggofakkkkkbcaaGreatDoorSb10
import Derived.Test.YtggofakkkkkbcaaGreatDoorSb27
import Derived.Test.YtggofakkkkkbcaaGreatDoorSb29
import Derived.Test.YtggofakkkkkbcaaGreatDoorSb31
namespace Go.Proofs.YtggofakkkkkbcaaGreatDoor.Ev
open Go Go.RowKit
noncomputable def F66 : KF := ⟨17, [(.agg [(.sl 38453 0 2 2 false 3), (.sl 38604 0 1 1 false 8), .nils])], 46367, gB ++ [(38410, k1),
   (38418, k138),
   (38445, k139),
   (38453, k140),
   (38507, k4),
   (38514, k141),
   (38592, k142),
   (38601, k143),
   (38604, k144)], (.int .i64 (.ofNat 0)), gB ++ [(38410, k1),
   (38418, k138),
   (38445, k139),
   (38453, k140),
   (38507, k4),
   (38514, k141),
   (38592, k142),
   (38601, k143),
   (38604, k144)], 47220⟩
theorem F66_ok : FactOk Tryz.prog F66 := fact_ok mixed extFine (knF_ok F65_ok F65_sib (knId_ok _)) (n := 3000) (by kernel_rfl)
theorem F66_sib : sibIn F66.hin = true := by kernel_rfl
noncomputable def F67 : KF := ⟨11, [], 38149, gB, (.bool true), gB, 47220⟩
theorem F67_ok : FactOk Tryz.prog F67 := fact_ok mixed extFine (knF_ok F66_ok F66_sib (knF_ok F64_ok F64_sib (knF_ok F63_ok F63_sib (knF_ok F60_ok F60_sib (knF_ok F55_ok F55_sib (knId_ok _)))))) (n := 3000) (by kernel_rfl)
theorem F67_sib : sibIn F67.hin = true := by kernel_rfl
end Go.Proofs.YtggofakkkkkbcaaGreatDoor.Ev
