/- Calls that are known: what they come to. No conditions. -/
import Derived.Test.YtggofakkkkkbcaaGreatDoorPa
import Derived.Test.YtggofakkkkkbcaaGreatDoorPb9
import Derived.Test.YtggofakkkkkbcaaGreatDoorPb10
import Derived.Test.YtggofakkkkkbcaaGreatDoorPb11
namespace Go.Proofs.YtggofakkkkkbcaaGreatDoor.Ev
open Go Go.RowKit
noncomputable def F29 : KF := ⟨8, [(.str 131 1171342591808953838370622111918516865893980509288777369497997561560005119186053578637801281169821884336472214333159662206573385033592428703264488402256668230946242732992164892381493744680760674160660159909819067912977241612447782029570169829973924171941174090733748338695793950402878852677480549172469000566741495396), (.sl 18156 0 3 3 false 8), (.agg [(.int .i64 (.ofNat 9)), (.int .i64 (.ofNat 200)), (.int .i64 (.ofNat 4))])], 18158, gB ++ [(8, k9),
   (12, k10),
   (18156, k131)], (.tup [(.sl 24219 0 13 13 false 10), (.bool true)]), gB ++ [(8, k9),
   (12, k10),
   (18156, k131),
   (23444, k12),
   (23513, k13),
   (23612, k12),
   (23673, k127),
   (23844, k14),
   (23905, k128),
   (24084, k14),
   (24152, k15),
   (24198, k129),
   (24219, k130)], 24220⟩
theorem F29_ok : FactOk Tryz.prog F29 := fact_ok mixed extFine (knG_ok F28_ok (knF_ok F23_ok F23_sib (knF_ok F20_ok F20_sib (knId_ok _)))) (n := 3000) (by kernel_rfl)
theorem F29_sib : sibIn F29.hin = true := by kernel_rfl
noncomputable def F31 : KF := ⟨17, [(.agg [(.sl 24557 0 2 2 false 3), (.sl 24708 0 1 1 false 8), .nils])], 24719, gB ++ [(24514, k0),
   (24522, k132),
   (24549, k133),
   (24557, k134),
   (24611, k2),
   (24618, k135),
   (24696, k136),
   (24705, k137),
   (24708, k138)], (.int .i64 (.ofNat 0)), gB ++ [(24514, k0),
   (24522, k132),
   (24549, k133),
   (24557, k134),
   (24611, k2),
   (24618, k135),
   (24696, k136),
   (24705, k137),
   (24708, k138)], 25572⟩
theorem F31_ok : FactOk Tryz.prog F31 := fact_ok mixed extFine (knId_ok _) (n := 3000) (by kernel_rfl)
theorem F31_sib : sibIn F31.hin = true := by kernel_rfl
end Go.Proofs.YtggofakkkkkbcaaGreatDoor.Ev
