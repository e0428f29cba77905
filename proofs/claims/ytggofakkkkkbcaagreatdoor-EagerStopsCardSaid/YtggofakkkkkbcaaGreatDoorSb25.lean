/- Calls that are known: what they come to. No conditions. -/
import Derived.Test.YtggofakkkkkbcaaGreatDoorSa
import Derived.Test.YtggofakkkkkbcaaGreatDoorSb23
import Derived.Test.YtggofakkkkkbcaaGreatDoorSb24
namespace Go.Proofs.YtggofakkkkkbcaaGreatDoor.Ev
open Go Go.RowKit
noncomputable def F48 : KF := ⟨17, [(.agg [(.sl 33237 0 2 2 false 3), (.sl 33669 0 2 2 false 8), .nils])], 33676, gB ++ [(33194, k1),
   (33202, k123),
   (33229, k1),
   (33237, k124),
   (33307, k4),
   (33314, k125),
   (33458, k126),
   (33461, k127),
   (33476, k128),
   (33537, k129),
   (33540, k130),
   (33593, k11),
   (33600, k131),
   (33666, k13),
   (33669, k132)], (.int .i64 (.ofNat 0)), gB ++ [(33194, k1),
   (33202, k123),
   (33229, k1),
   (33237, k124),
   (33307, k4),
   (33314, k125),
   (33458, k126),
   (33461, k127),
   (33476, k128),
   (33537, k129),
   (33540, k130),
   (33593, k11),
   (33600, k131),
   (33666, k13),
   (33669, k132)], 35159⟩
theorem F48_ok : FactOk Tryz.prog F48 := fact_ok mixed extFine (knF_ok F47_ok F47_sib (knId_ok _)) (n := 3000) (by kernel_rfl)
theorem F48_sib : sibIn F48.hin = true := by kernel_rfl
noncomputable def F51 : KF := ⟨98, [(.agg [(.sl 33237 0 2 2 false 3), (.sl 33669 0 2 2 false 8), .nils])], 35191, gB ++ [(33194, k1),
   (33202, k123),
   (33229, k1),
   (33237, k124),
   (33307, k4),
   (33314, k125),
   (33458, k126),
   (33461, k127),
   (33476, k128),
   (33537, k129),
   (33540, k130),
   (33593, k11),
   (33600, k131),
   (33666, k13),
   (33669, k132)], (.tup [(.str 0 0), (.int .i64 (.ofNat 0))]), gB ++ [(33194, k1),
   (33202, k123),
   (33229, k1),
   (33237, k124),
   (33307, k4),
   (33314, k125),
   (33458, k126),
   (33461, k127),
   (33476, k128),
   (33537, k129),
   (33540, k130),
   (33593, k11),
   (33600, k131),
   (33666, k13),
   (33669, k132)], 36621⟩
theorem F51_ok : FactOk Tryz.prog F51 := fact_ok mixed extFine (knF_ok F50_ok F50_sib (knId_ok _)) (n := 3000) (by kernel_rfl)
theorem F51_sib : sibIn F51.hin = true := by kernel_rfl
end Go.Proofs.YtggofakkkkkbcaaGreatDoor.Ev
