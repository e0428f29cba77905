/- Calls that are known: what they come to. No conditions. -/
import Derived.Test.YtggofakkkkkbcaaGreatDoorPa
import Derived.Test.YtggofakkkkkbcaaGreatDoorPb2
namespace Go.Proofs.YtggofakkkkkbcaaGreatDoor.Ev
open Go Go.RowKit
noncomputable def F7 : KF := ⟨15, [(.agg [(.sl 3422 0 1 1 false 3), (.sl 3566 0 1 1 false 8), .nils]), (.sl 3213 0 8 8 false 8), (.agg [(.int .i64 (.ofNat 9)), (.int .i64 (.ofNat 200)), (.int .i64 (.ofNat 4))])], 3568, gB ++ [(8, k9),
   (12, k10),
   (3213, k39),
   (3414, k0),
   (3422, k16),
   (3485, k2),
   (3492, k17),
   (3563, k4),
   (3566, k18)], (.tup [(.sl 7300 0 12 12 false 10), (.int .i64 (.ofNat 0))]), gB ++ [(8, k9),
   (12, k10),
   (3213, k39),
   (3414, k0),
   (3422, k16),
   (3485, k2),
   (3492, k17),
   (3563, k4),
   (3566, k18),
   (6174, k12),
   (6235, k13),
   (6316, k14),
   (6377, k15),
   (6522, k40),
   (7300, k41)], 7301⟩
theorem F7_ok : FactOk Tryz.prog F7 := fact_ok mixed extFine (knF_ok F6_ok F6_sib (knF_ok F5_ok F5_sib (knId_ok _))) (n := 3000) (by kernel_rfl)
theorem F7_sib : sibIn F7.hin = true := by kernel_rfl
noncomputable def F8 : KF := ⟨8, [(.str 71 375220032276586537731384098157605696582623759372813821357234792632300023941261669434049344660171207842362330641713967095533475464295039447272376420237543416223842196352612), (.sl 3213 0 8 8 false 8), (.agg [(.int .i64 (.ofNat 9)), (.int .i64 (.ofNat 200)), (.int .i64 (.ofNat 4))])], 3215, gB ++ [(8, k9),
   (12, k10),
   (3213, k39)], (.tup [(.sl 7300 0 12 12 false 10), (.bool true)]), gB ++ [(8, k9),
   (12, k10),
   (3213, k39),
   (6174, k12),
   (6235, k13),
   (6316, k14),
   (6377, k15),
   (6522, k40),
   (7300, k41)], 7301⟩
theorem F8_ok : FactOk Tryz.prog F8 := fact_ok mixed extFine (knF_ok F7_ok F7_sib (knId_ok _)) (n := 3000) (by kernel_rfl)
theorem F8_sib : sibIn F8.hin = true := by kernel_rfl
noncomputable def F24 : KF := ⟨115, [(.ptr 21413 0)], 23392, gB ++ [(21188, k105),
   (21224, k106),
   (21410, k107),
   (21411, k7),
   (21412, .map [] 0),
   (21413, k110),
   (21419, k111),
   (21905, k14),
   (21911, k112),
   (22632, k113),
   (22694, k12),
   (22699, k114),
   (22700, k115),
   (23133, k116)], (.tup [(.agg [(.int .i64 (.ofNat 0)), (.sl 23429 0 1 1 false 3), (.sl 23434 0 1 1 false 6)]), (.bool true)]), gB ++ [(21188, k105),
   (21224, k106),
   (21410, k107),
   (21411, k7),
   (21412, .map [] 0),
   (21413, k110),
   (21419, k111),
   (21905, k14),
   (21911, k112),
   (22632, k113),
   (22694, k12),
   (22699, k114),
   (22700, k115),
   (23133, k116),
   (23429, k12),
   (23434, k114)], 23435⟩
theorem F24_ok : FactOk Tryz.prog F24 := fact_ok mixed extFine (knId_ok _) (n := 3000) (by kernel_rfl)
end Go.Proofs.YtggofakkkkkbcaaGreatDoor.Ev
