/- Calls that are known: what they come to. No conditions. -/
import Derived.Test.YtggofakkkkkbcaaGreatDoorCa
namespace Go.Proofs.YtggofakkkkkbcaaGreatDoor.Ev
open Go Go.RowKit
noncomputable def F36 : KF := ⟨17, [(.agg [(.sl 29757 0 2 2 false 3), (.sl 29908 0 1 1 false 8), .nils])], 37671, gB ++ [(29714, k1),
   (29722, k199),
   (29749, k200),
   (29757, k201),
   (29811, k4),
   (29818, k202),
   (29896, k203),
   (29905, k204),
   (29908, k205)], (.int .i64 (.ofNat 0)), gB ++ [(29714, k1),
   (29722, k199),
   (29749, k200),
   (29757, k201),
   (29811, k4),
   (29818, k202),
   (29896, k203),
   (29905, k204),
   (29908, k205)], 38524⟩
theorem F36_ok : FactOk Tryz.prog F36 := fact_ok mixed extFine (knId_ok _) (n := 3000) (by kernel_rfl)
theorem F36_sib : sibIn F36.hin = true := by kernel_rfl
end Go.Proofs.YtggofakkkkkbcaaGreatDoor.Ev
