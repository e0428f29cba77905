/- Calls that are known: what they come to. No conditions. -/
import Derived.Test.YtggofakkkkkbcaaGreatDoorHa
namespace Go.Proofs.YtggofakkkkkbcaaGreatDoor.Ev
open Go Go.RowKit
noncomputable def F36 : KF := ⟨163, [(.agg [(.sl 524592 0 2 2 false 3), (.sl 524743 0 1 1 false 8), .nils])], 524759, gB ++ [(524549, k301),
   (524557, k302),
   (524584, k303),
   (524592, k304),
   (524646, k3),
   (524653, k305),
   (524731, k253),
   (524740, k306),
   (524743, k307)], (.tup [(.str 98 39515281478997323119786696203001747920655963385997764787961006167569573029131438119581969150607630898408720285844241889411071482987393140398630628746984215690069800352194406344110433669906597542669078834935275044496205849566478890004068), (.int .i64 (.ofNat 0))]), gB ++ [(524549, k301),
   (524557, k302),
   (524584, k303),
   (524592, k304),
   (524646, k3),
   (524653, k305),
   (524731, k253),
   (524740, k306),
   (524743, k307)], 525412⟩
theorem F36_ok : FactOk Tryz.prog F36 := fact_ok mixed extFine (knId_ok _) (n := 3000) (by kernel_rfl)
theorem F36_sib : sibIn F36.hin = true := by kernel_rfl
noncomputable def F37 : KF := ⟨58, [(.agg [(.sl 524592 0 2 2 false 3), (.sl 524743 0 1 1 false 8), .nils])], 525638, gB ++ [(524549, k301),
   (524557, k302),
   (524584, k303),
   (524592, k304),
   (524646, k3),
   (524653, k305),
   (524731, k253),
   (524740, k306),
   (524743, k307)], (.tup [(.sl 526455 0 1 1 false 3), (.int .i64 (.ofNat 0))]), gB ++ [(524549, k301),
   (524557, k302),
   (524584, k303),
   (524592, k304),
   (524646, k3),
   (524653, k305),
   (524731, k253),
   (524740, k306),
   (524743, k307),
   (526446, k3),
   (526452, k308),
   (526455, k309)], 526456⟩
theorem F37_ok : FactOk Tryz.prog F37 := fact_ok mixed extFine (knId_ok _) (n := 3000) (by kernel_rfl)
theorem F37_sib : sibIn F37.hin = true := by kernel_rfl
end Go.Proofs.YtggofakkkkkbcaaGreatDoor.Ev
