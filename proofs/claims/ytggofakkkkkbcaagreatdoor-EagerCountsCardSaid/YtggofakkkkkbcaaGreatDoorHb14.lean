/- Calls that are known: what they come to. No conditions. -/
import Derived.Test.YtggofakkkkkbcaaGreatDoorHa
namespace Go.Proofs.YtggofakkkkkbcaaGreatDoor.Ev
open Go Go.RowKit
noncomputable def F40 : KF := ⟨256, [(.str 98 39515281478997323119786696203001747920655963385997764787961006167569573029131438119581969150607630898408720285844241889411071482987393140398630628746984215690069800352194406344110433669906597542669078834935275044496205849566478890004068)], 528986, gB, (.tup [(.agg [(.sl 529290 0 2 2 false 3), (.sl 529441 0 1 1 false 8), .nils]), (.bool true)]), gB ++ [(529247, k301),
   (529255, .cells (.n (some (.str 1 80)) (.n (some (.sl 529247 0 1 1 false 3)) .e .e) (.n (some (.str 0 0)) .e .e)) none 3 90 0 0 false []),
   (529282, k303),
   (529290, .cells (.n (some (.str 1 80)) (.n (some (.sl 529247 0 1 1 false 3)) .e (.n (some (.str 0 0)) .e .e)) (.n (some (.str 0 0)) (.n (some (.sl 529282 0 1 1 false 3)) .e .e) (.n (some (.str 1 81)) .e .e))) none 6 90 0 0 true [529255]),
   (529344, k3),
   (529351, .cells (.n (some (.int .i64 (.ofNat 1))) (.n (some (.str 1 80)) (.n (some .nils) (.n (some .nils) .e .e) (.n (some (.int .i64 (.ofNat 0))) .e (.n (some .nils) .e .e))) (.n (some .nils) (.n (some (.int .i64 (.ofNat 0))) .e .e) (.n (some (.int .i64 (.ofNat 0))) .e (.n (some (.str 0 0)) .e .e)))) (.n (some (.str 0 0)) (.n (some .nils) (.n (some (.str 0 0)) .e .e) (.n (some (.str 0 0)) .e (.n (some (.str 0 0)) .e .e))) (.n (some (.sl 529344 0 1 1 false 2)) (.n (some (.bool false)) .e .e) (.n (some .nils) .e (.n (some .nils) .e .e))))) none 19 200 0 0 true []),
   (529429, k253),
   (529438, .cells (.n (some (.int .i64 (.ofNat 2))) (.n (some (.sl 529429 0 1 1 false 9)) (.n (some (.bool false)) .e (.n (some .nils) .e .e)) (.n (some (.str 0 0)) .e (.n (some (.str 0 0)) .e .e))) (.n (some (.str 1 81)) (.n (some (.int .i64 (.ofNat 0))) .e (.n (some .nils) .e .e)) (.n (some (.int .i64 (.ofNat 0))) (.n (some (.str 0 0)) .e .e) (.n (some (.int .i64 (.ofNat 0))) .e .e)))) none 12 148 0 0 true []),
   (529441, .cells (.n (some (.str 1 114)) (.n (some (.str 0 0)) (.n (some (.sl 529351 0 1 1 false 19)) .e .e) (.n (some (.bool false)) .e .e)) (.n (some (.int .i64 (.ofNat 0))) (.n (some (.bool false)) .e .e) (.n (some (.str 0 0)) .e (.n (some (.sl 529438 0 1 1 false 12)) .e .e)))) none 8 95 0 0 true [])], 529442⟩
theorem F40_ok : FactOk Tryz.prog F40 := fact_ok mixed extFine (knId_ok _) (n := 3000) (by kernel_rfl)
theorem F40_sib : sibIn F40.hin = true := by kernel_rfl
noncomputable def F41 : KF := ⟨163, [(.agg [(.sl 524592 0 2 2 false 3), (.sl 524743 0 1 1 false 8), .nils])], 529709, gB ++ [(524549, k301),
   (524557, k302),
   (524584, k303),
   (524592, k304),
   (524646, k3),
   (524653, k305),
   (524731, k253),
   (524740, k306),
   (524743, k307)], (.tup [(.str 98 39515281478997323119786696203001747920655963385997764787961006167569573029131438119581969150607630898408720285844241889411071482987393140398630628746984215690069800352194406344110433669906597542669078834935275044496205849566478890004068), (.int .i64 (.ofNat 0))]), gB ++ [(524549, k301),
   (524557, k302),
   (524584, k303),
   (524592, k304),
   (524646, k3),
   (524653, k305),
   (524731, k253),
   (524740, k306),
   (524743, k307)], 530362⟩
theorem F41_ok : FactOk Tryz.prog F41 := fact_ok mixed extFine (knId_ok _) (n := 3000) (by kernel_rfl)
theorem F41_sib : sibIn F41.hin = true := by kernel_rfl
end Go.Proofs.YtggofakkkkkbcaaGreatDoor.Ev
