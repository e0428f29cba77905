/- Calls that are known: what they come to. No conditions. -/
import Derived.Test.YtggofakkkkkbcaaGreatDoorSa
import Derived.Test.YtggofakkkkkbcaaGreatDoorSb27
namespace Go.Proofs.YtggofakkkkkbcaaGreatDoor.Ev
open Go Go.RowKit
noncomputable def F57 : KF := ⟨17, [(.agg [(.sl 38453 0 2 2 false 3), (.sl 38604 0 1 1 false 8), .nils])], 38615, gB ++ [(38410, k1),
   (38418, k138),
   (38445, k139),
   (38453, k140),
   (38507, k4),
   (38514, k141),
   (38592, k142),
   (38601, k143),
   (38604, k144)], (.int .i64 (.ofNat 0)), gB ++ [(38410, k1),
   (38418, k138),
   (38445, k139),
   (38453, k140),
   (38507, k4),
   (38514, k141),
   (38592, k142),
   (38601, k143),
   (38604, k144)], 39468⟩
theorem F57_ok : FactOk Tryz.prog F57 := fact_ok mixed extFine (knF_ok F56_ok F56_sib (knId_ok _)) (n := 3000) (by kernel_rfl)
theorem F57_sib : sibIn F57.hin = true := by kernel_rfl
noncomputable def F58 : KF := ⟨256, [(.str 98 39515281478997323119786696203001747920655963385997764787961006167569573029131438119581969150607630898408720285844241889411071482987393140398630628746984215690069800352194406344110433669906597542669078834935275044496205849566478890004068)], 39659, gB, (.tup [(.agg [(.sl 39963 0 2 2 false 3), (.sl 40114 0 1 1 false 8), .nils]), (.bool true)]), gB ++ [(39920, k1),
   (39928, .cells (.n (some (.str 1 80)) (.n (some (.sl 39920 0 1 1 false 3)) .e .e) (.n (some (.str 0 0)) .e .e)) none 3 90 0 0 false []),
   (39955, k139),
   (39963, .cells (.n (some (.str 1 80)) (.n (some (.sl 39920 0 1 1 false 3)) .e (.n (some (.str 0 0)) .e .e)) (.n (some (.str 0 0)) (.n (some (.sl 39955 0 1 1 false 3)) .e .e) (.n (some (.str 1 81)) .e .e))) none 6 90 0 0 true [39928]),
   (40017, k4),
   (40024, .cells (.n (some (.int .i64 (.ofNat 1))) (.n (some (.str 1 80)) (.n (some .nils) (.n (some .nils) .e .e) (.n (some (.int .i64 (.ofNat 0))) .e (.n (some .nils) .e .e))) (.n (some .nils) (.n (some (.int .i64 (.ofNat 0))) .e .e) (.n (some (.int .i64 (.ofNat 0))) .e (.n (some (.str 0 0)) .e .e)))) (.n (some (.str 0 0)) (.n (some .nils) (.n (some (.str 0 0)) .e .e) (.n (some (.str 0 0)) .e (.n (some (.str 0 0)) .e .e))) (.n (some (.sl 40017 0 1 1 false 2)) (.n (some (.bool false)) .e .e) (.n (some .nils) .e (.n (some .nils) .e .e))))) none 19 200 0 0 true []),
   (40102, k142),
   (40111, .cells (.n (some (.int .i64 (.ofNat 2))) (.n (some (.sl 40102 0 1 1 false 9)) (.n (some (.bool false)) .e (.n (some .nils) .e .e)) (.n (some (.str 0 0)) .e (.n (some (.str 0 0)) .e .e))) (.n (some (.str 1 81)) (.n (some (.int .i64 (.ofNat 0))) .e (.n (some .nils) .e .e)) (.n (some (.int .i64 (.ofNat 0))) (.n (some (.str 0 0)) .e .e) (.n (some (.int .i64 (.ofNat 0))) .e .e)))) none 12 148 0 0 true []),
   (40114, .cells (.n (some (.str 1 114)) (.n (some (.str 0 0)) (.n (some (.sl 40024 0 1 1 false 19)) .e .e) (.n (some (.bool false)) .e .e)) (.n (some (.int .i64 (.ofNat 0))) (.n (some (.bool false)) .e .e) (.n (some (.str 0 0)) .e (.n (some (.sl 40111 0 1 1 false 12)) .e .e)))) none 8 95 0 0 true [])], 40115⟩
theorem F58_ok : FactOk Tryz.prog F58 := fact_ok mixed extFine (knId_ok _) (n := 3000) (by kernel_rfl)
theorem F58_sib : sibIn F58.hin = true := by kernel_rfl
end Go.Proofs.YtggofakkkkkbcaaGreatDoor.Ev
