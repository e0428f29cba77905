/- Calls that are known: what they come to. No conditions. -/
import Derived.Test.YthbabhnbiilimaaGreatDoorMa
namespace Go.Proofs.YthbabhnbiilimaaGreatDoor.Ev
open Go Go.RowKit
noncomputable def F1 : KF := ⟨29, [(.agg [(.sl 264 0 1 1 false 3), (.sl 579 0 1 1 false 8), .nils])], 598, gB ++ [(256, k0),
   (264, k1),
   (318, k2),
   (404, k3),
   (407, k4),
   (414, k5),
   (421, k6),
   (547, k3),
   (550, k7),
   (557, k8),
   (564, k9),
   (571, k10),
   (579, k11)], (.tup [(.sl 1740 0 1 1 false 3), (.int .i64 (.ofNat 0))]), gB ++ [(256, k0),
   (264, k1),
   (318, k2),
   (404, k3),
   (407, k4),
   (414, k5),
   (421, k6),
   (547, k3),
   (550, k7),
   (557, k8),
   (564, k9),
   (571, k10),
   (579, k11),
   (1669, k2),
   (1686, k3),
   (1693, .cells (.n (some (.int .i64 (.ofNat 3))) (.n (some (.int .i64 (.ofNat 0))) (.n (some .nils) (.n (some .nils) .e .e) (.n (some (.int .i64 (.ofNat 2))) .e .e)) (.n (some (.int .i64 (.ofNat 0))) (.n (some (.int .i64 (.ofNat 1))) .e .e) (.n (some (.int .i64 (.ofNat 1))) .e .e))) (.n (some (.str 1 120)) (.n (some (.str 0 0)) (.n (some (.str 0 0)) .e .e) (.n (some (.str 0 0)) .e .e)) (.n (some (.bool false)) (.n (some (.bool false)) .e .e) (.n (some .nils) .e (.n (some .nils) .e .e))))) none 16 141 0 0 true [1686]),
   (1694, .cells (.n (some (.int .i64 (.ofNat 14))) (.n (some (.int .i64 (.ofNat 0))) (.n (some .nils) .e .e) (.n (some (.int .i64 (.ofNat 0))) .e .e)) (.n (some (.str 0 0)) (.n (some (.str 0 0)) .e .e) (.n (some (.bool false)) .e (.n (some (.sl 1693 0 2 2 false 8)) .e .e)))) none 8 141 0 0 true []),
   (1696, .cells (.n (some (.int .i64 (.ofNat 1))) (.n (some (.str 1 80)) (.n (some .nils) (.n (some .nils) .e .e) (.n (some (.int .i64 (.ofNat 0))) .e (.n (some .nils) .e .e))) (.n (some (.sl 1694 0 1 1 false 8)) (.n (some (.int .i64 (.ofNat 0))) .e .e) (.n (some (.int .i64 (.ofNat 0))) .e (.n (some (.str 0 0)) .e .e)))) (.n (some (.str 0 0)) (.n (some .nils) (.n (some (.str 0 0)) .e .e) (.n (some (.str 0 0)) .e (.n (some (.str 0 0)) .e .e))) (.n (some (.sl 1669 0 1 1 false 2)) (.n (some (.bool false)) .e .e) (.n (some .nils) .e (.n (some .nils) .e .e))))) none 19 144 0 0 false []),
   (1725, k3),
   (1732, .cells (.n (some (.int .i64 (.ofNat 3))) (.n (some (.int .i64 (.ofNat 0))) (.n (some .nils) (.n (some .nils) .e .e) (.n (some (.int .i64 (.ofNat 0))) .e .e)) (.n (some (.int .i64 (.ofNat 0))) (.n (some (.int .i64 (.ofNat 0))) .e .e) (.n (some (.int .i64 (.ofNat 2))) .e .e))) (.n (some (.str 1 120)) (.n (some (.str 0 0)) (.n (some (.str 0 0)) .e .e) (.n (some (.str 1 120)) .e .e)) (.n (some (.bool false)) (.n (some (.bool false)) .e .e) (.n (some .nils) .e (.n (some .nils) .e .e))))) none 16 141 0 0 true [1725]),
   (1733, .cells (.n (some (.int .i64 (.ofNat 14))) (.n (some (.int .i64 (.ofNat 0))) (.n (some .nils) .e .e) (.n (some (.int .i64 (.ofNat 0))) .e .e)) (.n (some (.str 0 0)) (.n (some (.str 0 0)) .e .e) (.n (some (.bool false)) .e (.n (some (.sl 1732 0 2 2 false 8)) .e .e)))) none 8 141 0 0 true []),
   (1735, .cells (.n (some (.int .i64 (.ofNat 1))) (.n (some (.str 1 80)) (.n (some .nils) (.n (some .nils) .e .e) (.n (some (.int .i64 (.ofNat 0))) .e (.n (some .nils) .e .e))) (.n (some (.sl 1733 0 1 1 false 8)) (.n (some (.int .i64 (.ofNat 0))) .e .e) (.n (some (.int .i64 (.ofNat 0))) .e (.n (some (.str 0 0)) .e .e)))) (.n (some (.str 0 0)) (.n (some .nils) (.n (some (.str 0 0)) .e .e) (.n (some (.str 0 0)) .e (.n (some (.str 0 0)) .e .e))) (.n (some .nils) (.n (some (.bool false)) .e .e) (.n (some .nils) .e (.n (some .nils) .e .e))))) none 19 144 0 0 true []),
   (1737, .cells (.n (some (.int .i64 (.ofNat 1))) (.n (some (.str 1 80)) (.n (some .nils) (.n (some .nils) (.n (some (.bool false)) .e .e) (.n (some .nils) .e .e)) (.n (some (.int .i64 (.ofNat 0))) (.n (some .nils) .e .e) (.n (some .nils) .e (.n (some .nils) .e .e)))) (.n (some (.sl 1694 0 1 1 false 8)) (.n (some (.int .i64 (.ofNat 0))) (.n (some (.str 0 0)) .e .e) (.n (some (.str 0 0)) .e (.n (some (.str 0 0)) .e .e))) (.n (some (.int .i64 (.ofNat 0))) (.n (some (.sl 1735 0 1 1 false 19)) .e .e) (.n (some (.str 0 0)) .e (.n (some (.str 0 0)) .e .e))))) (.n (some (.str 0 0)) (.n (some .nils) (.n (some (.str 0 0)) (.n (some (.int .i64 (.ofNat 0))) .e .e) (.n (some (.str 0 0)) .e (.n (some .nils) .e .e))) (.n (some (.str 0 0)) (.n (some .nils) .e .e) (.n (some (.str 0 0)) .e (.n (some .nils) .e .e)))) (.n (some (.sl 1669 0 1 1 false 2)) (.n (some (.bool false)) (.n (some (.int .i64 (.ofNat 0))) .e .e) (.n (some (.int .i64 (.ofNat 2))) .e (.n (some (.str 0 0)) .e .e))) (.n (some .nils) (.n (some .nils) .e .e) (.n (some .nils) .e (.n (some (.int .i64 (.ofNat 0))) .e .e)))))) none 38 144 0 0 true [1696]),
   (1740, .cells (.n (some (.int .i64 (.ofNat 0))) (.n (some (.sl 1737 0 2 2 false 19)) .e .e) (.n (some (.int .i64 (.ofNat 0))) .e .e)) none 3 84 0 0 true [])], 1741⟩
theorem F1_ok : FactOk Tryz.prog F1 := fact_ok mixed extFine (knId_ok _) (n := 3000) (by kernel_rfl)
theorem F1_sib : sibIn F1.hin = true := by kernel_rfl
end Go.Proofs.YthbabhnbiilimaaGreatDoor.Ev
