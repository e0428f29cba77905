/- Calls that are known: what they come to. No conditions. -/
import Derived.Test.YthfenjgelbkloaaGreatDoorCa
namespace Go.Proofs.YthfenjgelbkloaaGreatDoor.Ev
open Go Go.RowKit
noncomputable def F3 : KF := ⟨10, [(.agg [(.sl 321 0 2 2 false 3), (.sl 302 0 1 1 false 8), .nils])], 938, gB ++ [(214, k0),
   (222, k1),
   (268, k2),
   (299, k3),
   (302, k4),
   (321, k5)], (.tup [(.ptr 1550 0), (.int .i64 (.ofNat 0))]), gB ++ [(214, k0),
   (222, k1),
   (268, k2),
   (299, k3),
   (302, k4),
   (321, k5),
   (1517, k2),
   (1520, .cells (.n (some (.int .i64 (.ofNat 0))) (.n (some (.sl 1517 0 1 1 false 19)) .e .e) (.n (some (.int .i64 (.ofNat 0))) .e .e)) none 3 81 0 0 true []),
   (1522, k6),
   (1523, .cells (.n (some (.sl 1548 0 2 2 false 3)) .e (.n (some (.map 1522)) .e .e)) none 2 259 0 0 true []),
   (1535, k0),
   (1537, .cells (.n (some (.str 1 80)) (.n (some (.sl 1535 0 1 1 false 3)) .e .e) (.n (some (.str 0 0)) .e .e)) none 3 128 0 0 false []),
   (1548, .cells (.n (some (.str 1 80)) (.n (some (.sl 1535 0 1 1 false 3)) .e (.n (some (.str 0 0)) .e .e)) (.n (some (.str 0 0)) (.n (some .nils) .e .e) (.n (some (.str 1 81)) .e .e))) none 6 128 0 0 true [1537]),
   (1549, k7),
   (1550, .cells (.n (some (.sl 1520 0 1 1 false 3)) (.n (some (.sl 1564 0 1 1 false 4)) .e (.n (some (.sl 1567 0 1 1 false 1)) .e .e)) (.n (some (.ptr 1523 0)) (.n (some (.sl 1626 0 1 1 false 1)) .e .e) (.n (some (.map 1549)) .e .e))) none 6 78 0 0 true []),
   (1564, k8),
   (1566, k9),
   (1567, .cells (.n (some (.sl 1566 0 1 1 false 1)) .e .e) none 1 86 0 0 true []),
   (1614, k2),
   (1619, k9),
   (1621, k9),
   (1624, .cells (.n (some (.sl 1614 0 1 1 true 19)) (.n (some (.sl 1621 0 1 1 false 1)) .e (.n (some .nils) .e .e)) (.n (some (.sl 1619 0 1 1 false 1)) .e (.n (some (.int .i64 (.ofNat 0))) .e .e))) none 5 276 0 0 true []),
   (1626, .cells (.n (some (.ptr 1624 0)) .e .e) none 1 274 0 0 true [])], 1627⟩
theorem F3_ok : FactOk Tryz.prog F3 := fact_ok mixed extFine (knId_ok _) (n := 3000) (by kernel_rfl)
theorem F3_sib : sibIn F3.hin = true := by kernel_rfl
noncomputable def F4 : KF := ⟨149, [(.agg [(.sl 321 0 2 2 false 3), (.sl 302 0 1 1 false 8), .nils])], 1644, gB ++ [(214, k0),
   (222, k1),
   (268, k2),
   (299, k3),
   (302, k4),
   (321, k5)], (.int .i64 (.ofNat 0)), gB ++ [(214, k0),
   (222, k1),
   (268, k2),
   (299, k3),
   (302, k4),
   (321, k5)], 2260⟩
theorem F4_ok : FactOk Tryz.prog F4 := fact_ok mixed extFine (knId_ok _) (n := 3000) (by kernel_rfl)
theorem F4_sib : sibIn F4.hin = true := by kernel_rfl
end Go.Proofs.YthfenjgelbkloaaGreatDoor.Ev
