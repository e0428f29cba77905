/- Calls that are known: what they come to. No conditions. -/
import Derived.Test.YtagfemkpoogfeaaGreatDoorWa
namespace Go.Proofs.YtagfemkpoogfeaaGreatDoor.Ev
open Go Go.RowKit
noncomputable def F2 : KF := ⟨30, [(.agg [(.sl 427 0 2 2 false 3), (.sl 830 0 3 3 false 8), .nils])], 835, gB ++ [(384, k0),
   (392, k1),
   (419, k0),
   (427, k2),
   (552, k3),
   (555, k4),
   (562, k5),
   (569, k6),
   (702, k3),
   (705, k7),
   (712, k8),
   (719, k9),
   (754, k10),
   (762, k11),
   (815, k12),
   (822, k13),
   (830, k14)], (.int .i64 (.ofNat 0)), gB ++ [(384, k0),
   (392, k1),
   (419, k0),
   (427, k2),
   (552, k3),
   (555, k4),
   (562, k5),
   (569, k6),
   (702, k3),
   (705, k7),
   (712, k8),
   (719, k9),
   (754, k10),
   (762, k11),
   (815, k12),
   (822, k13),
   (830, k14)], 2358⟩
theorem F2_ok : FactOk Tryz.prog F2 := fact_ok mixed extFine (knId_ok _) (n := 3000) (by kernel_rfl)
theorem F2_sib : sibIn F2.hin = true := by kernel_rfl
end Go.Proofs.YtagfemkpoogfeaaGreatDoor.Ev
