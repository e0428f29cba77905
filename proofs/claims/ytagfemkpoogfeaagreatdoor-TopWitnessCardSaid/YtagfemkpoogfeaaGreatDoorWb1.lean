/- Calls that are known: what they come to. No conditions. -/
import Derived.Test.YtagfemkpoogfeaaGreatDoorWa
namespace Go.Proofs.YtagfemkpoogfeaaGreatDoor.Ev
open Go Go.RowKit
noncomputable def F1 : KF := ⟨4, [(.str 142 362512973530153866518304883657151340453381010293115479876755349312457328925537279745903686006957628815635890346301239390263538748105242522766879086393293465283736592276566246939151685162441041507615997138130700758158000931444090351946448448698765488768741635375980405173265060453918106227154133891104646776549258609805950820529709020233428580)], 6, gB, (.tup [(.agg [(.sl 427 0 2 2 false 3), (.sl 830 0 3 3 false 8), .nils]), (.int .i64 (.ofNat 0)), (.int .i64 (.ofNat 0))]), gB ++ [(384, k0),
   (392, k1),
   (419, k0),
   (427, k2),
   (552, k3),
   (555, k4),
   (562, k5),
   (569, k6),
   (702, k3),
   (705, k7),
   (712, k8),
   (719, k9),
   (754, k10),
   (762, k11),
   (815, k12),
   (822, k13),
   (830, k14)], 831⟩
theorem F1_ok : FactOk Tryz.prog F1 := fact_ok mixed extFine (knId_ok _) (n := 3000) (by kernel_rfl)
theorem F1_sib : sibIn F1.hin = true := by kernel_rfl
end Go.Proofs.YtagfemkpoogfeaaGreatDoor.Ev
