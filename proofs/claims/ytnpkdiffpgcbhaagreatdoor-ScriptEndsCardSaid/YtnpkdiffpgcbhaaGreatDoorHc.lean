/- The closed law's call: it returns true. No conditions. -/
import Derived.Test.YtnpkdiffpgcbhaaGreatDoorHb1
import Derived.Test.YtnpkdiffpgcbhaaGreatDoorHb2
import Derived.Test.YtnpkdiffpgcbhaaGreatDoorHb3
namespace Go.Proofs.YtnpkdiffpgcbhaaGreatDoor.Ev
open Go Go.RowKit
theorem run_true {W : World} (hsz : gN ≤ W.heap.size) (hl' : ∀ y ∈ hl, y.1 < gN ∧ (∃ cs, W.heap[y.1]? = some (.cells cs y.2.1) ∧ ∀ π, VRs π y.2.2 cs.toList) ∧ y.2.2.all AV.isCell = true) :
    Calls Tryz.prog 7 #[] W fun e W' => e = .returned (.bool true) ∧ Below W.heap.size W W' :=
  closed_sound (n := 3000) (l := hl) mixed extFine (knF_ok F3_ok F3_sib (knF_ok F2_ok F2_sib (knF_ok F1_ok F1_sib (knId_ok _)))) (by kernel_rfl) hsz hl'
end Go.Proofs.YtnpkdiffpgcbhaaGreatDoor.Ev
