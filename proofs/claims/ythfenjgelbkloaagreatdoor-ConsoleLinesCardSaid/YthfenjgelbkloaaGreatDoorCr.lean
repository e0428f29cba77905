/- The whole call, over the calls that are known. No conditions. -/
import Derived.Test.YthfenjgelbkloaaGreatDoorCb1
import Derived.Test.YthfenjgelbkloaaGreatDoorCb2
import Derived.Test.YthfenjgelbkloaaGreatDoorCb3
import Derived.Test.YthfenjgelbkloaaGreatDoorCb4
import Derived.Test.YthfenjgelbkloaaGreatDoorCb5
import Derived.Test.YthfenjgelbkloaaGreatDoorCb6
import Derived.Test.YthfenjgelbkloaaGreatDoorCb7
import Derived.Test.YthfenjgelbkloaaGreatDoorCb8
import Derived.Test.YthfenjgelbkloaaGreatDoorCb9
import Derived.Test.YthfenjgelbkloaaGreatDoorCb10
import Derived.Test.YthfenjgelbkloaaGreatDoorCb11
import Derived.Test.YthfenjgelbkloaaGreatDoorCb12
import Derived.Test.YthfenjgelbkloaaGreatDoorCb13
namespace Go.Proofs.YthfenjgelbkloaaGreatDoor.Ev
open Go Go.RowKit
set_option maxRecDepth 100000 in
theorem run_true {W : World} (hsz : gN ≤ W.heap.size) (hl' : ∀ y ∈ hl, y.1 < gN ∧ (∃ cs, W.heap[y.1]? = some (.cells cs y.2.1) ∧ ∀ π, VRs π y.2.2 cs.toList) ∧ y.2.2.all AV.isCell = true) :
    Calls Tryz.prog 3 #[] W fun e W' => e = .returned (.bool true) ∧ Below W.heap.size W W' :=
  closed_sound (n := 3000) (l := hl) mixed extFine (knF_ok F26_ok F26_sib (knF_ok F18_ok F18_sib (knF_ok F17_ok F17_sib (knId_ok _)))) (by kernel_rfl) hsz hl'
end Go.Proofs.YthfenjgelbkloaaGreatDoor.Ev
