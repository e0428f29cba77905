/- The whole call, over the calls that are known. No conditions. -/
import Derived.Test.YtagfemkpoogfeaaGreatDoorWa
import Derived.Test.YtagfemkpoogfeaaGreatDoorWb16
import Derived.Test.YtagfemkpoogfeaaGreatDoorWb1
import Derived.Test.YtagfemkpoogfeaaGreatDoorWb2
import Derived.Test.YtagfemkpoogfeaaGreatDoorWb3
import Derived.Test.YtagfemkpoogfeaaGreatDoorWb4
import Derived.Test.YtagfemkpoogfeaaGreatDoorWb17
import Derived.Test.YtagfemkpoogfeaaGreatDoorWb5
import Derived.Test.YtagfemkpoogfeaaGreatDoorWb6
import Derived.Test.YtagfemkpoogfeaaGreatDoorWb7
import Derived.Test.YtagfemkpoogfeaaGreatDoorWb8
import Derived.Test.YtagfemkpoogfeaaGreatDoorWb9
import Derived.Test.YtagfemkpoogfeaaGreatDoorWb10
import Derived.Test.YtagfemkpoogfeaaGreatDoorWb11
namespace Go.Proofs.YtagfemkpoogfeaaGreatDoor.Ev
open Go Go.RowKit
theorem run_true {W : World} (hsz : gN ≤ W.heap.size) (hl' : ∀ y ∈ hl, y.1 < gN ∧ (∃ cs, W.heap[y.1]? = some (.cells cs y.2.1) ∧ ∀ π, VRs π y.2.2 cs.toList) ∧ y.2.2.all AV.isCell = true) :
    Calls Tryz.prog 3 #[] W fun e W' => e = .returned (.bool true) ∧ Below W.heap.size W W' :=
  closed_sound (n := 3000) (l := hl) mixed extFine (knG_ok F17_ok (knF_ok F12_ok F12_sib (knG_ok F5_ok (knF_ok F4_ok F4_sib (knF_ok F1_ok F1_sib (knId_ok _)))))) (by kernel_rfl) hsz hl'
end Go.Proofs.YtagfemkpoogfeaaGreatDoor.Ev
