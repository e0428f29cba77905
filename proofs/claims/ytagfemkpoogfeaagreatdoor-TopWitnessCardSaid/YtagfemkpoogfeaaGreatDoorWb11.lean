/- Calls that are known: what they come to. No conditions. -/
import Derived.Test.YtagfemkpoogfeaaGreatDoorWa
import Derived.Test.YtagfemkpoogfeaaGreatDoorWb14
import Derived.Test.YtagfemkpoogfeaaGreatDoorWb7
import Derived.Test.YtagfemkpoogfeaaGreatDoorWb9
import Derived.Test.YtagfemkpoogfeaaGreatDoorWb10
namespace Go.Proofs.YtagfemkpoogfeaaGreatDoor.Ev
open Go Go.RowKit
noncomputable def F12 : KF := ⟨10, [], 9941, gB, (.bool true), gB, 21026⟩
theorem F12_ok : FactOk Tryz.prog F12 := fact_ok mixed extFine (knF_ok F15_ok F15_sib (knF_ok F11_ok F11_sib (knF_ok F10_ok F10_sib (knF_ok F8_ok F8_sib (knId_ok _))))) (n := 3000) (by kernel_rfl)
theorem F12_sib : sibIn F12.hin = true := by kernel_rfl
end Go.Proofs.YtagfemkpoogfeaaGreatDoor.Ev
