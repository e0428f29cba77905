/- A call that is known: what it comes to. No conditions. -/
import Derived.Test.YtnpkdiffpgcbhaaGreatDoorHa
namespace Go.Proofs.YtnpkdiffpgcbhaaGreatDoor.Ev
open Go Go.RowKit
noncomputable def F3 : KF := ⟨9, [], 1508, gB, (.bool true), gB, 2151⟩
theorem F3_ok : FactOk Tryz.prog F3 := fact_ok mixed extFine (knId_ok _) (n := 3000) (by kernel_rfl)
theorem F3_sib : sibIn F3.hin = true := by kernel_rfl
end Go.Proofs.YtnpkdiffpgcbhaaGreatDoor.Ev
