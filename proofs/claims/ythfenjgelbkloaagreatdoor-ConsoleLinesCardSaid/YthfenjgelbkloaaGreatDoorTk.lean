/- The row's tie. No conditions. -/
import Derived.Test.YthfenjgelbkloaaGreatDoorCx
import Derived.Test.YthfenjgelbkloaaGreatDoorRows
import Derived.LaidByTextLater
import Derived.SevenTiedAt
namespace Go.Proofs.YthfenjgelbkloaaGreatDoor
open Go
namespace TieBy
theorem noUnsafe : Tryz.pinned.checked.prog.headLifts.contains "ownunsafe" = false := by kernel_rfl
theorem pin : Tryz.pinned.checked.prog.pinnedFits "unicode/utf8.first" = true := by kernel_rfl
theorem fitsAll : Tryz.pinned.checked.prog.listedFits Rows.consoleLinesRow.laid = true := by
  unfold Program.listedFits
  rw [noUnsafe]
  kernel_rfl
theorem consoleLines : Rows.consoleLinesRow.laidByTextAt .later Tryz.pinned [.data, .data, .data, .data, .sentinel, .sentinel, .pinned] true :=
  OpenClaim.laidByTextAt_pinned rfl rfl tie rfl rfl rfl rfl (fun y hy _e => by
    simp only [Rows.consoleLinesRow, List.zip_cons_cons, List.zip_nil_right, List.mem_cons, List.mem_nil_iff, or_false] at hy
    rcases hy with rfl | rfl | rfl | rfl | rfl | rfl | rfl
    · cases _e
    · cases _e
    · cases _e
    · cases _e
    · cases _e
    · cases _e
    · exact ⟨pin, by kernel_rfl⟩) fitsAll
end TieBy
end Go.Proofs.YthfenjgelbkloaaGreatDoor
