/- The row's closed facts, ahead of the row itself (they speak of the program alone). No conditions. -/
import Derived.Test.YthfenjgelbkloaaGreatDoorCjA
namespace Go.Proofs.YthfenjgelbkloaaGreatDoor.consoleLines.Pre
open Go
set_option maxRecDepth 100000 in
theorem j10 : ((row0.inPlace == Tryz.prog.inPlace 3)) = true := by unfold Program.inPlace; rw [clo]; kernel_rfl
set_option maxRecDepth 100000 in
theorem j11 : ((row0.unfollowed == Tryz.prog.unfollowed 3)) = true := by rw [unf]; rfl
set_option maxRecDepth 100000 in
theorem j12 : ((row0.recurses == Tryz.prog.recurses 3)) = true := by unfold Program.recurses; rw [unf]; rfl
end Go.Proofs.YthfenjgelbkloaaGreatDoor.consoleLines.Pre
