/- The row's tie. No conditions. -/
import Derived.Test.YtagfemkpoogfeaaGreatDoorWx
import Derived.Test.YtagfemkpoogfeaaGreatDoorRows
import Derived.LaidByTextLater
import Derived.SevenTiedAt
namespace Go.Proofs.YtagfemkpoogfeaaGreatDoor
open Go
namespace TieBy
theorem noUnsafe : Tryz.pinned.checked.prog.headLifts.contains "ownunsafe" = false := by kernel_rfl
theorem topWitness : Rows.topWitnessRow.laidByTextAt .later Tryz.pinned [.data, .data, .data, .sentinel, .sentinel] true :=
  OpenClaim.laidByTextAt_later rfl rfl tie noUnsafe fits
end TieBy
end Go.Proofs.YtagfemkpoogfeaaGreatDoor
