/- The row's closed facts: those of Cj, at the given row. No conditions. -/
import Derived.Test.YthfenjgelbkloaaGreatDoorCj
import Derived.Test.YthfenjgelbkloaaGreatDoorRows
namespace Go.Proofs.YthfenjgelbkloaaGreatDoor.consoleLines
open Go
theorem hl_eq : Ev.firstL Tryz.prog Rows.consoleLinesRow.laid = Ev.hl := Pre.hl_eq
theorem nameIs : Tryz.prog.funcNamed Rows.consoleLinesRow.func = some 3 := Pre.nameIs
theorem goesBy : false = Rows.consoleLinesRow.goesBy Tryz.prog := Pre.goesBy
theorem joined : joinedFacts Tryz.prog 3 Tryz.f3 Rows.consoleLinesSpec Rows.consoleLinesRow = true := Pre.joined
theorem looksAre : true = Tryz.prog.looks [] := Pre.looksAre
theorem j2 : laidOutB Tryz.prog = true := Pre.j2
end Go.Proofs.YthfenjgelbkloaaGreatDoor.consoleLines
