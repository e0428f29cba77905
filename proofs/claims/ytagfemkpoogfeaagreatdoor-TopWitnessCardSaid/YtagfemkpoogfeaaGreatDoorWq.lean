/- The row's closed facts: those of Wj, at the given row. No conditions. -/
import Derived.Test.YtagfemkpoogfeaaGreatDoorWj
import Derived.Test.YtagfemkpoogfeaaGreatDoorRows
namespace Go.Proofs.YtagfemkpoogfeaaGreatDoor.topWitness
open Go
theorem hl_eq : Ev.firstL Tryz.prog Rows.topWitnessRow.laid = Ev.hl := Pre.hl_eq
theorem nameIs : Tryz.prog.funcNamed Rows.topWitnessRow.func = some 3 := Pre.nameIs
theorem goesBy : false = Rows.topWitnessRow.goesBy Tryz.prog := Pre.goesBy
theorem joined : joinedFacts Tryz.prog 3 Tryz.f3 Rows.topWitnessSpec Rows.topWitnessRow = true := Pre.joined
theorem looksAre : true = Tryz.prog.looks [] := Pre.looksAre
theorem j2 : laidOutB Tryz.prog = true := Pre.j2
end Go.Proofs.YtagfemkpoogfeaaGreatDoor.topWitness
