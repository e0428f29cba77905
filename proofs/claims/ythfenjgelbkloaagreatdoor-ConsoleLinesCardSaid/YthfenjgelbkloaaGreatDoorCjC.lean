/- The row's closed facts, ahead of the row itself (they speak of the program alone). No conditions. -/
import Derived.Test.YthfenjgelbkloaaGreatDoorCj0
namespace Go.Proofs.YthfenjgelbkloaaGreatDoor.consoleLines.Pre
open Go
set_option maxRecDepth 100000 in
theorem j1 : (row0.wf (OpenSpec.ofChange spec0)) = true := by kernel_rfl
set_option maxRecDepth 100000 in
theorem j4 : (Tryz.f3.params.all (Tryz.prog.readableRec ·)) = true := by kernel_rfl
set_option maxRecDepth 100000 in
theorem j5 : (namedTie Tryz.prog row0.named spec0.vars) = true := by kernel_rfl
set_option maxRecDepth 100000 in
theorem j6 : ((row0.stops == [])) = true := by kernel_rfl
set_option maxRecDepth 100000 in
theorem j7 : ((Tryz.prog.stops == [])) = true := by kernel_rfl
set_option maxRecDepth 100000 in
theorem j8 : ((row0.knobs == [])) = true := by kernel_rfl
set_option maxRecDepth 100000 in
theorem j9 : ((Tryz.prog.stopKnobs == [])) = true := by kernel_rfl
set_option maxRecDepth 100000 in
theorem j14 : ((row0.maps == (Tryz.f3.params.toList ++ spec0.plain.varTypes Tryz.prog).any (Tryz.prog.mapsRec ·))) = true := by kernel_rfl
set_option maxRecDepth 100000 in
theorem j15 : ((row0.ifaces == (Tryz.f3.params.toList ++ spec0.plain.varTypes Tryz.prog).any (Tryz.prog.ifacesRec ·))) = true := by kernel_rfl
set_option maxRecDepth 100000 in
theorem j16 : ((row0.mapsOut == Tryz.prog.mapsAmong Tryz.f3.resultTypes.toList)) = true := by kernel_rfl
set_option maxRecDepth 100000 in
theorem j17 : ((row0.loops == (Tryz.f3.params.toList ++ spec0.plain.varTypes Tryz.prog).any (Tryz.prog.loopsFrom ·))) = true := by kernel_rfl
set_option maxRecDepth 100000 in
theorem j18 : ((row0.wideKeys == (Tryz.f3.params.toList ++ spec0.plain.varTypes Tryz.prog ++ Tryz.f3.resultTypes.toList).any (Tryz.prog.wideKeysFrom ·))) = true := by kernel_rfl
set_option maxRecDepth 100000 in
theorem j19 : (spec0.vars.all (Tryz.prog.varReadable ·)) = true := by kernel_rfl
set_option maxRecDepth 100000 in
theorem j20 : (Tryz.f3.resultTypes.all (fun t => Tryz.prog.readableRec t && decide (t < Tryz.prog.types.size))) = true := by kernel_rfl
set_option maxRecDepth 100000 in
theorem j21 : ((row0.ifacesOut == Tryz.f3.resultTypes.toList.any (Tryz.prog.ifacesRec ·))) = true := by kernel_rfl
set_option maxRecDepth 100000 in
theorem j22 : ((row0.loopsOut == Tryz.f3.resultTypes.toList.any (Tryz.prog.loopsFrom ·))) = true := by kernel_rfl
set_option maxRecDepth 100000 in
theorem j23 : ((row0.plainKeys == Tryz.prog.plainKeys)) = true := by kernel_rfl
set_option maxRecDepth 100000 in
theorem j24 : (row0.shortTexts.isNone) = true := by kernel_rfl
set_option maxRecDepth 100000 in
theorem j25 : (Tryz.prog.stopsHeard) = true := by kernel_rfl
set_option maxRecDepth 100000 in
theorem j26 : (Tryz.prog.mayEnter) = true := by kernel_rfl
set_option maxRecDepth 100000 in
theorem j27 : ((row0.lifted == Tryz.prog.liftsFinal)) = true := by kernel_rfl
set_option maxRecDepth 100000 in
theorem j28 : ((Tryz.prog.make == some row0.make)) = true := by kernel_rfl
set_option maxRecDepth 100000 in
theorem j29 : ((row0.kinds == (if row0.domain.isEmpty then [] else Tryz.f3.params.toList.map fun t => match Tryz.prog.underlying t with | some (.int k) => some k | _ => none))) = true := by kernel_rfl
set_option maxRecDepth 100000 in
theorem j30 : ((row0.pinned == row0.pinnedBy)) = true := by kernel_rfl
set_option maxRecDepth 100000 in
theorem j31 : ((row0.veiled == (Tryz.f3.params.toList ++ spec0.plain.varTypes Tryz.prog ++ Tryz.f3.resultTypes.toList).any (Tryz.prog.veiledRec ·))) = true := by kernel_rfl
set_option maxRecDepth 100000 in
theorem j32 : (row0.veiledFits Tryz.prog Tryz.f3.params.toList (Tryz.f3.params.toList ++ spec0.plain.varTypes Tryz.prog ++ Tryz.f3.resultTypes.toList)) = true := by kernel_rfl
end Go.Proofs.YthfenjgelbkloaaGreatDoor.consoleLines.Pre
