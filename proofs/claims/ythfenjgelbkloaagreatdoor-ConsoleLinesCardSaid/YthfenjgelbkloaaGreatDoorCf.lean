/- The closed facts of the row's witness: the world in which the listed variables are laid. No conditions. -/
import Derived.Test.YthfenjgelbkloaaGreatDoorCy
import Derived.Test.YthfenjgelbkloaaGreatDoorRows
import Derived.WalkKit
import Derived.ProofKit
import Derived.OpenShut
import Derived.Carry
import Derived.Lay
import Derived.ChangeSame
import Derived.LaidMore
import Derived.HandedShaped
import Derived.SevenTiedAt
namespace Go.Proofs.YthfenjgelbkloaaGreatDoor.consoleLines.Wit
open Go
theorem laid_eq : Rows.consoleLinesRow.laid = TieBy.listedAll := by kernel_rfl
set_option maxRecDepth 100000 in
theorem z1 (os : Os) : ((World.laidAll Tryz.prog os Rows.consoleLinesRow.laid).forCall (fun _ _ => 0) ⟨#[], #[], []⟩).variablesZipB Tryz.prog = true := by
  rw [laid_eq, Wit.all_is]
  kernel_rfl
set_option maxRecDepth 100000 in
theorem z2 (os : Os) : (((World.laidAll Tryz.prog os Rows.consoleLinesRow.laid).forCall (fun _ _ => 0) ⟨#[], #[], []⟩).heap.toList.drop Tryz.prog.globals.size).take ((begin Tryz.prog (fun _ _ => 0) default).world.heap.size - Tryz.prog.globals.size) = (begin Tryz.prog (fun _ _ => 0) default).world.heap.toList.drop Tryz.prog.globals.size := by
  rw [laid_eq, Wit.all_is]
  kernel_rfl
set_option maxRecDepth 100000 in
theorem z3 (os : Os) : Input.okWideB Tryz.prog ((World.laidAll Tryz.prog os Rows.consoleLinesRow.laid).forCall (fun _ _ => 0) ⟨#[], #[], []⟩) 3 ⟨#[], #[], []⟩ = true := by
  rw [laid_eq, Wit.all_is]
  kernel_rfl
set_option maxRecDepth 100000 in
theorem z4 {H : Type} (enc : TypeId × Value → H) (os : Os) : Rows.consoleLinesSpec.preB enc Tryz.prog Tryz.f3 [] false ((World.laidAll Tryz.prog os Rows.consoleLinesRow.laid).forCall (fun _ _ => 0) ⟨#[], #[], []⟩).memory #[] 8 = true := by
  rw [laid_eq, Wit.all_is]
  kernel_rfl
set_option maxRecDepth 100000 in
theorem z5 {H : Type} (enc : TypeId × Value → H) (os : Os) : Rows.consoleLinesSpec.sizedB enc Tryz.prog Tryz.f3 false ((World.laidAll Tryz.prog os Rows.consoleLinesRow.laid).forCall (fun _ _ => 0) ⟨#[], #[], []⟩).memory #[] 8 = true := by
  rw [laid_eq, Wit.all_is]
  kernel_rfl
set_option maxRecDepth 100000 in
theorem z6 (os : Os) : (World.holding Tryz.prog os ⟨#[], #[], []⟩).layFits Tryz.prog Rows.consoleLinesRow.laid [] = true := by
  rw [laid_eq]
  exact Wit.fits_of (Wit.size_is os) Wit.laid_as (by kernel_rfl) (by kernel_rfl)
set_option maxRecDepth 100000 in
theorem z7 (os : Os) : (World.holding Tryz.prog os ⟨#[], #[], []⟩).layIfaces Tryz.prog Rows.consoleLinesRow.laid (World.laidAll Tryz.prog os Rows.consoleLinesRow.laid) = true := by
  rw [laid_eq, Wit.all_is]
  exact Wit.ifaces_of (Wit.size_is os) Wit.laid_as (by kernel_rfl) (by kernel_rfl)
set_option maxRecDepth 100000 in
theorem z8 : (Rows.consoleLinesRow.laid.all fun x => x.2.handleName?.isNone) = true := by kernel_rfl
set_option maxRecDepth 100000 in
theorem noInit : Tryz.prog.inits.idxOf? 3 = none := by kernel_rfl
set_option maxRecDepth 100000 in
theorem own : ownKnob Tryz.prog.godebug = none := by kernel_rfl
set_option maxRecDepth 100000 in
theorem z9 : (((begin Tryz.prog (fun _ _ => 0) default).world.heap[7]?).bind Obj.row?).isSome = true := by kernel_rfl
set_option maxRecDepth 100000 in
theorem z10 : decide (7 < Tryz.prog.globals.size) = true := by kernel_rfl
end Go.Proofs.YthfenjgelbkloaaGreatDoor.consoleLines.Wit
