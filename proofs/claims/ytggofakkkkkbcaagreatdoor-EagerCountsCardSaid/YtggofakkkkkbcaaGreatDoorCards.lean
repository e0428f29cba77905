/-
  DERIVED. GIVEN WITH THE SEED: THE CARDS: each row of YtggofakkkkkbcaaGreatDoorRows.lean that lists a variable, with what it lists TIED to the program's text (the seventh form; the later family's looks); each row that meets fmt, with fmt's text TOLD by the authors' own Lean function (tested against real Go, not proved from fmt's source: count such statements apart). THE CARD IS WHAT COUNTS. Prove the row's statement (the work); the ties are given (YtggofakkkkkbcaaGreatDoorTie.lean); close each card by the builder's one call (the guide's Derived/Test/ToyasCard.lean, 'card_holds'). Laid BY PROGRAM, IN A SANDBOX (cutbox-door.mjs). By AI agents, Wed Nov 11 2026. No macro, syntax, notation, axiom, sorry.
-/
import Derived.Test.YtggofakkkkkbcaaGreatDoorRows
import GoSem.ClaimSeven
namespace Go.Proofs.YtggofakkkkkbcaaGreatDoor
namespace Rows

/-- THE TIED CARD OF 'proctorlaw22.EagerCounts'. -/
def eagerCountsCard : Claim7 := { stood := { row := eagerCountsRow, standIns := [], harness := (true, "37748f85e28bad1541e2f427766be94cad19d3f0ae689cfa919dc5ad86a4a6a6"), looks := true }, kinds := [], alts := [], laidByText := true, laidKinds := [.sentinel, .sentinel, .data, .data, .data], laidTests := true, laidLooks := .later }
def EagerCountsCardSaid : Prop := Claim7.holds Tryz.pinned (.plain (OpenSpec.ofChange eagerCountsSpec)) eagerCountsCard

/-- THE TIED CARD OF 'proctorlaw22.EagerGroups'. -/
def eagerGroupsCard : Claim7 := { stood := { row := eagerGroupsRow, standIns := [], harness := (true, "37748f85e28bad1541e2f427766be94cad19d3f0ae689cfa919dc5ad86a4a6a6"), looks := true }, kinds := [], alts := [], laidByText := true, laidKinds := [.sentinel, .sentinel, .data, .data, .data], laidTests := true, laidLooks := .later }
def EagerGroupsCardSaid : Prop := Claim7.holds Tryz.pinned (.plain (OpenSpec.ofChange eagerGroupsSpec)) eagerGroupsCard

/-- THE TIED CARD OF 'proctorlaw22.EagerStops'. -/
def eagerStopsCard : Claim7 := { stood := { row := eagerStopsRow, standIns := [], harness := (true, "37748f85e28bad1541e2f427766be94cad19d3f0ae689cfa919dc5ad86a4a6a6"), looks := true }, kinds := [], alts := [], laidByText := true, laidKinds := [.sentinel, .sentinel, .data, .data, .data], laidTests := true, laidLooks := .later }
def EagerStopsCardSaid : Prop := Claim7.holds Tryz.pinned (.plain (OpenSpec.ofChange eagerStopsSpec)) eagerStopsCard

/-- THE TIED CARD OF 'proctorlaw22.EagerCascade'. -/
def eagerCascadeCard : Claim7 := { stood := { row := eagerCascadeRow, standIns := [], harness := (true, "37748f85e28bad1541e2f427766be94cad19d3f0ae689cfa919dc5ad86a4a6a6"), looks := true }, kinds := [], alts := [], laidByText := true, laidKinds := [.sentinel, .sentinel, .data, .data, .data], laidTests := true, laidLooks := .later }
def EagerCascadeCardSaid : Prop := Claim7.holds Tryz.pinned (.plain (OpenSpec.ofChange eagerCascadeSpec)) eagerCascadeCard

/-- THE SECOND FORM's CARD OF 'proctorlaw22.EagerCounts'. -/
def eagerCountsUptoCard : Claim7 := { stood := { row := eagerCountsUptoRow, standIns := [], harness := (true, "37748f85e28bad1541e2f427766be94cad19d3f0ae689cfa919dc5ad86a4a6a6"), looks := true }, kinds := [], alts := [], laidByText := true, laidKinds := [.sentinel, .sentinel, .data, .data, .data], laidTests := true, laidLooks := .later }
def EagerCountsUptoCardSaid : Prop := Claim7.holds Tryz.pinned (.plain (OpenSpec.upto eagerCountsSpec)) eagerCountsUptoCard

/-- THE SECOND FORM's CARD OF 'proctorlaw22.EagerGroups'. -/
def eagerGroupsUptoCard : Claim7 := { stood := { row := eagerGroupsUptoRow, standIns := [], harness := (true, "37748f85e28bad1541e2f427766be94cad19d3f0ae689cfa919dc5ad86a4a6a6"), looks := true }, kinds := [], alts := [], laidByText := true, laidKinds := [.sentinel, .sentinel, .data, .data, .data], laidTests := true, laidLooks := .later }
def EagerGroupsUptoCardSaid : Prop := Claim7.holds Tryz.pinned (.plain (OpenSpec.upto eagerGroupsSpec)) eagerGroupsUptoCard

/-- THE SECOND FORM's CARD OF 'proctorlaw22.EagerStops'. -/
def eagerStopsUptoCard : Claim7 := { stood := { row := eagerStopsUptoRow, standIns := [], harness := (true, "37748f85e28bad1541e2f427766be94cad19d3f0ae689cfa919dc5ad86a4a6a6"), looks := true }, kinds := [], alts := [], laidByText := true, laidKinds := [.sentinel, .sentinel, .data, .data, .data], laidTests := true, laidLooks := .later }
def EagerStopsUptoCardSaid : Prop := Claim7.holds Tryz.pinned (.plain (OpenSpec.upto eagerStopsSpec)) eagerStopsUptoCard

/-- THE SECOND FORM's CARD OF 'proctorlaw22.EagerCascade'. -/
def eagerCascadeUptoCard : Claim7 := { stood := { row := eagerCascadeUptoRow, standIns := [], harness := (true, "37748f85e28bad1541e2f427766be94cad19d3f0ae689cfa919dc5ad86a4a6a6"), looks := true }, kinds := [], alts := [], laidByText := true, laidKinds := [.sentinel, .sentinel, .data, .data, .data], laidTests := true, laidLooks := .later }
def EagerCascadeUptoCardSaid : Prop := Claim7.holds Tryz.pinned (.plain (OpenSpec.upto eagerCascadeSpec)) eagerCascadeUptoCard
end Rows
end Go.Proofs.YtggofakkkkkbcaaGreatDoor
