/-
  DERIVED. GIVEN WITH THE SEED: THE CARDS: each row of YtmoejaloachlkaaGreatDoorRows.lean that lists a variable, with what it lists TIED to the program's text (the seventh form; the later family's looks); each row that meets fmt, with fmt's text TOLD by the authors' own Lean function (tested against real Go, not proved from fmt's source: count such statements apart). THE CARD IS WHAT COUNTS. Prove the row's statement (the work); the ties are given (YtmoejaloachlkaaGreatDoorTie.lean); close each card by the builder's one call (the guide's Derived/Test/ToyasCard.lean, 'card_holds'). Laid BY PROGRAM, IN A SANDBOX (cutbox-door.mjs). By AI agents, Wed Nov 11 2026. No macro, syntax, notation, axiom, sorry.
-/
import Derived.Test.YtmoejaloachlkaaGreatDoorRows
import GoSem.ClaimSeven
namespace Go.Proofs.YtmoejaloachlkaaGreatDoor
namespace Rows

/-- THE TIED CARD OF 'proctorlaw16.QueryNone'. -/
def queryNoneCard : Claim7 := { stood := { row := queryNoneRow, standIns := [], harness := (true, "e5bb563c9dc44a7b32bfd726f1f9f719b282bd945a3b63ad36e0dfa0529ae976"), looks := true }, kinds := [], alts := [], laidByText := true, laidKinds := [.data, .data, .data, .sentinel, .sentinel], laidTests := true, laidLooks := .later }
def QueryNoneCardSaid : Prop := Claim7.holds Tryz.pinned (.plain (OpenSpec.ofChange queryNoneSpec)) queryNoneCard

/-- THE SECOND FORM's CARD OF 'proctorlaw16.QueryNone'. -/
def queryNoneUptoCard : Claim7 := { stood := { row := queryNoneUptoRow, standIns := [], harness := (true, "e5bb563c9dc44a7b32bfd726f1f9f719b282bd945a3b63ad36e0dfa0529ae976"), looks := true }, kinds := [], alts := [], laidByText := true, laidKinds := [.data, .data, .data, .sentinel, .sentinel], laidTests := true, laidLooks := .later }
def QueryNoneUptoCardSaid : Prop := Claim7.holds Tryz.pinned (.plain (OpenSpec.upto queryNoneSpec)) queryNoneUptoCard
end Rows
end Go.Proofs.YtmoejaloachlkaaGreatDoor
