/-
  DERIVED. GIVEN WITH THE SEED: THE CARDS: each row of YthbabhnbiilimaaGreatDoorRows.lean that lists a variable, with what it lists TIED to the program's text (the seventh form; the later family's looks); each row that meets fmt, with fmt's text TOLD by the authors' own Lean function (tested against real Go, not proved from fmt's source: count such statements apart). THE CARD IS WHAT COUNTS. Prove the row's statement (the work); the ties are given (YthbabhnbiilimaaGreatDoorTie.lean); close each card by the builder's one call (the guide's Derived/Test/ToyasCard.lean, 'card_holds'). Laid BY PROGRAM, IN A SANDBOX (cutbox-door.mjs). By AI agents, Wed Nov 11 2026. No macro, syntax, notation, axiom, sorry.
-/
import Derived.Test.YthbabhnbiilimaaGreatDoorRows
import GoSem.ClaimSeven
namespace Go.Proofs.YthbabhnbiilimaaGreatDoor
namespace Rows

/-- THE TIED CARD OF 'proctorlaw15.MatchSame'. -/
def matchSameCard : Claim7 := { stood := { row := matchSameRow, standIns := [], harness := (true, "441548585f941b38f3fe475386eb1d90d63c8249aee364fcb138fc18705e94d4"), looks := true }, kinds := [], alts := [], laidByText := true, laidKinds := [.data, .data, .data, .sentinel, .sentinel], laidTests := true, laidLooks := .later }
def MatchSameCardSaid : Prop := Claim7.holds Tryz.pinned (.plain (OpenSpec.ofChange matchSameSpec)) matchSameCard

/-- THE SECOND FORM's CARD OF 'proctorlaw15.MatchSame'. -/
def matchSameUptoCard : Claim7 := { stood := { row := matchSameUptoRow, standIns := [], harness := (true, "441548585f941b38f3fe475386eb1d90d63c8249aee364fcb138fc18705e94d4"), looks := true }, kinds := [], alts := [], laidByText := true, laidKinds := [.data, .data, .data, .sentinel, .sentinel], laidTests := true, laidLooks := .later }
def MatchSameUptoCardSaid : Prop := Claim7.holds Tryz.pinned (.plain (OpenSpec.upto matchSameSpec)) matchSameUptoCard
end Rows
end Go.Proofs.YthbabhnbiilimaaGreatDoor
