/-
  No cell of these rows narrows 'for every input' (looked for: loops, veiled, ifaces, maps, wideKeys, modest, calm, conditions, laid).
  DERIVED. THE GIVEN ROWS OF THIS SEAT. 4 by the template 'for every input the law returns true; each argument reads behind the call as it read before'; 0 by the template 'total and deterministic' (their statements: YtgpekeemmambkaaTotals.lean).
  GIVEN WITH THE SEED: the statements are not yours to turn. If you find one false, say at which input.
  Laid BY PROGRAM, IN A SANDBOX (cutbox-rows.mjs): the forced cells as the released guide's own fill.sh prints them over the translation 3792fb89d286622b… (all of the seat's roots in one cut). By AI agents, Wed Nov 11 2026. No macro, syntax, notation, axiom, sorry.
-/
import Derived.Test.YtgpekeemmambkaaChecked
import GoSem.Claim
import GoSem.ClaimJoined
import GoSem.ClaimMapViews
import Derived.JoinedTies
import Derived.KernelRfl
namespace Go.Proofs.Ytgpekeemmambkaa
/- THE CELL 'sum', in the pinned program and in every row, IS THE sha256 OF THE DUMP (.gsa) THAT YtgpekeemmambkaaProg.lean LOADS. Nothing in Lean hashes anything: it is a label: what it is worth is what the hold of that sum in a sandbox is worth. -/
noncomputable def Try.pinned : Pinned := { name := "ytgpekeemmambkaa", sum := "3792fb89d286622b036b9f048285795ae50ae937d086123121d8a591eefc9098", checked := Try.checked }
namespace Rows
def none {H : Type} : Left H := { results := [], args := [] }

/-- 'proctorlaw13.IndexExact': WHATEVER THE INPUT: true; the input reads as it did. -/
def indexExactSpec : ChangeSpec := { name := "indexExact", fn := fun _ => fun
  | [d] => { results := [.lit (.bool true)], args := [d] }
  | _ => none }
def indexExactRow : OpenClaim := { program := "ytgpekeemmambkaa", sum := "3792fb89d286622b036b9f048285795ae50ae937d086123121d8a591eefc9098", func := "proctor/proctorlaw13.IndexExact", spec := "indexExact", plainKeys := false, apart := false }
def IndexExactSaid : Prop := indexExactRow.holds Try.pinned (OpenSpec.ofChange indexExactSpec)

/-- ITS FALSE NEIGHBOUR: 'it returns false'. Refute it at one input. -/
def indexExactWrong : ChangeSpec := { name := "indexExact", fn := fun _ => fun
  | [d] => { results := [.lit (.bool false)], args := [d] }
  | _ => none }
def IndexExactWrongFalsely : Prop := indexExactRow.holds Try.pinned (OpenSpec.ofChange indexExactWrong)

/-- 'proctorlaw13.IndexSums': WHATEVER THE INPUT: true; the input reads as it did. -/
def indexSumsSpec : ChangeSpec := { name := "indexSums", fn := fun _ => fun
  | [d] => { results := [.lit (.bool true)], args := [d] }
  | _ => none }
def indexSumsRow : OpenClaim := { program := "ytgpekeemmambkaa", sum := "3792fb89d286622b036b9f048285795ae50ae937d086123121d8a591eefc9098", func := "proctor/proctorlaw13.IndexSums", spec := "indexSums", plainKeys := false, apart := false }
def IndexSumsSaid : Prop := indexSumsRow.holds Try.pinned (OpenSpec.ofChange indexSumsSpec)

/-- ITS FALSE NEIGHBOUR: 'it returns false'. Refute it at one input. -/
def indexSumsWrong : ChangeSpec := { name := "indexSums", fn := fun _ => fun
  | [d] => { results := [.lit (.bool false)], args := [d] }
  | _ => none }
def IndexSumsWrongFalsely : Prop := indexSumsRow.holds Try.pinned (OpenSpec.ofChange indexSumsWrong)

/-- 'proctorlaw13.IndexMoves': WHATEVER THE INPUT: true; the input reads as it did. -/
def indexMovesSpec : ChangeSpec := { name := "indexMoves", fn := fun _ => fun
  | [d] => { results := [.lit (.bool true)], args := [d] }
  | _ => none }
def indexMovesRow : OpenClaim := { program := "ytgpekeemmambkaa", sum := "3792fb89d286622b036b9f048285795ae50ae937d086123121d8a591eefc9098", func := "proctor/proctorlaw13.IndexMoves", spec := "indexMoves", plainKeys := false, apart := false }
def IndexMovesSaid : Prop := indexMovesRow.holds Try.pinned (OpenSpec.ofChange indexMovesSpec)

/-- ITS FALSE NEIGHBOUR: 'it returns false'. Refute it at one input. -/
def indexMovesWrong : ChangeSpec := { name := "indexMoves", fn := fun _ => fun
  | [d] => { results := [.lit (.bool false)], args := [d] }
  | _ => none }
def IndexMovesWrongFalsely : Prop := indexMovesRow.holds Try.pinned (OpenSpec.ofChange indexMovesWrong)

/-- 'proctorlaw13.IndexMany': WHATEVER THE INPUT: true; the input reads as it did. -/
def indexManySpec : ChangeSpec := { name := "indexMany", fn := fun _ => fun
  | [] => { results := [.lit (.bool true)], args := [] }
  | _ => none }
def indexManyRow : OpenClaim := { program := "ytgpekeemmambkaa", sum := "3792fb89d286622b036b9f048285795ae50ae937d086123121d8a591eefc9098", func := "proctor/proctorlaw13.IndexMany", spec := "indexMany", plainKeys := false, apart := false }
def IndexManySaid : Prop := indexManyRow.holds Try.pinned (OpenSpec.ofChange indexManySpec)

/-- ITS FALSE NEIGHBOUR: 'it returns false'. Refute it at one input. -/
def indexManyWrong : ChangeSpec := { name := "indexMany", fn := fun _ => fun
  | [] => { results := [.lit (.bool false)], args := [] }
  | _ => none }
def IndexManyWrongFalsely : Prop := indexManyRow.holds Try.pinned (OpenSpec.ofChange indexManyWrong)

/- THE SECOND FORM. 'bulk': how many values and letters a reading holds, each counted each time it is reached (what is shared counts as often as it is met; a slice's spare places count too). A statement '..UptoSaid' is the law's where the arguments, and the package variables that the reading takes, are together of bulk at most 1048576: NARROWER than '..Said'. Prove '..Said' where nothing that the law and all that it calls make is longer than what came in: it says more and counts as full. Else prove '..UptoSaid'. A law counts once. -/
mutual
def uptoBulk {H : Type} : DataW H → Nat
  | .lit (.string bytes) => bytes.length + 1
  | .lit _ => 1
  | .nil => 1
  | .ptr d => uptoBulk d + 1
  | .slice elems spare => uptoBulkAll elems + uptoBulkAll spare + 1
  | .agg parts => uptoBulkAll parts + 1
  | .iface _ d => uptoBulk d + 1
  | .map entries => uptoBulkEntries entries + 1
  | .held _ => 1
def uptoBulkAll {H : Type} : List (DataW H) → Nat
  | [] => 0
  | d :: r => uptoBulk d + uptoBulkAll r
def uptoBulkEntries {H : Type} : List (Lit × DataW H) → Nat
  | [] => 0
  | x :: r => uptoBulkEntry x + uptoBulkEntries r
def uptoBulkEntry {H : Type} : Lit × DataW H → Nat
  | (.string bytes, d) => bytes.length + uptoBulk d + 1
  | (_, d) => uptoBulk d + 1
 end
def uptoSmall : (H : Type) → List (DataW H) → Bool := fun _ ds => decide (uptoBulkAll ds ≤ 1048576)
def OpenSpec.upto (s : _root_.Go.ChangeSpec) : _root_.Go.OpenSpec := { _root_.Go.OpenSpec.ofChange s with cond := some uptoSmall }

/-- 'proctorlaw13.IndexExact', WHERE WHAT IT READS IS OF BULK AT MOST 1048576: true; the input reads as it did. -/
def indexExactUptoRow : OpenClaim := { program := "ytgpekeemmambkaa", sum := "3792fb89d286622b036b9f048285795ae50ae937d086123121d8a591eefc9098", func := "proctor/proctorlaw13.IndexExact", spec := "indexExact", plainKeys := false, apart := false, narrowed := true }
def IndexExactUptoSaid : Prop := indexExactUptoRow.holds Try.pinned (OpenSpec.upto indexExactSpec)

/-- 'proctorlaw13.IndexSums', WHERE WHAT IT READS IS OF BULK AT MOST 1048576: true; the input reads as it did. -/
def indexSumsUptoRow : OpenClaim := { program := "ytgpekeemmambkaa", sum := "3792fb89d286622b036b9f048285795ae50ae937d086123121d8a591eefc9098", func := "proctor/proctorlaw13.IndexSums", spec := "indexSums", plainKeys := false, apart := false, narrowed := true }
def IndexSumsUptoSaid : Prop := indexSumsUptoRow.holds Try.pinned (OpenSpec.upto indexSumsSpec)

/-- 'proctorlaw13.IndexMoves', WHERE WHAT IT READS IS OF BULK AT MOST 1048576: true; the input reads as it did. -/
def indexMovesUptoRow : OpenClaim := { program := "ytgpekeemmambkaa", sum := "3792fb89d286622b036b9f048285795ae50ae937d086123121d8a591eefc9098", func := "proctor/proctorlaw13.IndexMoves", spec := "indexMoves", plainKeys := false, apart := false, narrowed := true }
def IndexMovesUptoSaid : Prop := indexMovesUptoRow.holds Try.pinned (OpenSpec.upto indexMovesSpec)

/-- 'proctorlaw13.IndexMany', WHERE WHAT IT READS IS OF BULK AT MOST 1048576: true; the input reads as it did. -/
def indexManyUptoRow : OpenClaim := { program := "ytgpekeemmambkaa", sum := "3792fb89d286622b036b9f048285795ae50ae937d086123121d8a591eefc9098", func := "proctor/proctorlaw13.IndexMany", spec := "indexMany", plainKeys := false, apart := false, narrowed := true }
def IndexManyUptoSaid : Prop := indexManyUptoRow.holds Try.pinned (OpenSpec.upto indexManySpec)

end Rows
end Go.Proofs.Ytgpekeemmambkaa
