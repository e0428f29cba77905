/-
  No cell of these rows narrows 'for every input' (looked for: loops, veiled, ifaces, maps, wideKeys, modest, calm, conditions, laid).
  DERIVED. THE GIVEN ROWS OF THIS SEAT. 5 by the template 'for every input the law returns true; each argument reads behind the call as it read before'; 0 by the template 'total and deterministic' (their statements: YtkaldclkpdjalaaTotals.lean).
  GIVEN WITH THE SEED: the statements are not yours to turn. If you find one false, say at which input.
  Laid BY PROGRAM, IN A SANDBOX (cutbox-rows.mjs): the forced cells as the released guide's own fill.sh prints them over the translation a8d672e66a00f6d3… (all of the seat's roots in one cut). By AI agents, Wed Nov 11 2026. No macro, syntax, notation, axiom, sorry.
-/
import Derived.Test.YtkaldclkpdjalaaChecked
import GoSem.Claim
import GoSem.ClaimJoined
import GoSem.ClaimMapViews
import Derived.JoinedTies
import Derived.KernelRfl
namespace Go.Proofs.Ytkaldclkpdjalaa
/- THE CELL 'sum', in the pinned program and in every row, IS THE sha256 OF THE DUMP (.gsa) THAT YtkaldclkpdjalaaProg.lean LOADS. Nothing in Lean hashes anything: it is a label: what it is worth is what the hold of that sum in a sandbox is worth. -/
noncomputable def Try.pinned : Pinned := { name := "ytkaldclkpdjalaa", sum := "a8d672e66a00f6d3e372b7df4298a39d2b73815b74de458d02eef5a02c114fec", checked := Try.checked }
namespace Rows
def none {H : Type} : Left H := { results := [], args := [] }

/-- 'proctorlaw12.TupleTypes': WHATEVER THE INPUT: true; the input reads as it did. -/
def tupleTypesSpec : ChangeSpec := { name := "tupleTypes", fn := fun _ => fun
  | [d] => { results := [.lit (.bool true)], args := [d] }
  | _ => none }
def tupleTypesRow : OpenClaim := { program := "ytkaldclkpdjalaa", sum := "a8d672e66a00f6d3e372b7df4298a39d2b73815b74de458d02eef5a02c114fec", func := "proctor/proctorlaw12.TupleTypes", spec := "tupleTypes", apart := false }
def TupleTypesSaid : Prop := tupleTypesRow.holds Try.pinned (OpenSpec.ofChange tupleTypesSpec)

/-- ITS FALSE NEIGHBOUR: 'it returns false'. Refute it at one input. -/
def tupleTypesWrong : ChangeSpec := { name := "tupleTypes", fn := fun _ => fun
  | [d] => { results := [.lit (.bool false)], args := [d] }
  | _ => none }
def TupleTypesWrongFalsely : Prop := tupleTypesRow.holds Try.pinned (OpenSpec.ofChange tupleTypesWrong)

/-- 'proctorlaw12.TupleSets': WHATEVER THE INPUT: true; the input reads as it did. -/
def tupleSetsSpec : ChangeSpec := { name := "tupleSets", fn := fun _ => fun
  | [d] => { results := [.lit (.bool true)], args := [d] }
  | _ => none }
def tupleSetsRow : OpenClaim := { program := "ytkaldclkpdjalaa", sum := "a8d672e66a00f6d3e372b7df4298a39d2b73815b74de458d02eef5a02c114fec", func := "proctor/proctorlaw12.TupleSets", spec := "tupleSets", apart := false }
def TupleSetsSaid : Prop := tupleSetsRow.holds Try.pinned (OpenSpec.ofChange tupleSetsSpec)

/-- ITS FALSE NEIGHBOUR: 'it returns false'. Refute it at one input. -/
def tupleSetsWrong : ChangeSpec := { name := "tupleSets", fn := fun _ => fun
  | [d] => { results := [.lit (.bool false)], args := [d] }
  | _ => none }
def TupleSetsWrongFalsely : Prop := tupleSetsRow.holds Try.pinned (OpenSpec.ofChange tupleSetsWrong)

/-- 'proctorlaw12.TupleEach': WHATEVER THE INPUT: true; the input reads as it did. -/
def tupleEachSpec : ChangeSpec := { name := "tupleEach", fn := fun _ => fun
  | [d] => { results := [.lit (.bool true)], args := [d] }
  | _ => none }
def tupleEachRow : OpenClaim := { program := "ytkaldclkpdjalaa", sum := "a8d672e66a00f6d3e372b7df4298a39d2b73815b74de458d02eef5a02c114fec", func := "proctor/proctorlaw12.TupleEach", spec := "tupleEach", unfollowed := true, recurses := true, apart := false }
def TupleEachSaid : Prop := tupleEachRow.holds Try.pinned (OpenSpec.ofChange tupleEachSpec)

/-- ITS FALSE NEIGHBOUR: 'it returns false'. Refute it at one input. -/
def tupleEachWrong : ChangeSpec := { name := "tupleEach", fn := fun _ => fun
  | [d] => { results := [.lit (.bool false)], args := [d] }
  | _ => none }
def TupleEachWrongFalsely : Prop := tupleEachRow.holds Try.pinned (OpenSpec.ofChange tupleEachWrong)

/-- 'proctorlaw12.TupleMany': WHATEVER THE INPUT: true; the input reads as it did. -/
def tupleManySpec : ChangeSpec := { name := "tupleMany", fn := fun _ => fun
  | [] => { results := [.lit (.bool true)], args := [] }
  | _ => none }
def tupleManyRow : OpenClaim := { program := "ytkaldclkpdjalaa", sum := "a8d672e66a00f6d3e372b7df4298a39d2b73815b74de458d02eef5a02c114fec", func := "proctor/proctorlaw12.TupleMany", spec := "tupleMany", unfollowed := true, recurses := true, apart := false }
def TupleManySaid : Prop := tupleManyRow.holds Try.pinned (OpenSpec.ofChange tupleManySpec)

/-- ITS FALSE NEIGHBOUR: 'it returns false'. Refute it at one input. -/
def tupleManyWrong : ChangeSpec := { name := "tupleMany", fn := fun _ => fun
  | [] => { results := [.lit (.bool false)], args := [] }
  | _ => none }
def TupleManyWrongFalsely : Prop := tupleManyRow.holds Try.pinned (OpenSpec.ofChange tupleManyWrong)

/-- 'proctorlaw12.TupleExact': WHATEVER THE INPUT: true; the input reads as it did. -/
def tupleExactSpec : ChangeSpec := { name := "tupleExact", fn := fun _ => fun
  | [d] => { results := [.lit (.bool true)], args := [d] }
  | _ => none }
def tupleExactRow : OpenClaim := { program := "ytkaldclkpdjalaa", sum := "a8d672e66a00f6d3e372b7df4298a39d2b73815b74de458d02eef5a02c114fec", func := "proctor/proctorlaw12.TupleExact", spec := "tupleExact", unfollowed := true, recurses := true, apart := false }
def TupleExactSaid : Prop := tupleExactRow.holds Try.pinned (OpenSpec.ofChange tupleExactSpec)

/-- ITS FALSE NEIGHBOUR: 'it returns false'. Refute it at one input. -/
def tupleExactWrong : ChangeSpec := { name := "tupleExact", fn := fun _ => fun
  | [d] => { results := [.lit (.bool false)], args := [d] }
  | _ => none }
def TupleExactWrongFalsely : Prop := tupleExactRow.holds Try.pinned (OpenSpec.ofChange tupleExactWrong)

/- THE SECOND FORM. 'bulk': how many values and letters a reading holds, each counted each time it is reached (what is shared counts as often as it is met; a slice's spare places count too). A statement '..UptoSaid' is the law's where the arguments, and the package variables that the reading takes, are together of bulk at most 1048576: NARROWER than '..Said'. Prove '..Said' where nothing that the law and all that it calls make is longer than what came in: it says more and counts as full. Else prove '..UptoSaid'. A law counts once. -/
mutual
def uptoBulk {H : Type} : DataW H → Nat
  | .lit (.string bytes) => bytes.length + 1
  | .lit _ => 1
  | .nil => 1
  | .ptr d => uptoBulk d + 1
  | .slice elems spare => uptoBulkAll elems + uptoBulkAll spare + 1
  | .agg parts => uptoBulkAll parts + 1
  | .iface _ d => uptoBulk d + 1
  | .map entries => uptoBulkEntries entries + 1
  | .held _ => 1
def uptoBulkAll {H : Type} : List (DataW H) → Nat
  | [] => 0
  | d :: r => uptoBulk d + uptoBulkAll r
def uptoBulkEntries {H : Type} : List (Lit × DataW H) → Nat
  | [] => 0
  | x :: r => uptoBulkEntry x + uptoBulkEntries r
def uptoBulkEntry {H : Type} : Lit × DataW H → Nat
  | (.string bytes, d) => bytes.length + uptoBulk d + 1
  | (_, d) => uptoBulk d + 1
 end
def uptoSmall : (H : Type) → List (DataW H) → Bool := fun _ ds => decide (uptoBulkAll ds ≤ 1048576)
def OpenSpec.upto (s : _root_.Go.ChangeSpec) : _root_.Go.OpenSpec := { _root_.Go.OpenSpec.ofChange s with cond := some uptoSmall }

/-- 'proctorlaw12.TupleTypes', WHERE WHAT IT READS IS OF BULK AT MOST 1048576: true; the input reads as it did. -/
def tupleTypesUptoRow : OpenClaim := { program := "ytkaldclkpdjalaa", sum := "a8d672e66a00f6d3e372b7df4298a39d2b73815b74de458d02eef5a02c114fec", func := "proctor/proctorlaw12.TupleTypes", spec := "tupleTypes", apart := false, narrowed := true }
def TupleTypesUptoSaid : Prop := tupleTypesUptoRow.holds Try.pinned (OpenSpec.upto tupleTypesSpec)

/-- 'proctorlaw12.TupleSets', WHERE WHAT IT READS IS OF BULK AT MOST 1048576: true; the input reads as it did. -/
def tupleSetsUptoRow : OpenClaim := { program := "ytkaldclkpdjalaa", sum := "a8d672e66a00f6d3e372b7df4298a39d2b73815b74de458d02eef5a02c114fec", func := "proctor/proctorlaw12.TupleSets", spec := "tupleSets", apart := false, narrowed := true }
def TupleSetsUptoSaid : Prop := tupleSetsUptoRow.holds Try.pinned (OpenSpec.upto tupleSetsSpec)

/-- 'proctorlaw12.TupleEach', WHERE WHAT IT READS IS OF BULK AT MOST 1048576: true; the input reads as it did. -/
def tupleEachUptoRow : OpenClaim := { program := "ytkaldclkpdjalaa", sum := "a8d672e66a00f6d3e372b7df4298a39d2b73815b74de458d02eef5a02c114fec", func := "proctor/proctorlaw12.TupleEach", spec := "tupleEach", unfollowed := true, recurses := true, apart := false, narrowed := true }
def TupleEachUptoSaid : Prop := tupleEachUptoRow.holds Try.pinned (OpenSpec.upto tupleEachSpec)

/-- 'proctorlaw12.TupleMany', WHERE WHAT IT READS IS OF BULK AT MOST 1048576: true; the input reads as it did. -/
def tupleManyUptoRow : OpenClaim := { program := "ytkaldclkpdjalaa", sum := "a8d672e66a00f6d3e372b7df4298a39d2b73815b74de458d02eef5a02c114fec", func := "proctor/proctorlaw12.TupleMany", spec := "tupleMany", unfollowed := true, recurses := true, apart := false, narrowed := true }
def TupleManyUptoSaid : Prop := tupleManyUptoRow.holds Try.pinned (OpenSpec.upto tupleManySpec)

/-- 'proctorlaw12.TupleExact', WHERE WHAT IT READS IS OF BULK AT MOST 1048576: true; the input reads as it did. -/
def tupleExactUptoRow : OpenClaim := { program := "ytkaldclkpdjalaa", sum := "a8d672e66a00f6d3e372b7df4298a39d2b73815b74de458d02eef5a02c114fec", func := "proctor/proctorlaw12.TupleExact", spec := "tupleExact", unfollowed := true, recurses := true, apart := false, narrowed := true }
def TupleExactUptoSaid : Prop := tupleExactUptoRow.holds Try.pinned (OpenSpec.upto tupleExactSpec)

end Rows
end Go.Proofs.Ytkaldclkpdjalaa
