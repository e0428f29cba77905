/- The program's tie: the listed variables are laid once, by the function that lays, and read as listed. It speaks of the program alone. No conditions. -/
import Derived.Test.YthfenjgelbkloaaGreatDoorCv
import Derived.Test.YthfenjgelbkloaaGreatDoorCp
namespace Go.Proofs.YthfenjgelbkloaaGreatDoor
open Go
namespace TieBy
theorem later_of {P : Program} {g : FuncId} {fn : Func} {laid : List (String × DataW Unit)} (hf : P.funcs[g]? = some fn)
    (a1 : fn.body.map (fun c => !c.unfollowedBeside P) = some true) (a2 : fn.body.map (fun c => (c.tempsApart 0).isSome) = some true) (a3 : fn.body.map (fun c => c.regionsFit P []) = some true)
    (a4 : fn.body.map (fun c => ((c.storedByHandle P).isEmpty || ((P.funcNamed "(internal/reflectlite.rtype).Elem").any fun h => (P.funcs[h]?).any fun fn => fn.body.isNone && !entryCalls fn)) && ((c.storedByHandle P).all fun v => P.globalNamed "errors.errorType" == some v)) = some true)
    (a5 : fn.body.map (fun code => match code.laysInOrder [] with
      | some stored => stored.eraseDups.length == stored.length &&
        laid.all fun x => (P.globalNamed x.1).any fun v => (stored.contains v == (P.kindBase x.1 != some .zero)) && callsFit code v (P.kindBase x.1) &&
          ((code.storedByHandle P).contains v == (P.kindBase x.1 == some .handle)) && (x.2.handleName?.isSome == (P.kindBase x.1 == some .handle || P.kindBase x.1 == some .funcs)) &&
          (P.kindBase x.1 != some .handle || handlePair x) && (x.2.funcsIn?.isSome == (P.kindBase x.1 == some .funcs)) && mapsFit code v x.2 (P.kindBase x.1)
      | none => false) = some true) : varsNamedLaterB P g laid = true := by
  unfold varsNamedLaterB Program.callsLaidAlone
  rw [hf]
  cases hb : fn.body with
  | none => rw [hb] at a1; cases a1
  | some c =>
    rw [hb] at a1 a2 a3 a4 a5
    simp only [Option.map_some, Option.some.injEq] at a1 a2 a3 a4 a5
    simp only [Option.bind_some, hb]
    cases hs : c.laysInOrder [] with
    | none => simp only [hs] at a5; cases a5
    | some st =>
      simp only [hs] at a5 ⊢
      rw [Bool.and_eq_true] at a4 a5
      simp only [a1, a2, a3, a4.1, a4.2, a5.1, a5.2, Bool.and_self]

theorem t1 : Tryz.prog.worded (varsWordLater true) = true := by kernel_rfl
theorem t2 : Tryz.prog.worded (varsWordLater !true) = false := by kernel_rfl
theorem t3 : Tryz.prog.worded rootWordLater = true := by kernel_rfl
theorem t5 : (Tryz.prog.funcNamed "gosem.cut.vars").isSome = true := by
  rw [vfound]
  rfl
theorem u1 : Tryz.f911.body.map (fun c => !c.unfollowedBeside Tryz.prog) = some true := by kernel_rfl
theorem u2 : Tryz.f911.body.map (fun c => (c.tempsApart 0).isSome) = some true := by kernel_rfl
theorem u3 : Tryz.f911.body.map (fun c => c.regionsFit Tryz.prog []) = some true := by kernel_rfl
theorem u4 : Tryz.f911.body.map (fun c => ((c.storedByHandle Tryz.prog).isEmpty || ((Tryz.prog.funcNamed "(internal/reflectlite.rtype).Elem").any fun h => (Tryz.prog.funcs[h]?).any fun fn => fn.body.isNone && !entryCalls fn)) && ((c.storedByHandle Tryz.prog).all fun v => Tryz.prog.globalNamed "errors.errorType" == some v)) = some true := by kernel_rfl
theorem u5 : Tryz.f911.body.map (fun code => match code.laysInOrder [] with
      | some stored => stored.eraseDups.length == stored.length &&
        listed.all fun x => (Tryz.prog.globalNamed x.1).any fun v => (stored.contains v == (Tryz.prog.kindBase x.1 != some .zero)) && callsFit code v (Tryz.prog.kindBase x.1) &&
          ((code.storedByHandle Tryz.prog).contains v == (Tryz.prog.kindBase x.1 == some .handle)) && (x.2.handleName?.isSome == (Tryz.prog.kindBase x.1 == some .handle || Tryz.prog.kindBase x.1 == some .funcs)) &&
          (Tryz.prog.kindBase x.1 != some .handle || handlePair x) && (x.2.funcsIn?.isSome == (Tryz.prog.kindBase x.1 == some .funcs)) && mapsFit code v x.2 (Tryz.prog.kindBase x.1)
      | none => false) = some true := by kernel_rfl
theorem t6 : varsNamedLaterB Tryz.prog (varsId Tryz.prog) listed = true := by
  rw [vid]
  exact later_of Tryz.func911 u1 u2 u3 u4 u5
theorem t7 : ∀ os tape, varsDone Tryz.prog 400 (varsId Tryz.prog) os tape = true := fun os tape => by
  rw [vid]
  kernel_rfl
theorem t8 : ∀ os tape, ((DataW.laidRun Tryz.prog (varsWorld Tryz.prog 400 (varsId Tryz.prog) os tape).memory 8 (listed.map (·.1)))).map (·.1) = some listed := fun os tape => by
  rw [vid]
  kernel_rfl
theorem t8p : ∀ os tape, (DataW.laidRun Tryz.prog (varsWorld Tryz.prog 400 (varsId Tryz.prog) os tape).memory 8 (listed.map (·.1))).map (·.2) = some places := fun os tape => by
  rw [vid]
  kernel_rfl
theorem own1 : ∀ os tape, laidRowsB Tryz.prog (varsWorld Tryz.prog 400 (varsId Tryz.prog) os tape).memory p1 = true := fun os tape => by
  rw [vid]
  kernel_rfl
theorem own2 : ∀ os tape, laidRowsB Tryz.prog (varsWorld Tryz.prog 400 (varsId Tryz.prog) os tape).memory p2 = true := fun os tape => by
  rw [vid]
  kernel_rfl
theorem own3 : ∀ os tape, laidRowsB Tryz.prog (varsWorld Tryz.prog 400 (varsId Tryz.prog) os tape).memory p3 = true := fun os tape => by
  rw [vid]
  kernel_rfl
theorem own4 : ∀ os tape, laidRowsB Tryz.prog (varsWorld Tryz.prog 400 (varsId Tryz.prog) os tape).memory p4 = true := fun os tape => by
  rw [vid]
  kernel_rfl
theorem own5 : ∀ os tape, laidRowsB Tryz.prog (varsWorld Tryz.prog 400 (varsId Tryz.prog) os tape).memory p5 = true := fun os tape => by
  rw [vid]
  kernel_rfl
theorem fits : Tryz.prog.funcsFit listed = true := by kernel_rfl
theorem t9 : ∀ os tape, (DataW.laidRun Tryz.prog (varsWorld Tryz.prog 400 (varsId Tryz.prog) os tape).memory 8 (listed.map (·.1))).map (fun x => decide x.2.Nodup && laidRowsB Tryz.prog (varsWorld Tryz.prog 400 (varsId Tryz.prog) os tape).memory x.2) = some true := fun os tape => nineP (t8p os tape) (rows_append (own1 os tape) (rows_append (own2 os tape) (rows_append (own3 os tape) (rows_append (own4 os tape) (own5 os tape)))))
theorem tie : Tryz.prog.laidByTextLater listed [.data, .data, .data, .data, .sentinel, .sentinel] true := Program.laidByTextLater_by_run 400 8 t1 t2 t3 t4 t5 t6 t7 t8 t9 t10
end TieBy
end Go.Proofs.YthfenjgelbkloaaGreatDoor
