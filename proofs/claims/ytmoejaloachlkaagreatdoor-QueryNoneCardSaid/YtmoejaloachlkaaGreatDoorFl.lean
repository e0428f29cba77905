/- The evaluator's soundness, 17: operations by their classes. -/
import Derived.Test.YtmoejaloachlkaaGreatDoorFk
namespace Go.Proofs.YtmoejaloachlkaaGreatDoor.Ev
open Go Go.RowKit

section
variable {P : Program} {r : T AV}
theorem Pure.matchV (x : Option AV) (w : String) : Pure (fun h => match x with | some v => OR.val v h | none => .bad w) := by
  cases x with
  | none => exact Pure.bad fun _ => _
  | some v => exact Pure.val v
theorem cls0 {o : Oper} (hc : cls P o.op = 0) : Pure (fun h => opA P r o h) := by
  have hA : ∀ op', o.op = op' → (fun h => opA P r o h) = fun h => opA P r { o with op := op' } h := fun op' e => by subst e; rfl
  cases ho : o.op <;> rw [ho] at hc <;> rw [hA _ ho]
  case move x => exact Pure.orV _
  case assign x => exact Pure.orV _
  case pick c a b =>
    refine Pure.oo fun c' _ => ?_
    cases c' with
    | bool b' => exact Pure.orV _
    | _ => exact Pure.bad fun _ => _
  case build t ps =>
    show Pure fun h => opBuild t ps P r h
    unfold opBuild
    generalize partsA r ps.toList = x
    cases x with
    | none => exact Pure.bad fun _ => _
    | some l => exact Pure.matchV _ _
  case nilCheck x =>
    refine Pure.oo fun c' _ => ?_
    cases c' with
    | ptr b o => exact Pure.val _
    | fn f a c => exact Pure.val _
    | _ => exact Pure.bad fun _ => _
  case unOp op t x =>
    refine Pure.oo fun a _ => ?_
    cases op with
    | neg =>
      show Pure fun h => uNeg a h
      cases a with
      | int k n => exact Pure.wrapI _ _
      | _ => exact Pure.bad fun _ => _
    | not =>
      show Pure fun h => uNot a h
      cases a with
      | bool b => exact Pure.val _
      | _ => exact Pure.bad fun _ => _
    | _ => exact Pure.bad fun _ => _
  case makeInterface t x =>
    show Pure fun h => opMakeInterface t x P r h
    unfold opMakeInterface
    generalize opnd r x = y
    generalize P.underlying t = u
    cases y with
    | none => exact Pure.bad fun _ => _
    | some y =>
      cases u with
      | none => exact Pure.bad fun _ => _
      | some u => cases u <;> first | exact Pure.val _ | exact Pure.bad fun _ => _
  case makeFunc f a c =>
    show Pure fun h => opMakeFunc f a c P r h
    unfold opMakeFunc
    generalize opnds r a.toList = x
    generalize opnds r c.toList = y
    cases f <;> cases x <;> cases y <;> first | exact Pure.val _ | exact Pure.bad fun _ => _
  case slice t x l hh m =>
    have hs : isSlS P t = true := by
      cases hb : isSlS P t with
      | true => rfl
      | false =>
        have hc : Ev.ob (isSlS P t) 1 0 = 0 := hc
        rw [hb] at hc
        exact absurd hc (by decide)
    show Pure fun h => opSlice t x l hh m P r h
    unfold opSlice
    generalize opnd r x = y
    generalize optA r l = l'
    generalize optA r hh = h'
    generalize optA r m = m'
    cases y <;> cases l' <;> cases h' <;> cases m' <;> first | exact (Pure.bad fun _ => _) | skip
    rename_i y l' h' m'
    have hind : ∀ h h2, sliceA P t y l' h' m' h = sliceA P t y l' h' m' h2 := by
      intro h h2
      unfold isSlS at hs
      unfold sliceA
      split at hs
      · rename_i hu; simp only [hu]; cases y <;> cases m' <;> rfl
      · rename_i hu; simp only [hu]; cases y <;> cases m' <;> rfl
      · cases hs
    intro h v h1 e
    simp only at e
    cases hv : sliceA P t y l' h' m' h with
    | none => rw [hv] at e; cases e
    | some u =>
      rw [hv] at e
      cases e
      refine ⟨rfl, fun h2 => ?_⟩
      simp only
      rw [hind h2 h, hv]
  case fieldAddr t x f => exact Pure.oo fun _ _ => Pure.orV _
  case field t x f =>
    show Pure fun h => opField t x f P r h
    unfold opField
    generalize opnd r x = y
    generalize fieldOf P t f = z
    cases y with
    | none => exact Pure.bad fun _ => _
    | some y => cases y <;> cases z <;> first | exact Pure.bad fun _ => _ | exact Pure.matchV _ _
  case indexAddr t x i => exact Pure.oo fun _ _ => Pure.oo fun _ _ => Pure.orV _
  case index t x i => exact Pure.oo fun _ _ => Pure.oo fun _ _ => Pure.orV _
  case typeAssert x t a ok =>
    show Pure fun h => opTypeAssert x t a ok P r h
    unfold opTypeAssert
    generalize opnd r x = y
    generalize P.underlying a = u
    generalize zeroA P a = z
    have hz : ∀ (k : AV → AV), Pure (fun h => match z with | some z => OR.val (k z) h | none => .bad "typeAssert") := fun k => by
      cases z with
      | none => exact Pure.bad fun _ => _
      | some z => exact Pure.val _
    have hnil : Pure (fun h => bif ok then (match (generalizing := false) z with | some z => OR.val (.tup [z, .bool false]) h | none => .bad "typeAssert") else .bad "typeAssert") := by
      cases ok
      · exact Pure.bad fun _ => _
      · exact hz _
    have hifc : ∀ tt vv, Pure (fun h => bif Nat.beq tt a then OR.val (bif ok then .tup [vv, .bool true] else vv) h else bif ok then (match (generalizing := false) z with | some z => OR.val (.tup [z, .bool false]) h | none => .bad "typeAssert") else .bad "typeAssert") := by
      intro tt vv
      cases Nat.beq tt a
      · exact hnil
      · exact Pure.val _
    cases y with
    | none => exact Pure.bad fun _ => _
    | some y =>
      cases u with
      | none => cases y <;> exact Pure.bad fun _ => _
      | some u => cases y <;> cases u <;> first | exact Pure.bad fun _ => _ | exact hifc _ _ | exact hnil
  case extract x i =>
    refine Pure.oo fun a _ => ?_
    cases a with
    | tup l => exact Pure.orV _
    | _ => exact Pure.bad fun _ => _
  case call c =>
    exfalso
    have hc : clsC c = 0 := hc
    unfold clsC at hc
    split at hc
    · split at hc <;> exact absurd hc (by decide)
    · exact absurd hc (by decide)
  all_goals first | exact absurd (show (3 : Nat) = 0 from hc) (by decide) | exact absurd (show (2 : Nat) = 0 from hc) (by decide) | exact absurd (show (1 : Nat) = 0 from hc) (by decide)
theorem findK_mono {eq eq' : AV → AV → Option Bool} (he : ∀ x y r, eq x y = some r → eq' x y = some r) (k : AV) : ∀ (es : List (AV × AV)) (x : Option AV), findK eq k es = some x → findK eq' k es = some x
  | [], x, e => e
  | (k', v) :: es, x, e => by
    unfold findK at e ⊢
    cases h1 : eq k k' with
    | none => rw [h1] at e; cases e
    | some q =>
      rw [h1] at e
      rw [he _ _ _ h1]
      cases q with
      | true =>
        simp only at e ⊢
        split at e
        · rename_i h2
          rw [findK_mono he k es none h2]; exact e
        · cases e
      | false => exact findK_mono he k es x e
theorem findE_mono {h h2 : Hp} (hl : Hle h h2) {kt : TypeId} {k : AV} {es : List (AV × AV)} {x : Option AV} (e : findE P h kt k es = some x) : findE P h2 kt k es = some x := by
  unfold findE at e ⊢
  obtain ⟨e1, e2⟩ := ob_eq e
  rw [e1, ob_true]
  exact findK_mono (fun x y r => eqA_mono hl 20 kt x y r) k es x e2
theorem lookupA_mono {h h2 : Hp} (hl : Hle h h2) {t : TypeId} {m k : AV} {ok : Bool} {v : AV} (e : lookupA P t m k ok h = some v) : lookupA P t m k ok h2 = some v := by
  have key : ∀ kt vt es, (match findE P h kt k es with
      | some (some v) => some (bif ok then AV.tup [v, .bool true] else v)
      | some none => match zeroA P vt with
        | some z => some (bif ok then AV.tup [z, .bool false] else z)
        | none => none
      | none => none) = some v → (match findE P h2 kt k es with
      | some (some v) => some (bif ok then AV.tup [v, .bool true] else v)
      | some none => match zeroA P vt with
        | some z => some (bif ok then AV.tup [z, .bool false] else z)
        | none => none
      | none => none) = some v := by
    intro kt vt es e
    cases hf : findE P h kt k es with
    | none => rw [hf] at e; cases e
    | some x => rw [hf] at e; rw [findE_mono hl hf]; exact e
  unfold lookupA at e ⊢
  cases hm : mapKV P t with
  | none => rw [hm] at e; cases e
  | some p =>
    obtain ⟨kt, vt⟩ := p
    rw [hm] at e
    simp only at e ⊢
    cases m with
    | nilm => exact key kt vt [] e
    | map b =>
      simp only at e ⊢
      cases hb : h.get b with
      | none => rw [hb] at e; cases e
      | some x =>
        rw [hb] at e
        rw [hl _ _ hb]
        cases x with
        | map es c => exact key kt vt es e
        | _ => exact e
    | _ => exact e
theorem lenA_mono {h h2 : Hp} (hl : Hle h h2) {t : TypeId} {x : AV} {n : Nat} (e : lenA P t x h = some n) : lenA P t x h2 = some n := by
  unfold lenA at e ⊢
  generalize lenT P t = lt at e ⊢
  cases lt with
  | str => exact e
  | sl => exact e
  | other =>
    have e : lenO P t x h = some n := e
    show lenO P t x h2 = some n
    unfold lenO at e ⊢
    split at e
    all_goals first | exact e | skip
    split at e
    · rename_i hb; simp only [hl _ _ hb]; exact e
    · cases e
theorem cls1 {o : Oper} (hc : cls P o.op = 1) : Mono (fun h => opA P r o h) := by
  have hA : ∀ op', o.op = op' → (fun h => opA P r o h) = fun h => opA P r { o with op := op' } h := fun op' e => by subst e; rfl
  cases ho : o.op <;> rw [ho] at hc <;> rw [hA _ ho]
  case load t a => exact Mono.oo fun _ _ => Mono.orV (fun h h2 v hl e => load_mono h h2 v hl e)
  case binOp op t x y u => exact Mono.oo fun a _ => Mono.oo fun b _ => Mono.ob (Pure.bad fun _ => _).mono (Mono.binA op t a b)
  case slice t x l hh m =>
    show Mono fun h => opSlice t x l hh m P r h
    unfold opSlice
    generalize opnd r x = y
    generalize optA r l = l'
    generalize optA r hh = h'
    generalize optA r m = m'
    cases y <;> cases l' <;> cases h' <;> cases m' <;> first | exact (Pure.bad fun _ => _).mono | skip
    rename_i y l' h' m'
    intro h v h1 e
    simp only at e
    cases hv : sliceA P t y l' h' m' h with
    | none => rw [hv] at e; cases e
    | some u =>
      rw [hv] at e
      cases e
      refine ⟨rfl, fun h2 hl => ?_⟩
      simp only
      rw [sliceA_mono hl hv]
  case lookup t m k ok =>
    show Mono fun h => opLookup t m k ok P r h
    unfold opLookup
    generalize opnd r m = m'
    generalize opnd r k = k'
    cases m' <;> cases k' <;> first | exact (Pure.bad fun _ => _).mono | skip
    rename_i m' k'
    intro h v h1 e
    simp only at e
    cases hv : lookupA P t m' k' ok h with
    | none => rw [hv] at e; cases e
    | some u =>
      rw [hv] at e
      cases e
      refine ⟨rfl, fun h2 hl => ?_⟩
      simp only
      rw [lookupA_mono hl hv]
  case call c =>
    have hc : clsC c = 1 := hc
    refine Mono.oo (w := "call: arguments") (k := fun args h => _) fun args _ => ?_
    unfold clsC at hc
    cases hcc : c.callee with
    | value f => rw [hcc] at hc; exact absurd (show (3 : Nat) = 1 from hc) (by decide)
    | invoke f n => rw [hcc] at hc; exact absurd (show (3 : Nat) = 1 from hc) (by decide)
    | builtin b =>
      rw [hcc] at hc
      show Mono fun h => builtinA P b c.argTypes args h
      cases b <;> first | exact absurd (show (3 : Nat) = 1 from hc) (by decide) | skip
      case len =>
        show Mono fun h => lenB P c.argTypes args h
        refine Mono.oo fun t _ => Mono.oo fun x _ => ?_
        intro h v h1 e
        have e : Ev.oo (lenA P t x h) (.bad "len") (fun n => fN n fun n => OR.val (.int .i64 (.ofNat n)) h) = .val v h1 := e
        show h1 = h ∧ ∀ h2, Hle h h2 → Ev.oo (lenA P t x h2) (.bad "len") (fun n => fN n fun n => OR.val (.int .i64 (.ofNat n)) h2) = .val v h2
        obtain ⟨n, e1, e2⟩ := oo_val e (by simp)
        rw [fN_eq] at e2
        cases e2
        refine ⟨rfl, fun h2 hl => ?_⟩
        rw [lenA_mono hl e1, oo_some, fN_eq]
      case cap =>
        show Mono fun h => builtinB P .cap c.argTypes args h
        refine Pure.mono ?_
        unfold builtinB
        simp only
        generalize c.argTypes[0]? = t
        cases t with
        | none => exact Pure.bad fun _ => _
        | some t =>
          cases args with
          | nil => exact Pure.bad fun _ => _
          | cons x l =>
            cases x <;> first | exact Pure.bad fun _ => _ | skip
            all_goals simp only
            all_goals generalize P.underlying t = u
            all_goals cases u <;> first | exact Pure.bad fun _ => _ | skip
            all_goals
              rename_i u
              cases u <;> first | exact Pure.bad fun _ => _ | exact Pure.val _ | skip
            simp only
            rename_i ex _ _
            first | exact Pure.val _ | (cases ‹Bool› <;> first | exact Pure.bad fun _ => _ | exact Pure.val _)
      case max =>
        show Mono fun h => builtinB P .max c.argTypes args h
        refine Pure.mono ?_
        unfold builtinB
        simp only
        cases args with
        | nil => exact Pure.bad fun _ => _
        | cons x l => exact Pure.matchV _ _
      case min =>
        show Mono fun h => builtinB P .min c.argTypes args h
        refine Pure.mono ?_
        unfold builtinB
        simp only
        cases args with
        | nil => exact Pure.bad fun _ => _
        | cons x l => exact Pure.matchV _ _
  all_goals first | exact absurd (show (3 : Nat) = 1 from hc) (by decide) | exact absurd (show (2 : Nat) = 1 from hc) (by decide) | exact absurd (show (0 : Nat) = 1 from hc) (by decide)
end
end Go.Proofs.YtmoejaloachlkaaGreatDoor.Ev
