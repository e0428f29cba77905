/- The evaluator's soundness, 29: calls. -/
import Derived.Test.YtmoejaloachlkaaGreatDoorFw
namespace Go.Proofs.YtmoejaloachlkaaGreatDoor.Ev
open Go Go.RowKit

section
variable {P : Program} {B : Nat} {π : Pi} {H H' : Hp} {w : World} {v : AV} {r : T AV} {a : Act}
theorem callA_run (hX : extOk P = true) (hH : HRel π B H w) {g : Nat} {args : List AV} {cargs : Array Value} (ha : VRs π args cargs.toList) : ORun P B π H w (callFunc g cargs) (callA P g args H) := by
  unfold callA
  cases hf : P.funcs[g]? with
  | none => trivial
  | some fn =>
    show ORun P B π H w (callFunc g cargs) (callG P g args H fn)
    unfold callG
    cases hb : fn.body with
    | none => exact ext_run hX hf hb hH ha
    | some c =>
      show ORun P B π H w (callFunc g cargs) (ob (fn.name == "runtime.NumGoroutine") (.call g args H) (.bad "NumGoroutine"))
      cases hn : (fn.name == "runtime.NumGoroutine") with
      | true => trivial
      | false =>
        refine ⟨π, cargs, w, ?_, ha, .refl hH⟩
        unfold callFunc
        have hp : (program).run P w = .ok P w := rfl
        simp only [Sem.run_bind, hp, Result.andThen_ok, hf, hn, Bool.false_eq_true, if_false, hb, Option.isNone_some, Sem.run_pure]
theorem ORun.congr {s s' : Sem Next} {c : OR} (h : s'.run P w = s.run P w) (ho : ORun P B π H w s c) : ORun P B π H w s' c := by
  cases c with
  | bad _ => trivial
  | val v H' => obtain ⟨π', w', cv, nx, h1, h2⟩ := ho; exact ⟨π', w', cv, nx, h.trans h1, h2⟩
  | pan v H' => obtain ⟨π', cv, w', h1, h2⟩ := ho; exact ⟨π', cv, w', h.trans h1, h2⟩
  | dfr d => obtain ⟨d', h1, h2⟩ := ho; exact ⟨d', h.trans h1, h2⟩
  | rcv => exact h.trans ho
  | call f args H' => obtain ⟨π', cargs, w', h1, h2⟩ := ho; exact ⟨π', cargs, w', h.trans h1, h2⟩
  | rnd l args H' => obtain ⟨e, c, z, cargs, h1, h2, h3⟩ := ho; exact ⟨e, c, z, cargs, h1, h.trans h2, h3⟩
  | alts l => obtain ⟨p, hp, π', w', cv, nx, h1, h2⟩ := ho; exact ⟨p, hp, π', w', cv, nx, h.trans h1, h2⟩
theorem call_value_run (hX : extOk P = true) (hH : HRel π B H w) (hR : RR π r a.tmps) {c : Call} {ty : TypeId} {f : Operand} (hc : c.callee = .value f) : ORun P B π H w (do let d ← resolve a.eval c ty; invoke d.target d.args) (opCall c P r H) := by
  unfold opCall
  rw [hc]
  cases h1 : opnds r c.args.toList with
  | none => trivial
  | some args =>
    show ORun P B π H w _ (cValue f P c.argTypes r H args)
    unfold cValue
    cases h2 : opnd r f with
    | none => trivial
    | some fv =>
      show ORun P B π H w _ (callV P args H fv)
      have k1 := opnds_sound hH hR h1
      have k2 := opnd_sound hH hR h2
      have hres : resolve a.eval c ty = Deferred.ofValue (a.eval f) (c.args.map a.eval) := by unfold resolve; rw [hc]
      have hargs : VRs π args (c.args.map a.eval).toList := by simpa using k1
      rw [hres]
      generalize a.eval f = cf at k2
      cases fv with
      | fn g fa cp =>
        show ORun P B π H w _ (callA P g (fa ++ args ++ cp) H)
        cases k2 with
        | fn _ _ _ fa' cp' hfa hcp =>
          have hv : VRs π (fa ++ args ++ cp) ((fa' ++ c.args.map a.eval) ++ cp').toList := by
            rw [Array.toList_append, Array.toList_append]
            exact (hfa.append hargs).append hcp
          exact ORun.congr rfl (callA_run hX hH hv)
      | yld l =>
        show ORun P B π H w _ (.rnd l args H)
        cases k2 with
        | yld _ c' z hp =>
          refine ⟨rfl, c', z, c.args.map a.eval, hp, ?_, hargs⟩
          show (Instr.yield c' (#[] ++ c.args.map a.eval)).run P w = _
          rw [Array.empty_append]
      | _ => trivial
theorem follA_sound : ∀ {l : List FieldStep} {t : TypeId} {x : AV} {cx : Value} {t' : TypeId} {y : AV}, VR π x cx → follA P l t x = some (t', y) → ∃ cy, (follow l t (.val cx)).run P w = .ok (t', .val cy) w ∧ VR π y cy
  | [], t, x, cx, t', y, hx, h => by
    have h : some (t, x) = some (t', y) := by cases x <;> exact h
    cases h
    exact ⟨cx, rfl, hx⟩
  | s :: l, t, x, cx, t', y, hx, h => by
    cases x <;> first | (cases h; done) | skip
    rename_i cs
    unfold follA at h
    cases hd : s.deref with
    | true => rw [hd] at h; cases h
    | false =>
      rw [hd, cond_false] at h
      cases hf : fieldOf P s.struct s.index with
      | none => rw [hf] at h; cases h
      | some f =>
        rw [hf] at h
        simp only at h
        cases hp : partA P f.type cs f.offset with
        | none => rw [hp] at h; cases h
        | some u =>
          rw [hp] at h
          simp only at h
          cases hx with
          | agg _ arr hl =>
            obtain ⟨fs, hu, hfs⟩ := fieldOf_eq hf
            obtain ⟨cu, k1, k2⟩ := partA_sound (P := P) (w := w) hl hp
            obtain ⟨cy, k3, k4⟩ := follA_sound k2 h
            refine ⟨cy, ?_, k4⟩
            unfold follow
            rw [Sem.run_bind, run_underlying hu, Result.andThen_ok]
            simp only [hfs, hd, Bool.false_eq_true, if_false, Sem.run_bind, k1, Result.andThen_ok]
            exact k3
theorem methA_sound {t : TypeId} {x : AV} {cx : Value} {name : String} {f : Nat} {y : AV} (hx : VR π x cx) (h : methA P t x name = some (f, y)) {k : Nat} : ∃ cy, (method (k + 1) t cx name).run P w = .ok (f, cy) w ∧ VR π y cy := by
  unfold methA at h
  cases hi : P.info? t with
  | none => rw [hi] at h; cases h
  | some i =>
    rw [hi] at h
    simp only at h
    cases hm : i.methods.find? (·.name == name) with
    | none => rw [hm] at h; cases h
    | some m =>
      rw [hm] at h
      simp only at h
      cases hf : follA P m.path.toList t x with
      | none => rw [hf] at h; cases h
      | some p =>
        obtain ⟨xt, u⟩ := p
        rw [hf] at h
        cases hmf : m.func with
        | none => rw [hmf] at h; cases h
        | some q =>
          obtain ⟨g, pr⟩ := q
          rw [hmf] at h
          simp only at h
          obtain ⟨cu, k1, k2⟩ := follA_sound (P := P) (w := w) hx hf
          have go : ∀ d, P.underlying xt = some d → ((∃ e, d = .pointer e) → pr = true) → ((∀ e, d ≠ .pointer e) → pr = false) → ∃ cy, (method (k + 1) t cx name).run P w = .ok (g, cy) w ∧ VR π u cy := by
            intro d hu h1 h2
            refine ⟨cu, ?_, k2⟩
            unfold method
            simp only [Sem.run_bind, run_typeInfo hi, Result.andThen_ok, hm, k1, hmf]
            have hrec : ∀ wr, (receiverAt xt (.val cu) pr wr).run P w = .ok cu w := by
              intro wr
              unfold receiverAt
              rw [Sem.run_bind, run_underlying hu, Result.andThen_ok]
              by_cases hptr : ∃ e, d = .pointer e
              · rw [h1 hptr]
                obtain ⟨e, rfl⟩ := hptr
                rfl
              · have hn : ∀ e, d ≠ .pointer e := fun e he => hptr ⟨e, he⟩
                rw [h2 hn]
                cases d <;> first | rfl | exact absurd rfl (hn _)
            rw [hrec]
            rfl
          cases hu : P.underlying xt with
          | none => rw [hu] at h; cases h
          | some d =>
            rw [hu] at h
            by_cases hptr : ∃ e, d = .pointer e
            · obtain ⟨e, rfl⟩ := hptr
              simp only at h
              obtain ⟨hpr, h2⟩ := cond_some h
              cases h2
              exact go _ hu (fun _ => hpr) (fun hn => absurd rfl (hn e))
            · have hn : ∀ e, d ≠ .pointer e := fun e he => hptr ⟨e, he⟩
              have h : (bif pr then none else some (g, u)) = some (f, y) := by cases d <;> first | exact h | exact absurd rfl (hn _)
              cases pr with
              | true => cases h
              | false => cases h; exact go _ hu (fun h => absurd h hptr) (fun _ => rfl)
theorem call_invoke_run (hX : extOk P = true) (hH : HRel π B H w) (hR : RR π r a.tmps) {c : Call} {ty : TypeId} {x : Operand} {name : String} (hc : c.callee = .invoke x name) : ORun P B π H w (do let d ← resolve a.eval c ty; invoke d.target d.args) (opCall c P r H) := by
  unfold opCall
  rw [hc]
  cases h1 : opnds r c.args.toList with
  | none => trivial
  | some args =>
    show ORun P B π H w _ (cInvoke x name P c.argTypes r H args)
    unfold cInvoke
    cases h2 : opnd r x with
    | none => trivial
    | some xv =>
      show ORun P B π H w _ (callI P args H name xv)
      have k1 := opnds_sound hH hR h1
      have k2 := opnd_sound hH hR h2
      have hargs : VRs π args (c.args.map a.eval).toList := by simpa using k1
      have hres : resolve a.eval c ty = pure { target := .fn (.method name) #[], args := #[a.eval x] ++ c.args.map a.eval } := by unfold resolve; rw [hc]
      rw [hres]
      generalize a.eval x = cx at k2
      cases xv with
      | ifc t v =>
        show ORun P B π H w _ (oo (methA P t v name) (.bad "call: method") fun m => callA P m.1 (m.2 :: args) H)
        cases hm : methA P t v name with
        | none => trivial
        | some p =>
          obtain ⟨f, y⟩ := p
          show ORun P B π H w _ (callA P f (y :: args) H)
          cases k2 with
          | ifc _ _ v' hv =>
            obtain ⟨cy, q1, q2⟩ := methA_sound (P := P) (w := w) (k := P.types.size + (Made.depth - 1)) hv hm
            have hfuel : P.types.size + Made.depth = P.types.size + (Made.depth - 1) + 1 := by
              have : 0 < Made.depth := by decide
              omega
            have hv2 : VRs π (y :: args) (#[cy] ++ c.args.map a.eval).toList := by
              rw [Array.toList_append]
              exact .cons _ _ _ _ q2 hargs
            refine ORun.congr ?_ (callA_run hX hH hv2)
            show Sem.run P (invoke (.fn (.method name) #[]) (#[.iface t v'] ++ c.args.map a.eval)) w = _
            unfold invoke
            have e0 : (#[Value.iface t v'] ++ c.args.map a.eval)[0]? = some (.iface t v') := by rw [← Array.getElem?_toList, Array.toList_append]; rfl
            have e1 : (#[Value.iface t v'] ++ c.args.map a.eval).extract 1 (#[Value.iface t v'] ++ c.args.map a.eval).size = c.args.map a.eval := by
              apply Array.ext'
              simp
              rw [List.take_of_length_le (by simp)]
            simp only [e0, e1]
            unfold callMethod
            have hp : (program).run P w = .ok P w := rfl
            simp only [Sem.run_bind, hp, Result.andThen_ok]
            rw [hfuel, q1]
            rfl
      | _ => trivial
theorem defer_run (hH : HRel π B H w) (hR : RR π r a.tmps) {c : Call} {ty : TypeId} : ORun P B π H w (do pure (.defer (← resolve a.eval c ty))) (opDefer c P r H) := by
  unfold opDefer
  cases hc : c.callee with
  | invoke x n => trivial
  | builtin b => trivial
  | value f =>
    cases h1 : opnds r c.args.toList with
    | none => trivial
    | some args =>
      simp only
      cases h2 : opnd r f with
      | none => trivial
      | some fv =>
        have k1 := opnds_sound hH hR h1
        have k2 := opnd_sound hH hR h2
        have hargs : VRs π args (c.args.map a.eval).toList := by simpa using k1
        have hres : resolve a.eval c ty = Deferred.ofValue (a.eval f) (c.args.map a.eval) := by unfold resolve; rw [hc]
        rw [hres]
        generalize a.eval f = cf at k2
        cases fv <;> first | trivial | skip
        rename_i g fa cp
        simp only
        cases hf : P.funcs[g]? with
        | none => trivial
        | some fn =>
          simp only
          rw [Bool.cond_eq_ite]
          split
          · cases k2 with
            | fn _ _ _ fa' cp' hfa hcp =>
              refine ⟨{ target := .fn (.func g) cp', args := fa' ++ c.args.map a.eval }, rfl, .fn _ _ _ _ ?_⟩
              rw [Array.toList_append, Array.toList_append]
              exact (hfa.append hargs).append hcp
          · trivial
theorem panic_run (hH : HRel π B H w) (hR : RR π r a.tmps) {x : Operand} : ORun P B π H w (do let y ← Instr.panic (a.eval x); pure (.value y)) (opPanic x P r H) := by
  unfold opPanic
  cases h1 : opnd r x with
  | none => trivial
  | some xv =>
    have k := opnd_sound hH hR h1
    generalize a.eval x = cx at k
    cases xv <;> first | trivial | skip
    cases k with
    | ifc t0 v0 v' hv => exact ⟨π, .iface _ v', w, rfl, .ifc _ _ _ hv, .refl hH⟩
end
end Go.Proofs.YtmoejaloachlkaaGreatDoor.Ev
