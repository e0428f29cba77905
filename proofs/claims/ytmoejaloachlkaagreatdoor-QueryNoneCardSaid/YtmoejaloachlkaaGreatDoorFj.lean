/- The evaluator's soundness, 15: ranges over functions. -/
import Derived.Test.YtmoejaloachlkaaGreatDoorFi
namespace Go.Proofs.YtmoejaloachlkaaGreatDoor.Ev
open Go Go.RowKit

section
variable {P : Program} {cf : CallF} {ev : CodeF} {B : Nat} {π : Pi} {H : Hp} {w : World}
theorem ext_call (fn : Func) (args : List AV) (h : Hp) {f : Nat} {as : List AV} {h' : Hp} : ext P fn args h ≠ .call f as h' := by
  unfold ext
  simp only [Bool.cond_eq_ite]
  repeat' split
  all_goals simp
theorem callA_call {g : Nat} {args args' : List AV} {h h' : Hp} {g' : Nat} (e : callA P g args h = .call g' args' h') : ∃ fn c, P.funcs[g]? = some fn ∧ fn.body = some c ∧ (fn.name == "runtime.NumGoroutine") = false ∧ g' = g ∧ args' = args ∧ h' = h := by
  unfold callA at e
  cases hf : P.funcs[g]? with
  | none => rw [hf] at e; cases e
  | some fn =>
    rw [hf] at e
    have e : callG P g args h fn = .call g' args' h' := e
    unfold callG at e
    cases hb : fn.body with
    | none => rw [hb] at e; exact absurd e (ext_call _ _ _)
    | some c =>
      rw [hb] at e
      have e : ob (fn.name == "runtime.NumGoroutine") (OR.call g args h) (.bad "NumGoroutine") = .call g' args' h' := e
      cases hn : (fn.name == "runtime.NumGoroutine") with
      | true => rw [hn] at e; cases e
      | false => rw [hn] at e; cases e; exact ⟨fn, c, rfl, hb, hn, rfl, rfl, rfl⟩
theorem endLoop_run {c : Nat} {L : Loop} (hw : w.heap[c]? = some (.loop L)) (hb : L.state ≠ .busy) {w' : World} (hs : (setObj c (.loop { L with state := .exhausted })).run P w = .ok () w') : (Instr.endLoop c).run P w = .ok L.pending w' := by
  have e : (L.state == .busy) = false := by cases hx : L.state <;> first | rfl | exact absurd hx hb
  unfold Instr.endLoop
  rw [Sem.run_bind, run_getLoop hw, Result.andThen_ok]
  simp only [e, Bool.false_eq_true, if_false]
  show Sem.run P (setObj c (.loop { L with state := .exhausted }) >>= fun _ => pure L.pending) w = _
  rw [Sem.run_bind, hs, Result.andThen_ok]; rfl
theorem rangeGo_sound (hcf : CfOk P cf) (hev : EvOk P ev) {f : Operand} {ps : Array Tmp} {asg body : Code} {r : T AV} {q : Q} {k : XK} {df D zD : Nat} {mk : List AD} {mark : List Deferred} {ro : Option Nat} {m : Nat} {a : Act} (hH : HRel π B H w) (hS : St π q r a) (hro : RO π q.rd ro) (hrc : q.rc = .no)
    (hD : π df = some (D, zD)) (hmk : DRs π mk mark) (fn : FuncId) {π0 : Pi} {h0 : Hp} {w0 : World} (hH0 : HRel π0 B h0 w0) (hs0 : Step B π0 h0 w0 π H w) {res : CR} (hok : res.ok) (hle : Le res (rangeGo P cf ev f ps.toList asg body r H q k df mk)) (w1 : World) (hw1 : w1 = w.alloc (.loop { state := .ready, pending := none, fn, tmps := a.tmps, params := ps, assign := asg, body, defers := D })) :
    ∃ d f' args, (resolve a.eval (rangeCall f w.heap.size) 0).run P w1 = .ok d w1 ∧ (invoke d.target d.args).run P w1 = .ok (.enter f' args) w1 ∧ CallsIn (Fw ro) (m - 1) P f' args w1 (rangePost (Fw ro) m P w.heap.size (Post B π0 h0 w0 q res k) { a with defers := mark ++ a.defers }) := by
  have hk := (hle hok).1
  unfold rangeGo at hk hle
  cases ho : opnd r f with
  | none => simp only [ho] at hk; exact hk.elim
  | some v =>
    cases v with
    | fn g fa c =>
      simp only [ho] at hk hle
      have hv := opnd_sound hH hS.rr ho
      cases hc : callA P g (fa ++ [AV.yld H.nx] ++ c) (H.new (.loop .ready none r q.sz ps.toList asg body df)) with
      | call g' args' h' =>
        simp only [hc] at hk hle
        obtain ⟨fn', code, c1, c2, c3, rfl, rfl, rfl⟩ := callA_call hc
        generalize hev0 : a.eval f = fv at hv
        cases hv with
        | fn _ _ _ fa' c' hfa hfc =>
          have he := piNew_ext (H := H) (hH.fresh (Nat.le_refl H.nx)) w.heap.size 0
          have st1 : Step B π H w (piNew π H.nx w.heap.size 0) (H.new (.loop .ready none r q.sz ps.toList asg body df)) w1 := by
            subst hw1
            exact Step.alloc hH _ 0 _ ⟨_, rfl, rfl, rfl, hS.rr.mono he, hS.sz, rfl, rfl, rfl, zD, he _ _ hD⟩
          have hl : piNew π H.nx w.heap.size 0 H.nx = some (w.heap.size, 0) := by simp [piNew]
          have hargs : VRs (piNew π H.nx w.heap.size 0) (fa ++ [AV.yld H.nx] ++ c) ((fa' ++ #[Value.func (.yield w.heap.size) #[] #[]]) ++ c').toList := by
            rw [Array.toList_append, Array.toList_append]
            exact ((hfa.mono he).append (.cons _ _ _ _ (.yld _ _ _ hl) .nil)).append (hfc.mono he)
          refine ⟨{ target := .fn (.func g') c', args := fa' ++ #[Value.func (.yield w.heap.size) #[] #[]] }, g', _, ?_, enter_run c1 c2 c3 _ _ _, ?_⟩
          · unfold resolve Deferred.ofValue
            simp only [hev0, List.map_toArray, List.map_cons, List.map_nil]
            rfl
          refine callsIn_Fw.2 ?_
          cases hcr : cf g' (fa ++ [AV.yld H.nx] ++ c) (H.new (.loop .ready none r q.sz ps.toList asg body df)) with
          | bad s => simp only [hcr] at hk; exact hk.elim
          | pan ch h2 =>
            simp only [hcr] at hk hle
            refine (hcf B _ _ w1 g' _ _ st1.rel hargs (by rw [hcr]; trivial)).mono ?_
            intro e w3 hco
            rw [hcr] at hco
            obtain ⟨π3, chain, rfl, k1, k2⟩ := hco
            exact ⟨.pan ch, r, h2, ⟨q.sz, mk ++ q.df, q.rc, q.rd⟩, π3, k1, ⟨(hS.rr.mono st1.ext).mono k2.ext, hS.sz, ((hmk.append hS.df).mono st1.ext).mono k2.ext⟩, ⟨rfl, rfl, rfl⟩, Step.trans hH0 hs0 (Step.trans hH st1 k2), hle⟩
          | ret v h2 =>
            simp only [hcr] at hk hle
            refine (hcf B _ _ w1 g' _ _ st1.rel hargs (by rw [hcr]; trivial)).mono ?_
            intro e w3 hco
            rw [hcr] at hco
            obtain ⟨π3, cv, rfl, k1, k2⟩ := hco
            have hl3 := k2.ext _ _ hl
            cases hg : h2.get H.nx with
            | none => simp only [hg] at hk; exact hk.elim
            | some b =>
              cases b with
              | loop st pd r' sz' ps' asg' body' df' =>
                have key : st ≠ .busy → ∀ kk : CR, kk.ok → Le res kk → kk = (match pd with
                    | none => k .nrm r (h2.set H.nx (.loop .exhausted pd r' sz' ps' asg' body' df')) ⟨q.sz, mk ++ q.df, q.rc, q.rd⟩
                    | some c => bif codeOk q.sz c then ev c r (h2.set H.nx (.loop .exhausted pd r' sz' ps' asg' body' df')) ⟨q.sz, mk ++ q.df, q.rc, q.rd⟩ k else .bad "range: registers") →
                    rangePost (Fw ro) m P w.heap.size (Post B π0 h0 w0 q res k) { a with defers := mark ++ a.defers } (.returned cv) w3 := by
                  intro hb kk hkk hlk e
                  obtain ⟨c4, z4, L, z5, p1, p2, p3, p4, _⟩ := k2.rel.loop hg
                  rw [hl3] at p1; cases p1
                  obtain ⟨w4, s1, s2⟩ := loop_set (P := P) k2.rel hg hl3 p2 .exhausted pd
                  have hst : Step B π0 h0 w0 π3 (h2.set H.nx (.loop .exhausted pd r' sz' ps' asg' body' df')) w4 := Step.trans hH0 hs0 (Step.trans hH st1 (Step.trans st1.rel k2 s2))
                  have hSt : St π3 ⟨q.sz, mk ++ q.df, q.rc, q.rd⟩ r { a with defers := mark ++ a.defers } := ⟨(hS.rr.mono st1.ext).mono k2.ext, hS.sz, ((hmk.append hS.df).mono st1.ext).mono k2.ext⟩
                  refine ⟨L.pending, w4, endLoop_run p2 (by rw [p3]; exact hb) (by rw [← s1, ← p4]), ?_⟩
                  rw [p4]
                  cases pd with
                  | none => subst e; exact ⟨.nrm, r, _, ⟨q.sz, mk ++ q.df, q.rc, q.rd⟩, π3, trivial, hSt, ⟨rfl, rfl, rfl⟩, hst, hlk⟩
                  | some c =>
                    simp only at e ⊢
                    cases hco : codeOk q.sz c with
                    | false => rw [hco] at e; subst e; exact hkk.elim
                    | true =>
                      rw [hco, cond_true] at e
                      subst e
                      refine wpIn_mono (hev c r _ ⟨q.sz, mk ++ q.df, q.rc, q.rd⟩ k hkk hco hrc B π3 _ w4 ro m s2.rel hSt ((hro.mono st1.ext).mono k2.ext)) ?_
                      intro e a2 w5 hp
                      exact Post.step (q := q) (q1 := ⟨q.sz, mk ++ q.df, q.rc, q.rd⟩) hH0 hst ⟨rfl, rfl, rfl⟩ hlk hp
                cases st with
                | busy => simp only [hg] at hk; exact hk.elim
                | ready => simp only [hg] at hk hle; exact key (by simp) _ hk hle (by cases pd <;> rfl)
                | done => simp only [hg] at hk hle; exact key (by simp) _ hk hle (by cases pd <;> rfl)
                | exhausted => simp only [hg] at hk hle; exact key (by simp) _ hk hle (by cases pd <;> rfl)
              | _ => simp only [hg] at hk; exact hk.elim
      | _ => simp only [hc] at hk; exact hk.elim
    | _ => simp only [ho] at hk; exact hk.elim
theorem SS.rangeFunc (hcf : CfOk P cf) (hev : EvOk P ev) {f : Operand} {ps : Array Tmp} {asg body : Code} : SS P (.rangeFunc f ps asg body) (rangeS P cf ev f ps asg body) := by
  intro r h q k hok hd hrc B π a w ro m hH hS hro
  refine wpIn_rangeFunc ?_
  intro fn _
  cases hq : q.rd with
  | none =>
    have e1 : rangeS P cf ev f ps asg body r h q k = rangeGo P cf ev f ps.toList asg body r (h.new (.dfr (some []))) q k h.nx [.coll h.nx] := by unfold rangeS; simp only [hq]
    rw [hq] at hro
    cases ro with
    | some _ => exact hro.elim
    | none =>
      have he := piNew_ext (H := h) (hH.fresh (Nat.le_refl h.nx)) w.heap.size 0
      have st1 : Step B π h w (piNew π h.nx w.heap.size 0) (h.new (.dfr (some []))) (w.alloc (.deferred (some []))) := Step.alloc hH _ 0 _ ⟨some [], rfl, .nil⟩
      have hl : piNew π h.nx w.heap.size 0 h.nx = some (w.heap.size, 0) := by simp [piNew]
      obtain ⟨d, f', args, k1, k2, k3⟩ := rangeGo_sound (P := P) (cf := cf) (ev := ev) (f := f) (ps := ps) (asg := asg) (body := body) (k := k) (m := m) (ro := none) hcf hev st1.rel (hS := ⟨hS.rr.mono he, hS.sz, hS.df.mono he⟩) (by rw [hq]; trivial) hrc hl (.cons _ _ _ _ (.coll _ _ _ hl) .nil) fn hH st1 hok (by rw [e1]; exact .refl _) _ rfl
      refine ⟨_, _, _, d, _, f', args, _, ?_, k1, fun _ _ => trivial, k2, fun hx => by simp [Fw, Fence.wide] at hx, k3⟩
      show (Instr.enterLoop fn a.tmps ps asg body none).run P w = _
      unfold Instr.enterLoop
      simp only [Sem.run_bind, newObj, Sem.run, Sem.run_pure, Result.andThen_ok]
      rfl
  | some l =>
    rw [hq] at hro
    cases ro with
    | none => exact hro.elim
    | some c =>
      obtain ⟨z, hl⟩ := hro
      cases hg : h.get l with
      | none => unfold rangeS at hok; simp only [hq, hg] at hok; exact hok.elim
      | some b =>
        cases b with
        | loop st pd r' sz ps' asg' body' df =>
          have e1 : rangeS P cf ev f ps asg body r h q k = rangeGo P cf ev f ps.toList asg body r h q k df [] := by unfold rangeS; simp only [hq, hg]
          obtain ⟨c4, z4, L, z5, p1, p2, p3, p4, p5, p6, p7, p8, p9, p10⟩ := hH.loop hg
          rw [hl] at p1; cases p1
          obtain ⟨d, f', args, k1, k2, k3⟩ := rangeGo_sound (P := P) (cf := cf) (ev := ev) (f := f) (ps := ps) (asg := asg) (body := body) (k := k) (m := m) (ro := some c) hcf hev hH hS (by rw [hq]; exact ⟨z, hl⟩) hrc p10 .nil fn hH (.refl hH) hok (by rw [e1]; exact .refl _) _ rfl
          refine ⟨_, _, _, d, _, f', args, _, ?_, k1, fun _ _ => trivial, k2, fun hx => by simp [Fw, Fence.wide] at hx, k3⟩
          show (Instr.enterLoop fn a.tmps ps asg body (some c)).run P w = _
          unfold Instr.enterLoop
          simp only [Sem.run_bind, run_getLoop p2, newObj, Sem.run, Sem.run_pure, Result.andThen_ok]
          rfl
        | _ => unfold rangeS at hok; simp only [hq, hg] at hok; exact hok.elim
end
end Go.Proofs.YtmoejaloachlkaaGreatDoor.Ev
