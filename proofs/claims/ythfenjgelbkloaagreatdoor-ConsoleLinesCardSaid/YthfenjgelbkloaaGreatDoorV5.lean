/- The evaluator, 5: Rounds, ranges over functions, classes of operations, blocks made. No conditions. -/
import Derived.Test.YthfenjgelbkloaaGreatDoorV4

namespace Go.Proofs.YthfenjgelbkloaaGreatDoor.Ev
open Go Go.RowKit

section
variable {P : Program} {B : Nat} {π : Pi} {H : Hp} {w : World}
theorem HRel.loop (hH : HRel π B H w) {l : Nat} {st : LoopState} {pd : Option Code} {r : T AV} {sz : Nat} {ps : List Nat} {asg body : Code} {df : Nat} (h : H.get l = some (.loop st pd r sz ps asg body df)) :
    ∃ c z L z', π l = some (c, z) ∧ w.heap[c]? = some (.loop L) ∧ L.state = st ∧ L.pending = pd ∧ RR π r L.tmps ∧ L.tmps.size = sz ∧ L.params.toList = ps ∧ L.assign = asg ∧ L.body = body ∧ π df = some (L.defers, z') := by
  obtain ⟨c, z, o, p1, p2, ⟨L, rfl, h1, h2, h3, h4, h5, h6, h7, z', h8⟩, p5⟩ := hH.blk l _ h
  exact ⟨c, z, L, z', p1, p2, h1, h2, h3, h4, h5, h6, h7, h8⟩
theorem run_getLoop {c : Nat} {L : Loop} (h : w.heap[c]? = some (.loop L)) : (Instr.getLoop c).run P w = .ok L w := by
  unfold Instr.getLoop
  rw [Sem.run_bind, run_getObj h (by simp)]; rfl
theorem loop_set (hH : HRel π B H w) {l : Nat} {st : LoopState} {pd : Option Code} {r : T AV} {sz : Nat} {ps : List Nat} {asg body : Code} {df c z : Nat} {L : Loop} (h : H.get l = some (.loop st pd r sz ps asg body df)) (hp : π l = some (c, z)) (hw : w.heap[c]? = some (.loop L)) (st' : LoopState) (pd' : Option Code) :
    ∃ w', (setObj c (.loop { L with state := st', pending := pd' })).run P w = .ok () w' ∧ Step B π H w π (H.set l (.loop st' pd' r sz ps asg body df)) w' := by
  obtain ⟨c', z1, o, p1, p2, ⟨L', e, h1, h2, h3, h4, h5, h6, h7, z', h8⟩, p5⟩ := hH.blk l _ h
  rw [hp] at p1; cases p1
  rw [hw] at p2; cases p2
  cases e
  exact ⟨_, objSet_step hH h rfl rfl hp hw (by simp) (Evo.noMap (by simp)) ⟨_, rfl, rfl, rfl, h3, h4, h5, h6, h7, z', h8⟩⟩
theorem setP_sound : ∀ (ps : List Nat) (args : List AV) (cargs : List Value) (r : T AV) (tmps : Array Value), VRs π args cargs → (∀ p ∈ ps, p < tmps.size) → RR π r tmps →
    RR π (setP ps args r) ((ps.zip cargs).foldl (fun tmps (t, a) => tmps.setIfInBounds t a) tmps) ∧ ((ps.zip cargs).foldl (fun tmps (t, a) => tmps.setIfInBounds t a) tmps).size = tmps.size
  | [], args, cargs, r, tmps, _, _, hR => by cases args <;> exact ⟨hR, rfl⟩
  | p :: ps, [], cargs, r, tmps, h, _, hR => by cases h; exact ⟨hR, rfl⟩
  | p :: ps, v :: args, cargs, r, tmps, h, hps, hR => by
    cases h with
    | cons _ cv _ cargs hv hvs =>
      have hp := hps p (by simp)
      have h1 : RR π (r.put (some v) (Pos.of p)) (tmps.setIfInBounds p cv) := by
        intro s u hu
        rw [T.get_putN] at hu
        by_cases hs : s = p
        · subst hs
          rw [if_pos rfl] at hu; cases hu
          exact ⟨cv, by simp [hp], hv⟩
        · rw [if_neg hs] at hu
          obtain ⟨cu, h1, h2⟩ := hR s u hu
          exact ⟨cu, by rw [Array.getElem?_setIfInBounds_ne (fun e => hs e.symm)]; exact h1, h2⟩
      obtain ⟨a, b⟩ := setP_sound ps args cargs _ (tmps.setIfInBounds p cv) hvs (fun q hq => by rw [Array.size_setIfInBounds]; exact hps q (by simp [hq])) h1
      exact ⟨a, by rw [List.zip_cons_cons, List.foldl_cons, b, Array.size_setIfInBounds]⟩
theorem COut.of_le {a b : CR} (hl : Le a b) (ha : a.ok) {π : Pi} {w' : World} {e : Ending} (h : COut B π H w b e w') : COut B π H w a e w' := (hl ha).2 _ _ _ _ _ _ h
theorem COut.step {r : CR} {π' : Pi} {H' : Hp} {w' w'' : World} {e : Ending} (hH : HRel π B H w) (hs : Step B π H w π' H' w') (h : COut B π' H' w' r e w'') : COut B π H w r e w'' := by
  cases r with
  | bad _ => trivial
  | ret v h2 => obtain ⟨π2, cv, rfl, h3, h4⟩ := h; exact ⟨π2, cv, rfl, h3, Step.trans hH hs h4⟩
  | pan ch h2 => obtain ⟨π2, cv, rfl, h3, h4⟩ := h; exact ⟨π2, cv, rfl, h3, Step.trans hH hs h4⟩
/-- What a round's body is followed by. -/
noncomputable def rndE (l : Nat) : XK := fun x _ h q =>
  match q.df with
  | [] => endRnd l x h
  | _ => .bad "round: defers"
noncomputable def rndK (ev : CodeF) (l sz : Nat) (body : Code) : XK := fun x r h q =>
  match x, q.df, h.get l with
  | .nrm, [], some (.loop .ready pd r' sz' ps' asg' body' df') => ev body r (h.set l (.loop .busy pd r' sz' ps' asg' body' df')) ⟨sz, [], .no, some l⟩ (rndE l)
  | _, _, _ => .bad "round: assign"
variable {ev : CodeF}
theorem rndB_eq {l : Nat} {args : List AV} {st : LoopState} {pd : Option Code} {r : T AV} {sz : Nat} {ps : List Nat} {asg body : Code} {df : Nat} (h : H.get l = some (.loop st pd r sz ps asg body df)) :
    rndB ev l args H = bif Nat.beq args.length ps.length && ltAll sz ps && codeOk sz asg && codeOk sz body then ev asg (setP ps args r) H ⟨sz, [], .no, some l⟩ (rndK ev l sz body) else .bad "round: arguments" := by
  unfold rndB
  rw [h]
  rfl
theorem rndK_inv {l sz : Nat} {body : Code} {x : X} {r : T AV} {h : Hp} {q : Q} (hk : (rndK ev l sz body x r h q).ok) : x = .nrm ∧ q.df = [] ∧ ∃ pd r' sz' ps' asg' body' df', h.get l = some (.loop .ready pd r' sz' ps' asg' body' df') ∧
    rndK ev l sz body x r h q = ev body r (h.set l (.loop .busy pd r' sz' ps' asg' body' df')) ⟨sz, [], .no, some l⟩ (rndE l) := by
  unfold rndK at hk ⊢
  split at hk
  · rename_i pd r' sz' ps' asg' body' df' e1 e2
    exact ⟨rfl, e1, pd, r', sz', ps', asg', body', df', e2, rfl⟩
  · exact hk.elim
/-- The end of a round. -/
theorem endRnd_sound (hH : HRel π B H w) {l c z : Nat} (hp : π l = some (c, z)) {x : X} {e : Exit} (hx : XR π x e) {H0 : Hp} {w0 : World} {π0 : Pi} {res : CR} (hH0 : HRel π0 B H0 w0) (hs : Step B π0 H0 w0 π H w) (hok : res.ok) (hle : Le res (endRnd l x H)) (a : Act) :
    roundPost P c (COut B π0 H0 w0 res) e a w := by
  have hk := (hle hok).1
  unfold endRnd at hk hle
  cases hg : H.get l with
  | none => rw [hg] at hk; exact hk.elim
  | some b =>
    rw [hg] at hk hle
    cases b with
    | loop st pd r sz ps asg body df =>
      obtain ⟨c', z', L, z2, p1, p2, _⟩ := hH.loop hg
      rw [hp] at p1; cases p1
      have go : ∀ (st' : LoopState) (j : Option Code) (r' : CR), st' = (if j.isNone then .ready else .done) → r' = .ret (.bool j.isNone) (H.set l (.loop st' j r sz ps asg body df)) → Le res r' → ∃ v w', (Instr.endRound c j).run P w = .ok v w' ∧ COut B π0 H0 w0 res (.returned v) w' := by
        intro st' j r' h1 h2 h3
        obtain ⟨w', k1, k2⟩ := loop_set (P := P) hH hg hp p2 st' j
        refine ⟨.bool j.isNone, w', ?_, ?_⟩
        · unfold Instr.endRound
          rw [Sem.run_bind, run_getLoop p2, Result.andThen_ok]
          have k1' : (setObj c (.loop { L with state := if j.isNone then .ready else .done, pending := j })).run P w = .ok () w' := by rw [← h1]; exact k1
          rw [Sem.run_bind, k1', Result.andThen_ok]; rfl
        · refine COut.of_le h3 hok ?_
          rw [h2]
          exact ⟨π, _, rfl, .bool _, Step.trans hH0 hs k2⟩
      cases e with
      | normal => cases x <;> first | exact hx.elim | exact go _ none _ rfl rfl hle
      | ret => cases x <;> first | exact hx.elim | exact go _ (some .ret) _ rfl rfl hle
      | exit id =>
        cases x <;> first | exact hx.elim | skip
        have hx : _ = id := hx
        subst hx
        exact go _ (some (.exit _)) _ rfl rfl hle
      | goto id =>
        cases x <;> first | exact hx.elim | skip
        have hx : _ = id := hx
        subst hx
        exact go _ (some (.goto _)) _ rfl rfl hle
      | panic ch => cases x <;> first | exact hx.elim | exact hk.elim
      | outgrown => cases x <;> exact hx.elim
    | _ => exact hk.elim
theorem rndB_sound (hev : EvOk P ev) : RfOk P (rndB ev) := by
  intro B π H w l args cargs c z ro n hH hp ha hok
  cases hg : H.get l with
  | none => unfold rndB at hok; rw [hg] at hok; exact hok.elim
  | some b =>
    cases b with
    | loop st pd r sz ps asg body df =>
      have e0 := rndB_eq (ev := ev) (args := args) hg
      rw [e0] at hok ⊢
      cases hb : Nat.beq args.length ps.length && ltAll sz ps && codeOk sz asg && codeOk sz body with
      | false => rw [hb] at hok; exact hok.elim
      | true =>
        rw [hb] at hok
        have hok : (ev asg (setP ps args r) H ⟨sz, [], .no, some l⟩ (rndK ev l sz body)).ok := hok
        simp only [Bool.and_eq_true] at hb
        obtain ⟨c', z1, L, z2, p1, p2, h1, h2, h3, h4, h5, h6, h7, h8⟩ := hH.loop hg
        rw [hp] at p1; cases p1
        have hlen : cargs.size = L.params.size := by
          have a1 := Nat.eq_of_beq_eq_true hb.1.1.1
          have a2 := ha.length
          rw [← Array.length_toList, ← Array.length_toList, h5, ← a2, a1]
        have hlt : ∀ p ∈ L.params.toList, p < L.tmps.size := by
          rw [h5, h4]
          intro p hpm
          have := List.all_eq_true.1 hb.1.1.2 p hpm
          simpa [Nat.blt_eq] using this
        obtain ⟨s1, s2⟩ := setP_sound L.params.toList args cargs.toList r L.tmps ha hlt h3
        have ef : (L.params.zip cargs).foldl (fun tmps (t, a) => tmps.setIfInBounds t a) L.tmps = (L.params.toList.zip cargs.toList).foldl (fun tmps (t, a) => tmps.setIfInBounds t a) L.tmps := by
          rw [← Array.foldl_toList, Array.toList_zip]
        rw [cond_true]
        refine ⟨c, L.fn, (L.params.zip cargs).foldl (fun tmps (t, a) => tmps.setIfInBounds t a) L.tmps, L.assign, L.body, w, ?_, roundIn_of_wpIn trivial ?_⟩
        · unfold Instr.yield
          rw [Sem.run_bind, run_getLoop p2, Result.andThen_ok, if_neg (by simpa using hlen)]
          rfl
        · rw [h6, h7, ef]
          have hSt : St π ⟨sz, [], .no, some l⟩ (setP ps args r) { tmps := (L.params.toList.zip cargs.toList).foldl (fun tmps (t, a) => tmps.setIfInBounds t a) L.tmps, defers := [] } := ⟨by rw [← h5]; exact s1, by rw [← h4]; exact s2, .nil⟩
          refine wpIn_mono (hev asg (setP ps args r) H ⟨sz, [], .no, some l⟩ (rndK ev l sz body) hok hb.1.2 rfl B π _ w (some c) n hH hSt ⟨z, hp⟩) ?_
          intro e a' w' hpost
          obtain ⟨x, r', h', q', π', a1, a2, a3, a4, a5⟩ := hpost
          obtain ⟨rfl, hdf, pd2, r2, sz2, ps2, asg2, body2, df2, hg2, e2⟩ := rndK_inv (a5 hok).1
          rw [e2] at a5
          cases e with
          | normal =>
            obtain ⟨c3, z3, L3, z4, g1, g2, g3, g4, _⟩ := a4.rel.loop hg2
            have hp' := a4.ext _ _ hp
            rw [hp'] at g1; cases g1
            obtain ⟨w2, k1, k2⟩ := loop_set (P := P) a4.rel hg2 hp' g2 .busy pd2
            refine ⟨w2, ?_, ?_⟩
            · unfold Instr.beginRound
              rw [Sem.run_bind, run_getLoop g2, Result.andThen_ok]
              have k1' : (setObj c (.loop { L3 with state := .busy })).run P w' = .ok () w2 := by
                rw [← k1, ← g4]
              rw [Sem.run_bind, k1', Result.andThen_ok, g3]
              rfl
            · have hSt2 : St π' ⟨sz, [], .no, some l⟩ r' a' := by
                refine ⟨a2.rr, a2.sz.trans a3.sz, ?_⟩
                have := a2.df; rw [hdf] at this; exact this
              refine wpIn_mono (hev body r' _ ⟨sz, [], .no, some l⟩ (rndE l) (a5 hok).1 hb.2 rfl B π' a' w2 (some c) n k2.rel hSt2 ⟨z, hp'⟩) ?_
              intro e a2 w3 hpost2
              obtain ⟨x, r4, h4, q4, π4, b1, b2, b3, b4, b5⟩ := hpost2
              have hle := a5.trans b5
              have hk := (hle hok).1
              unfold rndE at hk hle
              cases hq : q4.df with
              | cons _ _ => simp only [hq] at hk; exact hk.elim
              | nil =>
                simp only [hq] at hle
                exact endRnd_sound b4.rel (b4.ext _ _ hp') b1 hH (Step.trans hH (Step.trans hH a4 k2) b4) hok hle a2
          | _ => exact a1.elim
    | _ => unfold rndB at hok; rw [hg] at hok; exact hok.elim
end
end Go.Proofs.YthfenjgelbkloaaGreatDoor.Ev

namespace Go.Proofs.YthfenjgelbkloaaGreatDoor.Ev
open Go Go.RowKit

section
variable {P : Program} {cf : CallF} {ev : CodeF} {B : Nat} {π : Pi} {H : Hp} {w : World}
theorem ext_call (fn : Func) (args : List AV) (h : Hp) {f : Nat} {as : List AV} {h' : Hp} : ext P fn args h ≠ .call f as h' := by
  unfold ext
  simp only [Bool.cond_eq_ite]
  repeat' split
  all_goals simp
theorem callA_call {g : Nat} {args args' : List AV} {h h' : Hp} {g' : Nat} (e : callA P g args h = .call g' args' h') : ∃ fn c, P.funcs[g]? = some fn ∧ fn.body = some c ∧ (fn.name == "runtime.NumGoroutine") = false ∧ g' = g ∧ args' = args ∧ h' = h := by
  unfold callA at e
  cases hf : P.funcs[g]? with
  | none => rw [hf] at e; cases e
  | some fn =>
    rw [hf] at e
    have e : callG P g args h fn = .call g' args' h' := e
    unfold callG at e
    cases hb : fn.body with
    | none => rw [hb] at e; exact absurd e (ext_call _ _ _)
    | some c =>
      rw [hb] at e
      have e : ob (fn.name == "runtime.NumGoroutine") (OR.call g args h) (.bad "NumGoroutine") = .call g' args' h' := e
      cases hn : (fn.name == "runtime.NumGoroutine") with
      | true => rw [hn] at e; cases e
      | false => rw [hn] at e; cases e; exact ⟨fn, c, rfl, hb, hn, rfl, rfl, rfl⟩
theorem endLoop_run {c : Nat} {L : Loop} (hw : w.heap[c]? = some (.loop L)) (hb : L.state ≠ .busy) {w' : World} (hs : (setObj c (.loop { L with state := .exhausted })).run P w = .ok () w') : (Instr.endLoop c).run P w = .ok L.pending w' := by
  have e : (L.state == .busy) = false := by cases hx : L.state <;> first | rfl | exact absurd hx hb
  unfold Instr.endLoop
  rw [Sem.run_bind, run_getLoop hw, Result.andThen_ok]
  simp only [e, Bool.false_eq_true, if_false]
  show Sem.run P (setObj c (.loop { L with state := .exhausted }) >>= fun _ => pure L.pending) w = _
  rw [Sem.run_bind, hs, Result.andThen_ok]; rfl
theorem rangeGo_sound (hcf : CfOk P cf) (hev : EvOk P ev) {f : Operand} {ps : Array Tmp} {asg body : Code} {r : T AV} {q : Q} {k : XK} {df D zD : Nat} {mk : List AD} {mark : List Deferred} {ro : Option Nat} {m : Nat} {a : Act} (hH : HRel π B H w) (hS : St π q r a) (hro : RO π q.rd ro) (hrc : q.rc = .no)
    (hD : π df = some (D, zD)) (hmk : DRs π mk mark) (fn : FuncId) {π0 : Pi} {h0 : Hp} {w0 : World} (hH0 : HRel π0 B h0 w0) (hs0 : Step B π0 h0 w0 π H w) {res : CR} (hok : res.ok) (hle : Le res (rangeGo P cf ev f ps.toList asg body r H q k df mk)) (w1 : World) (hw1 : w1 = w.alloc (.loop { state := .ready, pending := none, fn, tmps := a.tmps, params := ps, assign := asg, body, defers := D })) :
    ∃ d f' args, (resolve a.eval (rangeCall f w.heap.size) 0).run P w1 = .ok d w1 ∧ (invoke d.target d.args).run P w1 = .ok (.enter f' args) w1 ∧ CallsIn (Fw ro) (m - 1) P f' args w1 (rangePost (Fw ro) m P w.heap.size (Post B π0 h0 w0 q res k) { a with defers := mark ++ a.defers }) := by
  have hk := (hle hok).1
  unfold rangeGo at hk hle
  cases ho : opnd r f with
  | none => simp only [ho] at hk; exact hk.elim
  | some v =>
    cases v with
    | fn g fa c =>
      simp only [ho] at hk hle
      have hv := opnd_sound hH hS.rr ho
      cases hc : callA P g (fa ++ [AV.yld H.nx] ++ c) (H.new (.loop .ready none r q.sz ps.toList asg body df)) with
      | call g' args' h' =>
        simp only [hc] at hk hle
        obtain ⟨fn', code, c1, c2, c3, rfl, rfl, rfl⟩ := callA_call hc
        generalize hev0 : a.eval f = fv at hv
        cases hv with
        | fn _ _ _ fa' c' hfa hfc =>
          have he := piNew_ext (H := H) (hH.fresh (Nat.le_refl H.nx)) w.heap.size 0
          have st1 : Step B π H w (piNew π H.nx w.heap.size 0) (H.new (.loop .ready none r q.sz ps.toList asg body df)) w1 := by
            subst hw1
            exact Step.alloc hH _ 0 _ ⟨_, rfl, rfl, rfl, hS.rr.mono he, hS.sz, rfl, rfl, rfl, zD, he _ _ hD⟩
          have hl : piNew π H.nx w.heap.size 0 H.nx = some (w.heap.size, 0) := by simp [piNew]
          have hargs : VRs (piNew π H.nx w.heap.size 0) (fa ++ [AV.yld H.nx] ++ c) ((fa' ++ #[Value.func (.yield w.heap.size) #[] #[]]) ++ c').toList := by
            rw [Array.toList_append, Array.toList_append]
            exact ((hfa.mono he).append (.cons _ _ _ _ (.yld _ _ _ hl) .nil)).append (hfc.mono he)
          refine ⟨{ target := .fn (.func g') c', args := fa' ++ #[Value.func (.yield w.heap.size) #[] #[]] }, g', _, ?_, enter_run c1 c2 c3 _ _ _, ?_⟩
          · unfold resolve Deferred.ofValue
            simp only [hev0, List.map_toArray, List.map_cons, List.map_nil]
            rfl
          refine callsIn_Fw.2 ?_
          cases hcr : cf g' (fa ++ [AV.yld H.nx] ++ c) (H.new (.loop .ready none r q.sz ps.toList asg body df)) with
          | bad s => simp only [hcr] at hk; exact hk.elim
          | pan ch h2 =>
            simp only [hcr] at hk hle
            refine (hcf B _ _ w1 g' _ _ st1.rel hargs (by rw [hcr]; trivial)).mono ?_
            intro e w3 hco
            rw [hcr] at hco
            obtain ⟨π3, chain, rfl, k1, k2⟩ := hco
            exact ⟨.pan ch, r, h2, ⟨q.sz, mk ++ q.df, q.rc, q.rd⟩, π3, k1, ⟨(hS.rr.mono st1.ext).mono k2.ext, hS.sz, ((hmk.append hS.df).mono st1.ext).mono k2.ext⟩, ⟨rfl, rfl, rfl⟩, Step.trans hH0 hs0 (Step.trans hH st1 k2), hle⟩
          | ret v h2 =>
            simp only [hcr] at hk hle
            refine (hcf B _ _ w1 g' _ _ st1.rel hargs (by rw [hcr]; trivial)).mono ?_
            intro e w3 hco
            rw [hcr] at hco
            obtain ⟨π3, cv, rfl, k1, k2⟩ := hco
            have hl3 := k2.ext _ _ hl
            cases hg : h2.get H.nx with
            | none => simp only [hg] at hk; exact hk.elim
            | some b =>
              cases b with
              | loop st pd r' sz' ps' asg' body' df' =>
                have key : st ≠ .busy → ∀ kk : CR, kk.ok → Le res kk → kk = (match pd with
                    | none => k .nrm r (h2.set H.nx (.loop .exhausted pd r' sz' ps' asg' body' df')) ⟨q.sz, mk ++ q.df, q.rc, q.rd⟩
                    | some c => bif codeOk q.sz c then ev c r (h2.set H.nx (.loop .exhausted pd r' sz' ps' asg' body' df')) ⟨q.sz, mk ++ q.df, q.rc, q.rd⟩ k else .bad "range: registers") →
                    rangePost (Fw ro) m P w.heap.size (Post B π0 h0 w0 q res k) { a with defers := mark ++ a.defers } (.returned cv) w3 := by
                  intro hb kk hkk hlk e
                  obtain ⟨c4, z4, L, z5, p1, p2, p3, p4, _⟩ := k2.rel.loop hg
                  rw [hl3] at p1; cases p1
                  obtain ⟨w4, s1, s2⟩ := loop_set (P := P) k2.rel hg hl3 p2 .exhausted pd
                  have hst : Step B π0 h0 w0 π3 (h2.set H.nx (.loop .exhausted pd r' sz' ps' asg' body' df')) w4 := Step.trans hH0 hs0 (Step.trans hH st1 (Step.trans st1.rel k2 s2))
                  have hSt : St π3 ⟨q.sz, mk ++ q.df, q.rc, q.rd⟩ r { a with defers := mark ++ a.defers } := ⟨(hS.rr.mono st1.ext).mono k2.ext, hS.sz, ((hmk.append hS.df).mono st1.ext).mono k2.ext⟩
                  refine ⟨L.pending, w4, endLoop_run p2 (by rw [p3]; exact hb) (by rw [← s1, ← p4]), ?_⟩
                  rw [p4]
                  cases pd with
                  | none => subst e; exact ⟨.nrm, r, _, ⟨q.sz, mk ++ q.df, q.rc, q.rd⟩, π3, trivial, hSt, ⟨rfl, rfl, rfl⟩, hst, hlk⟩
                  | some c =>
                    simp only at e ⊢
                    cases hco : codeOk q.sz c with
                    | false => rw [hco] at e; subst e; exact hkk.elim
                    | true =>
                      rw [hco, cond_true] at e
                      subst e
                      refine wpIn_mono (hev c r _ ⟨q.sz, mk ++ q.df, q.rc, q.rd⟩ k hkk hco hrc B π3 _ w4 ro m s2.rel hSt ((hro.mono st1.ext).mono k2.ext)) ?_
                      intro e a2 w5 hp
                      exact Post.step (q := q) (q1 := ⟨q.sz, mk ++ q.df, q.rc, q.rd⟩) hH0 hst ⟨rfl, rfl, rfl⟩ hlk hp
                cases st with
                | busy => simp only [hg] at hk; exact hk.elim
                | ready => simp only [hg] at hk hle; exact key (by simp) _ hk hle (by cases pd <;> rfl)
                | done => simp only [hg] at hk hle; exact key (by simp) _ hk hle (by cases pd <;> rfl)
                | exhausted => simp only [hg] at hk hle; exact key (by simp) _ hk hle (by cases pd <;> rfl)
              | _ => simp only [hg] at hk; exact hk.elim
      | _ => simp only [hc] at hk; exact hk.elim
    | _ => simp only [ho] at hk; exact hk.elim
theorem SS.rangeFunc (hcf : CfOk P cf) (hev : EvOk P ev) {f : Operand} {ps : Array Tmp} {asg body : Code} : SS P (.rangeFunc f ps asg body) (rangeS P cf ev f ps asg body) := by
  intro r h q k hok hd hrc B π a w ro m hH hS hro
  refine wpIn_rangeFunc ?_
  intro fn _
  cases hq : q.rd with
  | none =>
    have e1 : rangeS P cf ev f ps asg body r h q k = rangeGo P cf ev f ps.toList asg body r (h.new (.dfr (some []))) q k h.nx [.coll h.nx] := by unfold rangeS; simp only [hq]
    rw [hq] at hro
    cases ro with
    | some _ => exact hro.elim
    | none =>
      have he := piNew_ext (H := h) (hH.fresh (Nat.le_refl h.nx)) w.heap.size 0
      have st1 : Step B π h w (piNew π h.nx w.heap.size 0) (h.new (.dfr (some []))) (w.alloc (.deferred (some []))) := Step.alloc hH _ 0 _ ⟨some [], rfl, .nil⟩
      have hl : piNew π h.nx w.heap.size 0 h.nx = some (w.heap.size, 0) := by simp [piNew]
      obtain ⟨d, f', args, k1, k2, k3⟩ := rangeGo_sound (P := P) (cf := cf) (ev := ev) (f := f) (ps := ps) (asg := asg) (body := body) (k := k) (m := m) (ro := none) hcf hev st1.rel (hS := ⟨hS.rr.mono he, hS.sz, hS.df.mono he⟩) (by rw [hq]; trivial) hrc hl (.cons _ _ _ _ (.coll _ _ _ hl) .nil) fn hH st1 hok (by rw [e1]; exact .refl _) _ rfl
      refine ⟨_, _, _, d, _, f', args, _, ?_, k1, fun _ _ => trivial, k2, fun hx => by simp [Fw, Fence.wide] at hx, k3⟩
      show (Instr.enterLoop fn a.tmps ps asg body none).run P w = _
      unfold Instr.enterLoop
      simp only [Sem.run_bind, newObj, Sem.run, Sem.run_pure, Result.andThen_ok]
      rfl
  | some l =>
    rw [hq] at hro
    cases ro with
    | none => exact hro.elim
    | some c =>
      obtain ⟨z, hl⟩ := hro
      cases hg : h.get l with
      | none => unfold rangeS at hok; simp only [hq, hg] at hok; exact hok.elim
      | some b =>
        cases b with
        | loop st pd r' sz ps' asg' body' df =>
          have e1 : rangeS P cf ev f ps asg body r h q k = rangeGo P cf ev f ps.toList asg body r h q k df [] := by unfold rangeS; simp only [hq, hg]
          obtain ⟨c4, z4, L, z5, p1, p2, p3, p4, p5, p6, p7, p8, p9, p10⟩ := hH.loop hg
          rw [hl] at p1; cases p1
          obtain ⟨d, f', args, k1, k2, k3⟩ := rangeGo_sound (P := P) (cf := cf) (ev := ev) (f := f) (ps := ps) (asg := asg) (body := body) (k := k) (m := m) (ro := some c) hcf hev hH hS (by rw [hq]; exact ⟨z, hl⟩) hrc p10 .nil fn hH (.refl hH) hok (by rw [e1]; exact .refl _) _ rfl
          refine ⟨_, _, _, d, _, f', args, _, ?_, k1, fun _ _ => trivial, k2, fun hx => by simp [Fw, Fence.wide] at hx, k3⟩
          show (Instr.enterLoop fn a.tmps ps asg body (some c)).run P w = _
          unfold Instr.enterLoop
          simp only [Sem.run_bind, run_getLoop p2, newObj, Sem.run, Sem.run_pure, Result.andThen_ok]
          rfl
        | _ => unfold rangeS at hok; simp only [hq, hg] at hok; exact hok.elim
end
end Go.Proofs.YthfenjgelbkloaaGreatDoor.Ev

namespace Go.Proofs.YthfenjgelbkloaaGreatDoor.Ev
open Go Go.RowKit

/-! ### Names -/
section
variable {P : Program} {r r' : T AV} {h h1 h2 : Hp} {v : AV}
theorem opnd_congr {x : Operand} (hx : ∀ t, x = .tmp t → r.get (Pos.of t) = r'.get (Pos.of t)) : opnd r x = opnd r' x := by
  cases x with
  | tmp t => exact hx t rfl
  | _ => rfl
theorem opnds_congr : ∀ {l : List Operand}, (∀ x ∈ l, opnd r x = opnd r' x) → opnds r l = opnds r' l
  | [], _ => rfl
  | x :: l, hl => by
    unfold opnds at *
    rw [opndsL_cons, opndsL_cons]
    unfold opndsS
    have := opnds_congr (l := l) (fun y hy => hl y (by simp [hy]))
    unfold opnds at this
    rw [hl x (by simp), this]
theorem partsA_congr : ∀ {l : List (Nat × Operand)}, (∀ x ∈ l.map (·.2), opnd r x = opnd r' x) → partsA r l = partsA r' l
  | [], _ => rfl
  | (i, x) :: l, hl => by
    unfold partsA
    rw [hl x (by simp), partsA_congr (l := l) (fun y hy => hl y (by simp at hy ⊢; exact .inr hy))]
theorem optA_congr {x : Option Operand} (hx : ∀ y ∈ x, opnd r y = opnd r' y) : optA r x = optA r' x := by
  cases x with
  | none => rfl
  | some y => show Option.map some (opnd r y) = Option.map some (opnd r' y); rw [hx y rfl]
def OAgree (r r' : T AV) (o : Oper) : Prop := ∀ t, Operand.tmp t ∈ o.op.operands → r.get (Pos.of t) = r'.get (Pos.of t)
theorem opA_congr {o : Oper} (ha : OAgree r r' o) : opA P r o h = opA P r' o h := by
  have hx : ∀ x ∈ o.op.operands, opnd r x = opnd r' x := fun x hx => opnd_congr fun t ht => ha t (ht ▸ hx)
  unfold opA
  cases ho : o.op <;> rw [ho] at hx
  case move x => show opMove x P r h = opMove x P r' h; unfold opMove; rw [hx x (by simp [Op.operands])]
  case assign x => show opAssign x P r h = opAssign x P r' h; unfold opAssign; rw [hx x (by simp [Op.operands])]
  case pick c a b => show opPick c a b P r h = opPick c a b P r' h; unfold opPick; rw [hx a (by simp [Op.operands]), hx b (by simp [Op.operands]), hx c (by simp [Op.operands])]
  case alloc e => rfl
  case box e x => show opBox e x P r h = opBox e x P r' h; unfold opBox; rw [hx x (by simp [Op.operands])]
  case build t ps => show opBuild t ps P r h = opBuild t ps P r' h; unfold opBuild; rw [partsA_congr (l := ps.toList) (fun x hm => hx x (by simpa [Op.operands] using hm))]
  case buildSlice t n ps => show opBuildSlice t n ps P r h = opBuildSlice t n ps P r' h; unfold opBuildSlice; rw [partsA_congr (l := ps.toList) (fun x hm => hx x (by simpa [Op.operands] using hm))]
  case insert t m k x => show opInsert t m k x P r h = opInsert t m k x P r' h; unfold opInsert; rw [hx m (by simp [Op.operands]), hx k (by simp [Op.operands]), hx x (by simp [Op.operands])]
  case load t x => show opLoad t x P r h = opLoad t x P r' h; unfold opLoad; rw [hx x (by simp [Op.operands])]
  case store t x y => show opStore t x y P r h = opStore t x y P r' h; unfold opStore; rw [hx x (by simp [Op.operands]), hx y (by simp [Op.operands])]
  case ready g => rfl
  case waits g => rfl
  case nilCheck x => show opNilCheck x P r h = opNilCheck x P r' h; unfold opNilCheck; rw [hx x (by simp [Op.operands])]
  case binOp op t x y u => show opBinOp op t x y u P r h = opBinOp op t x y u P r' h; unfold opBinOp; rw [hx x (by simp [Op.operands]), hx y (by simp [Op.operands])]
  case unOp op t x => show opUnOp op t x P r h = opUnOp op t x P r' h; unfold opUnOp; rw [hx x (by simp [Op.operands])]
  case convert s d x => show opConvert s d x P r h = opConvert s d x P r' h; unfold opConvert; rw [hx x (by simp [Op.operands])]
  case sliceToArrayPointer => rfl
  case makeInterface t x => show opMakeInterface t x P r h = opMakeInterface t x P r' h; unfold opMakeInterface; rw [hx x (by simp [Op.operands])]
  case makeFunc f a c => show opMakeFunc f a c P r h = opMakeFunc f a c P r' h; unfold opMakeFunc; rw [opnds_congr (l := a.toList) (fun x hm => hx x (by simp [Op.operands]; exact .inl (by simpa using hm))), opnds_congr (l := c.toList) (fun x hm => hx x (by simp [Op.operands]; exact .inr (by simpa using hm)))]
  case makeMap t x => show opMakeMap t x P r h = opMakeMap t x P r' h; unfold opMakeMap; rw [optA_congr (x := x) (fun y hm => hx y (by simpa [Op.operands] using hm))]
  case makeChan => rfl
  case makeSlice t l c => show opMakeSlice t l c P r h = opMakeSlice t l c P r' h; unfold opMakeSlice; rw [hx l (by simp [Op.operands]), hx c (by simp [Op.operands])]
  case slice t x l hh m => show opSlice t x l hh m P r h = opSlice t x l hh m P r' h; unfold opSlice; rw [hx x (by simp [Op.operands]), optA_congr (x := l) (fun y hm => hx y (by simp [Op.operands]; simp at hm; simp [hm])), optA_congr (x := hh) (fun y hm => hx y (by simp [Op.operands]; simp at hm; simp [hm])), optA_congr (x := m) (fun y hm => hx y (by simp [Op.operands]; simp at hm; simp [hm]))]
  case fieldAddr t x f => show opFieldAddr t x f P r h = opFieldAddr t x f P r' h; unfold opFieldAddr; rw [hx x (by simp [Op.operands])]
  case field t x f => show opField t x f P r h = opField t x f P r' h; unfold opField; rw [hx x (by simp [Op.operands])]
  case indexAddr t x i => show opIndexAddr t x i P r h = opIndexAddr t x i P r' h; unfold opIndexAddr; rw [hx x (by simp [Op.operands]), hx i (by simp [Op.operands])]
  case index t x i => show opIndex t x i P r h = opIndex t x i P r' h; unfold opIndex; rw [hx x (by simp [Op.operands]), hx i (by simp [Op.operands])]
  case lookup t m k ok => show opLookup t m k ok P r h = opLookup t m k ok P r' h; unfold opLookup; rw [hx m (by simp [Op.operands]), hx k (by simp [Op.operands])]
  case mapUpdate t m k x => show opMapUpdate t m k x P r h = opMapUpdate t m k x P r' h; unfold opMapUpdate; rw [hx m (by simp [Op.operands]), hx k (by simp [Op.operands]), hx x (by simp [Op.operands])]
  case mapEntry => rfl
  case entryStore => rfl
  case range t x => show opRange t x P r h = opRange t x P r' h; unfold opRange; rw [hx x (by simp [Op.operands])]
  case next x s => show opNext x s P r h = opNext x s P r' h; unfold opNext; rw [hx x (by simp [Op.operands])]
  case entry x => show opEntry x P r h = opEntry x P r' h; unfold opEntry; rw [hx x (by simp [Op.operands])]
  case typeAssert x t a ok => show opTypeAssert x t a ok P r h = opTypeAssert x t a ok P r' h; unfold opTypeAssert; rw [hx x (by simp [Op.operands])]
  case extract x i => show opExtract x i P r h = opExtract x i P r' h; unfold opExtract; rw [hx x (by simp [Op.operands])]
  case call c =>
    show opCall c P r h = opCall c P r' h
    have h1 : opnds r c.args.toList = opnds r' c.args.toList := opnds_congr fun x hm => hx x (by simp only [Op.operands, Call.operands, Array.mem_append]; exact .inr (by simpa using hm))
    unfold opCall
    rw [h1]
    cases hc : c.callee with
    | builtin b => rfl
    | value f =>
      have h2 : opnd r f = opnd r' f := hx f (by simp [Op.operands, Call.operands, hc])
      show oo (opnds r' c.args.toList) _ (cValue f P c.argTypes r h) = oo (opnds r' c.args.toList) _ (cValue f P c.argTypes r' h)
      have : cValue f P c.argTypes r h = cValue f P c.argTypes r' h := by funext l; unfold cValue; rw [h2]
      rw [this]
    | invoke f n =>
      have h2 : opnd r f = opnd r' f := hx f (by simp [Op.operands, Call.operands, hc])
      show oo (opnds r' c.args.toList) _ (cInvoke f n P c.argTypes r h) = oo (opnds r' c.args.toList) _ (cInvoke f n P c.argTypes r' h)
      have : cInvoke f n P c.argTypes r h = cInvoke f n P c.argTypes r' h := by funext l; unfold cInvoke; rw [h2]
      rw [this]
  case go => rfl
  case defer c =>
    show opDefer c P r h = opDefer c P r' h
    have h1 : opnds r c.args.toList = opnds r' c.args.toList := opnds_congr fun x hm => hx x (by simp only [Op.operands, Call.operands, Array.mem_append]; exact .inr (by simpa using hm))
    unfold opDefer
    rw [h1]
    cases hc : c.callee with
    | builtin b => rfl
    | invoke f n => rfl
    | value f =>
      have h2 : opnd r f = opnd r' f := hx f (by simp [Op.operands, Call.operands, hc])
      cases opnds r' c.args.toList with
      | none => rfl
      | some l => simp only [h2]
  case panic x => show opPanic x P r h = opPanic x P r' h; unfold opPanic; rw [hx x (by simp [Op.operands])]
  case send => rfl
  case recv => rfl
  case select => rfl

/-! ### Outcomes that lean on their operands alone; on what is known of the heap -/
theorem mkI_eq (k : IntKind) (n : Int) (h : Hp) : mkI k n h = .val (.int k n) h := by
  unfold mkI
  cases n with
  | ofNat n => rw [oi_nat, fN_eq]
  | negSucc n => rfl
theorem wrapI_eq (k : IntKind) (n : Int) (h : Hp) : wrapI k n h = .val (.int k (k.wrap n)) h := by
  unfold wrapI
  cases n with
  | ofNat m =>
    show ob (Nat.blt m (lim k)) _ _ = _
    cases hb : Nat.blt m (lim k) with
    | false => rw [ob_false, mkI_eq]
    | true =>
      rw [ob_true, fN_eq]
      have := lim_wrap k m (by simpa [Nat.blt_eq] using hb)
      show OR.val (.int k (m : Int)) h = .val (.int k (k.wrap (m : Int))) h
      rw [this]
  | negSucc m => show mkI k (k.wrap (.negSucc m)) h = _; rw [mkI_eq]
/-- The heap is passed on; the outcome does not lean on it. -/
def Pure (f : Hp → OR) : Prop := ∀ h v h1, f h = .val v h1 → h1 = h ∧ ∀ h2, f h2 = .val v h2
theorem Pure.val (v : AV) : Pure (fun h => .val v h) := fun h u h1 e => by cases e; exact ⟨rfl, fun _ => rfl⟩
theorem Pure.bad (w : Hp → String) : Pure (fun h => .bad (w h)) := fun h u h1 e => by cases e
theorem Pure.orV (x : Option AV) : Pure (fun h => Ev.orV h x) := by
  cases x with
  | none => exact Pure.bad fun _ => _
  | some v => exact Pure.val v
theorem Pure.oo {α : Type} {x : Option α} {w : String} {k : α → Hp → OR} (hk : ∀ a, x = some a → Pure (k a)) : Pure (fun h => Ev.oo x (.bad w) fun a => k a h) := by
  cases x with
  | none => exact Pure.bad fun _ => _
  | some a => exact hk a rfl
theorem Pure.ob {b : Bool} {f g : Hp → OR} (hf : Pure f) (hg : Pure g) : Pure (fun h => Ev.ob b (f h) (g h)) := by
  cases b with
  | false => exact hf
  | true => exact hg
theorem Pure.mkI (k : IntKind) (n : Int) : Pure (fun h => Ev.mkI k n h) := by
  have : (fun h => Ev.mkI k n h) = fun h => OR.val (.int k n) h := by funext h; rw [mkI_eq]
  rw [this]; exact Pure.val _
theorem Pure.wrapI (k : IntKind) (n : Int) : Pure (fun h => Ev.wrapI k n h) := by
  have : (fun h => Ev.wrapI k n h) = fun h => OR.val (.int k (k.wrap n)) h := by funext h; rw [wrapI_eq]
  rw [this]; exact Pure.val _
theorem Pure.intOp (op : BinOp) (k : IntKind) (a b : Int) : Pure (fun h => Ev.intOp op k a b h) := by
  cases op
  case quo => exact Pure.ob (Pure.wrapI _ _) (Pure.bad fun _ => _)
  case rem => exact Pure.ob (Pure.mkI _ _) (Pure.bad fun _ => _)
  all_goals first | exact Pure.wrapI _ _ | exact Pure.mkI _ _ | exact Pure.val _ | exact Pure.bad fun _ => _
theorem Pure.shiftOp (op : BinOp) (k : IntKind) (a b : Int) : Pure (fun h => Ev.shiftOp op k a b h) := by
  cases b with
  | negSucc m => exact Pure.bad fun _ => _
  | ofNat m => cases op <;> first | exact Pure.mkI _ _ | exact Pure.bad fun _ => _
theorem Pure.strOp (op : BinOp) (n v m u : Nat) : Pure (fun h => Ev.strOp op n v m u h) := by
  cases op
  case add =>
    show Pure fun h => bif Nat.blt (n + m) big63 then OR.val (.str (n + m) (v * 256 ^ m + u)) h else .bad "long text"
    cases Nat.blt (n + m) big63
    · exact Pure.bad fun _ => _
    · exact Pure.val _
  all_goals first | exact Pure.val _ | exact Pure.bad fun _ => _
/-- The same, over what is known. -/
def Hle (h h2 : Hp) : Prop := ∀ b x, h.get b = some x → h2.get b = some x
def Mono (f : Hp → OR) : Prop := ∀ h v h1, f h = .val v h1 → h1 = h ∧ ∀ h2, Hle h h2 → f h2 = .val v h2
theorem Pure.mono {f : Hp → OR} (hf : Pure f) : Mono f := fun h v h1 e => ⟨(hf h v h1 e).1, fun h2 _ => (hf h v h1 e).2 h2⟩
theorem Mono.orV {x : Hp → Option AV} (hx : ∀ h h2 v, Hle h h2 → x h = some v → x h2 = some v) : Mono (fun h => Ev.orV h (x h)) := by
  intro h v h1 e
  have e : Ev.orV h (x h) = .val v h1 := e
  obtain ⟨e1, e2⟩ := orV_val e
  refine ⟨e2, fun h2 hl => ?_⟩
  show Ev.orV h2 (x h2) = _
  rw [hx h h2 v hl e1]; rfl
theorem Mono.oo {α : Type} {x : Option α} {w : String} {k : α → Hp → OR} (hk : ∀ a, x = some a → Mono (k a)) : Mono (fun h => Ev.oo x (.bad w) fun a => k a h) := by
  cases x with
  | none => exact (Pure.bad fun _ => _).mono
  | some a => exact hk a rfl
theorem Mono.ob {b : Bool} {f g : Hp → OR} (hf : Mono f) (hg : Mono g) : Mono (fun h => Ev.ob b (f h) (g h)) := by
  cases b with
  | false => exact hf
  | true => exact hg
variable {P : Program}
theorem load_mono {t : TypeId} {a : AV} (h h2 : Hp) (v : AV) (hl : Hle h h2) (e : load P t a h = some v) : load P t a h2 = some v := by
  unfold load at e ⊢
  obtain ⟨b, o, rfl, e⟩ := avPtr_eqO e
  obtain ⟨k, e1, e2⟩ := oo_eq e
  show oo (h2.get b) none _ = _
  rw [hl _ _ e1]; exact e2
theorem andO_some {a : Option Bool} {b : Unit → Option Bool} {r : Bool} (h : andO a b = some r) : (a = some false ∧ r = false) ∨ (a = some true ∧ b () = some r) := by
  unfold andO at h
  split at h
  · exact .inr ⟨rfl, h⟩
  · rename_i hne
    cases a with
    | none => cases h
    | some x => cases x with
      | true => exact absurd rfl hne
      | false => cases h; exact .inl ⟨rfl, rfl⟩
theorem eqF_mono {eq eq' : TypeId → AV → AV → Option Bool} (he : ∀ t x y r, eq t x y = some r → eq' t x y = some r) (xs ys : List AV) : ∀ (fs : List Field) (r : Bool), eqF eq P xs ys fs = some r → eqF eq' P xs ys fs = some r
  | [], r, h => h
  | f :: fs, r, h => by
    unfold eqF at h ⊢
    cases hn : f.name == "_" with
    | true => rw [hn, cond_true] at h; rw [cond_true]; exact eqF_mono he xs ys fs r h
    | false =>
      rw [hn, cond_false] at h; rw [cond_false]
      split at h
      · rename_i x y h1 h2
        show andO (eq' f.type x y) _ = _
        rcases andO_some h with ⟨a, rfl⟩ | ⟨a, b⟩
        · rw [he _ _ _ _ a]; rfl
        · rw [he _ _ _ _ a]; exact eqF_mono he xs ys fs r b
      · cases h
theorem eqA_mono {h h2 : Hp} (hl : Hle h h2) : ∀ (d : Nat) (t : TypeId) (x y : AV) (r : Bool), eqA P h d t x y = some r → eqA P h2 d t x y = some r
  | 0, t, x, y, r, e => by unfold eqA at e; cases e
  | d + 1, t, x, y, r, e => by
    unfold eqA at e ⊢
    split at e
    all_goals first | exact e | skip
    · -- two pointers
      rename_i ee a i b j hu
      split at e
      · rename_i g s ht
        cases hb : Nat.beq a b with
        | true => rw [hb, cond_true] at e; simp only [cond_true]; exact e
        | false =>
          rw [hb, cond_false] at e
          simp only [cond_false]
          split at e
          · rename_i n lo hi m lo' hi' h1 h2'
            rw [hl _ _ h1, hl _ _ h2']
            exact e
          · cases e
      · cases e
    · rename_i tt v u w hu
      cases hb : Nat.beq tt u with
      | false => rw [hb] at e; exact e
      | true =>
        rw [hb, cond_true] at e
        rw [cond_true]
        split at e
        · rename_i inf hi
          cases hc : inf.comparable with
          | false => rw [hc, cond_false] at e; cases e
          | true => rw [hc, cond_true] at e; rw [cond_true]; exact eqA_mono hl d _ _ _ _ e
        · cases e
    · rename_i fs xs ys hu
      cases hb : P.stoodInHeld t with
      | true => rw [hb, cond_true] at e; cases e
      | false => rw [hb, cond_false] at e; rw [cond_false]; exact eqF_mono (fun t x y r => eqA_mono hl d t x y r) xs ys _ _ e

theorem Pure.eqOr (x : Option Bool) (n : Bool) : Pure (fun h => Ev.eqOr x n h) := by
  cases x with
  | none => exact Pure.bad fun _ => _
  | some b => exact Pure.val _
theorem Mono.eqOr {x : Hp → Option Bool} (hx : ∀ h h2 r, Hle h h2 → x h = some r → x h2 = some r) (n : Bool) : Mono (fun h => Ev.eqOr (x h) n h) := by
  intro h v h1 e
  have e : Ev.eqOr (x h) n h = .val v h1 := e
  show h1 = h ∧ ∀ h2, Hle h h2 → Ev.eqOr (x h2) n h2 = .val v h2
  cases hxh : x h with
  | none => rw [hxh] at e; cases e
  | some r =>
    rw [hxh] at e
    cases e
    exact ⟨rfl, fun h2 hl => by rw [hx h h2 r hl hxh]; rfl⟩
theorem Mono.binA (op : BinOp) (t : TypeId) (a b : AV) : Mono (fun h => Ev.binA P op t a b h) := by
  have eqm : ∀ n, Mono (fun h => Ev.eqOr (eqA P h 20 t a b) n h) := fun n => Mono.eqOr (x := fun h => eqA P h 20 t a b) (fun h h2 r hl e => eqA_mono hl 20 t a b r e) n
  have hS : Mono (fun h => binS op P t a b h) := by
    cases a with
    | str n v =>
      show Mono fun h => avStr b (.bad "text operator") fun m u => strOp op n v m u h
      cases b with
      | str m u => exact (Pure.strOp op n v m u).mono
      | _ => exact (Pure.bad fun _ => _).mono
    | _ => cases op <;> first | exact eqm _ | exact (Pure.bad fun _ => _).mono
  cases a with
  | int k x =>
    show Mono fun h => avInt b (.bad "operator") fun k' y => Ev.ob (isShift op) (Ev.ob (kEq k k') (.bad "kinds") (intOp op k x y h)) (shiftOp op k x y h)
    cases b with
    | int k' y => exact (Pure.ob (Pure.ob (Pure.bad fun _ => _) (Pure.intOp op k x y)) (Pure.shiftOp op k x y)).mono
    | _ => exact (Pure.bad fun _ => _).mono
  | _ => exact hS
theorem fits_mono {h h2 : Hp} (hl : Hle h h2) {b n : Nat} (e : fits h b n = true) : fits h2 b n = true := by
  unfold fits at e ⊢
  split at e
  · rename_i k _ _ _ _ hb; rw [hl _ _ hb]; exact e
  · cases e
theorem sliceA_mono {h h2 : Hp} (hl : Hle h h2) {t : TypeId} {x : AV} {l hh m : Option AV} {v : AV} (e : sliceA P t x l hh m h = some v) : sliceA P t x l hh m h2 = some v := by
  unfold sliceA at e ⊢
  obtain ⟨e1, e2⟩ := ob_eq e
  rw [e1, ob_true]
  split at e2
  all_goals first | exact e2 | skip
  · rename_i hu
    split at e2
    · rename_i g s ht
      cases hb : fits h _ _ && Nat.blt _ big63 with
      | false => rw [hb] at e2; cases e2
      | true =>
        rw [hb] at e2
        rw [Bool.and_eq_true] at hb
        rw [fits_mono hl hb.1, hb.2]
        exact e2
    · cases e2
  · rename_i hu
    split at e2
    · rename_i hu2
      split at e2
      · rename_i g s ht
        cases hb : fits h _ _ && Nat.blt _ big63 with
        | false => rw [hb] at e2; cases e2
        | true =>
          rw [hb] at e2
          rw [Bool.and_eq_true] at hb
          rw [fits_mono hl hb.1, hb.2]
          exact e2
      · cases e2
    · cases e2
end
end Go.Proofs.YthfenjgelbkloaaGreatDoor.Ev

namespace Go.Proofs.YthfenjgelbkloaaGreatDoor.Ev
open Go Go.RowKit

section
variable {P : Program} {r : T AV}
theorem Pure.matchV (x : Option AV) (w : String) : Pure (fun h => match x with | some v => OR.val v h | none => .bad w) := by
  cases x with
  | none => exact Pure.bad fun _ => _
  | some v => exact Pure.val v
theorem cls0 {o : Oper} (hc : cls P o.op = 0) : Pure (fun h => opA P r o h) := by
  have hA : ∀ op', o.op = op' → (fun h => opA P r o h) = fun h => opA P r { o with op := op' } h := fun op' e => by subst e; rfl
  cases ho : o.op <;> rw [ho] at hc <;> rw [hA _ ho]
  case move x => exact Pure.orV _
  case assign x => exact Pure.orV _
  case pick c a b =>
    refine Pure.oo fun c' _ => ?_
    cases c' with
    | bool b' => exact Pure.orV _
    | _ => exact Pure.bad fun _ => _
  case build t ps =>
    show Pure fun h => opBuild t ps P r h
    unfold opBuild
    generalize partsA r ps.toList = x
    cases x with
    | none => exact Pure.bad fun _ => _
    | some l => exact Pure.matchV _ _
  case nilCheck x =>
    refine Pure.oo fun c' _ => ?_
    cases c' with
    | ptr b o => exact Pure.val _
    | fn f a c => exact Pure.val _
    | _ => exact Pure.bad fun _ => _
  case unOp op t x =>
    refine Pure.oo fun a _ => ?_
    cases op with
    | neg =>
      show Pure fun h => uNeg a h
      cases a with
      | int k n => exact Pure.wrapI _ _
      | _ => exact Pure.bad fun _ => _
    | not =>
      show Pure fun h => uNot a h
      cases a with
      | bool b => exact Pure.val _
      | _ => exact Pure.bad fun _ => _
    | _ => exact Pure.bad fun _ => _
  case makeInterface t x =>
    show Pure fun h => opMakeInterface t x P r h
    unfold opMakeInterface
    generalize opnd r x = y
    generalize P.underlying t = u
    cases y with
    | none => exact Pure.bad fun _ => _
    | some y =>
      cases u with
      | none => exact Pure.bad fun _ => _
      | some u => cases u <;> first | exact Pure.val _ | exact Pure.bad fun _ => _
  case makeFunc f a c =>
    show Pure fun h => opMakeFunc f a c P r h
    unfold opMakeFunc
    generalize opnds r a.toList = x
    generalize opnds r c.toList = y
    cases f <;> cases x <;> cases y <;> first | exact Pure.val _ | exact Pure.bad fun _ => _
  case slice t x l hh m =>
    have hs : isSlS P t = true := by
      cases hb : isSlS P t with
      | true => rfl
      | false =>
        have hc : Ev.ob (isSlS P t) 1 0 = 0 := hc
        rw [hb] at hc
        exact absurd hc (by decide)
    show Pure fun h => opSlice t x l hh m P r h
    unfold opSlice
    generalize opnd r x = y
    generalize optA r l = l'
    generalize optA r hh = h'
    generalize optA r m = m'
    cases y <;> cases l' <;> cases h' <;> cases m' <;> first | exact (Pure.bad fun _ => _) | skip
    rename_i y l' h' m'
    have hind : ∀ h h2, sliceA P t y l' h' m' h = sliceA P t y l' h' m' h2 := by
      intro h h2
      unfold isSlS at hs
      unfold sliceA
      split at hs
      · rename_i hu; simp only [hu]; cases y <;> cases m' <;> rfl
      · rename_i hu; simp only [hu]; cases y <;> cases m' <;> rfl
      · cases hs
    intro h v h1 e
    simp only at e
    cases hv : sliceA P t y l' h' m' h with
    | none => rw [hv] at e; cases e
    | some u =>
      rw [hv] at e
      cases e
      refine ⟨rfl, fun h2 => ?_⟩
      simp only
      rw [hind h2 h, hv]
  case fieldAddr t x f => exact Pure.oo fun _ _ => Pure.orV _
  case field t x f =>
    show Pure fun h => opField t x f P r h
    unfold opField
    generalize opnd r x = y
    generalize fieldOf P t f = z
    cases y with
    | none => exact Pure.bad fun _ => _
    | some y => cases y <;> cases z <;> first | exact Pure.bad fun _ => _ | exact Pure.matchV _ _
  case indexAddr t x i => exact Pure.oo fun _ _ => Pure.oo fun _ _ => Pure.orV _
  case index t x i => exact Pure.oo fun _ _ => Pure.oo fun _ _ => Pure.orV _
  case typeAssert x t a ok =>
    show Pure fun h => opTypeAssert x t a ok P r h
    unfold opTypeAssert
    generalize opnd r x = y
    generalize P.underlying a = u
    generalize zeroA P a = z
    have hz : ∀ (k : AV → AV), Pure (fun h => match z with | some z => OR.val (k z) h | none => .bad "typeAssert") := fun k => by
      cases z with
      | none => exact Pure.bad fun _ => _
      | some z => exact Pure.val _
    have hnil : Pure (fun h => bif ok then (match (generalizing := false) z with | some z => OR.val (.tup [z, .bool false]) h | none => .bad "typeAssert") else .bad "typeAssert") := by
      cases ok
      · exact Pure.bad fun _ => _
      · exact hz _
    have hifc : ∀ tt vv, Pure (fun h => bif Nat.beq tt a then OR.val (bif ok then .tup [vv, .bool true] else vv) h else bif ok then (match (generalizing := false) z with | some z => OR.val (.tup [z, .bool false]) h | none => .bad "typeAssert") else .bad "typeAssert") := by
      intro tt vv
      cases Nat.beq tt a
      · exact hnil
      · exact Pure.val _
    cases y with
    | none => exact Pure.bad fun _ => _
    | some y =>
      cases u with
      | none => cases y <;> exact Pure.bad fun _ => _
      | some u => cases y <;> cases u <;> first | exact Pure.bad fun _ => _ | exact hifc _ _ | exact hnil
  case extract x i =>
    refine Pure.oo fun a _ => ?_
    cases a with
    | tup l => exact Pure.orV _
    | _ => exact Pure.bad fun _ => _
  case call c =>
    exfalso
    have hc : clsC c = 0 := hc
    unfold clsC at hc
    split at hc
    · split at hc <;> exact absurd hc (by decide)
    · exact absurd hc (by decide)
  all_goals first | exact absurd (show (3 : Nat) = 0 from hc) (by decide) | exact absurd (show (2 : Nat) = 0 from hc) (by decide) | exact absurd (show (1 : Nat) = 0 from hc) (by decide)
theorem findK_mono {eq eq' : AV → AV → Option Bool} (he : ∀ x y r, eq x y = some r → eq' x y = some r) (k : AV) : ∀ (es : List (AV × AV)) (x : Option AV), findK eq k es = some x → findK eq' k es = some x
  | [], x, e => e
  | (k', v) :: es, x, e => by
    unfold findK at e ⊢
    cases h1 : eq k k' with
    | none => rw [h1] at e; cases e
    | some q =>
      rw [h1] at e
      rw [he _ _ _ h1]
      cases q with
      | true =>
        simp only at e ⊢
        split at e
        · rename_i h2
          rw [findK_mono he k es none h2]; exact e
        · cases e
      | false => exact findK_mono he k es x e
theorem findE_mono {h h2 : Hp} (hl : Hle h h2) {kt : TypeId} {k : AV} {es : List (AV × AV)} {x : Option AV} (e : findE P h kt k es = some x) : findE P h2 kt k es = some x := by
  unfold findE at e ⊢
  obtain ⟨e1, e2⟩ := ob_eq e
  rw [e1, ob_true]
  exact findK_mono (fun x y r => eqA_mono hl 20 kt x y r) k es x e2
theorem lookupA_mono {h h2 : Hp} (hl : Hle h h2) {t : TypeId} {m k : AV} {ok : Bool} {v : AV} (e : lookupA P t m k ok h = some v) : lookupA P t m k ok h2 = some v := by
  have key : ∀ kt vt es, (match findE P h kt k es with
      | some (some v) => some (bif ok then AV.tup [v, .bool true] else v)
      | some none => match zeroA P vt with
        | some z => some (bif ok then AV.tup [z, .bool false] else z)
        | none => none
      | none => none) = some v → (match findE P h2 kt k es with
      | some (some v) => some (bif ok then AV.tup [v, .bool true] else v)
      | some none => match zeroA P vt with
        | some z => some (bif ok then AV.tup [z, .bool false] else z)
        | none => none
      | none => none) = some v := by
    intro kt vt es e
    cases hf : findE P h kt k es with
    | none => rw [hf] at e; cases e
    | some x => rw [hf] at e; rw [findE_mono hl hf]; exact e
  unfold lookupA at e ⊢
  cases hm : mapKV P t with
  | none => rw [hm] at e; cases e
  | some p =>
    obtain ⟨kt, vt⟩ := p
    rw [hm] at e
    simp only at e ⊢
    cases m with
    | nilm => exact key kt vt [] e
    | map b =>
      simp only at e ⊢
      cases hb : h.get b with
      | none => rw [hb] at e; cases e
      | some x =>
        rw [hb] at e
        rw [hl _ _ hb]
        cases x with
        | map es c => exact key kt vt es e
        | _ => exact e
    | _ => exact e
theorem lenA_mono {h h2 : Hp} (hl : Hle h h2) {t : TypeId} {x : AV} {n : Nat} (e : lenA P t x h = some n) : lenA P t x h2 = some n := by
  unfold lenA at e ⊢
  generalize lenT P t = lt at e ⊢
  cases lt with
  | str => exact e
  | sl => exact e
  | other =>
    have e : lenO P t x h = some n := e
    show lenO P t x h2 = some n
    unfold lenO at e ⊢
    split at e
    all_goals first | exact e | skip
    split at e
    · rename_i hb; simp only [hl _ _ hb]; exact e
    · cases e
theorem cls1 {o : Oper} (hc : cls P o.op = 1) : Mono (fun h => opA P r o h) := by
  have hA : ∀ op', o.op = op' → (fun h => opA P r o h) = fun h => opA P r { o with op := op' } h := fun op' e => by subst e; rfl
  cases ho : o.op <;> rw [ho] at hc <;> rw [hA _ ho]
  case load t a => exact Mono.oo fun _ _ => Mono.orV (fun h h2 v hl e => load_mono h h2 v hl e)
  case binOp op t x y u => exact Mono.oo fun a _ => Mono.oo fun b _ => Mono.ob (Pure.bad fun _ => _).mono (Mono.binA op t a b)
  case slice t x l hh m =>
    show Mono fun h => opSlice t x l hh m P r h
    unfold opSlice
    generalize opnd r x = y
    generalize optA r l = l'
    generalize optA r hh = h'
    generalize optA r m = m'
    cases y <;> cases l' <;> cases h' <;> cases m' <;> first | exact (Pure.bad fun _ => _).mono | skip
    rename_i y l' h' m'
    intro h v h1 e
    simp only at e
    cases hv : sliceA P t y l' h' m' h with
    | none => rw [hv] at e; cases e
    | some u =>
      rw [hv] at e
      cases e
      refine ⟨rfl, fun h2 hl => ?_⟩
      simp only
      rw [sliceA_mono hl hv]
  case lookup t m k ok =>
    show Mono fun h => opLookup t m k ok P r h
    unfold opLookup
    generalize opnd r m = m'
    generalize opnd r k = k'
    cases m' <;> cases k' <;> first | exact (Pure.bad fun _ => _).mono | skip
    rename_i m' k'
    intro h v h1 e
    simp only at e
    cases hv : lookupA P t m' k' ok h with
    | none => rw [hv] at e; cases e
    | some u =>
      rw [hv] at e
      cases e
      refine ⟨rfl, fun h2 hl => ?_⟩
      simp only
      rw [lookupA_mono hl hv]
  case call c =>
    have hc : clsC c = 1 := hc
    refine Mono.oo (w := "call: arguments") (k := fun args h => _) fun args _ => ?_
    unfold clsC at hc
    cases hcc : c.callee with
    | value f => rw [hcc] at hc; exact absurd (show (3 : Nat) = 1 from hc) (by decide)
    | invoke f n => rw [hcc] at hc; exact absurd (show (3 : Nat) = 1 from hc) (by decide)
    | builtin b =>
      rw [hcc] at hc
      show Mono fun h => builtinA P b c.argTypes args h
      cases b <;> first | exact absurd (show (3 : Nat) = 1 from hc) (by decide) | skip
      case len =>
        show Mono fun h => lenB P c.argTypes args h
        refine Mono.oo fun t _ => Mono.oo fun x _ => ?_
        intro h v h1 e
        have e : Ev.oo (lenA P t x h) (.bad "len") (fun n => fN n fun n => OR.val (.int .i64 (.ofNat n)) h) = .val v h1 := e
        show h1 = h ∧ ∀ h2, Hle h h2 → Ev.oo (lenA P t x h2) (.bad "len") (fun n => fN n fun n => OR.val (.int .i64 (.ofNat n)) h2) = .val v h2
        obtain ⟨n, e1, e2⟩ := oo_val e (by simp)
        rw [fN_eq] at e2
        cases e2
        refine ⟨rfl, fun h2 hl => ?_⟩
        rw [lenA_mono hl e1, oo_some, fN_eq]
      case cap =>
        show Mono fun h => builtinB P .cap c.argTypes args h
        refine Pure.mono ?_
        unfold builtinB
        simp only
        generalize c.argTypes[0]? = t
        cases t with
        | none => exact Pure.bad fun _ => _
        | some t =>
          cases args with
          | nil => exact Pure.bad fun _ => _
          | cons x l =>
            cases x <;> first | exact Pure.bad fun _ => _ | skip
            all_goals simp only
            all_goals generalize P.underlying t = u
            all_goals cases u <;> first | exact Pure.bad fun _ => _ | skip
            all_goals
              rename_i u
              cases u <;> first | exact Pure.bad fun _ => _ | exact Pure.val _ | skip
            simp only
            rename_i ex _ _
            first | exact Pure.val _ | (cases ‹Bool› <;> first | exact Pure.bad fun _ => _ | exact Pure.val _)
      case max =>
        show Mono fun h => builtinB P .max c.argTypes args h
        refine Pure.mono ?_
        unfold builtinB
        simp only
        cases args with
        | nil => exact Pure.bad fun _ => _
        | cons x l => exact Pure.matchV _ _
      case min =>
        show Mono fun h => builtinB P .min c.argTypes args h
        refine Pure.mono ?_
        unfold builtinB
        simp only
        cases args with
        | nil => exact Pure.bad fun _ => _
        | cons x l => exact Pure.matchV _ _
  all_goals first | exact absurd (show (3 : Nat) = 1 from hc) (by decide) | exact absurd (show (2 : Nat) = 1 from hc) (by decide) | exact absurd (show (0 : Nat) = 1 from hc) (by decide)
end
end Go.Proofs.YthfenjgelbkloaaGreatDoor.Ev

namespace Go.Proofs.YthfenjgelbkloaaGreatDoor.Ev
open Go Go.RowKit

section
/-- An operation makes one block, with number b. -/
def AR (P : Program) (π : Pi) (w : World) (b : Nat) (x : Blk) (v : AV) (s : Sem Value) : Prop :=
  ∃ (o : Obj) (z : Nat) (cv : Value), s.run P w = .ok cv (w.alloc o) ∧ (∀ w', BR π w' x z o) ∧ x.wr = true ∧ x.sib = [] ∧ ∀ π', PExt π π' → π' b = some (w.heap.size, z) → VR π' v cv
variable {P : Program} {B : Nat} {π : Pi} {H H' H0 : Hp} {w : World} {r : T AV} {a : Act} {v : AV}
theorem AR.oval (hH : HRel π B H w) {x : Blk} {s : Sem Value} (h : AR P π w H.nx x v s) : OVal P (do let y ← s; pure (.value y)) B π H w v (H.new x) := by
  obtain ⟨o, z, cv, h1, h2, _, _, h3⟩ := h
  have he := piNew_ext (H := H) (hH.fresh (Nat.le_refl _)) w.heap.size z
  exact OVal.mk h1 (h3 _ he (by simp [piNew])) (Step.alloc hH x z o ((h2 w).on he (fun c hc => Evo.of_eq (Below.heap_alloc _ _ _ hc)) (fun b p hp => (hH.dom b p hp).2)))
theorem row_AR (P : Program) {e : Nat} {l : List AV} {vs : List Value} (h : VRs π l vs) (hc : l.all AV.isCell = true) :
    (newRow e vs.toArray).run P w = .ok ⟨w.heap.size, 0, none⟩ (w.alloc (.cells vs.toArray e)) ∧ ∀ w', BR π w' (rowV e l) vs.length (.cells vs.toArray e) := by
  refine ⟨by simp [newRow], fun w' => ?_⟩
  have := BR_row (π := π) (w := w') (e := e) (n := l.length) (lo := 0) (hi := 0) (wr := true) (sib := []) (l := l.map some) (arr := vs.toArray) (by simp [h.length])
    (fun j v _ hj => by
      simp at hj
      obtain ⟨cv, a, b⟩ := h.get hj
      exact ⟨cv, by simpa using a, b⟩) (by simpa using isCell_one h hc) (0, 0) (fun _ => ⟨Nat.le_refl _, fun j a b => by omega⟩)
  unfold rowV row
  rw [List.length_map]
  simpa using this
theorem alloc_AR {e : TypeId} (h : opAlloc e P r H = .val v H') : ∃ x, H' = H.new x ∧ AR P π w H.nx x v (Instr.alloc e true (.tuple #[])) := by
  obtain ⟨l, h1, h2⟩ := oo_val h (by simp [orB])
  rw [fN_eq] at h2; cases h2
  obtain ⟨z, cz, s, g, _, _, _, _, hc, hz, _, hl⟩ := zeroC_run (P := P) (π := π) (w := w) h1
  obtain ⟨k1, k2⟩ := row_AR P (w := w) (e := e) hl hc
  refine ⟨rowV e l, rfl, .cells cz.cells.toList.toArray e, cz.cells.toList.length, .pointer (some ⟨w.heap.size, 0, none⟩), ?_, k2, rfl, rfl, fun π' _ hp => .ptr _ _ _ _ hp⟩
  unfold Instr.alloc
  rw [Sem.run_bind, hz, Result.andThen_ok]
  simp only [newVar, Sem.run_bind]
  rw [show cz.cells = cz.cells.toList.toArray by simp, k1]; rfl
theorem box_AR (hH : HRel π B H0 w) (hR : RR π r a.tmps) {e : TypeId} {x : Operand} (h : opBox e x P r H = .val v H') : ∃ y, H' = H.new y ∧ AR P π w H.nx y v (Instr.box e (a.eval x)) := by
  obtain ⟨u, h1, h2⟩ := oo_val h (by simp [orB])
  obtain ⟨h3, h4⟩ := ob_val h2 (by simp [orB])
  rw [fN_eq] at h4; cases h4
  obtain ⟨k1, k2⟩ := row_AR P (w := w) (e := e) (opnd_sound hH hR h1).cells h3
  refine ⟨_, rfl, .cells (a.eval x).cells.toList.toArray e, (a.eval x).cells.toList.length, .pointer (some ⟨w.heap.size, 0, none⟩), ?_, k2, rfl, rfl, fun π' _ hp => .ptr _ _ _ _ hp⟩
  simp only [Instr.box, newVar, Sem.run_bind]
  rw [show (a.eval x).cells = (a.eval x).cells.toList.toArray by simp, k1]; rfl
theorem buildSlice_AR (hH : HRel π B H0 w) (hR : RR π r a.tmps) {t : TypeId} {n : Nat} {ps : Array (Nat × Operand)} (h : opBuildSlice t n ps P r H = .val v H') :
    ∃ x, H' = H.new x ∧ AR P π w H.nx x v (Instr.buildSlice t n (ps.map fun (i, x) => (i, a.eval x))) := by
  obtain ⟨e, h1, h⟩ := oo_val h (by simp [orB])
  obtain ⟨l, h2, h⟩ := oo_val h (by simp [orB])
  obtain ⟨⟨g, s⟩, h3, h⟩ := oo_val h (by simp [orB])
  obtain ⟨z, h4, h⟩ := oo_val h (by simp [orB])
  obtain ⟨h5, h⟩ := ob_val h (by simp [orB])
  obtain ⟨cs, h6, h⟩ := oo_val h (by simp [orB])
  obtain ⟨h7, h⟩ := ob_val h (by simp [orB])
  rw [fN_eq] at h; cases h
  have hps := partsA_sound hH hR h2
  obtain ⟨za, cz, s', g', _, _, hs', hzl, hzc, hz, _, hzr⟩ := zeroC_run (P := P) (π := π) (w := w) h4
  rw [h3] at hs'; cases hs'
  have h5 : n < 16777216 ∧ n * s < 16777216 := by simpa [Nat.blt_eq, maxNeed] using h5
  obtain ⟨h50, h5⟩ := h5
  have hczs : cz.cells.size = s := by rw [← hzl, hzr.length]; simp
  -- the row's cells ahead of the parts
  have hrow : ∃ zr : Array Value, (n * s = 0 ∧ zr = #[] ∨ n * s ≠ 0 ∧ zr = cz.cells) ∧ VRs π (repl z n) ((List.range (n * s)).map fun i => zr[i % zr.size]!) := by
    by_cases h0 : n * s = 0
    · refine ⟨#[], .inl ⟨h0, rfl⟩, ?_⟩
      rw [h0]
      have : repl z n = [] := by
        rcases Nat.mul_eq_zero.1 h0 with rfl | h0
        · rfl
        · have : z = [] := List.length_eq_zero_iff.1 (by rw [hzl]; exact h0)
          subst this
          exact repl_nil n
      rw [this]; exact .nil
    · refine ⟨cz.cells, .inr ⟨h0, rfl⟩, ?_⟩
      have := repl_range z cz.cells n hzr (by rw [hzl]; rcases Nat.eq_zero_or_pos s with k | k; exact absurd (by rw [k]; simp) h0; exact k)
      rwa [hczs] at this ⊢
  obtain ⟨zr, hz1, hz2⟩ := hrow
  obtain ⟨cs', k1, k2⟩ := fill_sound (π := π) (pl := fun i => some (i * s, s)) (pl' := fun i => some (i * s, s)) (fun i p hp => hp) (cs := (Array.range (n * s)).map (zr[· % zr.size]!)) (qs := (ps.map fun (i, x) => (i, a.eval x)).toList) (by simpa using hps) (by simpa using hz2) h6
  obtain ⟨m1, m2⟩ := row_AR P (w := w) (e := e) k2 h7
  have hlen : cs'.toList.length = n * s := by
    have : ∀ (qs : List (Nat × Value)) (c c' : Array Value), Instr.fill (fun i => some (i * s, s)) c qs = some c' → c'.size = c.size := by
      intro qs
      induction qs with
      | nil => intro c c' hc; cases hc; rfl
      | cons q qs ih =>
        intro c c' hc
        obtain ⟨i, v⟩ := q
        unfold Instr.fill at hc
        simp only at hc
        split at hc
        · cases hc
        · rw [ih _ _ hc]
          have : ∀ (us : List (Value × Nat)) (off : Nat) (c : Array Value), (us.foldl (fun cs (x : Value × Nat) => cs.setIfInBounds (off + x.2) x.1) c).size = c.size := by
            intro us
            induction us with
            | nil => intro off c; rfl
            | cons u us ih => intro off c; rw [List.foldl_cons, ih]; simp
          rw [← Array.foldl_toList]
          exact this _ _ _
    have h9 := this _ _ _ k1
    rw [Array.length_toList, h9]; simp
  refine ⟨rowV e cs, rfl, .cells cs'.toList.toArray e, n * s, .slice (some ⟨w.heap.size, 0, none⟩) n n, ?_, fun w' => by rw [← hlen]; exact m2 w', rfl, rfl, fun π' _ hp => .sl _ _ _ _ _ _ w.heap.size (n * s) n hp (Nat.le_refl _) (Nat.le_refl _) (fun _ => rfl) (by simp) (by unfold big63; omega)⟩
  unfold Instr.buildSlice
  simp only [Sem.run_bind, run_underlying (elemSl_eq h1), Result.andThen_ok, tAgg_size h3]
  rw [if_neg (by omega)]
  have k1' : Instr.fill (fun i => some (i * s, s)) ((Array.range (n * s)).map fun x => zr[x % zr.size]!) (Array.map (fun x => (x.fst, a.eval x.snd)) ps).toList = some cs' := k1
  have m1' : Sem.run P (newRow e cs') w = Result.ok ⟨w.heap.size, 0, none⟩ (w.alloc (Obj.cells cs'.toList.toArray e)) := by rw [← m1]
  rcases hz1 with ⟨h0, rfl⟩ | ⟨h0, rfl⟩
  · rw [if_pos h0]
    simp only [Sem.run_bind, Sem.run_pure, Result.andThen_ok]
    rw [k1']
    simp only [Sem.run_bind, m1', Result.andThen_ok, Sem.run_pure]
  · rw [if_neg h0]
    simp only [Sem.run_bind, hz, Sem.run_pure, Result.andThen_ok]
    rw [k1']
    simp only [Sem.run_bind, m1', Result.andThen_ok, Sem.run_pure]

theorem makeMap_AR {t : TypeId} {x : Option Operand} (hH : HRel π B H0 w) (hR : RR π r a.tmps) (h : opMakeMap t x P r H = .val v H') : ∃ y, H' = H.new y ∧ AR P π w H.nx y v (Instr.makeMap t (x.map a.eval)) := by
  unfold opMakeMap at h
  have fin : ∀ s : Sem Value, s.run P w = .ok (.map (some w.heap.size)) (w.alloc (.map #[] 0)) → AR P π w H.nx (.map [] 0) (.map H.nx) s := fun s hs =>
    ⟨.map #[] 0, 0, .map (some w.heap.size), hs, fun _ => ⟨#[], [], rfl, .refl _, .nil, .nil, fun e he => (by cases he), fun e he => (by cases he), .nil⟩, rfl, rfl, fun π' _ hp => .map _ _ _ hp⟩
  split at h
  · rename_i k e hu hx
    cases h
    refine ⟨_, rfl, fin _ ?_⟩
    have : x = none := by
      cases x with
      | none => rfl
      | some y => unfold optA at hx; simp at hx
    subst this
    unfold Instr.makeMap
    simp [newObj, Sem.run]
  · rename_i k e kk n hu hx
    cases h
    refine ⟨_, rfl, fin _ ?_⟩
    have hor := optA_sound hH hR hx
    generalize hxe : x.map a.eval = xe at hor
    cases hor with
    | some _ v' hv =>
      have := hv.int_inv
      subst this
      unfold Instr.makeMap
      simp only [Sem.run_bind, run_underlying hu, Result.andThen_ok, asInt, asIntOf, Sem.run_pure, newObj, Sem.run]
      rfl
  · cases h
theorem zeros_BR (P : Program) {e c : Nat} {z : List AV} {zc : Array Value} (hz : VRs π z zc.toList) (hc : z.all AV.isCell = true) (h0 : 0 < z.length) :
    ∀ w', BR π w' (zeros e c z) (c * zc.size) (.cells ((Array.range (c * zc.size)).map (zc[· % zc.size]!)) e) := by
  have hlen : z.length = zc.size := by rw [hz.length]; simp
  have hrows := repl_range z zc c hz h0
  have ha : ((List.range (c * zc.size)).map fun i => zc[i % zc.size]!).toArray = (Array.range (c * zc.size)).map (zc[· % zc.size]!) := by
    apply Array.ext' ; simp
  have hone : ∀ v ∈ ((List.range (c * zc.size)).map fun i => zc[i % zc.size]!), v.oneCell' = true := by
    intro v hv
    obtain ⟨i, _, rfl⟩ := List.mem_map.1 hv
    have hlt : i % zc.size < zc.size := Nat.mod_lt _ (by omega)
    refine isCell_one hz hc _ ?_
    rw [getElem!_pos zc (i % zc.size) hlt]
    simp
  intro w'
  unfold zeros
  split
  · rename_i u
    have hs : zc.size = 1 := by rw [← hlen]; rfl
    cases hz0 : zc.toList with
    | nil => rw [hz0] at hz; cases hz
    | cons cu l =>
      rw [hz0] at hz
      cases hz with
      | cons _ _ _ _ hu hn =>
        cases hn
        have hzc : zc = #[cu] := by apply Array.ext'; rw [hz0]
        refine ⟨_, (0, 0), rfl, by simp, by rw [hs]; omega, fun _ => ⟨Nat.le_refl _, fun j a b => by simp at b⟩, ?_, ?_⟩
        · intro j v hj
          obtain ⟨t, d, n, e', lo, hi, wr, s, hbk, hjn⟩ := Blk.rd_some hj
          cases hbk
          refine ⟨cu, ?_, ?_⟩
          · rw [hzc]
            rw [Array.getElem?_map, Array.getElem?_eq_getElem (by simpa using hjn)]
            simp [Nat.mod_one]
          · have e1 : (Blk.cells T.e (some u) c e 0 0 true []).rd j = some u := by
              unfold Blk.rd
              show ob (Nat.blt j c) none (oo ((T.e : T AV).get (Pos.of j)) (some u) some) = some u
              rw [show Nat.blt j c = true from by simpa [Nat.blt_eq] using hjn, ob_true, T.get_e]; rfl
            rw [e1] at hj; cases hj
            exact hu
        · intro j cv hj
          refine hone cv ?_
          rw [← Array.getElem?_toList] at hj
          have := List.mem_of_getElem? hj
          simpa using this
  · have hl : (repl z c).all AV.isCell = true := by
      clear hrows ha hone
      induction c with
      | zero => rfl
      | succ c ih => rw [repl, List.all_append, hc, ih]; rfl
    have := (row_AR P (w := default) (e := e) hrows hl).2 w'
    rw [ha] at this
    simpa using this
theorem makeSlice_AR {t : TypeId} {l c : Operand} (hH : HRel π B H0 w) (hR : RR π r a.tmps) (h : opMakeSlice t l c P r H = .val v H') : ∃ y, H' = H.new y ∧ AR P π w H.nx y v (Instr.makeSlice t (a.eval l) (a.eval c)) := by
  unfold opMakeSlice at h
  split at h
  · rename_i e k1 ln k2 cn he hl hc
    split at h
    · rename_i g s z i ht hz hi
      cases hb : Nat.ble ln cn && Nat.blt cn maxNeed && Nat.blt i.bytes 65536 && Nat.blt 0 s with
      | false => rw [hb] at h; cases h
      | true =>
        rw [hb] at h
        cases h
        rw [Bool.and_eq_true, Bool.and_eq_true, Bool.and_eq_true] at hb
        obtain ⟨⟨⟨b1, b2⟩, b3⟩, b4⟩ := hb
        have b1 : ln ≤ cn := Nat.le_of_ble_eq_true b1
        have b2 : cn < 16777216 := Nat.le_of_ble_eq_true b2
        have b3 : i.bytes < 65536 := Nat.le_of_ble_eq_true b3
        have b4 : 0 < s := Nat.le_of_ble_eq_true b4
        obtain ⟨za, cz, s', g', _, _, hs', hzl, hzc, hzr0, _, hzr⟩ := zeroC_run (P := P) (π := π) (w := w) hz
        rw [ht] at hs'; cases hs'
        have hczs : cz.cells.size = s := by rw [← hzl, hzr.length]; simp
        have hBR := zeros_BR P (e := e) (c := cn) hzr hzc (by omega)
        rw [hczs] at hBR
        refine ⟨_, rfl, _, cn * s, .slice (some ⟨w.heap.size, 0, none⟩) ln cn, ?_, hBR, ?_, ?_, fun π' _ hp => .sl _ _ _ _ _ _ w.heap.size (cn * s) cn hp b1 (Nat.le_refl _) (fun _ => rfl) (by simp) (by unfold big63; omega)⟩
        · have e1 := (opnd_sound hH hR hl).int_inv
          have e2 := (opnd_sound hH hR hc).int_inv
          unfold Instr.makeSlice
          simp only [Sem.run_bind, run_underlying (elemSl_eq he), Result.andThen_ok, e1, e2, asInt, asIntOf, Sem.run_pure, run_typeInfo hi]
          have w1 : IntKind.i64.wrap (Int.ofNat ln) = (ln : Int) := lim_wrap .i64 ln (by show ln < big63; unfold big63; omega)
          have w2 : IntKind.i64.wrap (Int.ofNat cn) = (cn : Int) := lim_wrap .i64 cn (by show cn < big63; unfold big63; omega)
          rw [w1, w2]
          have hm : i.bytes * cn ≤ 65536 * 16777216 := Nat.mul_le_mul (by omega) (by omega)
          have hmi : ((i.bytes : Int) * (cn : Int)) ≤ ((65536 * 16777216 : Nat) : Int) := by rw [← Int.natCast_mul]; exact Int.ofNat_le.2 hm
          have hmn : ((65536 * 16777216 : Nat) : Int) = 1099511627776 := rfl
          rw [hmn] at hmi
          have hroom : ∀ n, (askRoom n).run P w = .ok () w := by intro n; unfold askRoom; split <;> rfl
          have hp48 : (2 : Int) ^ 48 = 281474976710656 := rfl
          have q1 : decide ((cn : Int) < 0) = false := decide_eq_false (by omega)
          have q2 : decide ((i.bytes : Int) * (cn : Int) > 2 ^ 48) = false := decide_eq_false (by rw [hp48]; omega)
          have q3 : decide ((ln : Int) < 0) = false := decide_eq_false (by omega)
          have q4 : decide ((ln : Int) > (cn : Int)) = false := decide_eq_false (by omega)
          rw [q1, q2, q3, q4]
          rw [if_neg (by decide)]
          simp only [Sem.run_bind, hroom, Result.andThen_ok, tAgg_size ht, Int.toNat_natCast]
          by_cases h0 : cn * s = 0
          · rw [if_pos h0, h0]
            simp [newRow, newObj, Sem.run, Array.range]
          · rw [if_neg h0]
            simp only [Sem.run_bind, hzr0, Sem.run_pure, Result.andThen_ok]
            simp [newRow, newObj, Sem.run, hczs]
        · unfold zeros; split <;> rfl
        · unfold zeros; split <;> rfl
    · cases h
  · cases h
theorem cls2 {o : Oper} (hc : cls P o.op = 2) (hH : HRel π B H0 w) (hR : RR π r a.tmps) (e : opA P r o H = .val v H') : ∃ x s, H' = H.new x ∧ execOp a.eval o = (do let y ← s; pure (.value y)) ∧ AR P π w H.nx x v s := by
  have hA : ∀ op', o.op = op' → opA P r o H = opA P r { o with op := op' } H := fun op' e => by subst e; rfl
  have hE : ∀ op', o.op = op' → execOp a.eval o = execOp a.eval { o with op := op' } := fun op' e => by subst e; rfl
  cases ho : o.op <;> rw [ho] at hc <;> rw [hA _ ho] at e <;> rw [hE _ ho]
  case alloc t => obtain ⟨x, h1, h2⟩ := alloc_AR (π := π) (w := w) (r := r) e; exact ⟨x, _, h1, rfl, h2⟩
  case box t y => obtain ⟨x, h1, h2⟩ := box_AR hH hR e; exact ⟨x, _, h1, rfl, h2⟩
  case buildSlice t n ps => obtain ⟨x, h1, h2⟩ := buildSlice_AR hH hR e; exact ⟨x, _, h1, rfl, h2⟩
  case makeMap t y => obtain ⟨x, h1, h2⟩ := makeMap_AR hH hR e; exact ⟨x, _, h1, rfl, h2⟩
  case makeSlice t y z => obtain ⟨x, h1, h2⟩ := makeSlice_AR hH hR e; exact ⟨x, _, h1, rfl, h2⟩
  case slice t x l hh m =>
    exfalso
    have hc : Ev.ob (isSlS P t) 1 0 = 2 := hc
    cases hb : isSlS P t <;> rw [hb] at hc <;> exact absurd hc (by decide)
  case call c =>
    exfalso
    have hc : clsC c = 2 := hc
    unfold clsC at hc
    split at hc
    · split at hc <;> exact absurd hc (by decide)
    · exact absurd hc (by decide)
  all_goals first | exact absurd (show (3 : Nat) = 2 from hc) (by decide) | exact absurd (show (1 : Nat) = 2 from hc) (by decide) | exact absurd (show (0 : Nat) = 2 from hc) (by decide)
end
end Go.Proofs.YthfenjgelbkloaaGreatDoor.Ev

namespace Go.Proofs.YthfenjgelbkloaaGreatDoor.Ev
open Go Go.RowKit

theorem tb_eq (m i : Nat) : tb m i = m.testBit i := by
  unfold tb Nat.testBit
  show on (1 &&& (m >>> i)) false (fun _ => true) = (1 &&& (m >>> i) != 0)
  cases (1 &&& (m >>> i)) <;> rfl
theorem tb_zero (i : Nat) : tb 0 i = false := by rw [tb_eq]; simp
theorem tb_lor (a b i : Nat) : tb (Nat.lor a b) i = (tb a i || tb b i) := by
  rw [tb_eq, tb_eq, tb_eq]; exact Nat.testBit_or a b i
theorem tb_one (a i : Nat) : tb (Nat.shiftLeft 1 a) i = decide (a = i) := by
  rw [tb_eq]
  show (1 <<< a).testBit i = _
  rw [Nat.one_shiftLeft, Nat.testBit_two_pow]
theorem mskO_tb (ms : List Nat) (o : Oper) (j : Nat) : tb (mskO ms o) j = true ↔ ∃ e ∈ o.after.toList, Region.binds .any e = true ∧ (j = e.on ∨ tb (ms.getD e.on 0) j = true) := by
  unfold mskO
  induction o.after.toList with
  | nil => simp [tb_zero]
  | cons e l ih =>
    rw [List.foldr_cons]
    cases hb : Region.binds .any e with
    | false =>
      rw [cond_false, ih]
      constructor
      · rintro ⟨e', h1, h2⟩; exact ⟨e', by simp [h1], h2⟩
      · rintro ⟨e', h1, h2, h3⟩
        rcases List.mem_cons.1 h1 with rfl | h1
        · rw [hb] at h2; cases h2
        · exact ⟨e', h1, h2, h3⟩
    | true =>
      rw [cond_true, tb_lor, tb_lor, tb_one]
      simp only [Bool.or_eq_true, decide_eq_true_eq, ih]
      constructor
      · rintro (⟨e', h1, h2⟩ | h | h)
        · exact ⟨e', by simp [h1], h2⟩
        · exact ⟨e, by simp, hb, .inl h.symm⟩
        · exact ⟨e, by simp, hb, .inr h⟩
      · rintro ⟨e', h1, h2, h3⟩
        rcases List.mem_cons.1 h1 with rfl | h1
        · rcases h3 with h3 | h3
          · exact .inr (.inl h3.symm)
          · exact .inr (.inr h3)
        · exact .inl ⟨e', h1, h2, h3⟩
theorem msks_spec : ∀ (l : List Oper) (ms : List Nat), ∃ R, msks l ms = ms ++ R ∧ R.length = l.length ∧ ∀ i (h : i < l.length), (ms ++ R).getD (ms.length + i) 0 = mskO ((ms ++ R).take (ms.length + i)) l[i]
  | [], ms => ⟨[], by simp [msks], rfl, fun i h => by simp at h⟩
  | o :: l, ms => by
    obtain ⟨R, h1, h2, h3⟩ := msks_spec l (ms ++ [mskO ms o])
    refine ⟨mskO ms o :: R, ?_, by simp [h2], ?_⟩
    · unfold msks
      rw [fN_eq, h1]; simp
    · intro i hi
      have e : ms ++ mskO ms o :: R = ms ++ [mskO ms o] ++ R := by simp
      cases i with
      | zero =>
        simp
      | succ i =>
        have := h3 i (by simp at hi; omega)
        rw [e]
        simp only [List.length_append, List.length_cons, List.length_nil, List.getElem_cons_succ] at this ⊢
        rw [show ms.length + (i + 1) = ms.length + (0 + 1) + i by omega]
        exact this
/-- What is ahead of an operation. -/
def mkA (ops : Array Oper) (i : Nat) : Nat := (msks ops.toList []).getD i 0
theorem backOk_spec : ∀ {l : List Oper} {i : Nat}, backOk l i = true → ∀ k (h : k < l.length), ∀ e ∈ (l[k]).after.toList, Region.binds .any e = true → e.on < i + k
  | [], _, _, k, h => by simp at h
  | o :: l, i, hb, k, h => by
    unfold backOk at hb
    rw [Bool.and_eq_true] at hb
    intro e he hbi
    cases k with
    | zero =>
      have := List.all_eq_true.1 hb.1 e he
      rw [hbi] at this
      simpa [Nat.blt_eq] using this
    | succ k =>
      have := backOk_spec hb.2 k (by simpa using h) e he hbi
      omega
section
variable {ops : Array Oper}
theorem msks_len : (msks ops.toList []).length = ops.size := by
  obtain ⟨R, h1, h2, _⟩ := msks_spec ops.toList []
  rw [h1]; simpa using h2
theorem mk_tb (hb : backOk ops.toList 0 = true) {i : Nat} {o : Oper} (ho : ops[i]? = some o) (j : Nat) : tb (mkA ops i) j = true ↔ ∃ e ∈ o.after.toList, Region.binds .any e = true ∧ (j = e.on ∨ tb (mkA ops e.on) j = true) := by
  have hi : i < ops.toList.length := by
    rcases Nat.lt_or_ge i ops.size with h | h
    · simpa using h
    · rw [Array.getElem?_eq_none h] at ho; cases ho
  have hoi : ops.toList[i] = o := by
    have : ops.toList[i]? = some o := by rw [Array.getElem?_toList]; exact ho
    rw [List.getElem?_eq_getElem hi] at this
    simpa using this
  obtain ⟨R, h1, h2, h3⟩ := msks_spec ops.toList []
  have h4 := h3 i hi
  simp only [List.nil_append, List.length_nil, Nat.zero_add] at h4 h1
  unfold mkA
  rw [h1, h4, mskO_tb, hoi]
  constructor
  · rintro ⟨e, a, b, c⟩
    have hlt := backOk_spec hb i hi e (by rw [hoi]; exact a) b
    refine ⟨e, a, b, c.imp id fun c => ?_⟩
    rw [List.getD_eq_getElem?_getD, List.getElem?_take_of_lt (by omega), ← List.getD_eq_getElem?_getD] at c
    exact c
  · rintro ⟨e, a, b, c⟩
    have hlt := backOk_spec hb i hi e (by rw [hoi]; exact a) b
    refine ⟨e, a, b, c.imp id fun c => ?_⟩
    rw [List.getD_eq_getElem?_getD, List.getElem?_take_of_lt (by omega), ← List.getD_eq_getElem?_getD]
    exact c
theorem edge_lt (hb : backOk ops.toList 0 = true) {i : Nat} {o : Oper} (ho : ops[i]? = some o) {e : Edge} (he : e ∈ o.after.toList) (hbi : Region.binds .any e = true) : e.on < i := by
  have hi : i < ops.toList.length := by
    rcases Nat.lt_or_ge i ops.size with h | h
    · simpa using h
    · rw [Array.getElem?_eq_none h] at ho; cases ho
  have hoi : ops.toList[i] = o := by
    have : ops.toList[i]? = some o := by rw [Array.getElem?_toList]; exact ho
    rw [List.getElem?_eq_getElem hi] at this
    simpa using this
  have := backOk_spec hb i hi e (by rw [hoi]; exact he) hbi
  omega
theorem mk_none {i : Nat} (h : ops[i]? = none) : mkA ops i = 0 := by
  unfold mkA
  rw [List.getD_eq_getElem?_getD, List.getElem?_eq_none (by rw [msks_len]; rcases Nat.lt_or_ge i ops.size with k | k; (rw [Array.getElem?_eq_getElem k] at h; cases h); exact k)]
  rfl
theorem mk_lt (hb : backOk ops.toList 0 = true) : ∀ (i j : Nat), tb (mkA ops i) j = true → j < i := by
  intro i
  induction i using Nat.strongRecOn with
  | _ i ih =>
    intro j h
    cases ho : ops[i]? with
    | none => rw [mk_none ho, tb_zero] at h; cases h
    | some o =>
      obtain ⟨e, a, b, c⟩ := (mk_tb hb ho j).1 h
      have := edge_lt hb ho a b
      rcases c with c | c
      · omega
      · have := ih e.on this j c; omega
theorem mk_trans (hb : backOk ops.toList 0 = true) : ∀ (i j k : Nat), tb (mkA ops i) j = true → tb (mkA ops j) k = true → tb (mkA ops i) k = true := by
  intro i
  induction i using Nat.strongRecOn with
  | _ i ih =>
    intro j k h h'
    cases ho : ops[i]? with
    | none => rw [mk_none ho, tb_zero] at h; cases h
    | some o =>
      obtain ⟨e, a, b, c⟩ := (mk_tb hb ho j).1 h
      refine (mk_tb hb ho k).2 ⟨e, a, b, .inr ?_⟩
      rcases c with rfl | c
      · exact h'
      · exact ih e.on (edge_lt hb ho a b) j k c h'
/-- A set that holds with each operation what is ahead of it. -/
def Down (ops : Array Oper) (L : Nat → Bool) : Prop := ∀ i, L i = true → ∀ j, tb (mkA ops i) j = true → L j = true
theorem ready_all (hb : backOk ops.toList 0 = true) {L : Nat → Bool} (hd : Down ops L) {i : Nat} {o : Oper} (ho : ops[i]? = some o) (hr : ∀ e ∈ o.after.toList, Region.binds .any e = true → L e.on = true) (j : Nat) (h : tb (mkA ops i) j = true) : L j = true := by
  obtain ⟨e, a, b, c⟩ := (mk_tb hb ho j).1 h
  rcases c with rfl | c
  · exact hr e a b
  · exact hd _ (hr e a b) j c
theorem zipM_get : ∀ {l : List Oper} {ms : List Nat}, l.length = ms.length → ∀ i : Nat, (zipM l ms)[i]? = (l[i]?).map fun o => (o, ms.getD i 0)
  | [], [], _, i => by simp [zipM]
  | o :: l, m :: ms, h, i => by
    unfold zipM
    cases i with
    | zero => simp
    | succ i => simpa using zipM_get (l := l) (ms := ms) (by simpa using h) i
  | [], _ :: _, h, _ => by simp at h
  | _ :: _, [], h, _ => by simp at h
theorem plan_get (i : Nat) : (plan ops)[i]? = (ops[i]?).map fun o => (o, mkA ops i) := by
  unfold plan mkA
  rw [zipM_get (by rw [msks_len]; simp), Array.getElem?_toList]
theorem zipM_length : ∀ {l : List Oper} {ms : List Nat}, l.length = ms.length → (zipM l ms).length = l.length
  | [], [], _ => rfl
  | o :: l, m :: ms, h => by unfold zipM; simp [zipM_length (l := l) (ms := ms) (by simpa using h)]
  | [], _ :: _, h => by simp at h
  | _ :: _, [], h => by simp at h
theorem plan_length : (plan ops).length = ops.size := by
  unfold plan
  rw [zipM_length (by rw [msks_len]; simp)]; simp
/-! ### Names -/
theorem dsts_mem : ∀ {l : List Oper} {t : Nat}, t ∈ dsts l ↔ ∃ o ∈ l, o.dst = some t
  | [], t => by simp [dsts]
  | o :: l, t => by
    unfold dsts
    cases ho : o.dst with
    | none => simp [dsts_mem (l := l), ho]
    | some d => simp [dsts_mem (l := l), ho, eq_comm]
theorem nodup_dsts : ∀ {l : List Oper}, nodup (dsts l) = true → ∀ (i j : Nat) (oi oj : Oper) (t : Nat), l[i]? = some oi → l[j]? = some oj → oi.dst = some t → oj.dst = some t → i = j
  | [], _, i, j, oi, oj, t, h, _, _, _ => by simp at h
  | o :: l, hn, i, j, oi, oj, t, h1, h2, h3, h4 => by
    unfold dsts at hn
    have hl : nodup (dsts l) = true := by
      cases ho : o.dst with
      | none => rw [ho] at hn; exact hn
      | some d => rw [ho] at hn; unfold nodup at hn; rw [Bool.and_eq_true] at hn; exact hn.2
    have hx : ∀ (k : Nat) (ok : Oper), l[k]? = some ok → o.dst = some t → ok.dst = some t → False := by
      intro k ok a b c
      rw [b] at hn
      unfold nodup at hn
      rw [Bool.and_eq_true] at hn
      have := List.all_eq_true.1 hn.1 t (dsts_mem.2 ⟨ok, List.mem_of_getElem? a, c⟩)
      simp at this
    cases i with
    | zero =>
      cases j with
      | zero => rfl
      | succ j => simp at h1 h2; subst h1; exact (hx j oj h2 h3 h4).elim
    | succ i =>
      cases j with
      | zero => simp at h1 h2; subst h2; exact (hx i oi h1 h4 h3).elim
      | succ j => simp at h1 h2; rw [nodup_dsts hl i j oi oj t h1 h2 h3 h4]
theorem nameOk_spec {i m t : Nat} : ∀ {pl : List (Oper × Nat)} {k : Nat}, nameOk i m t pl k = true → ∀ (j : Nat) (p : Oper × Nat), pl[j]? = some p → p.1.dst = some t → i = k + j ∨ tb m (k + j) = true ∨ tb p.2 i = true
  | [], _, _, j, p, h, _ => by simp at h
  | q :: pl, k, hn, j, p, h, hd => by
    unfold nameOk at hn
    rw [Bool.and_eq_true] at hn
    cases j with
    | zero =>
      simp at h; subst h
      have := hn.1
      rw [hd] at this
      simp only [Bool.or_eq_true, Bool.not_eq_true'] at this
      rcases this with ((h | h) | h) | h
      · simp at h
      · exact .inl (Nat.eq_of_beq_eq_true h)
      · exact .inr (.inl h)
      · exact .inr (.inr h)
    | succ j =>
      have := nameOk_spec hn.2 j p (by simpa using h) hd
      rw [show k + (j + 1) = Nat.succ k + j by omega]
      exact this
theorem namesOk_spec {pl : List (Oper × Nat)} : ∀ {l : List (Oper × Nat)} {k : Nat}, namesOk ops pl l k = true → ∀ (i : Nat) (p : Oper × Nat), l[i]? = some p → (∀ t ∈ p.1.looksAt ops, nameOk (k + i) p.2 t pl 0 = true) ∧ ∀ j b, p.1.guard = some (j, b) → tb p.2 j = true
  | [], _, _, i, p, h => by simp at h
  | q :: l, k, hn, i, p, h => by
    unfold namesOk at hn
    rw [Bool.and_eq_true, Bool.and_eq_true] at hn
    cases i with
    | zero =>
      simp at h; subst h
      refine ⟨fun t ht => List.all_eq_true.1 hn.1.1 t ht, fun j b hg => ?_⟩
      have := hn.1.2
      rw [hg] at this
      exact this
    | succ i =>
      have := namesOk_spec hn.2 i p (by simpa using h)
      rw [show k + (i + 1) = Nat.succ k + i by omega]
      exact this
structure Static (ops : Array Oper) : Prop where
  back : backOk ops.toList 0 = true
  uniq : ∀ (i j : Nat) (oi oj : Oper) (t : Nat), ops[i]? = some oi → ops[j]? = some oj → oi.dst = some t → oj.dst = some t → i = j
  names : ∀ (i : Nat) (o : Oper), ops[i]? = some o → ∀ t ∈ o.looksAt ops, ∀ (j : Nat) (oj : Oper), ops[j]? = some oj → oj.dst = some t → j = i ∨ tb (mkA ops i) j = true ∨ tb (mkA ops j) i = true
  guards : ∀ (i : Nat) (o : Oper), ops[i]? = some o → ∀ j b, o.guard = some (j, b) → tb (mkA ops i) j = true
theorem static_of (h : rOk ops = true) : Static ops := by
  unfold rOk at h
  rw [Bool.and_eq_true, Bool.and_eq_true] at h
  obtain ⟨⟨h1, h2⟩, h3⟩ := h
  refine ⟨h2, fun i j oi oj t a b => nodup_dsts h1 i j oi oj t (by rw [Array.getElem?_toList]; exact a) (by rw [Array.getElem?_toList]; exact b), ?_, ?_⟩
  · intro i o ho t ht j oj hoj hd
    have := (namesOk_spec h3 i (o, mkA ops i) (by rw [plan_get, ho]; rfl)).1 t ht
    rw [Nat.zero_add] at this
    rcases nameOk_spec this j (oj, mkA ops j) (by rw [plan_get, hoj]; rfl) hd with h | h | h
    · exact .inl (by omega)
    · exact .inr (.inl (by rwa [Nat.zero_add] at h))
    · exact .inr (.inr h)
  · intro i o ho j b hg
    exact (namesOk_spec h3 i (o, mkA ops i) (by rw [plan_get, ho]; rfl)).2 j b hg
/-! ### Effects and reads in a row -/
theorem on_eq {β : Type} (n : Nat) (z : β) (s : Nat → β) : on n z s = match n with | 0 => z | m + 1 => s m := by cases n <;> rfl
theorem seqB_spec {m : Nat} {l : List (Nat × Bool)} {eff : Bool} (h : seqB m l eff = true) : ∀ p ∈ l, (eff = true ∨ p.2 = true) → tb m p.1 = true := by
  intro p hp he
  have := List.all_eq_true.1 h p hp
  have hb : (eff || p.2) = true := by rw [Bool.or_eq_true]; exact he
  rw [hb] at this
  exact this
theorem seqOk_spec {P : Program} : ∀ {l : List (Oper × Nat)} {k : Nat} {loud : List (Nat × Bool)}, seqOk P l k loud = true →
    (∀ (i : Nat) (p : Oper × Nat), l[i]? = some p → cls P p.1.op = 1 → (∀ q ∈ loud, q.2 = true → tb p.2 q.1 = true)) ∧
    (∀ (i : Nat) (p : Oper × Nat), l[i]? = some p → 3 ≤ cls P p.1.op → (∀ q ∈ loud, tb p.2 q.1 = true)) ∧
    (∀ (i j : Nat) (p q : Oper × Nat), i < j → l[i]? = some p → l[j]? = some q → cls P p.1.op = 1 → 3 ≤ cls P q.1.op → tb q.2 (k + i) = true) ∧
    (∀ (i j : Nat) (p q : Oper × Nat), i < j → l[i]? = some p → l[j]? = some q → 3 ≤ cls P p.1.op → cls P q.1.op = 1 → tb q.2 (k + i) = true)
  | [], _, _, _ => ⟨fun i p h => by simp at h, fun i p h => by simp at h, fun i j p q _ h => by simp at h, fun i j p q _ h => by simp at h⟩
  | p :: l, k, loud, h => by
    unfold seqOk at h
    have main : ∀ (loud' : List (Nat × Bool)), seqOk P l (Nat.succ k) loud' = true → (∀ q ∈ loud, q ∈ loud') →
        (cls P p.1.op = 1 → (∀ q ∈ loud, q.2 = true → tb p.2 q.1 = true) ∧ (k, false) ∈ loud') → (3 ≤ cls P p.1.op → (∀ q ∈ loud, tb p.2 q.1 = true) ∧ (k, true) ∈ loud') →
        (∀ (i : Nat) (p' : Oper × Nat), (p :: l)[i]? = some p' → cls P p'.1.op = 1 → (∀ q ∈ loud, q.2 = true → tb p'.2 q.1 = true)) ∧
        (∀ (i : Nat) (p' : Oper × Nat), (p :: l)[i]? = some p' → 3 ≤ cls P p'.1.op → (∀ q ∈ loud, tb p'.2 q.1 = true)) ∧
        (∀ (i j : Nat) (p' q : Oper × Nat), i < j → (p :: l)[i]? = some p' → (p :: l)[j]? = some q → cls P p'.1.op = 1 → 3 ≤ cls P q.1.op → tb q.2 (k + i) = true) ∧
        (∀ (i j : Nat) (p' q : Oper × Nat), i < j → (p :: l)[i]? = some p' → (p :: l)[j]? = some q → 3 ≤ cls P p'.1.op → cls P q.1.op = 1 → tb q.2 (k + i) = true) := by
      intro loud' h0 hs h1 h3
      obtain ⟨a, b, c, d⟩ := seqOk_spec h0
      refine ⟨?_, ?_, ?_, ?_⟩
      · intro i p' hp hc
        cases i with
        | zero => simp at hp; subst hp; exact (h1 hc).1
        | succ i => intro q hq; exact a i p' (by simpa using hp) hc q (hs q hq)
      · intro i p' hp hc
        cases i with
        | zero => simp at hp; subst hp; exact (h3 hc).1
        | succ i => intro q hq; exact b i p' (by simpa using hp) hc q (hs q hq)
      · intro i j p' q hij hp hq hc hc'
        cases j with
        | zero => omega
        | succ j =>
          cases i with
          | zero => simp at hp; subst hp; exact b j q (by simpa using hq) hc' _ (h1 hc).2
          | succ i => rw [show k + (i + 1) = Nat.succ k + i by omega]; exact c i j p' q (by omega) (by simpa using hp) (by simpa using hq) hc hc'
      · intro i j p' q hij hp hq hc hc'
        cases j with
        | zero => omega
        | succ j =>
          cases i with
          | zero => simp at hp; subst hp; exact a j q (by simpa using hq) hc' _ (h3 hc).2 rfl
          | succ i => rw [show k + (i + 1) = Nat.succ k + i by omega]; exact d i j p' q (by omega) (by simpa using hp) (by simpa using hq) hc hc'
    match hc : cls P p.1.op, h with
    | 0, h => rw [hc] at main; exact main loud h (fun _ h => h) (fun h => by omega) (fun h => by omega)
    | 1, h =>
      have h : (seqB p.2 loud false && seqOk P l (Nat.succ k) ((k, false) :: loud)) = true := h
      rw [Bool.and_eq_true] at h
      rw [hc] at main
      exact main _ h.2 (fun _ h => by simp [h]) (fun _ => ⟨fun q hq hq2 => seqB_spec h.1 q hq (.inr hq2), by simp⟩) (fun h => by omega)
    | 2, h => rw [hc] at main; exact main loud h (fun _ h => h) (fun h => by omega) (fun h => by omega)
    | c + 3, h =>
      have h : (seqB p.2 loud true && seqOk P l (Nat.succ k) ((k, true) :: loud)) = true := h
      rw [Bool.and_eq_true] at h
      rw [hc] at main
      exact main _ h.2 (fun _ h => by simp [h]) (fun h => by omega) (fun _ => ⟨fun q hq => seqB_spec h.1 q hq (.inl rfl), by simp⟩)
end
end Go.Proofs.YthfenjgelbkloaaGreatDoor.Ev
