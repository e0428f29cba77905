/- The evaluator's soundness: regions that draw their order. No conditions. -/
import Derived.Test.YtnpkdiffpgcbhaaGreatDoorS02
import Derived.OrdersIn
namespace Go.Proofs.YtnpkdiffpgcbhaaGreatDoor.Ev
open Go Go.RowKit
section
variable {P : Program} {B : Nat} {π : Pi} {H : Hp} {w : World}
theorem HRel.loop (hH : HRel π B H w) {l : Nat} {st : LoopState} {pd : Option Code} {r : T AV} {sz : Nat} {ps : List Nat} {asg body : Code} {df : Nat} (h : H.get l = some (.loop st pd r sz ps asg body df)) :
  ∃ c z L z', π l = some (c, z) ∧ w.heap[c]? = some (.loop L) ∧ L.state = st ∧ L.pending = pd ∧ RR π r L.tmps ∧ L.tmps.size = sz ∧ L.params.toList = ps ∧ L.assign = asg ∧ L.body = body ∧ π df = some (L.defers, z') := by
 obtain ⟨c, z, o, p1, p2, ⟨L, rfl, h1, h2, h3, h4, h5, h6, h7, z', h8⟩, p5⟩ := hH.blk l _ h
 exact ⟨c, z, L, z', p1, p2, h1, h2, h3, h4, h5, h6, h7, h8⟩
theorem run_getLoop {c : Nat} {L : Loop} (h : w.heap[c]? = some (.loop L)) : (Instr.getLoop c).run P w = .ok L w := by
 unfold Instr.getLoop
 rw [Sem.run_bind, run_getObj h (by simp)]; rfl
theorem loop_set (hH : HRel π B H w) {l : Nat} {st : LoopState} {pd : Option Code} {r : T AV} {sz : Nat} {ps : List Nat} {asg body : Code} {df c z : Nat} {L : Loop} (h : H.get l = some (.loop st pd r sz ps asg body df)) (hp : π l = some (c, z)) (hw : w.heap[c]? = some (.loop L)) (st' : LoopState) (pd' : Option Code) :
  ∃ w', (setObj c (.loop { L with state := st', pending := pd' })).run P w = .ok () w' ∧ Step B π H w π (H.set l (.loop st' pd' r sz ps asg body df)) w' := by
 obtain ⟨c', z1, o, p1, p2, ⟨L', e, h1, h2, h3, h4, h5, h6, h7, z', h8⟩, p5⟩ := hH.blk l _ h
 rw [hp] at p1; cases p1
 rw [hw] at p2; cases p2
 cases e
 exact ⟨_, objSet_step hH h rfl rfl hp hw (by simp) (Evo.noMap (by simp)) ⟨_, rfl, rfl, rfl, h3, h4, h5, h6, h7, z', h8⟩⟩
theorem setP_sound : ∀ (ps : List Nat) (args : List AV) (cargs : List Value) (r : T AV) (tmps : Array Value), VRs π args cargs → (∀ p ∈ ps, p < tmps.size) → RR π r tmps →
  RR π (setP ps args r) ((ps.zip cargs).foldl (fun tmps (t, a) => tmps.setIfInBounds t a) tmps) ∧ ((ps.zip cargs).foldl (fun tmps (t, a) => tmps.setIfInBounds t a) tmps).size = tmps.size
 | [], args, cargs, r, tmps, _, _, hR => by cases args <;> exact ⟨hR, rfl⟩
 | p :: ps, [], cargs, r, tmps, h, _, hR => by cases h; exact ⟨hR, rfl⟩
 | p :: ps, v :: args, cargs, r, tmps, h, hps, hR => by
  cases h with
  | cons _ cv _ cargs hv hvs =>
   have hp := hps p (by simp)
   have h1 : RR π (r.put (some v) (Pos.of p)) (tmps.setIfInBounds p cv) := by
    intro s u hu
    rw [T.get_putN] at hu
    by_cases hs : s = p
    ·subst hs
     rw [if_pos rfl] at hu; cases hu
     exact ⟨cv, by simp [hp], hv⟩
    ·rw [if_neg hs] at hu
     obtain ⟨cu, h1, h2⟩ := hR s u hu
     exact ⟨cu, by rw [Array.getElem?_setIfInBounds_ne (fun e => hs e.symm)]; exact h1, h2⟩
   obtain ⟨a, b⟩ := setP_sound ps args cargs _ (tmps.setIfInBounds p cv) hvs (fun q hq => by rw [Array.size_setIfInBounds]; exact hps q (by simp [hq])) h1
   exact ⟨a, by rw [List.zip_cons_cons, List.foldl_cons, b, Array.size_setIfInBounds]⟩
theorem COut.of_le {a b : CR} (hl : Le a b) (ha : a.ok) {π : Pi} {w' : World} {e : Ending} (h : COut B π H w b e w') : COut B π H w a e w' := (hl ha).2 _ _ _ _ _ _ h
theorem COut.step {r : CR} {π' : Pi} {H' : Hp} {w' w'' : World} {e : Ending} (hH : HRel π B H w) (hs : Step B π H w π' H' w') (h : COut B π' H' w' r e w'') : COut B π H w r e w'' := by
 cases r with
 | bad _ => trivial
 | ret v h2 => obtain ⟨π2, cv, rfl, h3, h4⟩ := h; exact ⟨π2, cv, rfl, h3, Step.trans hH hs h4⟩
 | pan ch h2 => obtain ⟨π2, cv, rfl, h3, h4⟩ := h; exact ⟨π2, cv, rfl, h3, Step.trans hH hs h4⟩
noncomputable def rndE (l : Nat) : XK := fun x _ h q =>
 match q.df with
 | [] => endRnd l x h
 | _ => .bad "round: defers"
noncomputable def rndK (ev : CodeF) (l sz : Nat) (body : Code) : XK := fun x r h q =>
 match x, q.df, h.get l with
 | .nrm, [], some (.loop .ready pd r' sz' ps' asg' body' df') => ev body r (h.set l (.loop .busy pd r' sz' ps' asg' body' df')) ⟨sz, [], .no, some l⟩ (rndE l)
 | _, _, _ => .bad "round: assign"
variable {ev : CodeF}
theorem rndB_eq {l : Nat} {args : List AV} {st : LoopState} {pd : Option Code} {r : T AV} {sz : Nat} {ps : List Nat} {asg body : Code} {df : Nat} (h : H.get l = some (.loop st pd r sz ps asg body df)) :
  rndB ev l args H = bif Nat.beq args.length ps.length && ltAll sz ps && codeOk sz asg && codeOk sz body then ev asg (setP ps args r) H ⟨sz, [], .no, some l⟩ (rndK ev l sz body) else .bad "round: arguments" := by
 unfold rndB
 rw [h]
 rfl
theorem rndK_inv {l sz : Nat} {body : Code} {x : X} {r : T AV} {h : Hp} {q : Q} (hk : (rndK ev l sz body x r h q).ok) : x = .nrm ∧ q.df = [] ∧ ∃ pd r' sz' ps' asg' body' df', h.get l = some (.loop .ready pd r' sz' ps' asg' body' df') ∧
  rndK ev l sz body x r h q = ev body r (h.set l (.loop .busy pd r' sz' ps' asg' body' df')) ⟨sz, [], .no, some l⟩ (rndE l) := by
 unfold rndK at hk ⊢
 split at hk
 ·rename_i pd r' sz' ps' asg' body' df' e1 e2
  exact ⟨rfl, e1, pd, r', sz', ps', asg', body', df', e2, rfl⟩
 ·exact hk.elim
theorem endRnd_sound (hH : HRel π B H w) {l c z : Nat} (hp : π l = some (c, z)) {x : X} {e : Exit} (hx : XR π x e) {H0 : Hp} {w0 : World} {π0 : Pi} {res : CR} (hH0 : HRel π0 B H0 w0) (hs : Step B π0 H0 w0 π H w) (hok : res.ok) (hle : Le res (endRnd l x H)) (a : Act) :
  roundPost P c (COut B π0 H0 w0 res) e a w := by
 have hk := (hle hok).1
 unfold endRnd at hk hle
 cases hg : H.get l with
 | none => rw [hg] at hk; exact hk.elim
 | some b =>
  rw [hg] at hk hle
  cases b with
  | loop st pd r sz ps asg body df =>
   obtain ⟨c', z', L, z2, p1, p2, _⟩ := hH.loop hg
   rw [hp] at p1; cases p1
   have go : ∀ (st' : LoopState) (j : Option Code) (r' : CR), st' = (if j.isNone then .ready else .done) → r' = .ret (.bool j.isNone) (H.set l (.loop st' j r sz ps asg body df)) → Le res r' → ∃ v w', (Instr.endRound c j).run P w = .ok v w' ∧ COut B π0 H0 w0 res (.returned v) w' := by
    intro st' j r' h1 h2 h3
    obtain ⟨w', k1, k2⟩ := loop_set (P := P) hH hg hp p2 st' j
    refine ⟨.bool j.isNone, w', ?_, ?_⟩
    ·unfold Instr.endRound
     rw [Sem.run_bind, run_getLoop p2, Result.andThen_ok]
     have k1' : (setObj c (.loop { L with state := if j.isNone then .ready else .done, pending := j })).run P w = .ok () w' := by rw [← h1]; exact k1
     rw [Sem.run_bind, k1', Result.andThen_ok]; rfl
    ·refine COut.of_le h3 hok ?_
     rw [h2]
     exact ⟨π, _, rfl, .bool _, Step.trans hH0 hs k2⟩
   cases e with
   | normal => cases x <;> first | exact hx.elim | exact go _ none _ rfl rfl hle
   | ret => cases x <;> first | exact hx.elim | exact go _ (some .ret) _ rfl rfl hle
   | exit id =>
    cases x <;> first | exact hx.elim | skip
    have hx : _ = id := hx
    subst hx
    exact go _ (some (.exit _)) _ rfl rfl hle
   | goto id =>
    cases x <;> first | exact hx.elim | skip
    have hx : _ = id := hx
    subst hx
    exact go _ (some (.goto _)) _ rfl rfl hle
   | panic ch => cases x <;> first | exact hx.elim | exact hk.elim
   | outgrown => cases x <;> exact hx.elim
  | _ => exact hk.elim
theorem rndB_sound (hev : EvOk P ev) : RfOk P (rndB ev) := by
  intro B π H w l args cargs c z ro n hH hp ha hok
  cases hg : H.get l with
  | none => unfold rndB at hok; rw [hg] at hok; exact hok.elim
  | some b =>
    cases b with
    | loop st pd r sz ps asg body df =>
      have e0 := rndB_eq (ev := ev) (args := args) hg
      rw [e0] at hok ⊢
      cases hb : Nat.beq args.length ps.length && ltAll sz ps && codeOk sz asg && codeOk sz body with
      | false => rw [hb] at hok; exact hok.elim
      | true =>
        rw [hb] at hok
        have hok : (ev asg (setP ps args r) H ⟨sz, [], .no, some l⟩ (rndK ev l sz body)).ok := hok
        simp only [Bool.and_eq_true] at hb
        obtain ⟨c', z1, L, z2, p1, p2, h1, h2, h3, h4, h5, h6, h7, h8⟩ := hH.loop hg
        rw [hp] at p1; cases p1
        have hlen : cargs.size = L.params.size := by
          have a1 := Nat.eq_of_beq_eq_true hb.1.1.1
          have a2 := ha.length
          rw [← Array.length_toList, ← Array.length_toList, h5, ← a2, a1]
        have hlt : ∀ p ∈ L.params.toList, p < L.tmps.size := by
          rw [h5, h4]
          intro p hpm
          have := List.all_eq_true.1 hb.1.1.2 p hpm
          simpa [Nat.blt_eq] using this
        obtain ⟨s1, s2⟩ := setP_sound L.params.toList args cargs.toList r L.tmps ha hlt h3
        have ef : (L.params.zip cargs).foldl (fun tmps (t, a) => tmps.setIfInBounds t a) L.tmps = (L.params.toList.zip cargs.toList).foldl (fun tmps (t, a) => tmps.setIfInBounds t a) L.tmps := by
          rw [← Array.foldl_toList, Array.toList_zip]
        rw [cond_true]
        refine ⟨c, L.fn, (L.params.zip cargs).foldl (fun tmps (t, a) => tmps.setIfInBounds t a) L.tmps, L.assign, L.body, w, ?_, roundIn_of_wpIn trivial ?_⟩
        · unfold Instr.yield
          rw [Sem.run_bind, run_getLoop p2, Result.andThen_ok, if_neg (by simpa using hlen)]
          rfl
        · rw [h6, h7, ef]
          have hSt : St π ⟨sz, [], .no, some l⟩ (setP ps args r) { tmps := (L.params.toList.zip cargs.toList).foldl (fun tmps (t, a) => tmps.setIfInBounds t a) L.tmps, defers := [] } := ⟨by rw [← h5]; exact s1, by rw [← h4]; exact s2, .nil⟩
          refine wpIn_mono (hev asg (setP ps args r) H ⟨sz, [], .no, some l⟩ (rndK ev l sz body) hok hb.1.2 rfl B π _ w (some c) n hH hSt ⟨z, hp⟩) ?_
          intro e a' w' hpost
          obtain ⟨x, r', h', q', π', a1, a2, a3, a4, a5⟩ := hpost
          obtain ⟨rfl, hdf, pd2, r2, sz2, ps2, asg2, body2, df2, hg2, e2⟩ := rndK_inv (a5 hok).1
          rw [e2] at a5
          cases e with
          | normal =>
            obtain ⟨c3, z3, L3, z4, g1, g2, g3, g4, _⟩ := a4.rel.loop hg2
            have hp' := a4.ext _ _ hp
            rw [hp'] at g1; cases g1
            obtain ⟨w2, k1, k2⟩ := loop_set (P := P) a4.rel hg2 hp' g2 .busy pd2
            refine ⟨w2, ?_, ?_⟩
            · unfold Instr.beginRound
              rw [Sem.run_bind, run_getLoop g2, Result.andThen_ok]
              have k1' : (setObj c (.loop { L3 with state := .busy })).run P w' = .ok () w2 := by
                rw [← k1, ← g4]
              rw [Sem.run_bind, k1', Result.andThen_ok, g3]
              rfl
            · have hSt2 : St π' ⟨sz, [], .no, some l⟩ r' a' := by
                refine ⟨a2.rr, a2.sz.trans a3.sz, ?_⟩
                have := a2.df; rw [hdf] at this; exact this
              refine wpIn_mono (hev body r' _ ⟨sz, [], .no, some l⟩ (rndE l) (a5 hok).1 hb.2 rfl B π' a' w2 (some c) n k2.rel hSt2 ⟨z, hp'⟩) ?_
              intro e a2 w3 hpost2
              obtain ⟨x, r4, h4, q4, π4, b1, b2, b3, b4, b5⟩ := hpost2
              have hle := a5.trans b5
              have hk := (hle hok).1
              unfold rndE at hk hle
              cases hq : q4.df with
              | cons _ _ => simp only [hq] at hk; exact hk.elim
              | nil =>
                simp only [hq] at hle
                exact endRnd_sound b4.rel (b4.ext _ _ hp') b1 hH (Step.trans hH (Step.trans hH a4 k2) b4) hok hle a2
          | _ => exact a1.elim
    | _ => unfold rndB at hok; rw [hg] at hok; exact hok.elim
end
end Go.Proofs.YtnpkdiffpgcbhaaGreatDoor.Ev
namespace Go.Proofs.YtnpkdiffpgcbhaaGreatDoor.Ev
open Go Go.RowKit
section
variable {P : Program} {cf : CallF} {ev : CodeF} {B : Nat} {π : Pi} {H : Hp} {w : World}
theorem ext_call (fn : Func) (args : List AV) (h : Hp) {f : Nat} {as : List AV} {h' : Hp} : ext P fn args h ≠ .call f as h' := by
 unfold ext
 simp only [Bool.cond_eq_ite]
 repeat' split
 all_goals simp
theorem callA_call {g : Nat} {args args' : List AV} {h h' : Hp} {g' : Nat} (e : callA P g args h = .call g' args' h') : ∃ fn c, P.funcs[g]? = some fn ∧ fn.body = some c ∧ (fn.name == "runtime.NumGoroutine") = false ∧ g' = g ∧ args' = args ∧ h' = h := by
 unfold callA at e
 cases hf : P.funcs[g]? with
 | none => rw [hf] at e; cases e
 | some fn =>
  rw [hf] at e
  have e : callG P g args h fn = .call g' args' h' := e
  unfold callG at e
  cases hb : fn.body with
  | none => rw [hb] at e; exact absurd e (ext_call _ _ _)
  | some c =>
   rw [hb] at e
   have e : ob (fn.name == "runtime.NumGoroutine") (OR.call g args h) (.bad "NumGoroutine") = .call g' args' h' := e
   cases hn : (fn.name == "runtime.NumGoroutine") with
   | true => rw [hn] at e; cases e
   | false => rw [hn] at e; cases e; exact ⟨fn, c, rfl, hb, hn, rfl, rfl, rfl⟩
theorem endLoop_run {c : Nat} {L : Loop} (hw : w.heap[c]? = some (.loop L)) (hb : L.state ≠ .busy) {w' : World} (hs : (setObj c (.loop { L with state := .exhausted })).run P w = .ok () w') : (Instr.endLoop c).run P w = .ok L.pending w' := by
 have e : (L.state == .busy) = false := by cases hx : L.state <;> first | rfl | exact absurd hx hb
 unfold Instr.endLoop
 rw [Sem.run_bind, run_getLoop hw, Result.andThen_ok]
 simp only [e, Bool.false_eq_true, if_false]
 show Sem.run P (setObj c (.loop { L with state := .exhausted }) >>= fun _ => pure L.pending) w = _
 rw [Sem.run_bind, hs, Result.andThen_ok]; rfl
theorem rangeGo_sound (hcf : CfOk P cf) (hev : EvOk P ev) {f : Operand} {ps : Array Tmp} {asg body : Code} {r : T AV} {q : Q} {k : XK} {df D zD : Nat} {mk : List AD} {mark : List Deferred} {ro : Option Nat} {m : Nat} {a : Act} (hH : HRel π B H w) (hS : St π q r a) (hro : RO π q.rd ro) (hrc : q.rc = .no)
    (hD : π df = some (D, zD)) (hmk : DRs π mk mark) (fn : FuncId) {π0 : Pi} {h0 : Hp} {w0 : World} (hH0 : HRel π0 B h0 w0) (hs0 : Step B π0 h0 w0 π H w) {res : CR} (hok : res.ok) (hle : Le res (rangeGo P cf ev f ps.toList asg body r H q k df mk)) (w1 : World) (hw1 : w1 = w.alloc (.loop { state := .ready, pending := none, fn, tmps := a.tmps, params := ps, assign := asg, body, defers := D })) :
    ∃ d f' args, (resolve a.eval (rangeCall f w.heap.size) 0).run P w1 = .ok d w1 ∧ (invoke d.target d.args).run P w1 = .ok (.enter f' args) w1 ∧ CallsIn (Fw ro) (m - 1) P f' args w1 (rangePost (Fw ro) m P w.heap.size (Post B π0 h0 w0 q res k) { a with defers := mark ++ a.defers }) := by
  have hk := (hle hok).1
  unfold rangeGo at hk hle
  cases ho : opnd r f with
  | none => simp only [ho] at hk; exact hk.elim
  | some v =>
    cases v with
    | fn g fa c =>
      simp only [ho] at hk hle
      have hv := opnd_sound hH hS.rr ho
      cases hc : callA P g (fa ++ [AV.yld H.nx] ++ c) (H.new (.loop .ready none r q.sz ps.toList asg body df)) with
      | call g' args' h' =>
        simp only [hc] at hk hle
        obtain ⟨fn', code, c1, c2, c3, rfl, rfl, rfl⟩ := callA_call hc
        generalize hev0 : a.eval f = fv at hv
        cases hv with
        | fn _ _ _ fa' c' hfa hfc =>
          have he := piNew_ext (H := H) (hH.fresh (Nat.le_refl H.nx)) w.heap.size 0
          have st1 : Step B π H w (piNew π H.nx w.heap.size 0) (H.new (.loop .ready none r q.sz ps.toList asg body df)) w1 := by
            subst hw1
            exact Step.alloc hH _ 0 _ ⟨_, rfl, rfl, rfl, hS.rr.mono he, hS.sz, rfl, rfl, rfl, zD, he _ _ hD⟩
          have hl : piNew π H.nx w.heap.size 0 H.nx = some (w.heap.size, 0) := by simp [piNew]
          have hargs : VRs (piNew π H.nx w.heap.size 0) (fa ++ [AV.yld H.nx] ++ c) ((fa' ++ #[Value.func (.yield w.heap.size) #[] #[]]) ++ c').toList := by
            rw [Array.toList_append, Array.toList_append]
            exact ((hfa.mono he).append (.cons _ _ _ _ (.yld _ _ _ hl) .nil)).append (hfc.mono he)
          refine ⟨{ target := .fn (.func g') c', args := fa' ++ #[Value.func (.yield w.heap.size) #[] #[]] }, g', _, ?_, enter_run c1 c2 c3 _ _ _, ?_⟩
          · unfold resolve Deferred.ofValue
            simp only [hev0, List.map_toArray, List.map_cons, List.map_nil]
            rfl
          refine callsIn_Fw.2 ?_
          cases hcr : cf g' (fa ++ [AV.yld H.nx] ++ c) (H.new (.loop .ready none r q.sz ps.toList asg body df)) with
          | bad s => simp only [hcr] at hk; exact hk.elim
          | pan ch h2 =>
            simp only [hcr] at hk hle
            refine (hcf B _ _ w1 g' _ _ st1.rel hargs (by rw [hcr]; trivial)).mono ?_
            intro e w3 hco
            rw [hcr] at hco
            obtain ⟨π3, chain, rfl, k1, k2⟩ := hco
            exact ⟨.pan ch, r, h2, ⟨q.sz, mk ++ q.df, q.rc, q.rd⟩, π3, k1, ⟨(hS.rr.mono st1.ext).mono k2.ext, hS.sz, ((hmk.append hS.df).mono st1.ext).mono k2.ext⟩, ⟨rfl, rfl, rfl⟩, Step.trans hH0 hs0 (Step.trans hH st1 k2), hle⟩
          | ret v h2 =>
            simp only [hcr] at hk hle
            refine (hcf B _ _ w1 g' _ _ st1.rel hargs (by rw [hcr]; trivial)).mono ?_
            intro e w3 hco
            rw [hcr] at hco
            obtain ⟨π3, cv, rfl, k1, k2⟩ := hco
            have hl3 := k2.ext _ _ hl
            cases hg : h2.get H.nx with
            | none => simp only [hg] at hk; exact hk.elim
            | some b =>
              cases b with
              | loop st pd r' sz' ps' asg' body' df' =>
                have key : st ≠ .busy → ∀ kk : CR, kk.ok → Le res kk → kk = (match pd with
                    | none => k .nrm r (h2.set H.nx (.loop .exhausted pd r' sz' ps' asg' body' df')) ⟨q.sz, mk ++ q.df, q.rc, q.rd⟩
                    | some c => bif codeOk q.sz c then ev c r (h2.set H.nx (.loop .exhausted pd r' sz' ps' asg' body' df')) ⟨q.sz, mk ++ q.df, q.rc, q.rd⟩ k else .bad "range: registers") →
                    rangePost (Fw ro) m P w.heap.size (Post B π0 h0 w0 q res k) { a with defers := mark ++ a.defers } (.returned cv) w3 := by
                  intro hb kk hkk hlk e
                  obtain ⟨c4, z4, L, z5, p1, p2, p3, p4, _⟩ := k2.rel.loop hg
                  rw [hl3] at p1; cases p1
                  obtain ⟨w4, s1, s2⟩ := loop_set (P := P) k2.rel hg hl3 p2 .exhausted pd
                  have hst : Step B π0 h0 w0 π3 (h2.set H.nx (.loop .exhausted pd r' sz' ps' asg' body' df')) w4 := Step.trans hH0 hs0 (Step.trans hH st1 (Step.trans st1.rel k2 s2))
                  have hSt : St π3 ⟨q.sz, mk ++ q.df, q.rc, q.rd⟩ r { a with defers := mark ++ a.defers } := ⟨(hS.rr.mono st1.ext).mono k2.ext, hS.sz, ((hmk.append hS.df).mono st1.ext).mono k2.ext⟩
                  refine ⟨L.pending, w4, endLoop_run p2 (by rw [p3]; exact hb) (by rw [← s1, ← p4]), ?_⟩
                  rw [p4]
                  cases pd with
                  | none => subst e; exact ⟨.nrm, r, _, ⟨q.sz, mk ++ q.df, q.rc, q.rd⟩, π3, trivial, hSt, ⟨rfl, rfl, rfl⟩, hst, hlk⟩
                  | some c =>
                    simp only at e ⊢
                    cases hco : codeOk q.sz c with
                    | false => rw [hco] at e; subst e; exact hkk.elim
                    | true =>
                      rw [hco, cond_true] at e
                      subst e
                      refine wpIn_mono (hev c r _ ⟨q.sz, mk ++ q.df, q.rc, q.rd⟩ k hkk hco hrc B π3 _ w4 ro m s2.rel hSt ((hro.mono st1.ext).mono k2.ext)) ?_
                      intro e a2 w5 hp
                      exact Post.step (q := q) (q1 := ⟨q.sz, mk ++ q.df, q.rc, q.rd⟩) hH0 hst ⟨rfl, rfl, rfl⟩ hlk hp
                cases st with
                | busy => simp only [hg] at hk; exact hk.elim
                | ready => simp only [hg] at hk hle; exact key (by simp) _ hk hle (by cases pd <;> rfl)
                | done => simp only [hg] at hk hle; exact key (by simp) _ hk hle (by cases pd <;> rfl)
                | exhausted => simp only [hg] at hk hle; exact key (by simp) _ hk hle (by cases pd <;> rfl)
              | _ => simp only [hg] at hk; exact hk.elim
      | _ => simp only [hc] at hk; exact hk.elim
    | _ => simp only [ho] at hk; exact hk.elim
theorem SS.rangeFunc (hcf : CfOk P cf) (hev : EvOk P ev) {f : Operand} {ps : Array Tmp} {asg body : Code} : SS P (.rangeFunc f ps asg body) (rangeS P cf ev f ps asg body) := by
 intro r h q k hok hd hrc B π a w ro m hH hS hro
 refine wpIn_rangeFunc ?_
 intro fn _
 cases hq : q.rd with
 | none =>
  have e1 : rangeS P cf ev f ps asg body r h q k = rangeGo P cf ev f ps.toList asg body r (h.new (.dfr (some []))) q k h.nx [.coll h.nx] := by unfold rangeS; simp only [hq]
  rw [hq] at hro
  cases ro with
  | some _ => exact hro.elim
  | none =>
   have he := piNew_ext (H := h) (hH.fresh (Nat.le_refl h.nx)) w.heap.size 0
   have st1 : Step B π h w (piNew π h.nx w.heap.size 0) (h.new (.dfr (some []))) (w.alloc (.deferred (some []))) := Step.alloc hH _ 0 _ ⟨some [], rfl, .nil⟩
   have hl : piNew π h.nx w.heap.size 0 h.nx = some (w.heap.size, 0) := by simp [piNew]
   obtain ⟨d, f', args, k1, k2, k3⟩ := rangeGo_sound (P := P) (cf := cf) (ev := ev) (f := f) (ps := ps) (asg := asg) (body := body) (k := k) (m := m) (ro := none) hcf hev st1.rel (hS := ⟨hS.rr.mono he, hS.sz, hS.df.mono he⟩) (by rw [hq]; trivial) hrc hl (.cons _ _ _ _ (.coll _ _ _ hl) .nil) fn hH st1 hok (by rw [e1]; exact .refl _) _ rfl
   refine ⟨_, _, _, d, _, f', args, _, ?_, k1, fun _ _ => trivial, k2, fun hx => by simp [Fw, Fence.wide] at hx, k3⟩
   show (Instr.enterLoop fn a.tmps ps asg body none).run P w = _
   unfold Instr.enterLoop
   simp only [Sem.run_bind, newObj, Sem.run, Sem.run_pure, Result.andThen_ok]
   rfl
 | some l =>
  rw [hq] at hro
  cases ro with
  | none => exact hro.elim
  | some c =>
   obtain ⟨z, hl⟩ := hro
   cases hg : h.get l with
   | none => unfold rangeS at hok; simp only [hq, hg] at hok; exact hok.elim
   | some b =>
    cases b with
    | loop st pd r' sz ps' asg' body' df =>
     have e1 : rangeS P cf ev f ps asg body r h q k = rangeGo P cf ev f ps.toList asg body r h q k df [] := by unfold rangeS; simp only [hq, hg]
     obtain ⟨c4, z4, L, z5, p1, p2, p3, p4, p5, p6, p7, p8, p9, p10⟩ := hH.loop hg
     rw [hl] at p1; cases p1
     obtain ⟨d, f', args, k1, k2, k3⟩ := rangeGo_sound (P := P) (cf := cf) (ev := ev) (f := f) (ps := ps) (asg := asg) (body := body) (k := k) (m := m) (ro := some c) hcf hev hH hS (by rw [hq]; exact ⟨z, hl⟩) hrc p10 .nil fn hH (.refl hH) hok (by rw [e1]; exact .refl _) _ rfl
     refine ⟨_, _, _, d, _, f', args, _, ?_, k1, fun _ _ => trivial, k2, fun hx => by simp [Fw, Fence.wide] at hx, k3⟩
     show (Instr.enterLoop fn a.tmps ps asg body (some c)).run P w = _
     unfold Instr.enterLoop
     simp only [Sem.run_bind, run_getLoop p2, newObj, Sem.run, Sem.run_pure, Result.andThen_ok]
     rfl
    | _ => unfold rangeS at hok; simp only [hq, hg] at hok; exact hok.elim
end
end Go.Proofs.YtnpkdiffpgcbhaaGreatDoor.Ev
namespace Go.Proofs.YtnpkdiffpgcbhaaGreatDoor.Ev
open Go Go.RowKit
section
variable {P : Program} {r r' : T AV} {h h1 h2 : Hp} {v : AV}
theorem opnd_congr {x : Operand} (hx : ∀ t, x = .tmp t → r.get (Pos.of t) = r'.get (Pos.of t)) : opnd r x = opnd r' x := by
 cases x with
 | tmp t => exact hx t rfl
 | _ => rfl
theorem opnds_congr : ∀ {l : List Operand}, (∀ x ∈ l, opnd r x = opnd r' x) → opnds r l = opnds r' l
 | [], _ => rfl
 | x :: l, hl => by
  unfold opnds at *
  rw [opndsL_cons, opndsL_cons]
  unfold opndsS
  have := opnds_congr (l := l) (fun y hy => hl y (by simp [hy]))
  unfold opnds at this
  rw [hl x (by simp), this]
theorem partsA_congr : ∀ {l : List (Nat × Operand)}, (∀ x ∈ l.map (·.2), opnd r x = opnd r' x) → partsA r l = partsA r' l
 | [], _ => rfl
 | (i, x) :: l, hl => by
  unfold partsA
  rw [hl x (by simp), partsA_congr (l := l) (fun y hy => hl y (by simp at hy ⊢; exact .inr hy))]
theorem optA_congr {x : Option Operand} (hx : ∀ y ∈ x, opnd r y = opnd r' y) : optA r x = optA r' x := by
 cases x with
 | none => rfl
 | some y => show Option.map some (opnd r y) = Option.map some (opnd r' y); rw [hx y rfl]
def OAgree (r r' : T AV) (o : Oper) : Prop := ∀ t, Operand.tmp t ∈ o.op.operands → r.get (Pos.of t) = r'.get (Pos.of t)
theorem opA_congr {o : Oper} (ha : OAgree r r' o) : opA P r o h = opA P r' o h := by
 have hx : ∀ x ∈ o.op.operands, opnd r x = opnd r' x := fun x hx => opnd_congr fun t ht => ha t (ht ▸ hx)
 unfold opA
 cases ho : o.op <;> rw [ho] at hx
 case move x => show opMove x P r h = opMove x P r' h; unfold opMove; rw [hx x (by simp [Op.operands])]
 case assign x => show opAssign x P r h = opAssign x P r' h; unfold opAssign; rw [hx x (by simp [Op.operands])]
 case pick c a b => show opPick c a b P r h = opPick c a b P r' h; unfold opPick; rw [hx a (by simp [Op.operands]), hx b (by simp [Op.operands]), hx c (by simp [Op.operands])]
 case alloc e => rfl
 case box e x => show opBox e x P r h = opBox e x P r' h; unfold opBox; rw [hx x (by simp [Op.operands])]
 case build t ps => show opBuild t ps P r h = opBuild t ps P r' h; unfold opBuild; rw [partsA_congr (l := ps.toList) (fun x hm => hx x (by simpa [Op.operands] using hm))]
 case buildSlice t n ps => show opBuildSlice t n ps P r h = opBuildSlice t n ps P r' h; unfold opBuildSlice; rw [partsA_congr (l := ps.toList) (fun x hm => hx x (by simpa [Op.operands] using hm))]
 case insert t m k x => show opInsert t m k x P r h = opInsert t m k x P r' h; unfold opInsert; rw [hx m (by simp [Op.operands]), hx k (by simp [Op.operands]), hx x (by simp [Op.operands])]
 case load t x => show opLoad t x P r h = opLoad t x P r' h; unfold opLoad; rw [hx x (by simp [Op.operands])]
 case store t x y => show opStore t x y P r h = opStore t x y P r' h; unfold opStore; rw [hx x (by simp [Op.operands]), hx y (by simp [Op.operands])]
 case ready g => rfl
 case waits g => rfl
 case nilCheck x => show opNilCheck x P r h = opNilCheck x P r' h; unfold opNilCheck; rw [hx x (by simp [Op.operands])]
 case binOp op t x y u => show opBinOp op t x y u P r h = opBinOp op t x y u P r' h; unfold opBinOp; rw [hx x (by simp [Op.operands]), hx y (by simp [Op.operands])]
 case unOp op t x => show opUnOp op t x P r h = opUnOp op t x P r' h; unfold opUnOp; rw [hx x (by simp [Op.operands])]
 case convert s d x => show opConvert s d x P r h = opConvert s d x P r' h; unfold opConvert; rw [hx x (by simp [Op.operands])]
 case sliceToArrayPointer => rfl
 case makeInterface t x => show opMakeInterface t x P r h = opMakeInterface t x P r' h; unfold opMakeInterface; rw [hx x (by simp [Op.operands])]
 case makeFunc f a c => show opMakeFunc f a c P r h = opMakeFunc f a c P r' h; unfold opMakeFunc; rw [opnds_congr (l := a.toList) (fun x hm => hx x (by simp [Op.operands]; exact .inl (by simpa using hm))), opnds_congr (l := c.toList) (fun x hm => hx x (by simp [Op.operands]; exact .inr (by simpa using hm)))]
 case makeMap t x => show opMakeMap t x P r h = opMakeMap t x P r' h; unfold opMakeMap; rw [optA_congr (x := x) (fun y hm => hx y (by simpa [Op.operands] using hm))]
 case makeChan => rfl
 case makeSlice t l c => show opMakeSlice t l c P r h = opMakeSlice t l c P r' h; unfold opMakeSlice; rw [hx l (by simp [Op.operands]), hx c (by simp [Op.operands])]
 case slice t x l hh m => show opSlice t x l hh m P r h = opSlice t x l hh m P r' h; unfold opSlice; rw [hx x (by simp [Op.operands]), optA_congr (x := l) (fun y hm => hx y (by simp [Op.operands]; simp at hm; simp [hm])), optA_congr (x := hh) (fun y hm => hx y (by simp [Op.operands]; simp at hm; simp [hm])), optA_congr (x := m) (fun y hm => hx y (by simp [Op.operands]; simp at hm; simp [hm]))]
 case fieldAddr t x f => show opFieldAddr t x f P r h = opFieldAddr t x f P r' h; unfold opFieldAddr; rw [hx x (by simp [Op.operands])]
 case field t x f => show opField t x f P r h = opField t x f P r' h; unfold opField; rw [hx x (by simp [Op.operands])]
 case indexAddr t x i => show opIndexAddr t x i P r h = opIndexAddr t x i P r' h; unfold opIndexAddr; rw [hx x (by simp [Op.operands]), hx i (by simp [Op.operands])]
 case index t x i => show opIndex t x i P r h = opIndex t x i P r' h; unfold opIndex; rw [hx x (by simp [Op.operands]), hx i (by simp [Op.operands])]
 case lookup t m k ok => show opLookup t m k ok P r h = opLookup t m k ok P r' h; unfold opLookup; rw [hx m (by simp [Op.operands]), hx k (by simp [Op.operands])]
 case mapUpdate t m k x => show opMapUpdate t m k x P r h = opMapUpdate t m k x P r' h; unfold opMapUpdate; rw [hx m (by simp [Op.operands]), hx k (by simp [Op.operands]), hx x (by simp [Op.operands])]
 case mapEntry => rfl
 case entryStore => rfl
 case range t x => show opRange t x P r h = opRange t x P r' h; unfold opRange; rw [hx x (by simp [Op.operands])]
 case next x s => show opNext x s P r h = opNext x s P r' h; unfold opNext; rw [hx x (by simp [Op.operands])]
 case entry x => show opEntry x P r h = opEntry x P r' h; unfold opEntry; rw [hx x (by simp [Op.operands])]
 case typeAssert x t a ok => show opTypeAssert x t a ok P r h = opTypeAssert x t a ok P r' h; unfold opTypeAssert; rw [hx x (by simp [Op.operands])]
 case extract x i => show opExtract x i P r h = opExtract x i P r' h; unfold opExtract; rw [hx x (by simp [Op.operands])]
 case call c =>
  show opCall c P r h = opCall c P r' h
  have h1 : opnds r c.args.toList = opnds r' c.args.toList := opnds_congr fun x hm => hx x (by simp only [Op.operands, Call.operands, Array.mem_append]; exact .inr (by simpa using hm))
  unfold opCall
  rw [h1]
  cases hc : c.callee with
  | builtin b => rfl
  | value f =>
   have h2 : opnd r f = opnd r' f := hx f (by simp [Op.operands, Call.operands, hc])
   show oo (opnds r' c.args.toList) _ (cValue f P c.argTypes r h) = oo (opnds r' c.args.toList) _ (cValue f P c.argTypes r' h)
   have : cValue f P c.argTypes r h = cValue f P c.argTypes r' h := by funext l; unfold cValue; rw [h2]
   rw [this]
  | invoke f n =>
   have h2 : opnd r f = opnd r' f := hx f (by simp [Op.operands, Call.operands, hc])
   show oo (opnds r' c.args.toList) _ (cInvoke f n P c.argTypes r h) = oo (opnds r' c.args.toList) _ (cInvoke f n P c.argTypes r' h)
   have : cInvoke f n P c.argTypes r h = cInvoke f n P c.argTypes r' h := by funext l; unfold cInvoke; rw [h2]
   rw [this]
 case go => rfl
 case defer c =>
  show opDefer c P r h = opDefer c P r' h
  have h1 : opnds r c.args.toList = opnds r' c.args.toList := opnds_congr fun x hm => hx x (by simp only [Op.operands, Call.operands, Array.mem_append]; exact .inr (by simpa using hm))
  unfold opDefer
  rw [h1]
  cases hc : c.callee with
  | builtin b => rfl
  | invoke f n => rfl
  | value f =>
   have h2 : opnd r f = opnd r' f := hx f (by simp [Op.operands, Call.operands, hc])
   cases opnds r' c.args.toList with
   | none => rfl
   | some l => simp only [h2]
 case panic x => show opPanic x P r h = opPanic x P r' h; unfold opPanic; rw [hx x (by simp [Op.operands])]
 case send => rfl
 case recv => rfl
 case select => rfl
theorem mkI_eq (k : IntKind) (n : Int) (h : Hp) : mkI k n h = .val (.int k n) h := by
 unfold mkI
 cases n with
 | ofNat n => rw [oi_nat, fN_eq]
 | negSucc n => rfl
theorem wrapI_eq (k : IntKind) (n : Int) (h : Hp) : wrapI k n h = .val (.int k (k.wrap n)) h := by
 unfold wrapI
 cases n with
 | ofNat m =>
  show ob (Nat.blt m (lim k)) _ _ = _
  cases hb : Nat.blt m (lim k) with
  | false => rw [ob_false, mkI_eq]
  | true =>
   rw [ob_true, fN_eq]
   have := lim_wrap k m (by simpa [Nat.blt_eq] using hb)
   show OR.val (.int k (m : Int)) h = .val (.int k (k.wrap (m : Int))) h
   rw [this]
 | negSucc m => show mkI k (k.wrap (.negSucc m)) h = _; rw [mkI_eq]
def Pure (f : Hp → OR) : Prop := ∀ h v h1, f h = .val v h1 → h1 = h ∧ ∀ h2, f h2 = .val v h2
theorem Pure.val (v : AV) : Pure (fun h => .val v h) := fun h u h1 e => by cases e; exact ⟨rfl, fun _ => rfl⟩
theorem Pure.bad (w : Hp → String) : Pure (fun h => .bad (w h)) := fun h u h1 e => by cases e
theorem Pure.orV (x : Option AV) : Pure (fun h => Ev.orV h x) := by
 cases x with
 | none => exact Pure.bad fun _ => _
 | some v => exact Pure.val v
theorem Pure.oo {α : Type} {x : Option α} {w : String} {k : α → Hp → OR} (hk : ∀ a, x = some a → Pure (k a)) : Pure (fun h => Ev.oo x (.bad w) fun a => k a h) := by
 cases x with
 | none => exact Pure.bad fun _ => _
 | some a => exact hk a rfl
theorem Pure.ob {b : Bool} {f g : Hp → OR} (hf : Pure f) (hg : Pure g) : Pure (fun h => Ev.ob b (f h) (g h)) := by
 cases b with
 | false => exact hf
 | true => exact hg
theorem Pure.mkI (k : IntKind) (n : Int) : Pure (fun h => Ev.mkI k n h) := by
 have : (fun h => Ev.mkI k n h) = fun h => OR.val (.int k n) h := by funext h; rw [mkI_eq]
 rw [this]; exact Pure.val _
theorem Pure.wrapI (k : IntKind) (n : Int) : Pure (fun h => Ev.wrapI k n h) := by
 have : (fun h => Ev.wrapI k n h) = fun h => OR.val (.int k (k.wrap n)) h := by funext h; rw [wrapI_eq]
 rw [this]; exact Pure.val _
theorem Pure.intOp (op : BinOp) (k : IntKind) (a b : Int) : Pure (fun h => Ev.intOp op k a b h) := by
 cases op
 case quo => exact Pure.ob (Pure.wrapI _ _) (Pure.bad fun _ => _)
 case rem => exact Pure.ob (Pure.mkI _ _) (Pure.bad fun _ => _)
 all_goals first | exact Pure.wrapI _ _ | exact Pure.mkI _ _ | exact Pure.val _ | exact Pure.bad fun _ => _
theorem Pure.shiftOp (op : BinOp) (k : IntKind) (a b : Int) : Pure (fun h => Ev.shiftOp op k a b h) := by
 cases b with
 | negSucc m => exact Pure.bad fun _ => _
 | ofNat m => cases op <;> first | exact Pure.mkI _ _ | exact Pure.bad fun _ => _
theorem Pure.strOp (op : BinOp) (n v m u : Nat) : Pure (fun h => Ev.strOp op n v m u h) := by
 cases op
 case add =>
  show Pure fun h => bif Nat.blt (n + m) big63 then OR.val (.str (n + m) (v * 256 ^ m + u)) h else .bad "long text"
  cases Nat.blt (n + m) big63
  ·exact Pure.bad fun _ => _
  ·exact Pure.val _
 all_goals first | exact Pure.val _ | exact Pure.bad fun _ => _
def Hle (h h2 : Hp) : Prop := ∀ b x, h.get b = some x → h2.get b = some x
def Mono (f : Hp → OR) : Prop := ∀ h v h1, f h = .val v h1 → h1 = h ∧ ∀ h2, Hle h h2 → f h2 = .val v h2
theorem Pure.mono {f : Hp → OR} (hf : Pure f) : Mono f := fun h v h1 e => ⟨(hf h v h1 e).1, fun h2 _ => (hf h v h1 e).2 h2⟩
theorem Mono.orV {x : Hp → Option AV} (hx : ∀ h h2 v, Hle h h2 → x h = some v → x h2 = some v) : Mono (fun h => Ev.orV h (x h)) := by
 intro h v h1 e
 have e : Ev.orV h (x h) = .val v h1 := e
 obtain ⟨e1, e2⟩ := orV_val e
 refine ⟨e2, fun h2 hl => ?_⟩
 show Ev.orV h2 (x h2) = _
 rw [hx h h2 v hl e1]; rfl
theorem Mono.oo {α : Type} {x : Option α} {w : String} {k : α → Hp → OR} (hk : ∀ a, x = some a → Mono (k a)) : Mono (fun h => Ev.oo x (.bad w) fun a => k a h) := by
 cases x with
 | none => exact (Pure.bad fun _ => _).mono
 | some a => exact hk a rfl
theorem Mono.ob {b : Bool} {f g : Hp → OR} (hf : Mono f) (hg : Mono g) : Mono (fun h => Ev.ob b (f h) (g h)) := by
 cases b with
 | false => exact hf
 | true => exact hg
variable {P : Program}
theorem load_mono {t : TypeId} {a : AV} (h h2 : Hp) (v : AV) (hl : Hle h h2) (e : load P t a h = some v) : load P t a h2 = some v := by
 unfold load at e ⊢
 obtain ⟨b, o, rfl, e⟩ := avPtr_eqO e
 obtain ⟨k, e1, e2⟩ := oo_eq e
 show oo (h2.get b) none _ = _
 rw [hl _ _ e1]; exact e2
theorem andO_some {a : Option Bool} {b : Unit → Option Bool} {r : Bool} (h : andO a b = some r) : (a = some false ∧ r = false) ∨ (a = some true ∧ b () = some r) := by
 unfold andO at h
 split at h
 ·exact .inr ⟨rfl, h⟩
 ·rename_i hne
  cases a with
  | none => cases h
  | some x => cases x with
   | true => exact absurd rfl hne
   | false => cases h; exact .inl ⟨rfl, rfl⟩
theorem eqF_mono {eq eq' : TypeId → AV → AV → Option Bool} (he : ∀ t x y r, eq t x y = some r → eq' t x y = some r) (xs ys : List AV) : ∀ (fs : List Field) (r : Bool), eqF eq P xs ys fs = some r → eqF eq' P xs ys fs = some r
 | [], r, h => h
 | f :: fs, r, h => by
  unfold eqF at h ⊢
  cases hn : f.name == "_" with
  | true => rw [hn, cond_true] at h; rw [cond_true]; exact eqF_mono he xs ys fs r h
  | false =>
   rw [hn, cond_false] at h; rw [cond_false]
   split at h
   ·rename_i x y h1 h2
    show andO (eq' f.type x y) _ = _
    rcases andO_some h with ⟨a, rfl⟩ | ⟨a, b⟩
    ·rw [he _ _ _ _ a]; rfl
    ·rw [he _ _ _ _ a]; exact eqF_mono he xs ys fs r b
   ·cases h
theorem eqA_mono {h h2 : Hp} (hl : Hle h h2) : ∀ (d : Nat) (t : TypeId) (x y : AV) (r : Bool), eqA P h d t x y = some r → eqA P h2 d t x y = some r
 | 0, t, x, y, r, e => by unfold eqA at e; cases e
 | d + 1, t, x, y, r, e => by
  unfold eqA at e ⊢
  split at e
  all_goals first | exact e | skip
  ·
   rename_i ee a i b j hu
   split at e
   ·rename_i g s ht
    cases hb : Nat.beq a b with
    | true => rw [hb, cond_true] at e; simp only [cond_true]; exact e
    | false =>
     rw [hb, cond_false] at e
     simp only [cond_false]
     split at e
     ·rename_i n lo hi m lo' hi' h1 h2'
      rw [hl _ _ h1, hl _ _ h2']
      exact e
     ·cases e
   ·cases e
  ·rename_i tt v u w hu
   cases hb : Nat.beq tt u with
   | false => rw [hb] at e; exact e
   | true =>
    rw [hb, cond_true] at e
    rw [cond_true]
    split at e
    ·rename_i inf hi
     cases hc : inf.comparable with
     | false => rw [hc, cond_false] at e; cases e
     | true => rw [hc, cond_true] at e; rw [cond_true]; exact eqA_mono hl d _ _ _ _ e
    ·cases e
  ·rename_i fs xs ys hu
   cases hb : P.stoodInHeld t with
   | true => rw [hb, cond_true] at e; cases e
   | false => rw [hb, cond_false] at e; rw [cond_false]; exact eqF_mono (fun t x y r => eqA_mono hl d t x y r) xs ys _ _ e
theorem Pure.eqOr (x : Option Bool) (n : Bool) : Pure (fun h => Ev.eqOr x n h) := by
 cases x with
 | none => exact Pure.bad fun _ => _
 | some b => exact Pure.val _
theorem Mono.eqOr {x : Hp → Option Bool} (hx : ∀ h h2 r, Hle h h2 → x h = some r → x h2 = some r) (n : Bool) : Mono (fun h => Ev.eqOr (x h) n h) := by
 intro h v h1 e
 have e : Ev.eqOr (x h) n h = .val v h1 := e
 show h1 = h ∧ ∀ h2, Hle h h2 → Ev.eqOr (x h2) n h2 = .val v h2
 cases hxh : x h with
 | none => rw [hxh] at e; cases e
 | some r =>
  rw [hxh] at e
  cases e
  exact ⟨rfl, fun h2 hl => by rw [hx h h2 r hl hxh]; rfl⟩
theorem Mono.binA (op : BinOp) (t : TypeId) (a b : AV) : Mono (fun h => Ev.binA P op t a b h) := by
 have eqm : ∀ n, Mono (fun h => Ev.eqOr (eqA P h 20 t a b) n h) := fun n => Mono.eqOr (x := fun h => eqA P h 20 t a b) (fun h h2 r hl e => eqA_mono hl 20 t a b r e) n
 have hS : Mono (fun h => binS op P t a b h) := by
  cases a with
  | str n v =>
   show Mono fun h => avStr b (.bad "text operator") fun m u => strOp op n v m u h
   cases b with
   | str m u => exact (Pure.strOp op n v m u).mono
   | _ => exact (Pure.bad fun _ => _).mono
  | _ => cases op <;> first | exact eqm _ | exact (Pure.bad fun _ => _).mono
 cases a with
 | int k x =>
  show Mono fun h => avInt b (.bad "operator") fun k' y => Ev.ob (isShift op) (Ev.ob (kEq k k') (.bad "kinds") (intOp op k x y h)) (shiftOp op k x y h)
  cases b with
  | int k' y => exact (Pure.ob (Pure.ob (Pure.bad fun _ => _) (Pure.intOp op k x y)) (Pure.shiftOp op k x y)).mono
  | _ => exact (Pure.bad fun _ => _).mono
 | _ => exact hS
theorem fits_mono {h h2 : Hp} (hl : Hle h h2) {b n : Nat} (e : fits h b n = true) : fits h2 b n = true := by
 unfold fits at e ⊢
 split at e
 ·rename_i k _ _ _ _ hb; rw [hl _ _ hb]; exact e
 ·cases e
theorem sliceA_mono {h h2 : Hp} (hl : Hle h h2) {t : TypeId} {x : AV} {l hh m : Option AV} {v : AV} (e : sliceA P t x l hh m h = some v) : sliceA P t x l hh m h2 = some v := by
 unfold sliceA at e ⊢
 obtain ⟨e1, e2⟩ := ob_eq e
 rw [e1, ob_true]
 split at e2
 all_goals first | exact e2 | skip
 ·rename_i hu
  split at e2
  ·rename_i g s ht
   cases hb : fits h _ _ && Nat.blt _ big63 with
   | false => rw [hb] at e2; cases e2
   | true =>
    rw [hb] at e2
    rw [Bool.and_eq_true] at hb
    rw [fits_mono hl hb.1, hb.2]
    exact e2
  ·cases e2
 ·rename_i hu
  split at e2
  ·rename_i hu2
   split at e2
   ·rename_i g s ht
    cases hb : fits h _ _ && Nat.blt _ big63 with
    | false => rw [hb] at e2; cases e2
    | true =>
     rw [hb] at e2
     rw [Bool.and_eq_true] at hb
     rw [fits_mono hl hb.1, hb.2]
     exact e2
   ·cases e2
  ·cases e2
end
end Go.Proofs.YtnpkdiffpgcbhaaGreatDoor.Ev
namespace Go.Proofs.YtnpkdiffpgcbhaaGreatDoor.Ev
open Go Go.RowKit
section
variable {P : Program} {r : T AV}
theorem Pure.matchV (x : Option AV) (w : String) : Pure (fun h => match x with | some v => OR.val v h | none => .bad w) := by
 cases x with
 | none => exact Pure.bad fun _ => _
 | some v => exact Pure.val v
theorem cls0 {o : Oper} (hc : cls P o.op = 0) : Pure (fun h => opA P r o h) := by
 have hA : ∀ op', o.op = op' → (fun h => opA P r o h) = fun h => opA P r { o with op := op' } h := fun op' e => by subst e; rfl
 cases ho : o.op <;> rw [ho] at hc <;> rw [hA _ ho]
 case move x => exact Pure.orV _
 case assign x => exact Pure.orV _
 case pick c a b =>
  refine Pure.oo fun c' _ => ?_
  cases c' with
  | bool b' => exact Pure.orV _
  | _ => exact Pure.bad fun _ => _
 case build t ps =>
  show Pure fun h => opBuild t ps P r h
  unfold opBuild
  generalize partsA r ps.toList = x
  cases x with
  | none => exact Pure.bad fun _ => _
  | some l => exact Pure.matchV _ _
 case nilCheck x =>
  refine Pure.oo fun c' _ => ?_
  cases c' with
  | ptr b o => exact Pure.val _
  | fn f a c => exact Pure.val _
  | _ => exact Pure.bad fun _ => _
 case unOp op t x =>
  refine Pure.oo fun a _ => ?_
  cases op with
  | neg =>
   show Pure fun h => uNeg a h
   cases a with
   | int k n => exact Pure.wrapI _ _
   | _ => exact Pure.bad fun _ => _
  | not =>
   show Pure fun h => uNot a h
   cases a with
   | bool b => exact Pure.val _
   | _ => exact Pure.bad fun _ => _
  | _ => exact Pure.bad fun _ => _
 case makeInterface t x =>
  show Pure fun h => opMakeInterface t x P r h
  unfold opMakeInterface
  generalize opnd r x = y
  generalize P.underlying t = u
  cases y with
  | none => exact Pure.bad fun _ => _
  | some y =>
   cases u with
   | none => exact Pure.bad fun _ => _
   | some u => cases u <;> first | exact Pure.val _ | exact Pure.bad fun _ => _
 case makeFunc f a c =>
  show Pure fun h => opMakeFunc f a c P r h
  unfold opMakeFunc
  generalize opnds r a.toList = x
  generalize opnds r c.toList = y
  cases f <;> cases x <;> cases y <;> first | exact Pure.val _ | exact Pure.bad fun _ => _
 case slice t x l hh m =>
  have hs : isSlS P t = true := by
   cases hb : isSlS P t with
   | true => rfl
   | false =>
    have hc : Ev.ob (isSlS P t) 1 0 = 0 := hc
    rw [hb] at hc
    exact absurd hc (by decide)
  show Pure fun h => opSlice t x l hh m P r h
  unfold opSlice
  generalize opnd r x = y
  generalize optA r l = l'
  generalize optA r hh = h'
  generalize optA r m = m'
  cases y <;> cases l' <;> cases h' <;> cases m' <;> first | exact (Pure.bad fun _ => _) | skip
  rename_i y l' h' m'
  have hind : ∀ h h2, sliceA P t y l' h' m' h = sliceA P t y l' h' m' h2 := by
   intro h h2
   unfold isSlS at hs
   unfold sliceA
   split at hs
   ·rename_i hu; simp only [hu]; cases y <;> cases m' <;> rfl
   ·rename_i hu; simp only [hu]; cases y <;> cases m' <;> rfl
   ·cases hs
  intro h v h1 e
  simp only at e
  cases hv : sliceA P t y l' h' m' h with
  | none => rw [hv] at e; cases e
  | some u =>
   rw [hv] at e
   cases e
   refine ⟨rfl, fun h2 => ?_⟩
   simp only
   rw [hind h2 h, hv]
 case fieldAddr t x f => exact Pure.oo fun _ _ => Pure.orV _
 case field t x f =>
  show Pure fun h => opField t x f P r h
  unfold opField
  generalize opnd r x = y
  generalize fieldOf P t f = z
  cases y with
  | none => exact Pure.bad fun _ => _
  | some y => cases y <;> cases z <;> first | exact Pure.bad fun _ => _ | exact Pure.matchV _ _
 case indexAddr t x i => exact Pure.oo fun _ _ => Pure.oo fun _ _ => Pure.orV _
 case index t x i => exact Pure.oo fun _ _ => Pure.oo fun _ _ => Pure.orV _
 case typeAssert x t a ok =>
  show Pure fun h => opTypeAssert x t a ok P r h
  unfold opTypeAssert
  generalize opnd r x = y
  generalize P.underlying a = u
  generalize zeroA P a = z
  have hz : ∀ (k : AV → AV), Pure (fun h => match z with | some z => OR.val (k z) h | none => .bad "typeAssert") := fun k => by
   cases z with
   | none => exact Pure.bad fun _ => _
   | some z => exact Pure.val _
  have hnil : Pure (fun h => bif ok then (match (generalizing := false) z with | some z => OR.val (.tup [z, .bool false]) h | none => .bad "typeAssert") else .bad "typeAssert") := by
   cases ok
   ·exact Pure.bad fun _ => _
   ·exact hz _
  have hifc : ∀ tt vv, Pure (fun h => bif Nat.beq tt a then OR.val (bif ok then .tup [vv, .bool true] else vv) h else bif ok then (match (generalizing := false) z with | some z => OR.val (.tup [z, .bool false]) h | none => .bad "typeAssert") else .bad "typeAssert") := by
   intro tt vv
   cases Nat.beq tt a
   ·exact hnil
   ·exact Pure.val _
  cases y with
  | none => exact Pure.bad fun _ => _
  | some y =>
   cases u with
   | none => cases y <;> exact Pure.bad fun _ => _
   | some u => cases y <;> cases u <;> first | exact Pure.bad fun _ => _ | exact hifc _ _ | exact hnil
 case extract x i =>
  refine Pure.oo fun a _ => ?_
  cases a with
  | tup l => exact Pure.orV _
  | _ => exact Pure.bad fun _ => _
 case call c =>
  exfalso
  have hc : clsC c = 0 := hc
  unfold clsC at hc
  split at hc
  ·split at hc <;> exact absurd hc (by decide)
  ·exact absurd hc (by decide)
 all_goals first | exact absurd (show (3 : Nat) = 0 from hc) (by decide) | exact absurd (show (2 : Nat) = 0 from hc) (by decide) | exact absurd (show (1 : Nat) = 0 from hc) (by decide)
theorem findK_mono {eq eq' : AV → AV → Option Bool} (he : ∀ x y r, eq x y = some r → eq' x y = some r) (k : AV) : ∀ (es : List (AV × AV)) (x : Option AV), findK eq k es = some x → findK eq' k es = some x
 | [], x, e => e
 | (k', v) :: es, x, e => by
  unfold findK at e ⊢
  cases h1 : eq k k' with
  | none => rw [h1] at e; cases e
  | some q =>
   rw [h1] at e
   rw [he _ _ _ h1]
   cases q with
   | true =>
    simp only at e ⊢
    split at e
    ·rename_i h2
     rw [findK_mono he k es none h2]; exact e
    ·cases e
   | false => exact findK_mono he k es x e
theorem findE_mono {h h2 : Hp} (hl : Hle h h2) {kt : TypeId} {k : AV} {es : List (AV × AV)} {x : Option AV} (e : findE P h kt k es = some x) : findE P h2 kt k es = some x := by
 unfold findE at e ⊢
 obtain ⟨e1, e2⟩ := ob_eq e
 rw [e1, ob_true]
 exact findK_mono (fun x y r => eqA_mono hl 20 kt x y r) k es x e2
theorem lookupA_mono {h h2 : Hp} (hl : Hle h h2) {t : TypeId} {m k : AV} {ok : Bool} {v : AV} (e : lookupA P t m k ok h = some v) : lookupA P t m k ok h2 = some v := by
  have key : ∀ kt vt es, (match findE P h kt k es with
      | some (some v) => some (bif ok then AV.tup [v, .bool true] else v)
      | some none => match zeroA P vt with
        | some z => some (bif ok then AV.tup [z, .bool false] else z)
        | none => none
      | none => none) = some v → (match findE P h2 kt k es with
      | some (some v) => some (bif ok then AV.tup [v, .bool true] else v)
      | some none => match zeroA P vt with
        | some z => some (bif ok then AV.tup [z, .bool false] else z)
        | none => none
      | none => none) = some v := by
    intro kt vt es e
    cases hf : findE P h kt k es with
    | none => rw [hf] at e; cases e
    | some x => rw [hf] at e; rw [findE_mono hl hf]; exact e
  unfold lookupA at e ⊢
  cases hm : mapKV P t with
  | none => rw [hm] at e; cases e
  | some p =>
    obtain ⟨kt, vt⟩ := p
    rw [hm] at e
    simp only at e ⊢
    cases m with
    | nilm => exact key kt vt [] e
    | map b =>
      simp only at e ⊢
      cases hb : h.get b with
      | none => rw [hb] at e; cases e
      | some x =>
        rw [hb] at e
        rw [hl _ _ hb]
        cases x with
        | map es c => exact key kt vt es e
        | _ => exact e
    | _ => exact e
theorem lenA_mono {h h2 : Hp} (hl : Hle h h2) {t : TypeId} {x : AV} {n : Nat} (e : lenA P t x h = some n) : lenA P t x h2 = some n := by
 unfold lenA at e ⊢
 generalize lenT P t = lt at e ⊢
 cases lt with
 | str => exact e
 | sl => exact e
 | other =>
  have e : lenO P t x h = some n := e
  show lenO P t x h2 = some n
  unfold lenO at e ⊢
  split at e
  all_goals first | exact e | skip
  split at e
  ·rename_i hb; simp only [hl _ _ hb]; exact e
  ·cases e
theorem cls1 {o : Oper} (hc : cls P o.op = 1) : Mono (fun h => opA P r o h) := by
 have hA : ∀ op', o.op = op' → (fun h => opA P r o h) = fun h => opA P r { o with op := op' } h := fun op' e => by subst e; rfl
 cases ho : o.op <;> rw [ho] at hc <;> rw [hA _ ho]
 case load t a => exact Mono.oo fun _ _ => Mono.orV (fun h h2 v hl e => load_mono h h2 v hl e)
 case binOp op t x y u => exact Mono.oo fun a _ => Mono.oo fun b _ => Mono.ob (Pure.bad fun _ => _).mono (Mono.binA op t a b)
 case slice t x l hh m =>
  show Mono fun h => opSlice t x l hh m P r h
  unfold opSlice
  generalize opnd r x = y
  generalize optA r l = l'
  generalize optA r hh = h'
  generalize optA r m = m'
  cases y <;> cases l' <;> cases h' <;> cases m' <;> first | exact (Pure.bad fun _ => _).mono | skip
  rename_i y l' h' m'
  intro h v h1 e
  simp only at e
  cases hv : sliceA P t y l' h' m' h with
  | none => rw [hv] at e; cases e
  | some u =>
   rw [hv] at e
   cases e
   refine ⟨rfl, fun h2 hl => ?_⟩
   simp only
   rw [sliceA_mono hl hv]
 case lookup t m k ok =>
  show Mono fun h => opLookup t m k ok P r h
  unfold opLookup
  generalize opnd r m = m'
  generalize opnd r k = k'
  cases m' <;> cases k' <;> first | exact (Pure.bad fun _ => _).mono | skip
  rename_i m' k'
  intro h v h1 e
  simp only at e
  cases hv : lookupA P t m' k' ok h with
  | none => rw [hv] at e; cases e
  | some u =>
   rw [hv] at e
   cases e
   refine ⟨rfl, fun h2 hl => ?_⟩
   simp only
   rw [lookupA_mono hl hv]
 case call c =>
  have hc : clsC c = 1 := hc
  refine Mono.oo (w := "call: arguments") (k := fun args h => _) fun args _ => ?_
  unfold clsC at hc
  cases hcc : c.callee with
  | value f => rw [hcc] at hc; exact absurd (show (3 : Nat) = 1 from hc) (by decide)
  | invoke f n => rw [hcc] at hc; exact absurd (show (3 : Nat) = 1 from hc) (by decide)
  | builtin b =>
   rw [hcc] at hc
   show Mono fun h => builtinA P b c.argTypes args h
   cases b <;> first | exact absurd (show (3 : Nat) = 1 from hc) (by decide) | skip
   case len =>
    show Mono fun h => lenB P c.argTypes args h
    refine Mono.oo fun t _ => Mono.oo fun x _ => ?_
    intro h v h1 e
    have e : Ev.oo (lenA P t x h) (.bad "len") (fun n => fN n fun n => OR.val (.int .i64 (.ofNat n)) h) = .val v h1 := e
    show h1 = h ∧ ∀ h2, Hle h h2 → Ev.oo (lenA P t x h2) (.bad "len") (fun n => fN n fun n => OR.val (.int .i64 (.ofNat n)) h2) = .val v h2
    obtain ⟨n, e1, e2⟩ := oo_val e (by simp)
    rw [fN_eq] at e2
    cases e2
    refine ⟨rfl, fun h2 hl => ?_⟩
    rw [lenA_mono hl e1, oo_some, fN_eq]
   case cap =>
    show Mono fun h => builtinB P .cap c.argTypes args h
    refine Pure.mono ?_
    unfold builtinB
    simp only
    generalize c.argTypes[0]? = t
    cases t with
    | none => exact Pure.bad fun _ => _
    | some t =>
     cases args with
     | nil => exact Pure.bad fun _ => _
     | cons x l =>
      cases x <;> first | exact Pure.bad fun _ => _ | skip
      all_goals simp only
      all_goals generalize P.underlying t = u
      all_goals cases u <;> first | exact Pure.bad fun _ => _ | skip
      all_goals
       rename_i u
       cases u <;> first | exact Pure.bad fun _ => _ | exact Pure.val _ | skip
      simp only
      rename_i ex _ _
      first | exact Pure.val _ | (cases ‹Bool› <;> first | exact Pure.bad fun _ => _ | exact Pure.val _)
   case max =>
    show Mono fun h => builtinB P .max c.argTypes args h
    refine Pure.mono ?_
    unfold builtinB
    simp only
    cases args with
    | nil => exact Pure.bad fun _ => _
    | cons x l => exact Pure.matchV _ _
   case min =>
    show Mono fun h => builtinB P .min c.argTypes args h
    refine Pure.mono ?_
    unfold builtinB
    simp only
    cases args with
    | nil => exact Pure.bad fun _ => _
    | cons x l => exact Pure.matchV _ _
 all_goals first | exact absurd (show (3 : Nat) = 1 from hc) (by decide) | exact absurd (show (2 : Nat) = 1 from hc) (by decide) | exact absurd (show (0 : Nat) = 1 from hc) (by decide)
end
end Go.Proofs.YtnpkdiffpgcbhaaGreatDoor.Ev
namespace Go.Proofs.YtnpkdiffpgcbhaaGreatDoor.Ev
open Go Go.RowKit
section
def AR (P : Program) (π : Pi) (w : World) (b : Nat) (x : Blk) (v : AV) (s : Sem Value) : Prop :=
 ∃ (o : Obj) (z : Nat) (cv : Value), s.run P w = .ok cv (w.alloc o) ∧ (∀ w', BR π w' x z o) ∧ x.wr = true ∧ x.sib = [] ∧ ∀ π', PExt π π' → π' b = some (w.heap.size, z) → VR π' v cv
variable {P : Program} {B : Nat} {π : Pi} {H H' H0 : Hp} {w : World} {r : T AV} {a : Act} {v : AV}
theorem AR.oval (hH : HRel π B H w) {x : Blk} {s : Sem Value} (h : AR P π w H.nx x v s) : OVal P (do let y ← s; pure (.value y)) B π H w v (H.new x) := by
 obtain ⟨o, z, cv, h1, h2, _, _, h3⟩ := h
 have he := piNew_ext (H := H) (hH.fresh (Nat.le_refl _)) w.heap.size z
 exact OVal.mk h1 (h3 _ he (by simp [piNew])) (Step.alloc hH x z o ((h2 w).on he (fun c hc => Evo.of_eq (Below.heap_alloc _ _ _ hc)) (fun b p hp => (hH.dom b p hp).2)))
theorem row_AR (P : Program) {e : Nat} {l : List AV} {vs : List Value} (h : VRs π l vs) (hc : l.all AV.isCell = true) :
  (newRow e vs.toArray).run P w = .ok ⟨w.heap.size, 0, none⟩ (w.alloc (.cells vs.toArray e)) ∧ ∀ w', BR π w' (rowV e l) vs.length (.cells vs.toArray e) := by
 refine ⟨by simp [newRow], fun w' => ?_⟩
 have := BR_row (π := π) (w := w') (e := e) (n := l.length) (lo := 0) (hi := 0) (wr := true) (sib := []) (l := l.map some) (arr := vs.toArray) (by simp [h.length])
  (fun j v _ hj => by
   simp at hj
   obtain ⟨cv, a, b⟩ := h.get hj
   exact ⟨cv, by simpa using a, b⟩) (by simpa using isCell_one h hc) (0, 0) (fun _ => ⟨Nat.le_refl _, fun j a b => by omega⟩)
 unfold rowV row
 rw [List.length_map]
 simpa using this
theorem alloc_AR {e : TypeId} (h : opAlloc e P r H = .val v H') : ∃ x, H' = H.new x ∧ AR P π w H.nx x v (Instr.alloc e true (.tuple #[])) := by
 obtain ⟨l, h1, h2⟩ := oo_val h (by simp [orB])
 rw [fN_eq] at h2; cases h2
 obtain ⟨z, cz, s, g, _, _, _, _, hc, hz, _, hl⟩ := zeroC_run (P := P) (π := π) (w := w) h1
 obtain ⟨k1, k2⟩ := row_AR P (w := w) (e := e) hl hc
 refine ⟨rowV e l, rfl, .cells cz.cells.toList.toArray e, cz.cells.toList.length, .pointer (some ⟨w.heap.size, 0, none⟩), ?_, k2, rfl, rfl, fun π' _ hp => .ptr _ _ _ _ hp⟩
 unfold Instr.alloc
 rw [Sem.run_bind, hz, Result.andThen_ok]
 simp only [newVar, Sem.run_bind]
 rw [show cz.cells = cz.cells.toList.toArray by simp, k1]; rfl
theorem box_AR (hH : HRel π B H0 w) (hR : RR π r a.tmps) {e : TypeId} {x : Operand} (h : opBox e x P r H = .val v H') : ∃ y, H' = H.new y ∧ AR P π w H.nx y v (Instr.box e (a.eval x)) := by
 obtain ⟨u, h1, h2⟩ := oo_val h (by simp [orB])
 obtain ⟨h3, h4⟩ := ob_val h2 (by simp [orB])
 rw [fN_eq] at h4; cases h4
 obtain ⟨k1, k2⟩ := row_AR P (w := w) (e := e) (opnd_sound hH hR h1).cells h3
 refine ⟨_, rfl, .cells (a.eval x).cells.toList.toArray e, (a.eval x).cells.toList.length, .pointer (some ⟨w.heap.size, 0, none⟩), ?_, k2, rfl, rfl, fun π' _ hp => .ptr _ _ _ _ hp⟩
 simp only [Instr.box, newVar, Sem.run_bind]
 rw [show (a.eval x).cells = (a.eval x).cells.toList.toArray by simp, k1]; rfl
theorem buildSlice_AR (hH : HRel π B H0 w) (hR : RR π r a.tmps) {t : TypeId} {n : Nat} {ps : Array (Nat × Operand)} (h : opBuildSlice t n ps P r H = .val v H') :
  ∃ x, H' = H.new x ∧ AR P π w H.nx x v (Instr.buildSlice t n (ps.map fun (i, x) => (i, a.eval x))) := by
 obtain ⟨e, h1, h⟩ := oo_val h (by simp [orB])
 obtain ⟨l, h2, h⟩ := oo_val h (by simp [orB])
 obtain ⟨⟨g, s⟩, h3, h⟩ := oo_val h (by simp [orB])
 obtain ⟨z, h4, h⟩ := oo_val h (by simp [orB])
 obtain ⟨h5, h⟩ := ob_val h (by simp [orB])
 obtain ⟨cs, h6, h⟩ := oo_val h (by simp [orB])
 obtain ⟨h7, h⟩ := ob_val h (by simp [orB])
 rw [fN_eq] at h; cases h
 have hps := partsA_sound hH hR h2
 obtain ⟨za, cz, s', g', _, _, hs', hzl, hzc, hz, _, hzr⟩ := zeroC_run (P := P) (π := π) (w := w) h4
 rw [h3] at hs'; cases hs'
 have h5 : n < 16777216 ∧ n * s < 16777216 := by simpa [Nat.blt_eq, maxNeed] using h5
 obtain ⟨h50, h5⟩ := h5
 have hczs : cz.cells.size = s := by rw [← hzl, hzr.length]; simp
 have hrow : ∃ zr : Array Value, (n * s = 0 ∧ zr = #[] ∨ n * s ≠ 0 ∧ zr = cz.cells) ∧ VRs π (repl z n) ((List.range (n * s)).map fun i => zr[i % zr.size]!) := by
  by_cases h0 : n * s = 0
  ·refine ⟨#[], .inl ⟨h0, rfl⟩, ?_⟩
   rw [h0]
   have : repl z n = [] := by
    rcases Nat.mul_eq_zero.1 h0 with rfl | h0
    ·rfl
    ·have : z = [] := List.length_eq_zero_iff.1 (by rw [hzl]; exact h0)
     subst this
     exact repl_nil n
   rw [this]; exact .nil
  ·refine ⟨cz.cells, .inr ⟨h0, rfl⟩, ?_⟩
   have := repl_range z cz.cells n hzr (by rw [hzl]; rcases Nat.eq_zero_or_pos s with k | k; exact absurd (by rw [k]; simp) h0; exact k)
   rwa [hczs] at this ⊢
 obtain ⟨zr, hz1, hz2⟩ := hrow
 obtain ⟨cs', k1, k2⟩ := fill_sound (π := π) (pl := fun i => some (i * s, s)) (pl' := fun i => some (i * s, s)) (fun i p hp => hp) (cs := (Array.range (n * s)).map (zr[· % zr.size]!)) (qs := (ps.map fun (i, x) => (i, a.eval x)).toList) (by simpa using hps) (by simpa using hz2) h6
 obtain ⟨m1, m2⟩ := row_AR P (w := w) (e := e) k2 h7
 have hlen : cs'.toList.length = n * s := by
  have : ∀ (qs : List (Nat × Value)) (c c' : Array Value), Instr.fill (fun i => some (i * s, s)) c qs = some c' → c'.size = c.size := by
   intro qs
   induction qs with
   | nil => intro c c' hc; cases hc; rfl
   | cons q qs ih =>
    intro c c' hc
    obtain ⟨i, v⟩ := q
    unfold Instr.fill at hc
    simp only at hc
    split at hc
    ·cases hc
    ·rw [ih _ _ hc]
     have : ∀ (us : List (Value × Nat)) (off : Nat) (c : Array Value), (us.foldl (fun cs (x : Value × Nat) => cs.setIfInBounds (off + x.2) x.1) c).size = c.size := by
      intro us
      induction us with
      | nil => intro off c; rfl
      | cons u us ih => intro off c; rw [List.foldl_cons, ih]; simp
     rw [← Array.foldl_toList]
     exact this _ _ _
  have h9 := this _ _ _ k1
  rw [Array.length_toList, h9]; simp
 refine ⟨rowV e cs, rfl, .cells cs'.toList.toArray e, n * s, .slice (some ⟨w.heap.size, 0, none⟩) n n, ?_, fun w' => by rw [← hlen]; exact m2 w', rfl, rfl, fun π' _ hp => .sl _ _ _ _ _ _ w.heap.size (n * s) n hp (Nat.le_refl _) (Nat.le_refl _) (fun _ => rfl) (by simp) (by unfold big63; omega)⟩
 unfold Instr.buildSlice
 simp only [Sem.run_bind, run_underlying (elemSl_eq h1), Result.andThen_ok, tAgg_size h3]
 rw [if_neg (by omega)]
 have k1' : Instr.fill (fun i => some (i * s, s)) ((Array.range (n * s)).map fun x => zr[x % zr.size]!) (Array.map (fun x => (x.fst, a.eval x.snd)) ps).toList = some cs' := k1
 have m1' : Sem.run P (newRow e cs') w = Result.ok ⟨w.heap.size, 0, none⟩ (w.alloc (Obj.cells cs'.toList.toArray e)) := by rw [← m1]
 rcases hz1 with ⟨h0, rfl⟩ | ⟨h0, rfl⟩
 ·rw [if_pos h0]
  simp only [Sem.run_bind, Sem.run_pure, Result.andThen_ok]
  rw [k1']
  simp only [Sem.run_bind, m1', Result.andThen_ok, Sem.run_pure]
 ·rw [if_neg h0]
  simp only [Sem.run_bind, hz, Sem.run_pure, Result.andThen_ok]
  rw [k1']
  simp only [Sem.run_bind, m1', Result.andThen_ok, Sem.run_pure]
theorem makeMap_AR {t : TypeId} {x : Option Operand} (hH : HRel π B H0 w) (hR : RR π r a.tmps) (h : opMakeMap t x P r H = .val v H') : ∃ y, H' = H.new y ∧ AR P π w H.nx y v (Instr.makeMap t (x.map a.eval)) := by
 unfold opMakeMap at h
 have fin : ∀ s : Sem Value, s.run P w = .ok (.map (some w.heap.size)) (w.alloc (.map #[] 0)) → AR P π w H.nx (.map [] 0) (.map H.nx) s := fun s hs =>
  ⟨.map #[] 0, 0, .map (some w.heap.size), hs, fun _ => ⟨#[], [], rfl, .refl _, .nil, .nil, fun e he => (by cases he), fun e he => (by cases he), .nil⟩, rfl, rfl, fun π' _ hp => .map _ _ _ hp⟩
 split at h
 ·rename_i k e hu hx
  cases h
  refine ⟨_, rfl, fin _ ?_⟩
  have : x = none := by
   cases x with
   | none => rfl
   | some y => unfold optA at hx; simp at hx
  subst this
  unfold Instr.makeMap
  simp [newObj, Sem.run]
 ·rename_i k e kk n hu hx
  cases h
  refine ⟨_, rfl, fin _ ?_⟩
  have hor := optA_sound hH hR hx
  generalize hxe : x.map a.eval = xe at hor
  cases hor with
  | some _ v' hv =>
   have := hv.int_inv
   subst this
   unfold Instr.makeMap
   simp only [Sem.run_bind, run_underlying hu, Result.andThen_ok, asInt, asIntOf, Sem.run_pure, newObj, Sem.run]
   rfl
 ·cases h
theorem zeros_BR (P : Program) {e c : Nat} {z : List AV} {zc : Array Value} (hz : VRs π z zc.toList) (hc : z.all AV.isCell = true) (h0 : 0 < z.length) :
    ∀ w', BR π w' (zeros e c z) (c * zc.size) (.cells ((Array.range (c * zc.size)).map (zc[· % zc.size]!)) e) := by
  have hlen : z.length = zc.size := by rw [hz.length]; simp
  have hrows := repl_range z zc c hz h0
  have ha : ((List.range (c * zc.size)).map fun i => zc[i % zc.size]!).toArray = (Array.range (c * zc.size)).map (zc[· % zc.size]!) := by
    apply Array.ext' ; simp
  have hone : ∀ v ∈ ((List.range (c * zc.size)).map fun i => zc[i % zc.size]!), v.oneCell' = true := by
    intro v hv
    obtain ⟨i, _, rfl⟩ := List.mem_map.1 hv
    have hlt : i % zc.size < zc.size := Nat.mod_lt _ (by omega)
    refine isCell_one hz hc _ ?_
    rw [getElem!_pos zc (i % zc.size) hlt]
    simp
  intro w'
  unfold zeros
  split
  · rename_i u
    have hs : zc.size = 1 := by rw [← hlen]; rfl
    cases hz0 : zc.toList with
    | nil => rw [hz0] at hz; cases hz
    | cons cu l =>
      rw [hz0] at hz
      cases hz with
      | cons _ _ _ _ hu hn =>
        cases hn
        have hzc : zc = #[cu] := by apply Array.ext'; rw [hz0]
        refine ⟨_, (0, 0), rfl, by simp, by rw [hs]; omega, fun _ => ⟨Nat.le_refl _, fun j a b => by simp at b⟩, ?_, ?_⟩
        · intro j v hj
          obtain ⟨t, d, n, e', lo, hi, wr, s, hbk, hjn⟩ := Blk.rd_some hj
          cases hbk
          refine ⟨cu, ?_, ?_⟩
          · rw [hzc]
            rw [Array.getElem?_map, Array.getElem?_eq_getElem (by simpa using hjn)]
            simp [Nat.mod_one]
          · have e1 : (Blk.cells T.e (some u) c e 0 0 true []).rd j = some u := by
              unfold Blk.rd
              show ob (Nat.blt j c) none (oo ((T.e : T AV).get (Pos.of j)) (some u) some) = some u
              rw [show Nat.blt j c = true from by simpa [Nat.blt_eq] using hjn, ob_true, T.get_e]; rfl
            rw [e1] at hj; cases hj
            exact hu
        · intro j cv hj
          refine hone cv ?_
          rw [← Array.getElem?_toList] at hj
          have := List.mem_of_getElem? hj
          simpa using this
  · have hl : (repl z c).all AV.isCell = true := by
      clear hrows ha hone
      induction c with
      | zero => rfl
      | succ c ih => rw [repl, List.all_append, hc, ih]; rfl
    have := (row_AR P (w := default) (e := e) hrows hl).2 w'
    rw [ha] at this
    simpa using this
theorem makeSlice_AR {t : TypeId} {l c : Operand} (hH : HRel π B H0 w) (hR : RR π r a.tmps) (h : opMakeSlice t l c P r H = .val v H') : ∃ y, H' = H.new y ∧ AR P π w H.nx y v (Instr.makeSlice t (a.eval l) (a.eval c)) := by
 unfold opMakeSlice at h
 split at h
 ·rename_i e k1 ln k2 cn he hl hc
  split at h
  ·rename_i g s z i ht hz hi
   cases hb : Nat.ble ln cn && Nat.blt cn maxNeed && Nat.blt i.bytes 65536 && Nat.blt 0 s with
   | false => rw [hb] at h; cases h
   | true =>
    rw [hb] at h
    cases h
    rw [Bool.and_eq_true, Bool.and_eq_true, Bool.and_eq_true] at hb
    obtain ⟨⟨⟨b1, b2⟩, b3⟩, b4⟩ := hb
    have b1 : ln ≤ cn := Nat.le_of_ble_eq_true b1
    have b2 : cn < 16777216 := Nat.le_of_ble_eq_true b2
    have b3 : i.bytes < 65536 := Nat.le_of_ble_eq_true b3
    have b4 : 0 < s := Nat.le_of_ble_eq_true b4
    obtain ⟨za, cz, s', g', _, _, hs', hzl, hzc, hzr0, _, hzr⟩ := zeroC_run (P := P) (π := π) (w := w) hz
    rw [ht] at hs'; cases hs'
    have hczs : cz.cells.size = s := by rw [← hzl, hzr.length]; simp
    have hBR := zeros_BR P (e := e) (c := cn) hzr hzc (by omega)
    rw [hczs] at hBR
    refine ⟨_, rfl, _, cn * s, .slice (some ⟨w.heap.size, 0, none⟩) ln cn, ?_, hBR, ?_, ?_, fun π' _ hp => .sl _ _ _ _ _ _ w.heap.size (cn * s) cn hp b1 (Nat.le_refl _) (fun _ => rfl) (by simp) (by unfold big63; omega)⟩
    ·have e1 := (opnd_sound hH hR hl).int_inv
     have e2 := (opnd_sound hH hR hc).int_inv
     unfold Instr.makeSlice
     simp only [Sem.run_bind, run_underlying (elemSl_eq he), Result.andThen_ok, e1, e2, asInt, asIntOf, Sem.run_pure, run_typeInfo hi]
     have w1 : IntKind.i64.wrap (Int.ofNat ln) = (ln : Int) := lim_wrap .i64 ln (by show ln < big63; unfold big63; omega)
     have w2 : IntKind.i64.wrap (Int.ofNat cn) = (cn : Int) := lim_wrap .i64 cn (by show cn < big63; unfold big63; omega)
     rw [w1, w2]
     have hm : i.bytes * cn ≤ 65536 * 16777216 := Nat.mul_le_mul (by omega) (by omega)
     have hmi : ((i.bytes : Int) * (cn : Int)) ≤ ((65536 * 16777216 : Nat) : Int) := by rw [← Int.natCast_mul]; exact Int.ofNat_le.2 hm
     have hmn : ((65536 * 16777216 : Nat) : Int) = 1099511627776 := rfl
     rw [hmn] at hmi
     have hroom : ∀ n, (askRoom n).run P w = .ok () w := by intro n; unfold askRoom; split <;> rfl
     have hp48 : (2 : Int) ^ 48 = 281474976710656 := rfl
     have q1 : decide ((cn : Int) < 0) = false := decide_eq_false (by omega)
     have q2 : decide ((i.bytes : Int) * (cn : Int) > 2 ^ 48) = false := decide_eq_false (by rw [hp48]; omega)
     have q3 : decide ((ln : Int) < 0) = false := decide_eq_false (by omega)
     have q4 : decide ((ln : Int) > (cn : Int)) = false := decide_eq_false (by omega)
     rw [q1, q2, q3, q4]
     rw [if_neg (by decide)]
     simp only [Sem.run_bind, hroom, Result.andThen_ok, tAgg_size ht, Int.toNat_natCast]
     by_cases h0 : cn * s = 0
     ·rw [if_pos h0, h0]
      simp [newRow, newObj, Sem.run, Array.range]
     ·rw [if_neg h0]
      simp only [Sem.run_bind, hzr0, Sem.run_pure, Result.andThen_ok]
      simp [newRow, newObj, Sem.run, hczs]
    ·unfold zeros; split <;> rfl
    ·unfold zeros; split <;> rfl
  ·cases h
 ·cases h
theorem cls2 {o : Oper} (hc : cls P o.op = 2) (hH : HRel π B H0 w) (hR : RR π r a.tmps) (e : opA P r o H = .val v H') : ∃ x s, H' = H.new x ∧ execOp a.eval o = (do let y ← s; pure (.value y)) ∧ AR P π w H.nx x v s := by
 have hA : ∀ op', o.op = op' → opA P r o H = opA P r { o with op := op' } H := fun op' e => by subst e; rfl
 have hE : ∀ op', o.op = op' → execOp a.eval o = execOp a.eval { o with op := op' } := fun op' e => by subst e; rfl
 cases ho : o.op <;> rw [ho] at hc <;> rw [hA _ ho] at e <;> rw [hE _ ho]
 case alloc t => obtain ⟨x, h1, h2⟩ := alloc_AR (π := π) (w := w) (r := r) e; exact ⟨x, _, h1, rfl, h2⟩
 case box t y => obtain ⟨x, h1, h2⟩ := box_AR hH hR e; exact ⟨x, _, h1, rfl, h2⟩
 case buildSlice t n ps => obtain ⟨x, h1, h2⟩ := buildSlice_AR hH hR e; exact ⟨x, _, h1, rfl, h2⟩
 case makeMap t y => obtain ⟨x, h1, h2⟩ := makeMap_AR hH hR e; exact ⟨x, _, h1, rfl, h2⟩
 case makeSlice t y z => obtain ⟨x, h1, h2⟩ := makeSlice_AR hH hR e; exact ⟨x, _, h1, rfl, h2⟩
 case slice t x l hh m =>
  exfalso
  have hc : Ev.ob (isSlS P t) 1 0 = 2 := hc
  cases hb : isSlS P t <;> rw [hb] at hc <;> exact absurd hc (by decide)
 case call c =>
  exfalso
  have hc : clsC c = 2 := hc
  unfold clsC at hc
  split at hc
  ·split at hc <;> exact absurd hc (by decide)
  ·exact absurd hc (by decide)
 all_goals first | exact absurd (show (3 : Nat) = 2 from hc) (by decide) | exact absurd (show (1 : Nat) = 2 from hc) (by decide) | exact absurd (show (0 : Nat) = 2 from hc) (by decide)
end
end Go.Proofs.YtnpkdiffpgcbhaaGreatDoor.Ev
namespace Go.Proofs.YtnpkdiffpgcbhaaGreatDoor.Ev
open Go Go.RowKit
theorem tb_eq (m i : Nat) : tb m i = m.testBit i := by
 unfold tb Nat.testBit
 show on (1 &&& (m >>> i)) false (fun _ => true) = (1 &&& (m >>> i) != 0)
 cases (1 &&& (m >>> i)) <;> rfl
theorem tb_zero (i : Nat) : tb 0 i = false := by rw [tb_eq]; simp
theorem tb_lor (a b i : Nat) : tb (Nat.lor a b) i = (tb a i || tb b i) := by
 rw [tb_eq, tb_eq, tb_eq]; exact Nat.testBit_or a b i
theorem tb_one (a i : Nat) : tb (Nat.shiftLeft 1 a) i = decide (a = i) := by
 rw [tb_eq]
 show (1 <<< a).testBit i = _
 rw [Nat.one_shiftLeft, Nat.testBit_two_pow]
theorem mskO_tb (ms : List Nat) (o : Oper) (j : Nat) : tb (mskO ms o) j = true ↔ ∃ e ∈ o.after.toList, Region.binds .any e = true ∧ (j = e.on ∨ tb (ms.getD e.on 0) j = true) := by
 unfold mskO
 induction o.after.toList with
 | nil => simp [tb_zero]
 | cons e l ih =>
  rw [List.foldr_cons]
  cases hb : Region.binds .any e with
  | false =>
   rw [cond_false, ih]
   constructor
   ·rintro ⟨e', h1, h2⟩; exact ⟨e', by simp [h1], h2⟩
   ·rintro ⟨e', h1, h2, h3⟩
    rcases List.mem_cons.1 h1 with rfl | h1
    ·rw [hb] at h2; cases h2
    ·exact ⟨e', h1, h2, h3⟩
  | true =>
   rw [cond_true, tb_lor, tb_lor, tb_one]
   simp only [Bool.or_eq_true, decide_eq_true_eq, ih]
   constructor
   ·rintro (⟨e', h1, h2⟩ | h | h)
    ·exact ⟨e', by simp [h1], h2⟩
    ·exact ⟨e, by simp, hb, .inl h.symm⟩
    ·exact ⟨e, by simp, hb, .inr h⟩
   ·rintro ⟨e', h1, h2, h3⟩
    rcases List.mem_cons.1 h1 with rfl | h1
    ·rcases h3 with h3 | h3
     ·exact .inr (.inl h3.symm)
     ·exact .inr (.inr h3)
    ·exact .inl ⟨e', h1, h2, h3⟩
theorem msks_spec : ∀ (l : List Oper) (ms : List Nat), ∃ R, msks l ms = ms ++ R ∧ R.length = l.length ∧ ∀ i (h : i < l.length), (ms ++ R).getD (ms.length + i) 0 = mskO ((ms ++ R).take (ms.length + i)) l[i]
 | [], ms => ⟨[], by simp [msks], rfl, fun i h => by simp at h⟩
 | o :: l, ms => by
  obtain ⟨R, h1, h2, h3⟩ := msks_spec l (ms ++ [mskO ms o])
  refine ⟨mskO ms o :: R, ?_, by simp [h2], ?_⟩
  ·unfold msks
   rw [fN_eq, h1]; simp
  ·intro i hi
   have e : ms ++ mskO ms o :: R = ms ++ [mskO ms o] ++ R := by simp
   cases i with
   | zero =>
    simp
   | succ i =>
    have := h3 i (by simp at hi; omega)
    rw [e]
    simp only [List.length_append, List.length_cons, List.length_nil, List.getElem_cons_succ] at this ⊢
    rw [show ms.length + (i + 1) = ms.length + (0 + 1) + i by omega]
    exact this
def mkA (ops : Array Oper) (i : Nat) : Nat := (msks ops.toList []).getD i 0
theorem backOk_spec : ∀ {l : List Oper} {i : Nat}, backOk l i = true → ∀ k (h : k < l.length), ∀ e ∈ (l[k]).after.toList, Region.binds .any e = true → e.on < i + k
 | [], _, _, k, h => by simp at h
 | o :: l, i, hb, k, h => by
  unfold backOk at hb
  rw [Bool.and_eq_true] at hb
  intro e he hbi
  cases k with
  | zero =>
   have := List.all_eq_true.1 hb.1 e he
   rw [hbi] at this
   simpa [Nat.blt_eq] using this
  | succ k =>
   have := backOk_spec hb.2 k (by simpa using h) e he hbi
   omega
section
variable {ops : Array Oper}
theorem msks_len : (msks ops.toList []).length = ops.size := by
 obtain ⟨R, h1, h2, _⟩ := msks_spec ops.toList []
 rw [h1]; simpa using h2
theorem mk_tb (hb : backOk ops.toList 0 = true) {i : Nat} {o : Oper} (ho : ops[i]? = some o) (j : Nat) : tb (mkA ops i) j = true ↔ ∃ e ∈ o.after.toList, Region.binds .any e = true ∧ (j = e.on ∨ tb (mkA ops e.on) j = true) := by
 have hi : i < ops.toList.length := by
  rcases Nat.lt_or_ge i ops.size with h | h
  ·simpa using h
  ·rw [Array.getElem?_eq_none h] at ho; cases ho
 have hoi : ops.toList[i] = o := by
  have : ops.toList[i]? = some o := by rw [Array.getElem?_toList]; exact ho
  rw [List.getElem?_eq_getElem hi] at this
  simpa using this
 obtain ⟨R, h1, h2, h3⟩ := msks_spec ops.toList []
 have h4 := h3 i hi
 simp only [List.nil_append, List.length_nil, Nat.zero_add] at h4 h1
 unfold mkA
 rw [h1, h4, mskO_tb, hoi]
 constructor
 ·rintro ⟨e, a, b, c⟩
  have hlt := backOk_spec hb i hi e (by rw [hoi]; exact a) b
  refine ⟨e, a, b, c.imp id fun c => ?_⟩
  rw [List.getD_eq_getElem?_getD, List.getElem?_take_of_lt (by omega), ← List.getD_eq_getElem?_getD] at c
  exact c
 ·rintro ⟨e, a, b, c⟩
  have hlt := backOk_spec hb i hi e (by rw [hoi]; exact a) b
  refine ⟨e, a, b, c.imp id fun c => ?_⟩
  rw [List.getD_eq_getElem?_getD, List.getElem?_take_of_lt (by omega), ← List.getD_eq_getElem?_getD]
  exact c
theorem edge_lt (hb : backOk ops.toList 0 = true) {i : Nat} {o : Oper} (ho : ops[i]? = some o) {e : Edge} (he : e ∈ o.after.toList) (hbi : Region.binds .any e = true) : e.on < i := by
 have hi : i < ops.toList.length := by
  rcases Nat.lt_or_ge i ops.size with h | h
  ·simpa using h
  ·rw [Array.getElem?_eq_none h] at ho; cases ho
 have hoi : ops.toList[i] = o := by
  have : ops.toList[i]? = some o := by rw [Array.getElem?_toList]; exact ho
  rw [List.getElem?_eq_getElem hi] at this
  simpa using this
 have := backOk_spec hb i hi e (by rw [hoi]; exact he) hbi
 omega
theorem mk_none {i : Nat} (h : ops[i]? = none) : mkA ops i = 0 := by
 unfold mkA
 rw [List.getD_eq_getElem?_getD, List.getElem?_eq_none (by rw [msks_len]; rcases Nat.lt_or_ge i ops.size with k | k; (rw [Array.getElem?_eq_getElem k] at h; cases h); exact k)]
 rfl
theorem mk_lt (hb : backOk ops.toList 0 = true) : ∀ (i j : Nat), tb (mkA ops i) j = true → j < i := by
 intro i
 induction i using Nat.strongRecOn with
 | _ i ih =>
  intro j h
  cases ho : ops[i]? with
  | none => rw [mk_none ho, tb_zero] at h; cases h
  | some o =>
   obtain ⟨e, a, b, c⟩ := (mk_tb hb ho j).1 h
   have := edge_lt hb ho a b
   rcases c with c | c
   ·omega
   ·have := ih e.on this j c; omega
theorem mk_trans (hb : backOk ops.toList 0 = true) : ∀ (i j k : Nat), tb (mkA ops i) j = true → tb (mkA ops j) k = true → tb (mkA ops i) k = true := by
 intro i
 induction i using Nat.strongRecOn with
 | _ i ih =>
  intro j k h h'
  cases ho : ops[i]? with
  | none => rw [mk_none ho, tb_zero] at h; cases h
  | some o =>
   obtain ⟨e, a, b, c⟩ := (mk_tb hb ho j).1 h
   refine (mk_tb hb ho k).2 ⟨e, a, b, .inr ?_⟩
   rcases c with rfl | c
   ·exact h'
   ·exact ih e.on (edge_lt hb ho a b) j k c h'
def Down (ops : Array Oper) (L : Nat → Bool) : Prop := ∀ i, L i = true → ∀ j, tb (mkA ops i) j = true → L j = true
theorem ready_all (hb : backOk ops.toList 0 = true) {L : Nat → Bool} (hd : Down ops L) {i : Nat} {o : Oper} (ho : ops[i]? = some o) (hr : ∀ e ∈ o.after.toList, Region.binds .any e = true → L e.on = true) (j : Nat) (h : tb (mkA ops i) j = true) : L j = true := by
 obtain ⟨e, a, b, c⟩ := (mk_tb hb ho j).1 h
 rcases c with rfl | c
 ·exact hr e a b
 ·exact hd _ (hr e a b) j c
theorem zipM_get : ∀ {l : List Oper} {ms : List Nat}, l.length = ms.length → ∀ i : Nat, (zipM l ms)[i]? = (l[i]?).map fun o => (o, ms.getD i 0)
 | [], [], _, i => by simp [zipM]
 | o :: l, m :: ms, h, i => by
  unfold zipM
  cases i with
  | zero => simp
  | succ i => simpa using zipM_get (l := l) (ms := ms) (by simpa using h) i
 | [], _ :: _, h, _ => by simp at h
 | _ :: _, [], h, _ => by simp at h
theorem plan_get (i : Nat) : (plan ops)[i]? = (ops[i]?).map fun o => (o, mkA ops i) := by
 unfold plan mkA
 rw [zipM_get (by rw [msks_len]; simp), Array.getElem?_toList]
theorem zipM_length : ∀ {l : List Oper} {ms : List Nat}, l.length = ms.length → (zipM l ms).length = l.length
 | [], [], _ => rfl
 | o :: l, m :: ms, h => by unfold zipM; simp [zipM_length (l := l) (ms := ms) (by simpa using h)]
 | [], _ :: _, h => by simp at h
 | _ :: _, [], h => by simp at h
theorem plan_length : (plan ops).length = ops.size := by
 unfold plan
 rw [zipM_length (by rw [msks_len]; simp)]; simp
theorem dsts_mem : ∀ {l : List Oper} {t : Nat}, t ∈ dsts l ↔ ∃ o ∈ l, o.dst = some t
 | [], t => by simp [dsts]
 | o :: l, t => by
  unfold dsts
  cases ho : o.dst with
  | none => simp [dsts_mem (l := l), ho]
  | some d => simp [dsts_mem (l := l), ho, eq_comm]
theorem nodup_dsts : ∀ {l : List Oper}, nodup (dsts l) = true → ∀ (i j : Nat) (oi oj : Oper) (t : Nat), l[i]? = some oi → l[j]? = some oj → oi.dst = some t → oj.dst = some t → i = j
 | [], _, i, j, oi, oj, t, h, _, _, _ => by simp at h
 | o :: l, hn, i, j, oi, oj, t, h1, h2, h3, h4 => by
  unfold dsts at hn
  have hl : nodup (dsts l) = true := by
   cases ho : o.dst with
   | none => rw [ho] at hn; exact hn
   | some d => rw [ho] at hn; unfold nodup at hn; rw [Bool.and_eq_true] at hn; exact hn.2
  have hx : ∀ (k : Nat) (ok : Oper), l[k]? = some ok → o.dst = some t → ok.dst = some t → False := by
   intro k ok a b c
   rw [b] at hn
   unfold nodup at hn
   rw [Bool.and_eq_true] at hn
   have := List.all_eq_true.1 hn.1 t (dsts_mem.2 ⟨ok, List.mem_of_getElem? a, c⟩)
   simp at this
  cases i with
  | zero =>
   cases j with
   | zero => rfl
   | succ j => simp at h1 h2; subst h1; exact (hx j oj h2 h3 h4).elim
  | succ i =>
   cases j with
   | zero => simp at h1 h2; subst h2; exact (hx i oi h1 h4 h3).elim
   | succ j => simp at h1 h2; rw [nodup_dsts hl i j oi oj t h1 h2 h3 h4]
theorem nameOk_spec {i m t : Nat} : ∀ {pl : List (Oper × Nat)} {k : Nat}, nameOk i m t pl k = true → ∀ (j : Nat) (p : Oper × Nat), pl[j]? = some p → p.1.dst = some t → i = k + j ∨ tb m (k + j) = true ∨ tb p.2 i = true
 | [], _, _, j, p, h, _ => by simp at h
 | q :: pl, k, hn, j, p, h, hd => by
  unfold nameOk at hn
  rw [Bool.and_eq_true] at hn
  cases j with
  | zero =>
   simp at h; subst h
   have := hn.1
   rw [hd] at this
   simp only [Bool.or_eq_true, Bool.not_eq_true'] at this
   rcases this with ((h | h) | h) | h
   ·simp at h
   ·exact .inl (Nat.eq_of_beq_eq_true h)
   ·exact .inr (.inl h)
   ·exact .inr (.inr h)
  | succ j =>
   have := nameOk_spec hn.2 j p (by simpa using h) hd
   rw [show k + (j + 1) = Nat.succ k + j by omega]
   exact this
theorem namesOk_spec {pl : List (Oper × Nat)} : ∀ {l : List (Oper × Nat)} {k : Nat}, namesOk ops pl l k = true → ∀ (i : Nat) (p : Oper × Nat), l[i]? = some p → (∀ t ∈ p.1.looksAt ops, nameOk (k + i) p.2 t pl 0 = true) ∧ ∀ j b, p.1.guard = some (j, b) → tb p.2 j = true
 | [], _, _, i, p, h => by simp at h
 | q :: l, k, hn, i, p, h => by
  unfold namesOk at hn
  rw [Bool.and_eq_true, Bool.and_eq_true] at hn
  cases i with
  | zero =>
   simp at h; subst h
   refine ⟨fun t ht => List.all_eq_true.1 hn.1.1 t ht, fun j b hg => ?_⟩
   have := hn.1.2
   rw [hg] at this
   exact this
  | succ i =>
   have := namesOk_spec hn.2 i p (by simpa using h)
   rw [show k + (i + 1) = Nat.succ k + i by omega]
   exact this
structure Static (ops : Array Oper) : Prop where
 back : backOk ops.toList 0 = true
 uniq : ∀ (i j : Nat) (oi oj : Oper) (t : Nat), ops[i]? = some oi → ops[j]? = some oj → oi.dst = some t → oj.dst = some t → i = j
 names : ∀ (i : Nat) (o : Oper), ops[i]? = some o → ∀ t ∈ o.looksAt ops, ∀ (j : Nat) (oj : Oper), ops[j]? = some oj → oj.dst = some t → j = i ∨ tb (mkA ops i) j = true ∨ tb (mkA ops j) i = true
 guards : ∀ (i : Nat) (o : Oper), ops[i]? = some o → ∀ j b, o.guard = some (j, b) → tb (mkA ops i) j = true
theorem static_of (h : rOk ops = true) : Static ops := by
 unfold rOk at h
 rw [Bool.and_eq_true, Bool.and_eq_true] at h
 obtain ⟨⟨h1, h2⟩, h3⟩ := h
 refine ⟨h2, fun i j oi oj t a b => nodup_dsts h1 i j oi oj t (by rw [Array.getElem?_toList]; exact a) (by rw [Array.getElem?_toList]; exact b), ?_, ?_⟩
 ·intro i o ho t ht j oj hoj hd
  have := (namesOk_spec h3 i (o, mkA ops i) (by rw [plan_get, ho]; rfl)).1 t ht
  rw [Nat.zero_add] at this
  rcases nameOk_spec this j (oj, mkA ops j) (by rw [plan_get, hoj]; rfl) hd with h | h | h
  ·exact .inl (by omega)
  ·exact .inr (.inl (by rwa [Nat.zero_add] at h))
  ·exact .inr (.inr h)
 ·intro i o ho j b hg
  exact (namesOk_spec h3 i (o, mkA ops i) (by rw [plan_get, ho]; rfl)).2 j b hg
theorem seqB_spec {m : Nat} {l : List (Nat × Bool)} {eff : Bool} (h : seqB m l eff = true) : ∀ p ∈ l, (eff = true ∨ p.2 = true) → tb m p.1 = true := by
 intro p hp he
 have := List.all_eq_true.1 h p hp
 have hb : (eff || p.2) = true := by rw [Bool.or_eq_true]; exact he
 rw [hb] at this
 exact this
theorem seqOk_spec {P : Program} : ∀ {l : List (Oper × Nat)} {k : Nat} {loud : List (Nat × Bool)}, seqOk P l k loud = true →
    (∀ (i : Nat) (p : Oper × Nat), l[i]? = some p → cls P p.1.op = 1 → (∀ q ∈ loud, q.2 = true → tb p.2 q.1 = true)) ∧
    (∀ (i : Nat) (p : Oper × Nat), l[i]? = some p → 3 ≤ cls P p.1.op → (∀ q ∈ loud, tb p.2 q.1 = true)) ∧
    (∀ (i j : Nat) (p q : Oper × Nat), i < j → l[i]? = some p → l[j]? = some q → cls P p.1.op = 1 → 3 ≤ cls P q.1.op → tb q.2 (k + i) = true) ∧
    (∀ (i j : Nat) (p q : Oper × Nat), i < j → l[i]? = some p → l[j]? = some q → 3 ≤ cls P p.1.op → cls P q.1.op = 1 → tb q.2 (k + i) = true)
  | [], _, _, _ => ⟨fun i p h => by simp at h, fun i p h => by simp at h, fun i j p q _ h => by simp at h, fun i j p q _ h => by simp at h⟩
  | p :: l, k, loud, h => by
    unfold seqOk at h
    have main : ∀ (loud' : List (Nat × Bool)), seqOk P l (Nat.succ k) loud' = true → (∀ q ∈ loud, q ∈ loud') →
        (cls P p.1.op = 1 → (∀ q ∈ loud, q.2 = true → tb p.2 q.1 = true) ∧ (k, false) ∈ loud') → (3 ≤ cls P p.1.op → (∀ q ∈ loud, tb p.2 q.1 = true) ∧ (k, true) ∈ loud') →
        (∀ (i : Nat) (p' : Oper × Nat), (p :: l)[i]? = some p' → cls P p'.1.op = 1 → (∀ q ∈ loud, q.2 = true → tb p'.2 q.1 = true)) ∧
        (∀ (i : Nat) (p' : Oper × Nat), (p :: l)[i]? = some p' → 3 ≤ cls P p'.1.op → (∀ q ∈ loud, tb p'.2 q.1 = true)) ∧
        (∀ (i j : Nat) (p' q : Oper × Nat), i < j → (p :: l)[i]? = some p' → (p :: l)[j]? = some q → cls P p'.1.op = 1 → 3 ≤ cls P q.1.op → tb q.2 (k + i) = true) ∧
        (∀ (i j : Nat) (p' q : Oper × Nat), i < j → (p :: l)[i]? = some p' → (p :: l)[j]? = some q → 3 ≤ cls P p'.1.op → cls P q.1.op = 1 → tb q.2 (k + i) = true) := by
      intro loud' h0 hs h1 h3
      obtain ⟨a, b, c, d⟩ := seqOk_spec h0
      refine ⟨?_, ?_, ?_, ?_⟩
      · intro i p' hp hc
        cases i with
        | zero => simp at hp; subst hp; exact (h1 hc).1
        | succ i => intro q hq; exact a i p' (by simpa using hp) hc q (hs q hq)
      · intro i p' hp hc
        cases i with
        | zero => simp at hp; subst hp; exact (h3 hc).1
        | succ i => intro q hq; exact b i p' (by simpa using hp) hc q (hs q hq)
      · intro i j p' q hij hp hq hc hc'
        cases j with
        | zero => omega
        | succ j =>
          cases i with
          | zero => simp at hp; subst hp; exact b j q (by simpa using hq) hc' _ (h1 hc).2
          | succ i => rw [show k + (i + 1) = Nat.succ k + i by omega]; exact c i j p' q (by omega) (by simpa using hp) (by simpa using hq) hc hc'
      · intro i j p' q hij hp hq hc hc'
        cases j with
        | zero => omega
        | succ j =>
          cases i with
          | zero => simp at hp; subst hp; exact a j q (by simpa using hq) hc' _ (h3 hc).2 rfl
          | succ i => rw [show k + (i + 1) = Nat.succ k + i by omega]; exact d i j p' q (by omega) (by simpa using hp) (by simpa using hq) hc hc'
    match hc : cls P p.1.op, h with
    | 0, h => rw [hc] at main; exact main loud h (fun _ h => h) (fun h => by omega) (fun h => by omega)
    | 1, h =>
      have h : (seqB p.2 loud false && seqOk P l (Nat.succ k) ((k, false) :: loud)) = true := h
      rw [Bool.and_eq_true] at h
      rw [hc] at main
      exact main _ h.2 (fun _ h => by simp [h]) (fun _ => ⟨fun q hq hq2 => seqB_spec h.1 q hq (.inr hq2), by simp⟩) (fun h => by omega)
    | 2, h => rw [hc] at main; exact main loud h (fun _ h => h) (fun h => by omega) (fun h => by omega)
    | c + 3, h =>
      have h : (seqB p.2 loud true && seqOk P l (Nat.succ k) ((k, true) :: loud)) = true := h
      rw [Bool.and_eq_true] at h
      rw [hc] at main
      exact main _ h.2 (fun _ h => by simp [h]) (fun h => by omega) (fun _ => ⟨fun q hq => seqB_spec h.1 q hq (.inl rfl), by simp⟩)
end
end Go.Proofs.YtnpkdiffpgcbhaaGreatDoor.Ev
namespace Go.Proofs.YtnpkdiffpgcbhaaGreatDoor.Ev
open Go Go.RowKit
section
variable {sel : Nat → Bool} {h : Hp}
theorem lay_nx : ∀ (als : List Al), (lay sel als h).nx = h.nx
 | [] => rfl
 | a :: l => by
  unfold lay
  cases sel a.i with
  | false => exact lay_nx l
  | true => exact lay_nx l
theorem lay_inv {b : Nat} {x : Blk} : ∀ {als : List Al}, (lay sel als h).get b = some x → (∃ a ∈ als, sel a.i = true ∧ a.b = b ∧ a.x = x) ∨ ((∀ a ∈ als, sel a.i = true → a.b ≠ b) ∧ h.get b = some x)
 | [], e => .inr ⟨fun a ha => (by cases ha), e⟩
 | a :: l, e => by
  unfold lay at e
  cases hs : sel a.i with
  | false =>
   rw [hs] at e
   rcases lay_inv (als := l) e with ⟨a', h1, h2⟩ | ⟨h1, h2⟩
   ·exact .inl ⟨a', by simp [h1], h2⟩
   ·refine .inr ⟨fun a' ha' hs' => ?_, h2⟩
    rcases List.mem_cons.1 ha' with rfl | ha'
    ·rw [hs] at hs'; cases hs'
    ·exact h1 a' ha' hs'
  | true =>
   rw [hs] at e
   have e : ((lay sel l h).set a.b a.x).get b = some x := e
   rw [Hp.get_set] at e
   by_cases hb : b = a.b
   ·rw [if_pos hb] at e
    exact .inl ⟨a, by simp, hs, hb.symm, by simpa using e⟩
   ·rw [if_neg hb] at e
    rcases lay_inv (als := l) e with ⟨a', h1, h2⟩ | ⟨h1, h2⟩
    ·exact .inl ⟨a', by simp [h1], h2⟩
    ·refine .inr ⟨fun a' ha' hs' => ?_, h2⟩
     rcases List.mem_cons.1 ha' with rfl | ha'
     ·exact fun e => hb e.symm
     ·exact h1 a' ha' hs'
theorem lay_out {b : Nat} : ∀ {als : List Al}, (∀ a ∈ als, sel a.i = true → a.b ≠ b) → (lay sel als h).get b = h.get b
 | [], _ => rfl
 | a :: l, hn => by
  unfold lay
  cases hs : sel a.i with
  | false => exact lay_out fun a' ha' => hn a' (by simp [ha'])
  | true =>
   show ((lay sel l h).set a.b a.x).get b = _
   rw [Hp.get_set, if_neg (fun e => hn a (by simp) hs e.symm)]
   exact lay_out fun a' ha' => hn a' (by simp [ha'])
theorem lay_in : ∀ {als : List Al}, (∀ a ∈ als, ∀ a' ∈ als, a.b = a'.b → a = a') → ∀ a ∈ als, sel a.i = true → (lay sel als h).get a.b = some a.x
 | [], _, a, ha, _ => by cases ha
 | a0 :: l, hu, a, ha, hs => by
  unfold lay
  cases hs0 : sel a0.i with
  | false =>
   rcases List.mem_cons.1 ha with rfl | ha
   ·rw [hs0] at hs; cases hs
   ·exact lay_in (fun a h1 a' h2 => hu a (by simp [h1]) a' (by simp [h2])) a ha hs
  | true =>
   show ((lay sel l h).set a0.b a0.x).get a.b = _
   rw [Hp.get_set]
   by_cases hb : a.b = a0.b
   ·have := hu a ha a0 (by simp) hb
    subst this; simp
   ·rw [if_neg hb]
    rcases List.mem_cons.1 ha with rfl | ha
    ·exact absurd rfl hb
    ·exact lay_in (fun a h1 a' h2 => hu a (by simp [h1]) a' (by simp [h2])) a ha hs
noncomputable def laygS (sel : Nat → Bool) : List Gp → Hp → Hp
 | [], h => h
 | g :: l, h => ob (sel g.i) (laygS sel l h) ((laygS sel l h).set g.b g.x)
theorem layG_eq : ∀ (l : List Gp), layG l h = laygS (fun _ => true) l h
 | [] => rfl
 | g :: l => by unfold layG laygS; rw [layG_eq l]; rfl
theorem layg_nx : ∀ (l : List Gp), (laygS sel l h).nx = h.nx
 | [] => rfl
 | a :: l => by
  unfold laygS
  cases sel a.i with
  | false => exact layg_nx l
  | true => exact layg_nx l
theorem layg_inv {b : Nat} {x : Blk} : ∀ {l : List Gp}, (laygS sel l h).get b = some x → (∃ a ∈ l, sel a.i = true ∧ a.b = b ∧ a.x = x) ∨ ((∀ a ∈ l, sel a.i = true → a.b ≠ b) ∧ h.get b = some x)
 | [], e => .inr ⟨fun a ha => (by cases ha), e⟩
 | a :: l, e => by
  unfold laygS at e
  cases hs : sel a.i with
  | false =>
   rw [hs] at e
   rcases layg_inv (l := l) e with ⟨a', h1, h2⟩ | ⟨h1, h2⟩
   ·exact .inl ⟨a', by simp [h1], h2⟩
   ·refine .inr ⟨fun a' ha' hs' => ?_, h2⟩
    rcases List.mem_cons.1 ha' with rfl | ha'
    ·rw [hs] at hs'; cases hs'
    ·exact h1 a' ha' hs'
  | true =>
   rw [hs] at e
   have e : ((laygS sel l h).set a.b a.x).get b = some x := e
   rw [Hp.get_set] at e
   by_cases hb : b = a.b
   ·rw [if_pos hb] at e
    exact .inl ⟨a, by simp, hs, hb.symm, by simpa using e⟩
   ·rw [if_neg hb] at e
    rcases layg_inv (l := l) e with ⟨a', h1, h2⟩ | ⟨h1, h2⟩
    ·exact .inl ⟨a', by simp [h1], h2⟩
    ·refine .inr ⟨fun a' ha' hs' => ?_, h2⟩
     rcases List.mem_cons.1 ha' with rfl | ha'
     ·exact fun e => hb e.symm
     ·exact h1 a' ha' hs'
theorem layg_out {b : Nat} : ∀ {l : List Gp}, (∀ a ∈ l, sel a.i = true → a.b ≠ b) → (laygS sel l h).get b = h.get b
 | [], _ => rfl
 | a :: l, hn => by
  unfold laygS
  cases hs : sel a.i with
  | false => exact layg_out fun a' ha' => hn a' (by simp [ha'])
  | true =>
   show ((laygS sel l h).set a.b a.x).get b = _
   rw [Hp.get_set, if_neg (fun e => hn a (by simp) hs e.symm)]
   exact layg_out fun a' ha' => hn a' (by simp [ha'])
theorem layg_in : ∀ {l : List Gp}, (∀ a ∈ l, ∀ a' ∈ l, a.b = a'.b → a = a') → ∀ a ∈ l, sel a.i = true → (laygS sel l h).get a.b = some a.x
 | [], _, a, ha, _ => by cases ha
 | a0 :: l, hu, a, ha, hs => by
  unfold laygS
  cases hs0 : sel a0.i with
  | false =>
   rcases List.mem_cons.1 ha with rfl | ha
   ·rw [hs0] at hs; cases hs
   ·exact layg_in (fun a h1 a' h2 => hu a (by simp [h1]) a' (by simp [h2])) a ha hs
  | true =>
   show ((laygS sel l h).set a0.b a0.x).get a.b = _
   rw [Hp.get_set]
   by_cases hb : a.b = a0.b
   ·have := hu a ha a0 (by simp) hb
    subst this; simp
   ·rw [if_neg hb]
    rcases List.mem_cons.1 ha with rfl | ha
    ·exact absurd rfl hb
    ·exact layg_in (fun a h1 a' h2 => hu a (by simp [h1]) a' (by simp [h2])) a ha hs
end
inductive StepR (P : Program) (cf : CallF) (rf : RndF) (ops : Array Oper) (g i m : Nat) (o : Oper) (s : DS) : DS → Prop
  | skip (h : behindPan s.pn m = true) : StepR P cf rf ops g i m o s s
  | unw (hw : wantA ops s.r o = some false) : StepR P cf rf ops g i m o s ⟨putD o.dst undA s.r, s.s, s.st, s.als, s.b, s.pn, s.tks, s.grp⟩
  | pure (hw : wantA ops s.r o = some true) (hc : cls P o.op = 0) (v : AV) (h' : Hp) (e : opA P s.r o s.s.h = .val v h') : StepR P cf rf ops g i m o s ⟨putD o.dst v s.r, s.s, s.st, s.als, s.b, s.pn, s.tks, s.grp⟩
  | read (hw : wantA ops s.r o = some true) (hc : cls P o.op = 1) (v : AV) (h' : Hp) (e : opA P s.r o (lay (selM m s.s.cm) s.als s.s.h) = .val v h') : StepR P cf rf ops g i m o s ⟨putD o.dst v s.r, s.s, s.st, s.als, s.b, s.pn, ⟨i, m, o, s.r, v⟩ :: s.tks, s.grp⟩
  | alloc (hw : wantA ops s.r o = some true) (hc : cls P o.op = 2) (v : AV) (h' : Hp) (x : Blk) (e : opA P s.r o ⟨.e, s.b⟩ = .val v h') (hx : h'.get s.b = some x) : StepR P cf rf ops g i m o s ⟨putD o.dst v s.r, s.s, s.st, ⟨i, s.b, x⟩ :: s.als, s.b + 1, s.pn, s.tks, s.grp⟩
  | eff (hw : wantA ops s.r o = some true) (hc : 3 ≤ cls P o.op) (hg : Nat.ble g i = false) (hch : inChain m s.s s.pn = true) (v : AV) (h' : Hp) (e : opE cf rf (opA P s.r o (lay (selM m s.s.cm) s.als s.s.h)) = .val v h') :
      StepR P cf rf ops g i m o s ⟨putD o.dst v s.r, ⟨some i, Nat.lor s.s.cm m, h'⟩, s.s :: s.st, s.als, s.b, s.pn, s.tks, s.grp⟩
  | pan (hw : wantA ops s.r o = some true) (hc : 3 ≤ cls P o.op) (hg : Nat.ble g i = false) (hch : inChain m s.s s.pn = true) (ch : List PE) (h' : Hp) (e : opE cf rf (opA P s.r o (lay (selM m s.s.cm) s.als s.s.h)) = .pan ch h') :
      StepR P cf rf ops g i m o s ⟨s.r, s.s, s.st, s.als, s.b, some (ch, h', i), s.tks, s.grp⟩
  | flt (hw : wantA ops s.r o = some true) (hc : 3 ≤ cls P o.op) (hg : Nat.ble g i = true) (hch : inChain m s.s s.pn = true) (t : TypeId) (a x : Operand) (c j : Nat) (v : AV) (x0 x1 : Blk) (h1 : Hp) (ho : o.op = .store t a x) (ea : opnd s.r a = some (.ptr c j)) (ex : opnd s.r x = some v)
      (e0 : s.s.h.get c = some x0) (hk : noKill j s.s.h x0.sibs = true) (hf : grpFree c x0.sibs s.grp = true) (es : store P t (.ptr c j) v s.s.h = some h1) (e1 : h1.get c = some x1) : StepR P cf rf ops g i m o s ⟨putD o.dst undA s.r, s.s, s.st, s.als, s.b, s.pn, s.tks, ⟨i, m, c, x1⟩ :: s.grp⟩
section
variable {P : Program} {cf : CallF} {rf : RndF} {ops : Array Oper} {g : Nat}
theorem oo_dr {α : Type} {x : Option α} {w : String} {k : α → DRes} {s : DS} (h : oo x (.bad w) k = .ok s) : ∃ a, x = some a ∧ k a = .ok s := oo_inv (p := (· = DRes.ok s)) h (by simp)
theorem ob_dr {b : Bool} {w : String} {t : DRes} {s : DS} (h : ob b (.bad w) t = .ok s) : b = true ∧ t = .ok s := ob_inv (p := (· = DRes.ok s)) h (by simp)
theorem orD_ok {c : OR} {k : AV → Hp → DRes} {s : DS} (h : orD c k = .ok s) : ∃ v h', c = .val v h' ∧ k v h' = .ok s := by
 cases c <;> first | exact ⟨_, _, rfl, h⟩ | cases h
theorem stepD_inv {i m : Nat} {o : Oper} {s s' : DS} (h : stepD P cf rf ops g i m o s = .ok s') : StepR P cf rf ops g i m o s s' := by
 obtain ⟨r, s0, st, als, b, pn, tks, grp⟩ := s
 have h : stepF P cf rf ops g i m o r s0 st als b pn tks grp = .ok s' := h
 unfold stepF at h
 cases hb : behindPan pn m with
 | true => rw [hb] at h; cases h; exact .skip hb
 | false =>
  rw [hb] at h
  have h : (oo (wantA ops r o) (.bad "guard") fun w => ob w (putS o undA r s0 st als b pn tks grp) (dOp P cf rf g i m o (cls P o.op) r s0 st als b pn tks grp)) = DRes.ok s' := h
  obtain ⟨w, h1, h2⟩ := oo_dr h
  cases w with
  | false => have h2 : putS o undA r s0 st als b pn tks grp = .ok s' := h2; unfold putS at h2; cases h2; exact .unw h1
  | true =>
   have h2 : dOp P cf rf g i m o (cls P o.op) r s0 st als b pn tks grp = .ok s' := h2
   match hc : cls P o.op, h2 with
   | 0, h2 =>
    have h2 : (orD (opA P r o s0.h) fun v _ => putS o v r s0 st als b pn tks grp) = .ok s' := h2
    obtain ⟨v, h', e, h3⟩ := orD_ok h2
    unfold putS at h3; cases h3
    exact .pure h1 hc v h' e
   | 1, h2 =>
    have h2 : (orD (opA P r o (lay (selM m s0.cm) als s0.h)) fun v _ => .ok ⟨putD o.dst v r, s0, st, als, b, pn, ⟨i, m, o, r, v⟩ :: tks, grp⟩) = .ok s' := h2
    obtain ⟨v, h', e, h3⟩ := orD_ok h2
    cases h3
    exact .read h1 hc v h' e
   | 2, h2 =>
    have h2 : (orD (opA P r o ⟨.e, b⟩) fun v h => oo (h.get b) (.bad "region: block") fun x => fN (Nat.succ b) fun b' => .ok ⟨putD o.dst v r, s0, st, ⟨i, b, x⟩ :: als, b', pn, tks, grp⟩) = .ok s' := h2
    obtain ⟨v, h', e, h3⟩ := orD_ok h2
    obtain ⟨x, h4, h5⟩ := oo_dr h3
    rw [fN_eq] at h5
    cases h5
    exact .alloc h1 hc v h' x e h4
   | c + 3, h2 =>
    have h2 : ob (Nat.ble g i) (dEff P cf rf i m o) (dFloat P i m o) r s0 st als b pn tks grp = .ok s' := h2
    have h3c : 3 ≤ cls P o.op := by omega
    cases hg : Nat.ble g i with
    | false =>
     rw [hg] at h2
     have h2 : dEff P cf rf i m o r s0 st als b pn tks grp = .ok s' := h2
     unfold dEff at h2
     obtain ⟨k1, k2⟩ := ob_dr h2
     cases he : opE cf rf (opA P r o (lay (selM m s0.cm) als s0.h)) with
     | bad w => rw [he] at k2; cases k2
     | dfr w => rw [he] at k2; cases k2
     | rcv => rw [he] at k2; cases k2
     | val v h' =>
      rw [he] at k2
      have k2 : (fN (Nat.lor s0.cm m) fun cm => DRes.ok ⟨putD o.dst v r, ⟨some i, cm, h'⟩, s0 :: st, als, b, pn, tks, grp⟩) = .ok s' := k2
      rw [fN_eq] at k2
      cases k2
      exact .eff h1 h3c hg k1 v h' he
     | pan ch h' =>
      rw [he] at k2
      have k2 : DRes.ok ⟨r, s0, st, als, b, some (ch, h', i), tks, grp⟩ = .ok s' := k2
      cases k2
      exact .pan h1 h3c hg k1 ch h' he
    | true =>
     rw [hg] at h2
     have h2 : dFloat P i m o r s0 st als b pn tks grp = .ok s' := h2
     unfold dFloat at h2
     obtain ⟨k1, k2⟩ := ob_dr h2
     split at k2
     ·rename_i t a x ho
      unfold dFloatS at k2
      obtain ⟨av, ea, k3⟩ := oo_dr k2
      obtain ⟨v, ex, k4⟩ := oo_dr k3
      obtain ⟨c', j, rfl, k5⟩ := avPtr_some (p := (· = DRes.ok s')) k4 (by simp)
      unfold dFloatB at k5
      obtain ⟨x0, e0, k6⟩ := oo_dr k5
      obtain ⟨hkf, k7⟩ := ob_dr k6
      rw [both_eq, Bool.and_eq_true] at hkf
      obtain ⟨h1', es, k8⟩ := oo_dr k7
      obtain ⟨x1, e1, k9⟩ := oo_dr k8
      cases k9
      exact .flt h1 h3c hg k1 t a x c' j v x0 x1 h1' ho ea ex e0 hkf.1 hkf.2 es e1
     ·cases k2
theorem opsD_cons (p : Oper × Nat) (l : List (Oper × Nat)) (i : Nat) (s : DS) : opsD P cf rf ops g (p :: l) i s = onDR (stepD P cf rf ops g i p.2 p.1 s) fun s => tickD (opsD P cf rf ops g l (Nat.succ i) s) := rfl
theorem opsD_trace : ∀ (l : List (Oper × Nat)) (k : Nat) (s d : DS), opsD P cf rf ops g l k s = .ok d → ∃ D : Nat → DS, D 0 = s ∧ D l.length = d ∧ ∀ (i : Nat) (p : Oper × Nat), l[i]? = some p → StepR P cf rf ops g (k + i) p.2 p.1 (D i) (D (i + 1))
 | [], k, s, d, h => by cases h; exact ⟨fun _ => s, rfl, rfl, fun i p hp => by simp at hp⟩
 | p :: l, k, s, d, h => by
  rw [opsD_cons] at h
  cases hs : stepD P cf rf ops g k p.2 p.1 s with
  | bad w => rw [hs] at h; cases h
  | ok s' =>
   rw [hs] at h
   have h : opsD P cf rf ops g l (Nat.succ k) s' = .ok d := h
   obtain ⟨D, h1, h2, h3⟩ := opsD_trace l (Nat.succ k) s' d h
   refine ⟨fun i => match i with | 0 => s | i + 1 => D i, rfl, h2, ?_⟩
   intro i q hq
   cases i with
   | zero =>
    simp at hq; subst hq
    show StepR P cf rf ops g (k + 0) p.2 p.1 s (D 0)
    rw [h1]; exact stepD_inv hs
   | succ i =>
    have := h3 i q (by simpa using hq)
    rw [show k + (i + 1) = Nat.succ k + i by omega]
    exact this
structure Tr (P : Program) (cf : CallF) (rf : RndF) (ops : Array Oper) (g : Nat) (s0 d : DS) (D : Nat → DS) : Prop where
 first : D 0 = s0
 last : D ops.size = d
 step : ∀ (i : Nat) (o : Oper), ops[i]? = some o → StepR P cf rf ops g i (mkA ops i) o (D i) (D (i + 1))
theorem trace_of {s0 d : DS} (h : opsD P cf rf ops g (plan ops) 0 s0 = .ok d) : ∃ D, Tr P cf rf ops g s0 d D := by
 obtain ⟨D, h1, h2, h3⟩ := opsD_trace _ _ _ _ h
 rw [plan_length] at h2
 refine ⟨D, h1, h2, fun i o ho => ?_⟩
 have := h3 i (o, mkA ops i) (by rw [plan_get, ho]; rfl)
 rwa [Nat.zero_add] at this
variable {s0 d : DS} {D : Nat → DS}
theorem Tr.ind (hT : Tr P cf rf ops g s0 d D) (R : DS → DS → Prop) (hr : ∀ s, R s s) (ht : ∀ a b c, R a b → R b c → R a c) {i k : Nat} (hik : i ≤ k) (hk : k ≤ ops.size)
    (hs : ∀ (j : Nat) (o : Oper), i ≤ j → j < k → ops[j]? = some o → StepR P cf rf ops g j (mkA ops j) o (D j) (D (j + 1)) → R (D j) (D (j + 1))) : R (D i) (D k) := by
  induction k with
  | zero => have : i = 0 := by omega
            subst this; exact hr _
  | succ k ih =>
    by_cases he : i = k + 1
    · subst he; exact hr _
    · have hlt : k < ops.size := by omega
      have ho : ops[k]? = some ops[k] := Array.getElem?_eq_getElem hlt
      exact ht _ _ _ (ih (by omega) (by omega) fun j o h1 h2 => hs j o h1 (by omega)) (hs k _ (by omega) (by omega) ho (hT.step k _ ho))
theorem putD_get {o : Oper} {v : AV} {r : T AV} {t : Nat} (h : o.dst ≠ some t) : (putD o.dst v r).get (Pos.of t) = r.get (Pos.of t) := by
 unfold putD
 cases hd : o.dst with
 | none => rfl
 | some d =>
  show (r.put (some v) (Pos.of d)).get (Pos.of t) = _
  rw [T.get_putN, if_neg (fun e => h (by rw [hd, e]))]
theorem putD_same {o : Oper} {v : AV} {r : T AV} {t : Nat} (h : o.dst = some t) : (putD o.dst v r).get (Pos.of t) = some v := by
 unfold putD
 rw [h]
 show (r.put (some v) (Pos.of t)).get (Pos.of t) = _
 rw [T.get_putN, if_pos rfl]
theorem StepR.reg {i m : Nat} {o : Oper} {s s' : DS} (h : StepR P cf rf ops g i m o s s') {t : Nat} (ht : o.dst ≠ some t) : s'.r.get (Pos.of t) = s.r.get (Pos.of t) := by
 cases h <;> first | rfl | exact putD_get ht
theorem Tr.reg (hT : Tr P cf rf ops g s0 d D) {i k : Nat} (hik : i ≤ k) (hk : k ≤ ops.size) {t : Nat} (hn : ∀ (j : Nat) (o : Oper), i ≤ j → j < k → ops[j]? = some o → o.dst ≠ some t) : (D k).r.get (Pos.of t) = (D i).r.get (Pos.of t) :=
 (hT.ind (fun a b => b.r.get (Pos.of t) = a.r.get (Pos.of t)) (fun _ => rfl) (fun _ _ _ h k => k.trans h) hik hk fun j o h1 h2 ho hs => hs.reg (hn j o h1 h2 ho))
theorem StepR.alsm {i m : Nat} {o : Oper} {s s' : DS} (h : StepR P cf rf ops g i m o s s') : (∀ a ∈ s.als, a ∈ s'.als) ∧ (∀ a ∈ s'.als, a ∈ s.als ∨ a.i = i) := by
 cases h <;> first | exact ⟨fun a h => h, fun a h => .inl h⟩ | skip
 refine ⟨fun a h => by simp [h], fun a h => ?_⟩
 rcases List.mem_cons.1 h with rfl | h
 ·exact .inr rfl
 ·exact .inl h
theorem Tr.alsm (hT : Tr P cf rf ops g s0 d D) {i k : Nat} (hik : i ≤ k) (hk : k ≤ ops.size) : (∀ a ∈ (D i).als, a ∈ (D k).als) ∧ (∀ a ∈ (D k).als, a ∈ (D i).als ∨ i ≤ a.i) :=
 hT.ind (fun a b => (∀ x ∈ a.als, x ∈ b.als) ∧ (∀ x ∈ b.als, x ∈ a.als ∨ i ≤ x.i)) (fun _ => ⟨fun _ h => h, fun _ h => .inl h⟩) (fun _ _ _ h k => ⟨fun x hx => k.1 x (h.1 x hx), fun x hx => (k.2 x hx).elim (h.2 x) .inr⟩) hik hk
  fun j o h1 h2 ho hs => ⟨hs.alsm.1, fun a ha => (hs.alsm.2 a ha).imp id fun e => by omega⟩
theorem StepR.grpm {i m : Nat} {o : Oper} {s s' : DS} (h : StepR P cf rf ops g i m o s s') : (∀ a ∈ s.grp, a ∈ s'.grp) ∧ (∀ a ∈ s'.grp, a ∈ s.grp ∨ a.i = i) := by
 cases h <;> first | exact ⟨fun a h => h, fun a h => .inl h⟩ | skip
 refine ⟨fun a h => by simp [h], fun a h => ?_⟩
 rcases List.mem_cons.1 h with rfl | h
 ·exact .inr rfl
 ·exact .inl h
theorem Tr.grpm (hT : Tr P cf rf ops g s0 d D) {i k : Nat} (hik : i ≤ k) (hk : k ≤ ops.size) : (∀ a ∈ (D i).grp, a ∈ (D k).grp) ∧ (∀ a ∈ (D k).grp, a ∈ (D i).grp ∨ i ≤ a.i) :=
 hT.ind (fun a b => (∀ x ∈ a.grp, x ∈ b.grp) ∧ (∀ x ∈ b.grp, x ∈ a.grp ∨ i ≤ x.i)) (fun _ => ⟨fun _ h => h, fun _ h => .inl h⟩) (fun _ _ _ h k => ⟨fun x hx => k.1 x (h.1 x hx), fun x hx => (k.2 x hx).elim (h.2 x) .inr⟩) hik hk
  fun j o h1 h2 ho hs => ⟨hs.grpm.1, fun a ha => (hs.grpm.2 a ha).imp id fun e => by omega⟩
theorem StepR.tksm {i m : Nat} {o : Oper} {s s' : DS} (h : StepR P cf rf ops g i m o s s') : ∀ a ∈ s.tks, a ∈ s'.tks := by
 cases h <;> first | exact fun a h => h | exact fun a h => by simp [h]
theorem StepR.pnm {i m : Nat} {o : Oper} {s s' : DS} (h : StepR P cf rf ops g i m o s s') : ∀ p, s.pn = some p → s'.pn = some p := by
 cases h <;> first | exact fun p h => h | skip
 rename_i hch _ _ _
 intro p hp
 unfold inChain at hch
 rw [both_eq, Bool.and_eq_true, hp] at hch
 cases hch.2
theorem Tr.tksm (hT : Tr P cf rf ops g s0 d D) {i k : Nat} (hik : i ≤ k) (hk : k ≤ ops.size) : ∀ a ∈ (D i).tks, a ∈ (D k).tks :=
 hT.ind (fun a b => ∀ x ∈ a.tks, x ∈ b.tks) (fun _ _ h => h) (fun _ _ _ h k x hx => k x (h x hx)) hik hk
  fun _j _o _h1 _h2 _ho hs => hs.tksm
theorem Tr.pnm (hT : Tr P cf rf ops g s0 d D) {i k : Nat} (hik : i ≤ k) (hk : k ≤ ops.size) : ∀ p, (D i).pn = some p → (D k).pn = some p :=
 hT.ind (fun a b => ∀ p, a.pn = some p → b.pn = some p) (fun _ _ h => h) (fun _ _ _ h k x hx => k x (h x hx)) hik hk
  fun _j _o _h1 _h2 _ho hs => hs.pnm
theorem StepR.bm {i m : Nat} {o : Oper} {s s' : DS} (h : StepR P cf rf ops g i m o s s') : s.b ≤ s'.b := by
 cases h <;> first | exact Nat.le_refl _ | exact Nat.le_succ _
theorem Tr.bm (hT : Tr P cf rf ops g s0 d D) {i k : Nat} (hik : i ≤ k) (hk : k ≤ ops.size) : (D i).b ≤ (D k).b :=
 hT.ind (fun a b => a.b ≤ b.b) (fun _ => Nat.le_refl _) (fun _ _ _ h k => Nat.le_trans h k) hik hk fun _j _o _h1 _h2 _ho hs => hs.bm
def IsEff (D : Nat → DS) (j : Nat) : Prop := (D (j + 1)).s.e = some j
theorem StepR.stg {i m : Nat} {o : Oper} {s s' : DS} (h : StepR P cf rf ops g i m o s s') : (s'.s = s.s ∧ s'.st = s.st) ∨ (s'.s.e = some i ∧ s'.st = s.s :: s.st) := by
 cases h <;> first | exact .inl ⟨rfl, rfl⟩ | exact .inr ⟨rfl, rfl⟩
theorem Tr.elt (hT : Tr P cf rf ops g s0 d D) (h0 : s0.s.e = none) : ∀ (k : Nat), k ≤ ops.size → ∀ e, (D k).s.e = some e → e < k ∧ IsEff D e ∧ (D (e + 1)).s = (D k).s := by
 intro k
 induction k with
 | zero => intro _ e he; rw [hT.first, h0] at he; cases he
 | succ k ih =>
  intro hk e he
  have ho : ops[k]? = some ops[k] := Array.getElem?_eq_getElem (by omega)
  rcases (hT.step k _ ho).stg with ⟨a, _⟩ | ⟨a, _⟩
  ·rw [a] at he
   obtain ⟨b, c, d⟩ := ih (by omega) e he
   exact ⟨by omega, c, by rw [d, a]⟩
  ·rw [a] at he; cases he
   exact ⟨by omega, a, rfl⟩
theorem Tr.stage (hT : Tr P cf rf ops g s0 d D) (_h0 : s0.s.e = none) {i k : Nat} (hik : i ≤ k) (hk : k ≤ ops.size) (hn : ∀ j, i ≤ j → j < k → ¬ IsEff D j) : (D k).s = (D i).s ∧ (D k).st = (D i).st := by
 refine hT.ind (fun a b => b.s = a.s ∧ b.st = a.st) (fun _ => ⟨rfl, rfl⟩) (fun _ _ _ h k => ⟨k.1.trans h.1, k.2.trans h.2⟩) hik hk ?_
 intro j o h1 h2 ho hs
 rcases hs.stg with h | ⟨h, _⟩
 ·exact h
 ·exact absurd h (hn j h1 h2)
end
end Go.Proofs.YtnpkdiffpgcbhaaGreatDoor.Ev
namespace Go.Proofs.YtnpkdiffpgcbhaaGreatDoor.Ev
open Go Go.RowKit
structure Cx (P : Program) (cf : CallF) (rf : RndF) (ops : Array Oper) (g : Nat) (r : T AV) (h : Hp) (n0 : Nat) (d : DS) (D : Nat → DS) : Prop where
 tr : Tr P cf rf ops g ⟨r, ⟨none, 0, ⟨h.t, n0⟩⟩, [], [], h.nx, none, [], []⟩ d D
 st : Static ops
 hn0 : n0 = h.nx + cntAl P ops.toList
 grp : grpOk d = true
 rds : seqOk P (plan ops) 0 [] = true ∨ tksOk P (mkA ops) d = true
section
variable {P : Program} {cf : CallF} {rf : RndF} {ops : Array Oper} {g : Nat} {r : T AV} {h : Hp} {n0 : Nat} {d : DS} {D : Nat → DS}
theorem cntAl_cons (o : Oper) (l : List Oper) : cntAl P (o :: l) = cntAl P l + if cls P o.op = 2 then 1 else 0 := by
 conv => lhs; unfold cntAl
 match cls P o.op with
 | 0 => rfl
 | 1 => rfl
 | 2 => rfl
 | c + 3 => rw [if_neg (by omega)]; rfl
theorem Cx.lt_of {i : Nat} {o : Oper} (ho : ops[i]? = some o) : i < ops.size := by
 rcases Nat.lt_or_ge i ops.size with k | k
 ·exact k
 ·rw [Array.getElem?_eq_none k] at ho; cases ho
theorem drop_cons {i : Nat} {o : Oper} (ho : ops[i]? = some o) : ops.toList.drop i = o :: ops.toList.drop (i + 1) := by
 have hi := Cx.lt_of ho
 have : ops.toList[i]? = some o := by rw [Array.getElem?_toList]; exact ho
 rw [List.getElem?_eq_getElem (by simpa using hi)] at this
 rw [List.drop_eq_getElem_cons (by simpa using hi)]
 simp at this
 simp [this]
theorem Cx.bcnt (hC : Cx P cf rf ops g r h n0 d D) : ∀ k, k ≤ ops.size → (D k).b + cntAl P (ops.toList.drop k) ≤ n0 := by
 intro k
 induction k with
 | zero => intro _; rw [hC.tr.first, hC.hn0]; simp
 | succ k ih =>
  intro hk
  have ho : ops[k]? = some ops[k] := Array.getElem?_eq_getElem (by omega)
  have h1 := ih (by omega)
  rw [drop_cons ho, cntAl_cons] at h1
  have hs := hC.tr.step k _ ho
  generalize D (k + 1) = s' at hs
  generalize D k = s at hs h1
  generalize hcl : (if cls P ops[k].op = 2 then 1 else 0) = y at h1
  cases hs <;> first | (dsimp only at h1 ⊢; omega) | omega | skip
  rename_i hw hc v h' x e hx
  subst hcl
  rw [if_pos hc] at h1
  show s.b + 1 + _ ≤ n0
  omega
theorem Cx.alStep (hC : Cx P cf rf ops g r h n0 d D) : ∀ k, k ≤ ops.size → ∀ al ∈ (D k).als, ∃ o v h', al.i < k ∧ ops[al.i]? = some o ∧ cls P o.op = 2 ∧ opA P (D al.i).r o ⟨.e, (D al.i).b⟩ = .val v h' ∧ h'.get (D al.i).b = some al.x ∧ al.b = (D al.i).b ∧ (D (al.i + 1)).b = al.b + 1 := by
 intro k
 induction k with
 | zero => intro _ al hal; rw [hC.tr.first] at hal; cases hal
 | succ k ih =>
  intro hk al hal
  have ho : ops[k]? = some ops[k] := Array.getElem?_eq_getElem (by omega)
  have hs := hC.tr.step k _ ho
  have old : al ∈ (D k).als → ∃ o v h', al.i < k + 1 ∧ ops[al.i]? = some o ∧ cls P o.op = 2 ∧ opA P (D al.i).r o ⟨.e, (D al.i).b⟩ = .val v h' ∧ h'.get (D al.i).b = some al.x ∧ al.b = (D al.i).b ∧ (D (al.i + 1)).b = al.b + 1 := fun hm =>
   let ⟨o, v, h', a, b⟩ := ih (by omega) al hm
   ⟨o, v, h', by omega, b⟩
  rcases hs.alsm.2 al hal with hm | hm
  ·exact old hm
  ·by_cases hold : al ∈ (D k).als
   ·exact old hold
   ·generalize hs' : D (k + 1) = s' at hs hal
    generalize hs0 : D k = s at hs hold
    cases hs <;> first | exact absurd hal hold | skip
    rename_i hw hc v h' x e hx
    rcases List.mem_cons.1 hal with rfl | hal
    ·subst hs0
     exact ⟨_, v, h', by simp, ho, hc, e, hx, rfl, by simp only; rw [hs']⟩
    ·exact absurd hal hold
theorem Cx.als (hC : Cx P cf rf ops g r h n0 d D) {al : Al} (hal : al ∈ d.als) : ∃ o v h', al.i < ops.size ∧ ops[al.i]? = some o ∧ cls P o.op = 2 ∧ opA P (D al.i).r o ⟨.e, (D al.i).b⟩ = .val v h' ∧ h'.get (D al.i).b = some al.x ∧ al.b = (D al.i).b ∧ (D (al.i + 1)).b = al.b + 1 :=
 hC.alStep _ (Nat.le_refl _) al (by rw [hC.tr.last]; exact hal)
theorem Cx.al_lt (hC : Cx P cf rf ops g r h n0 d D) {al : Al} (hal : al ∈ d.als) : al.b < n0 ∧ h.nx ≤ al.b := by
 obtain ⟨o, v, h', a, b, c, _, _, e, _⟩ := hC.als hal
 have h1 := hC.bcnt al.i (by omega)
 rw [drop_cons b, cntAl_cons, if_pos c] at h1
 have h2 := hC.tr.bm (Nat.zero_le al.i) (by omega)
 rw [hC.tr.first] at h2
 simp only at h2
 omega
theorem Cx.al_uniq (hC : Cx P cf rf ops g r h n0 d D) {al al' : Al} (h1 : al ∈ d.als) (h2 : al' ∈ d.als) (hb : al.b = al'.b) : al = al' := by
 obtain ⟨o, v, k, a, b, c, e, f, g1, g2⟩ := hC.als h1
 obtain ⟨o', v', k', a', b', c', e', f', g1', g2'⟩ := hC.als h2
 have hi : al.i = al'.i := by
  rcases Nat.lt_trichotomy al.i al'.i with k | k | k
  ·have := hC.tr.bm (i := al.i + 1) (k := al'.i) (by omega) (by omega); omega
  ·exact k
  ·have := hC.tr.bm (i := al'.i + 1) (k := al.i) (by omega) (by omega); omega
 obtain ⟨i, b0, x⟩ := al
 obtain ⟨i', b0', x'⟩ := al'
 simp only at *
 subst hi; subst hb
 rw [b] at b'; cases b'
 rw [e] at e'; cases e'
 rw [f] at f'; cases f'
 rfl
theorem Cx.al_idx (hC : Cx P cf rf ops g r h n0 d D) {al al' : Al} (h1 : al ∈ d.als) (h2 : al' ∈ d.als) (hi : al.i = al'.i) : al = al' := by
 obtain ⟨o, v, k, a, b, c, e, f, g1, g2⟩ := hC.als h1
 obtain ⟨o', v', k', a', b', c', e', f', g1', g2'⟩ := hC.als h2
 exact hC.al_uniq h1 h2 (by rw [g1, g1', hi])
theorem Cx.lay_eq (hC : Cx P cf rf ops g r h n0 d D) {i : Nat} (hi : i ≤ ops.size) {sel : Nat → Bool} (hsel : ∀ j, i ≤ j → sel j = false) (H : Hp) : ∀ b, (lay sel (D i).als H).get b = (lay sel d.als H).get b := by
 intro b
 have hm := hC.tr.alsm hi (Nat.le_refl _)
 rw [hC.tr.last] at hm
 cases h1 : (lay sel (D i).als H).get b with
 | some x =>
  rcases lay_inv h1 with ⟨a, k1, k2, k3, k4⟩ | ⟨k1, k2⟩
  ·subst k3 k4
   rw [lay_in (fun a h1 a' h2 => hC.al_uniq h1 h2) a (hm.1 a k1) k2]
  ·rw [lay_out, k2]
   intro a ha hs
   rcases hm.2 a ha with h | h
   ·exact k1 a h hs
   ·rw [hsel _ h] at hs; cases hs
 | none =>
  cases h2 : (lay sel d.als H).get b with
  | none => rfl
  | some x =>
   rcases lay_inv h2 with ⟨a, k1, k2, k3, k4⟩ | ⟨k1, k2⟩
   ·subst k3 k4
    rcases hm.2 a k1 with h | h
    ·rw [lay_in (fun a h1 a' h2 => hC.al_uniq (hm.1 a h1) (hm.1 a' h2)) a h k2] at h1; cases h1
    ·rw [hsel _ h] at k2; cases k2
   ·rw [lay_out fun a ha hs => k1 a (hm.1 a ha) hs, k2] at h1; cases h1
theorem Cx.effStep (hC : Cx P cf rf ops g r h n0 d D) {j : Nat} (hj : j < ops.size) (he : IsEff D j) : ∃ o v h', ops[j]? = some o ∧ 3 ≤ cls P o.op ∧ Nat.ble g j = false ∧ inChain (mkA ops j) (D j).s (D j).pn = true ∧ opE cf rf (opA P (D j).r o (lay (selM (mkA ops j) (D j).s.cm) (D j).als (D j).s.h)) = .val v h' ∧ (D (j + 1)).s = ⟨some j, Nat.lor (D j).s.cm (mkA ops j), h'⟩ ∧ (D (j + 1)).r = putD o.dst v (D j).r := by
 have ho : ops[j]? = some ops[j] := Array.getElem?_eq_getElem hj
 have hs := hC.tr.step j _ ho
 have hne : (D (j + 1)).s ≠ (D j).s := by
  intro e
  unfold IsEff at he
  rw [e] at he
  exact absurd (hC.tr.elt rfl j (by omega) j he).1 (Nat.lt_irrefl _)
 generalize D (j + 1) = s' at hs hne
 generalize D j = s at hs hne
 cases hs <;> first | exact absurd rfl hne | skip
 rename_i hw hc hg hch v h' e
 exact ⟨_, v, h', ho, hc, hg, hch, e, rfl, rfl⟩
theorem Cx.chain (hC : Cx P cf rf ops g r h n0 d D) : ∀ k, k ≤ ops.size → ∀ j, j < k → IsEff D j → ∃ e, (D k).s.e = some e ∧ (j = e ∨ tb (mkA ops e) j = true) := by
  intro k
  induction k with
  | zero => intro _ j hj; omega
  | succ k ih =>
    intro hk j hj he
    have ho : ops[k]? = some ops[k] := Array.getElem?_eq_getElem (by omega)
    by_cases hek : IsEff D k
    · refine ⟨k, hek, ?_⟩
      by_cases hjk : j = k
      · exact .inl hjk
      · obtain ⟨e, h1, h2⟩ := ih (by omega) j (by omega) he
        obtain ⟨o, v, h', _, _, _, hch, _⟩ := hC.effStep (by omega) hek
        unfold inChain at hch
        rw [both_eq, Bool.and_eq_true, h1] at hch
        have hch : tb (mkA ops k) e = true := hch.1
        rcases h2 with rfl | h2
        · exact .inr hch
        · exact .inr (mk_trans hC.st.back k e j hch h2)
    · have hjk : j ≠ k := fun e => hek (e ▸ he)
      obtain ⟨e, h1, h2⟩ := ih (by omega) j (by omega) he
      have := (hC.tr.stage rfl (Nat.le_succ k) hk (fun i h1 h2 => by have : i = k := by omega
                                                                     subst this; exact hek)).1
      exact ⟨e, by rw [this]; exact h1, h2⟩
theorem Cx.ahead (hC : Cx P cf rf ops g r h n0 d D) {i : Nat} (hi : i < ops.size) (hch : inChain (mkA ops i) (D i).s (D i).pn = true) {j : Nat} (hj : j < i) (he : IsEff D j) : tb (mkA ops i) j = true := by
 obtain ⟨e, h1, h2⟩ := hC.chain i (by omega) j hj he
 unfold inChain at hch
 rw [both_eq, Bool.and_eq_true, h1] at hch
 have hch : tb (mkA ops i) e = true := hch.1
 rcases h2 with rfl | h2
 ·exact hch
 ·exact mk_trans hC.st.back i e j hch h2
theorem Cx.pnStep (hC : Cx P cf rf ops g r h n0 d D) : ∀ k, k ≤ ops.size → ∀ p, (D k).pn = some p → p.2.2 < k ∧ ∃ o, ops[p.2.2]? = some o ∧ 3 ≤ cls P o.op ∧ (D (p.2.2 + 1)).pn = some p ∧ (D p.2.2).pn = none := by
 intro k
 induction k with
 | zero => intro _ p hp; rw [hC.tr.first] at hp; cases hp
 | succ k ih =>
  intro hk p hp
  have ho : ops[k]? = some ops[k] := Array.getElem?_eq_getElem (by omega)
  have hs := hC.tr.step k _ ho
  by_cases hold : (D k).pn = some p
  ·obtain ⟨a, b⟩ := ih (by omega) p hold
   exact ⟨by omega, b⟩
  ·have hp0 := hp
   generalize hs' : D (k + 1) = s' at hs hp
   generalize hs0 : D k = s at hs hold
   cases hs <;> first | exact absurd hp hold | skip
   rename_i hw hc hg hch ch h' e
   simp only [Option.some.injEq] at hp
   subst hp
   refine ⟨by simp, _, ho, hc, hp0, ?_⟩
   simp only
   rw [hs0]
   unfold inChain at hch
   rw [both_eq, Bool.and_eq_true] at hch
   cases hpn : s.pn with
   | none => rfl
   | some p' => rw [hpn] at hch; cases hch.2
theorem Cx.gStep (hC : Cx P cf rf ops g r h n0 d D) : ∀ k, k ≤ ops.size → ∀ a ∈ (D k).grp, ∃ o t ax xx j v x0 h1, a.i < k ∧ ops[a.i]? = some o ∧ 3 ≤ cls P o.op ∧ a.m = mkA ops a.i ∧ Nat.ble g a.i = true ∧ inChain (mkA ops a.i) (D a.i).s (D a.i).pn = true ∧ o.op = .store t ax xx ∧ opnd (D a.i).r ax = some (.ptr a.b j) ∧ opnd (D a.i).r xx = some v ∧
  (D a.i).s.h.get a.b = some x0 ∧ noKill j (D a.i).s.h x0.sibs = true ∧ grpFree a.b x0.sibs (D a.i).grp = true ∧ store P t (.ptr a.b j) v (D a.i).s.h = some h1 ∧ h1.get a.b = some a.x := by
 intro k
 induction k with
 | zero => intro _ a ha; rw [hC.tr.first] at ha; cases ha
 | succ k ih =>
  intro hk a ha
  have ho : ops[k]? = some ops[k] := Array.getElem?_eq_getElem (by omega)
  have hs := hC.tr.step k _ ho
  by_cases hold : a ∈ (D k).grp
  ·obtain ⟨o, t, ax, xx, j, v, x0, h1, c, e⟩ := ih (by omega) a hold
   exact ⟨o, t, ax, xx, j, v, x0, h1, by omega, e⟩
  ·generalize hs' : D (k + 1) = s' at hs ha
   generalize hs0 : D k = s at hs hold
   cases hs <;> first | exact absurd ha hold | skip
   rename_i hw hc hg hch t ax xx c j v x0 x1 h1 hop ea ex e0 hkk hf es e1
   rcases List.mem_cons.1 ha with rfl | ha
   ·subst hs0
    exact ⟨_, t, ax, xx, j, v, x0, h1, by simp, ho, hc, rfl, hg, hch, hop, ea, ex, e0, hkk, hf, es, e1⟩
   ·exact absurd ha hold
theorem stores_sib {H H' : Hp} {b j : Nat} {l : List (Option AV)} (h : stores H b j l = some H') {x x' : Blk} (hx : H.get b = some x) (hx' : H'.get b = some x') : x'.sibs = x.sibs := by
 unfold stores at h
 split at h
 ·cases h; rw [hx] at hx'; cases hx'; rfl
 ·split at h
  ·rename_i hb
   rw [hx] at hb; cases hb
   obtain ⟨_, rfl⟩ := cond_some h
   rw [Hp.get_set, if_pos rfl] at hx'; cases hx'; rfl
  ·rename_i hb
   rw [hx] at hb; cases hb
   obtain ⟨_, rfl⟩ := cond_some h
   rw [Hp.get_set, if_pos rfl] at hx'; cases hx'; rfl
  ·cases h
theorem store_stores {P : Program} {t : TypeId} {c j : Nat} {v : AV} {H H' : Hp} (h : store P t (.ptr c j) v H = some H') : stores H c j (v.cells.map some) = some H' := by
 have h : (oo (tAgg P t) none fun g => ob (Nat.beq v.cells.length g.2) none (stores H c j (v.cells.map some))) = some H' := h
 obtain ⟨_, _, h2⟩ := oo_eq h
 exact (ob_eq h2).2
theorem Cx.grps (hC : Cx P cf rf ops g r h n0 d D) {a : Gp} (ha : a ∈ d.grp) : ∃ o t ax xx j v x0 h1, a.i < ops.size ∧ ops[a.i]? = some o ∧ 3 ≤ cls P o.op ∧ a.m = mkA ops a.i ∧ Nat.ble g a.i = true ∧ inChain (mkA ops a.i) (D a.i).s (D a.i).pn = true ∧ o.op = .store t ax xx ∧ opnd (D a.i).r ax = some (.ptr a.b j) ∧ opnd (D a.i).r xx = some v ∧
  (D a.i).s.h.get a.b = some x0 ∧ noKill j (D a.i).s.h x0.sibs = true ∧ grpFree a.b x0.sibs (D a.i).grp = true ∧ store P t (.ptr a.b j) v (D a.i).s.h = some h1 ∧ h1.get a.b = some a.x :=
 hC.gStep _ (Nat.le_refl _) a (by rw [hC.tr.last]; exact ha)
theorem Cx.g_free (hC : Cx P cf rf ops g r h n0 d D) {a b : Gp} (ha : a ∈ d.grp) (hb : b ∈ d.grp) (hi : a.i < b.i) : a.b ≠ b.b ∧ (∀ s ∈ b.x.sibs, s ≠ a.b) ∧ ∀ s ∈ a.x.sibs, s ≠ b.b := by
 obtain ⟨o, t, ax, xx, j, v, x0, h1, k1, k2, k3, k4, k5, k6, k7, k8, k9, k10, k11, k12, k13, k14⟩ := hC.grps hb
 have hm := hC.tr.grpm (i := b.i) (k := ops.size) (by omega) (Nat.le_refl _)
 rw [hC.tr.last] at hm
 have ha' : a ∈ (D b.i).grp := (hm.2 a ha).resolve_right (by omega)
 have := List.all_eq_true.1 k12 a ha'
 simp only [Bool.and_eq_true, Bool.not_eq_true', List.all_eq_true] at this
 have nb : ∀ x y : Nat, Nat.beq x y = false → x ≠ y := fun x y e e' => by subst e'; simp at e
 obtain ⟨⟨q1, q2⟩, q3⟩ := this
 refine ⟨nb _ _ q1, fun s hs => ?_, fun s hs => nb _ _ (q3 s hs)⟩
 rw [stores_sib (store_stores k13) k10 k14] at hs
 exact nb _ _ (q2 s hs)
theorem Cx.g_idx (hC : Cx P cf rf ops g r h n0 d D) {a b : Gp} (ha : a ∈ d.grp) (hb : b ∈ d.grp) (hi : a.i = b.i) : a = b := by
 obtain ⟨o, t, ax, xx, j, v, x0, h1, k1, k2, k3, k4, k5, k6, k7, k8, k9, k10, k11, k12, k13, k14⟩ := hC.grps ha
 obtain ⟨o', t', ax', xx', j', v', x0', h1', k1', k2', k3', k4', k5', k6', k7', k8', k9', k10', k11', k12', k13', k14'⟩ := hC.grps hb
 obtain ⟨i, m, b0, x⟩ := a
 obtain ⟨i', m', b0', x'⟩ := b
 simp only at *
 subst hi
 rw [k2] at k2'; cases k2'
 rw [k7] at k7'; cases k7'
 rw [k8] at k8'; cases k8'
 rw [k9] at k9'; cases k9'
 rw [k13] at k13'; cases k13'
 rw [k14] at k14'; cases k14'
 rw [k4, k4']
theorem Cx.g_uniq (hC : Cx P cf rf ops g r h n0 d D) {a b : Gp} (ha : a ∈ d.grp) (hb : b ∈ d.grp) (he : a.b = b.b) : a = b := by
 rcases Nat.lt_trichotomy a.i b.i with k | k | k
 ·exact absurd he (hC.g_free ha hb k).1
 ·exact hC.g_idx ha hb k
 ·exact absurd he.symm (hC.g_free hb ha k).1
theorem Cx.gok (hC : Cx P cf rf ops g r h n0 d D) {a : Gp} (ha : a ∈ d.grp) : (∀ t ∈ d.tks, tb a.m t.i = true) ∧ ∀ al ∈ d.als, ∀ s ∈ a.x.sibs, s ≠ al.b := by
 have := List.all_eq_true.1 hC.grp a ha
 rw [Bool.and_eq_true, List.all_eq_true, List.all_eq_true] at this
 refine ⟨this.1, fun al hal s hs e => ?_⟩
 have h2 := List.all_eq_true.1 (this.2 al hal) s hs
 subst e
 simp at h2
end
end Go.Proofs.YtnpkdiffpgcbhaaGreatDoor.Ev
namespace Go.Proofs.YtnpkdiffpgcbhaaGreatDoor.Ev
open Go Go.RowKit
section
variable {B : Nat} {π0 π π' : Pi} {h H HA HB Hin H' : Hp} {w0 w w' : World}
theorem Step.addBlock (hs : Step B π0 h w0 π H w) {b z : Nat} {x : Blk} {o : Obj} (hb : π b = none) (hlo : h.nx ≤ b) (hhi : b < H.nx) (hx : ∀ w', BR π w' x z o) (hn : H'.nx = H.nx)
  (hH : ∀ c y, H'.get c = some y → (c = b ∧ y = x) ∨ (c ≠ b ∧ H.get c = some y)) : Step B π0 h w0 (piNew π b w.heap.size z) H' (w.alloc o) := by
 have he := piNew_ext' hb w.heap.size z
 have hheap : ∀ c, c < w.heap.size → (w.alloc o).heap[c]? = w.heap[c]? := fun c hc => Below.heap_alloc _ _ _ hc
 have hevo : ∀ c, c < w.heap.size → Evo w.heap[c]? (w.alloc o).heap[c]? := fun c hc => Evo.of_eq (hheap c hc)
 have hB := hs.rel.low
 have h := hs.rel
 have hdm : ∀ b p, π b = some p → p.1 < w.heap.size := fun b p hp => (h.dom b p hp).2
 refine ⟨hs.ext.trans he, ⟨by simp; omega, fun g hg => let ⟨z, hz⟩ := h.glob g hg; ⟨z, he _ _ hz⟩, ?_, ?_, ?_⟩, ?_, ?_, by rw [hn]; exact hs.nx, ?_, ?_, hs.out, fun c hc => (hs.evo c hc).trans (hevo c (Nat.lt_of_lt_of_le hc hs.size))⟩
 ·intro c y hy
  rcases hH c y hy with ⟨rfl, rfl⟩ | ⟨hne, hy⟩
  ·exact ⟨w.heap.size, z, o, by simp [piNew], heap_alloc_new w o, (hx w).on he hevo hdm, fun _ => hB⟩
  ·obtain ⟨c', z1, o1, h1, h2, h3, h4⟩ := h.blk c y hy
   exact ⟨c', z1, o1, he _ _ h1, (hheap c' (h.dom _ _ h1).2).trans h2, h3.on he hevo hdm, h4⟩
 ·intro c p hp
  rw [hn]
  unfold piNew at hp
  split at hp
  ·rename_i e; subst e; cases hp; exact ⟨hhi, by simp⟩
  ·have := h.dom c p hp; exact ⟨this.1, by simp; omega⟩
 ·intro b1 y b2 y' c z1 z2 hy hy' hp hp' hne
  unfold piNew at hp hp'
  rcases hH b1 y hy with ⟨e, _⟩ | ⟨e, hyo⟩
  ·rw [if_pos e] at hp; cases hp
   rw [if_neg (fun k => hne (by rw [e, k]))] at hp'
   have := (h.dom _ _ hp').2
   simp at this
  ·rw [if_neg e] at hp
   rcases hH b2 y' hy' with ⟨e', _⟩ | ⟨e', hyo'⟩
   ·rw [if_pos e'] at hp'; cases hp'
    have := (h.dom _ _ hp).2
    simp at this
   ·rw [if_neg e'] at hp'
    exact h.sep b1 y b2 y' c z1 z2 hyo hyo' hp hp' hne
 ·intro c hc hno
  rw [hheap c (Nat.lt_of_lt_of_le hc hs.size)]
  exact hs.fr c hc hno
 ·have := hs.size; simp; omega
 ·intro c p hp hnone
  unfold piNew at hp
  split at hp
  ·rename_i e; subst e; cases hp; exact ⟨hlo, .inl hs.size⟩
  ·exact hs.new c p hp hnone
 ·intro c y hy
  rcases hH c y hy with ⟨rfl, rfl⟩ | ⟨hne, hyo⟩
  ·exact .inr hlo
  ·exact hs.old c y hyo
theorem Step.merge (h0 : HRel π0 B h w0) (hs : Step B π0 h w0 π HA w) (hle : Hle Hin HA) (hnx : Hin.nx = HA.nx) (he : Step B π Hin w π' H' w') (hnB : HB.nx = H'.nx)
    (hB : ∀ c y, HB.get c = some y → H'.get c = some y ∨ (HA.get c = some y ∧ Hin.get c = none ∧ y.wr = true ∧ y.sib = [])) : Step B π0 h w0 π' HB w' := by
  have hs' : Step B π0 h w0 π Hin w := hs.less hle (by omega)
  have ht := Step.trans h0 hs' he
  refine ⟨ht.ext, ⟨he.rel.low, he.rel.glob, ?_, fun b p hp => by rw [hnB]; exact he.rel.dom b p hp, ?_⟩, ht.fr, ht.size, by rw [hnB]; exact ht.nx, ht.new, ?_, ht.out, ht.evo⟩
  · intro b x hx
    rcases hB b x hx with hx | ⟨hx, hn, hw, hsb⟩
    · exact he.rel.blk b x hx
    · obtain ⟨c, z, o, k1, k2, k3, k4⟩ := hs.rel.blk b x hx
      refine ⟨c, z, o, he.ext _ _ k1, ?_, k3.on he.ext he.evo (fun b p hp => (hs.rel.dom b p hp).2), k4⟩
      rw [he.fr c (hs.rel.dom _ _ k1).2 ?_]
      · exact k2
      · intro b2 x2 z2 hx2 hw2 hp2
        have hne : b ≠ b2 := by intro e; subst e; rw [hn] at hx2; cases hx2
        have := ((hs.rel.sep b x b2 x2 c z z2 hx (hle _ _ hx2) k1 hp2 hne).2 hw).1
        rw [hsb] at this; cases this
  · have none_of : ∀ b x b' x' c z z', (HA.get b = some x ∧ Hin.get b = none ∧ x.wr = true ∧ x.sib = []) → H'.get b' = some x' → π' b = some (c, z) → π' b' = some (c, z') → False := by
      intro b x b' x' c z z' ⟨hx, hn, hw, hsb⟩ hx' hp hp'
      obtain ⟨c1, z1, o1, k1, _⟩ := hs.rel.blk b x hx
      have := he.ext _ _ k1
      rw [hp] at this; cases this
      cases hb' : π b' with
      | none =>
        have k2 := (hs.rel.dom _ _ k1).2
        rcases (he.new b' _ hp' hb').2 with q | ⟨b0, x0, z0, q1, q2, q3⟩
        · simp at *; omega
        · have hne : b ≠ b0 := by intro e; subst e; rw [hn] at q1; cases q1
          have := ((hs.rel.sep b x b0 x0 c z z0 hx (hle _ _ q1) k1 q3 hne).2 hw).1
          rw [hsb] at this; cases this
      | some p =>
        have := he.ext _ _ hb'
        rw [hp'] at this; cases this
        rcases he.old b' x' hx' with ⟨y, hy, _⟩ | hge
        · have hne : b ≠ b' := by intro e; subst e; rw [hn] at hy; cases hy
          have := ((hs.rel.sep b x b' y c z z' hx (hle _ _ hy) k1 hb' hne).2 hw).1
          rw [hsb] at this; cases this
        · have := (hs.rel.dom _ _ hb').1
          omega
    intro b x b' x' c z z' hx hx' hp hp' hne
    rcases hB b x hx with k | k
    · rcases hB b' x' hx' with k' | k'
      · exact he.rel.sep b x b' x' c z z' k k' hp hp' hne
      · exact (none_of b' x' b x c z' z k' k hp' hp).elim
    · rcases hB b' x' hx' with k' | k'
      · exact (none_of b x b' x' c z z' k k' hp hp').elim
      · obtain ⟨hx, hn, hw, hsb⟩ := k
        obtain ⟨c1, z1, o1, k1, _⟩ := hs.rel.blk b x hx
        obtain ⟨c2, z2, o2, k2, _⟩ := hs.rel.blk b' x' k'.1
        have e1 := he.ext _ _ k1
        have e2 := he.ext _ _ k2
        rw [hp] at e1; cases e1
        rw [hp'] at e2; cases e2
        have := ((hs.rel.sep b x b' x' c z z' hx k'.1 k1 k2 hne).2 hw).1
        rw [hsb] at this; cases this
  · intro b x hx
    rcases hB b x hx with hx | ⟨hx, _⟩
    · exact ht.old b x hx
    · exact hs.old b x hx
end
def lst (l : Array Bool) (j : Nat) : Bool := l.getD j false
theorem lst_set {l : Array Bool} {i : Nat} (hi : i < l.size) (j : Nat) : lst (l.setIfInBounds i true) j = if j = i then true else lst l j := by
 unfold lst
 by_cases h : j = i
 ·subst h; simp [hi]
 ·rw [if_neg h]; simp [Array.getElem?_setIfInBounds_ne (fun e => h e.symm)]
noncomputable def selL (l : Array Bool) (cm j : Nat) : Bool := ob (tb cm j) (lst l j) false
theorem selL_iff {l : Array Bool} {cm j : Nat} : selL l cm j = true ↔ lst l j = true ∧ tb cm j = false := by
 unfold selL
 cases tb cm j with
 | false => rw [ob_false]; simp
 | true => rw [ob_true]; simp
theorem selM_iff {m cm j : Nat} : selM m cm j = true ↔ tb m j = true ∧ tb cm j = false := by
 unfold selM
 cases tb m j with
 | false => rw [ob_false]; simp
 | true =>
  rw [ob_true]
  cases tb cm j with
  | false => rw [ob_false]; simp
  | true => rw [ob_true]; simp
noncomputable def HL (d : DS) (l : Array Bool) (S : Stg) : Hp := laygS (lst l) d.grp (lay (selL l S.cm) d.als S.h)
structure SInv (ops : Array Oper) (r : T AV) (h : Hp) (n0 : Nat) (d : DS) (D : Nat → DS) (B : Nat) (π0 : Pi) (w0 : World) (q : Q) (l : Array Bool) (a : Act) (w : World) (π : Pi) (i0 : Nat) : Prop where
 ln : l.size = ops.size
 hi0 : i0 ≤ ops.size
 eff : ∀ j, j < ops.size → IsEff D j → (lst l j = true ↔ j < i0)
 st : Step B π0 h w0 π (HL d l (D i0).s) w
 reg : ∀ t v, ((∃ (j : Nat) (o : Oper), ops[j]? = some o ∧ o.dst = some t ∧ lst l j = true) ∧ d.r.get (Pos.of t) = some v) ∨ ((∀ (j : Nat) (o : Oper), ops[j]? = some o → o.dst = some t → lst l j = false) ∧ r.get (Pos.of t) = some v) → ∃ cv, a.tmps[t]? = some cv ∧ VR π v cv
 asz : a.tmps.size = q.sz
 adf : DRs π q.df a.defers
 cm : ∀ j, tb (D i0).s.cm j = true → lst l j = true
 fresh : ∀ al ∈ d.als, lst l al.i = false → π al.b = none
 freshS : ∀ al ∈ d.als, tb (D i0).s.cm al.i = false → (D i0).s.h.get al.b = none
 nx : n0 ≤ (D i0).s.h.nx
 pn : ∀ p, d.pn = some p → lst l p.2.2 = false
 down : Down ops (lst l)
 alx : ∀ al ∈ d.als, lst l al.i = true → al.x.wr = true ∧ al.x.sib = []
section
variable {P : Program} {cf : CallF} {rf : RndF} {ops : Array Oper} {g : Nat} {r : T AV} {h : Hp} {n0 : Nat} {d : DS} {D : Nat → DS} {B : Nat} {π0 π : Pi} {w0 w : World} {q : Q} {l : Array Bool} {a : Act} {i0 i : Nat} {o : Oper} {S : Stg}
theorem HL_nx : (HL d l S).nx = S.h.nx := by unfold HL; rw [layg_nx, lay_nx]
theorem HL_inv {b : Nat} {x : Blk} (e : (HL d l S).get b = some x) : (∃ g ∈ d.grp, lst l g.i = true ∧ g.b = b ∧ g.x = x) ∨ ((∀ g ∈ d.grp, lst l g.i = true → g.b ≠ b) ∧
  ((∃ al ∈ d.als, lst l al.i = true ∧ tb S.cm al.i = false ∧ al.b = b ∧ al.x = x) ∨ ((∀ al ∈ d.als, lst l al.i = true → tb S.cm al.i = false → al.b ≠ b) ∧ S.h.get b = some x))) := by
 rcases layg_inv e with h1 | ⟨h1, h2⟩
 ·exact .inl h1
 ·refine .inr ⟨h1, ?_⟩
  rcases lay_inv h2 with ⟨al, k1, k2, k3⟩ | ⟨k1, k2⟩
  ·have := selL_iff.1 k2
   exact .inl ⟨al, k1, this.1, this.2, k3⟩
  ·exact .inr ⟨fun al hal h1 h2 => k1 al hal (selL_iff.2 ⟨h1, h2⟩), k2⟩
theorem HL_g (hC : Cx P cf rf ops g r h n0 d D) {x : Gp} (hx : x ∈ d.grp) (hl : lst l x.i = true) : (HL d l S).get x.b = some x.x := layg_in (fun _a h1 _a' h2 => hC.g_uniq h1 h2) x hx hl
theorem HL_al (hC : Cx P cf rf ops g r h n0 d D) {al : Al} (ha : al ∈ d.als) (hl : lst l al.i = true) (hc : tb S.cm al.i = false) (hg : ∀ g ∈ d.grp, lst l g.i = true → g.b ≠ al.b) : (HL d l S).get al.b = some al.x := by
 unfold HL
 rw [layg_out hg]
 exact lay_in (fun a h1 a' h2 => hC.al_uniq h1 h2) al ha (selL_iff.2 ⟨hl, hc⟩)
theorem HL_s {b : Nat} (hg : ∀ g ∈ d.grp, lst l g.i = true → g.b ≠ b) (ha : ∀ al ∈ d.als, lst l al.i = true → tb S.cm al.i = false → al.b ≠ b) : (HL d l S).get b = S.h.get b := by
 unfold HL
 rw [layg_out hg]
 exact lay_out fun al hal hs => ha al hal (selL_iff.1 hs).1 (selL_iff.1 hs).2
noncomputable def restr (r : T AV) : List Nat → T AV
 | [] => .e
 | t :: ts => (restr r ts).put (r.get (Pos.of t)) (Pos.of t)
theorem restr_get (r : T AV) : ∀ (ts : List Nat) (t : Nat), (restr r ts).get (Pos.of t) = if t ∈ ts then r.get (Pos.of t) else none
 | [], t => by simp [restr, T.get_e]
 | s :: ts, t => by
  unfold restr
  rw [T.get_putN, restr_get r ts t]
  by_cases e : t = s
  ·subst e; simp
  ·simp [e]
theorem SInv.look (hC : Cx P cf rf ops g r h n0 d D) (hI : SInv ops r h n0 d D B π0 w0 q l a w π i0) (ho : ops[i]? = some o) (hLi : lst l i = false) (hrdy : ∀ j, tb (mkA ops i) j = true → lst l j = true) :
  RR π (restr (D i).r (o.looksAt ops)) a.tmps := by
 intro t v hv
 rw [restr_get] at hv
 split at hv
 ·rename_i ht
  have hi := Cx.lt_of ho
  refine hI.reg t v ?_
  by_cases hex : ∃ (j : Nat) (oj : Oper), ops[j]? = some oj ∧ oj.dst = some t ∧ lst l j = true
  ·refine .inl ⟨hex, ?_⟩
   obtain ⟨j, oj, h1, h2, h3⟩ := hex
   have hj := Cx.lt_of h1
   have hji : tb (mkA ops i) j = true := by
    rcases hC.st.names i o ho t ht j oj h1 h2 with e | e | e
    ·subst e; rw [hLi] at h3; cases h3
    ·exact e
    ·have := hI.down j h3 i e; rw [hLi] at this; cases this
   have hlt := mk_lt hC.st.back i j hji
   rw [← hC.tr.last, hC.tr.reg (i := i) (k := ops.size) (by omega) (Nat.le_refl _) ?_]
   ·exact hv
   ·intro k ok h4 h5 h6 h7
    have := hC.st.uniq k j ok oj t h6 h1 h7 h2
    omega
  ·refine .inr ⟨fun j oj h1 h2 => ?_, ?_⟩
   ·cases hl : lst l j with
    | false => rfl
    | true => exact absurd ⟨j, oj, h1, h2, hl⟩ hex
   ·rw [hC.tr.reg (i := 0) (k := i) (by omega) (by omega) ?_, hC.tr.first] at hv
    ·exact hv
    ·intro k ok h4 h5 h6 h7
     rcases hC.st.names i o ho t ht k ok h6 h7 with e | e | e
     ·omega
     ·exact hex ⟨k, ok, h6, h7, hrdy k e⟩
     ·have := mk_lt hC.st.back k i e; omega
 ·cases hv
theorem restr_agree (r : T AV) (o : Oper) : OAgree r (restr r (o.looksAt ops)) o := by
 intro t ht
 rw [restr_get, if_pos]
 unfold Oper.looksAt
 exact List.mem_append_left _ (List.mem_filterMap.2 ⟨.tmp t, by simpa using ht, rfl⟩)
theorem wantA_restr (r : T AV) (o : Oper) : wantA ops (restr r (o.looksAt ops)) o = wantA ops r o := by
 unfold wantA
 cases hg : o.guard with
 | none => rfl
 | some gd =>
  show grdA ops _ gd = grdA ops _ gd
  unfold grdA
  cases hd : grdD ops gd with
  | none => rfl
  | some dd =>
   show oo ((restr r (o.looksAt ops)).get (Pos.of dd)) _ _ = oo (r.get (Pos.of dd)) _ _
   rw [restr_get, if_pos]
   unfold Oper.looksAt
   refine List.mem_append_right _ ?_
   rw [hg]
   unfold grdD at hd
   cases hx : ops[gd.1]? with
   | none => rw [hx] at hd; cases hd
   | some y =>
    rw [hx] at hd
    have hd : y.dst = some dd := hd
    simp [hx, hd]
theorem SInv.adv (hC : Cx P cf rf ops g r h n0 d D) (hI : SInv ops r h n0 d D B π0 w0 q l a w π i0) (hdst : dstOk q.sz ops.toList = true) (ho : ops[i]? = some o) (hrdy : ∀ j, tb (mkA ops i) j = true → lst l j = true) {π' : Pi} {w' : World} {cv : Value} {v : AV}
    (hr : (D (i + 1)).r = putD o.dst v (D i).r) (hv : VR π' v cv) (hE : PExt π π') (i0' : Nat) (h1 : i0' ≤ ops.size) (h2 : ∀ j, j < ops.size → IsEff D j → (lst (l.setIfInBounds i true) j = true ↔ j < i0'))
    (h3 : Step B π0 h w0 π' (HL d (l.setIfInBounds i true) (D i0').s) w') (h4 : ∀ j, tb (D i0').s.cm j = true → lst (l.setIfInBounds i true) j = true) (h5 : ∀ al ∈ d.als, lst l al.i = false → al.i ≠ i → π' al.b = none)
    (h6 : ∀ al ∈ d.als, tb (D i0').s.cm al.i = false → (D i0').s.h.get al.b = none) (h7 : n0 ≤ (D i0').s.h.nx) (h8 : ∀ p, d.pn = some p → p.2.2 ≠ i) (h9 : ∀ al ∈ d.als, al.i = i → al.x.wr = true ∧ al.x.sib = []) : SInv ops r h n0 d D B π0 w0 q (l.setIfInBounds i true) (a.put o.dst cv) w' π' i0' := by
  have hi := Cx.lt_of ho
  have hil : i < l.size := by rw [hI.ln]; exact hi
  have hLs := lst_set (l := l) hil
  refine ⟨by simp [hI.ln], h1, h2, h3, ?_, by rw [put_size]; exact hI.asz, by rw [put_defers]; exact hI.adf.mono hE, h4, ?_, h6, h7, ?_, ?_, ?_⟩
  · intro t u hu
    by_cases ht : o.dst = some t
    · have hu' : u = v := by
        rcases hu with ⟨_, hu⟩ | ⟨hu, _⟩
        · rw [← hC.tr.last, hC.tr.reg (i := i + 1) (k := ops.size) (by omega) (Nat.le_refl _) ?_, hr, putD_same ht] at hu
          · simpa using hu.symm
          · intro k ok k1 k2 k3 k4
            have := hC.st.uniq k i ok o t k3 ho k4 ht
            omega
        · have := hu i o ho ht
          rw [hLs, if_pos rfl] at this; cases this
      subst hu'
      refine ⟨cv, ?_, hv⟩
      have hlt : t < a.tmps.size := by rw [hI.asz]; exact dstOk_mem hdst (List.mem_of_getElem? (by rw [Array.getElem?_toList]; exact ho)) ht
      rw [ht]
      show (a.tmps.setIfInBounds t cv)[t]? = some cv
      simp [hlt]
    · obtain ⟨cu, k1, k2⟩ := hI.reg t u (hu.imp (fun ⟨⟨j, oj, a1, a2, a3⟩, b⟩ => ⟨⟨j, oj, a1, a2, by
          rw [hLs] at a3
          split at a3
          · rename_i e; subst e; rw [ho] at a1; cases a1; exact absurd a2 ht
          · exact a3⟩, b⟩) (fun ⟨k1, b⟩ => ⟨fun j oj a1 a2 => by
          have := k1 j oj a1 a2
          rw [hLs] at this
          split at this
          · cases this
          · exact this, b⟩))
      refine ⟨cu, ?_, k2.mono hE⟩
      cases hd : o.dst with
      | none => exact k1
      | some dd =>
        show (a.tmps.setIfInBounds dd cv)[t]? = some cu
        rw [Array.getElem?_setIfInBounds_ne (fun e => ht (by rw [hd, e]))]; exact k1
  · intro al hal hl
    rw [hLs] at hl
    split at hl
    · cases hl
    · rename_i hne; exact h5 al hal hl hne
  · intro p hp
    rw [hLs, if_neg (h8 p hp)]; exact hI.pn p hp
  · intro k hk j hj
    rw [hLs] at hk ⊢
    split
    · rfl
    · split at hk
      · rename_i e; subst e; exact hrdy j hj
      · exact hI.down k hk j hj
  · intro al hal hl
    rw [hLs] at hl
    split at hl
    · rename_i e; exact h9 al hal e
    · exact hI.alx al hal hl
end
end Go.Proofs.YtnpkdiffpgcbhaaGreatDoor.Ev
namespace Go.Proofs.YtnpkdiffpgcbhaaGreatDoor.Ev
open Go Go.RowKit
theorem kill_id {j : Nat} : ∀ {l : List Nat} {h : Hp}, noKill j h l = true → kill j l h = h
 | [], h, _ => rfl
 | s :: l, h, hn => by
  unfold noKill at hn
  obtain ⟨h1, h2⟩ := beq_and hn
  unfold kill
  have e : (match h.get s with
   | some (.cells _ _ n _ _ _ _ _) => bif Nat.blt j n then h.del s else h
   | _ => h) = h := by
   split
   ·rename_i cc dd n e lo hi w sib hb
    rw [hb] at h1
    simp only at h1
    have : Nat.blt j n = false := by
     cases hx : Nat.blt j n with
     | false => rfl
     | true =>
      have a1 := Nat.le_of_ble_eq_true h1
      have a2 := Nat.le_of_ble_eq_true hx
      exact absurd a2 (by omega)
    rw [this]; rfl
   ·rfl
  exact (congrArg (kill j l) e).trans (kill_id h2)
theorem noKill_of {j : Nat} {h h2 : Hp} : ∀ {l : List Nat}, (∀ s ∈ l, ∀ y, h2.get s = some y → h.get s = some y) → noKill j h l = true → noKill j h2 l = true
 | [], _, _ => rfl
 | s :: l, hs, hn => by
  unfold noKill at hn ⊢
  obtain ⟨h1, h2'⟩ := beq_and hn
  rw [Bool.and_eq_true]
  refine ⟨?_, noKill_of (fun s hs' => hs s (by simp [hs'])) h2'⟩
  cases hg : h2.get s with
  | none => rfl
  | some y => rw [← hs s (by simp) y hg]; exact h1
theorem stores_at {H1 H2 h1 : Hp} {c j : Nat} {l : List (Option AV)} {x0 x1 : Blk} (h : stores H1 c j l = some h1) (hx0 : H1.get c = some x0) (hk : noKill j H1 x0.sibs = true) (hx1 : h1.get c = some x1) (h2 : H2.get c = some x0) (hk2 : noKill j H2 x0.sibs = true) :
  ∃ H2', stores H2 c j l = some H2' ∧ H2'.nx = H2.nx ∧ ∀ b, H2'.get b = if b = c then some x1 else H2.get b := by
 have key : ∀ (y : Blk) (hh : (kill j x0.sibs H1).set c y = h1), ∃ H2', some ((kill j x0.sibs H2).set c y) = some H2' ∧ H2'.nx = H2.nx ∧ ∀ b, H2'.get b = if b = c then some x1 else H2.get b := by
  intro y hh
  subst hh
  rw [Hp.get_set, if_pos rfl] at hx1; cases hx1
  refine ⟨_, rfl, by rw [Hp.nx_set, kill_id hk2], fun b => ?_⟩
  rw [Hp.get_set, kill_id hk2]
 unfold stores at h ⊢
 split at h
 ·cases h
  rw [hx0] at hx1; cases hx1
  refine ⟨H2, rfl, rfl, fun b => ?_⟩
  split
  ·rename_i e; subst e; exact h2
  ·rfl
 ·rename_i hne
  rw [h2]
  rw [hx0] at h
  cases x0 with
  | cells cc dd n e lo hi wr sib =>
   cases wr with
   | false => cases dd <;> cases h
   | true =>
    cases dd with
    | none =>
     simp only at h ⊢
     obtain ⟨hb, hh⟩ := cond_some h
     rw [hb, cond_true]
     exact key _ hh
    | some dd =>
     simp only at h ⊢
     obtain ⟨hb, hh⟩ := cond_some h
     rw [hb, cond_true]
     exact key _ hh
  | _ => cases h
theorem store_at {P : Program} {t : TypeId} {v : AV} {H1 H2 h1 : Hp} {c j : Nat} {x0 x1 : Blk} (h : store P t (.ptr c j) v H1 = some h1) (hx0 : H1.get c = some x0) (hk : noKill j H1 x0.sibs = true) (hx1 : h1.get c = some x1) (h2 : H2.get c = some x0) (hk2 : noKill j H2 x0.sibs = true) :
  ∃ H2', store P t (.ptr c j) v H2 = some H2' ∧ H2'.nx = H2.nx ∧ ∀ b, H2'.get b = if b = c then some x1 else H2.get b := by
 have h : (oo (tAgg P t) none fun g => ob (Nat.beq v.cells.length g.2) none (stores H1 c j (v.cells.map some))) = some h1 := h
 show ∃ H2', (oo (tAgg P t) none fun g => ob (Nat.beq v.cells.length g.2) none (stores H2 c j (v.cells.map some))) = some H2' ∧ _
 obtain ⟨gg, e1, e2⟩ := oo_eq h
 obtain ⟨e3, e4⟩ := ob_eq e2
 rw [e1, oo_some, e3, ob_true]
 exact stores_at e4 hx0 hk hx1 h2 hk2
section
variable {P : Program} {cf : CallF} {rf : RndF} {ops : Array Oper} {g : Nat} {r : T AV} {h : Hp} {n0 : Nat} {d : DS} {D : Nat → DS} {B : Nat} {π0 π : Pi} {w0 w : World} {q : Q} {l : Array Bool} {a : Act} {i0 i : Nat} {o : Oper} {S : Stg}
theorem Cx.same_stage (hC : Cx P cf rf ops g r h n0 d D) {i k : Nat} (hi : i ≤ ops.size) (hk : k ≤ ops.size) (he : ∀ j, j < ops.size → IsEff D j → (j < i ↔ j < k)) : (D i).s = (D k).s := by
 rcases Nat.le_total i k with h1 | h1
 ·exact (hC.tr.stage rfl h1 hk (fun j a b e => by have := (he j (by omega) e).2 b; omega)).1.symm
 ·exact (hC.tr.stage rfl h1 hi (fun j a b e => by have := (he j (by omega) e).1 b; omega)).1
theorem SInv.stage (hC : Cx P cf rf ops g r h n0 d D) (hI : SInv ops r h n0 d D B π0 w0 q l a w π i0) (hi : i < ops.size) (hb : ∀ j, j < i → IsEff D j → lst l j = true) (hf : ∀ j, i ≤ j → j < ops.size → IsEff D j → lst l j = false) : (D i0).s = (D i).s := by
 refine hC.same_stage hI.hi0 (by omega) fun j hj he => ?_
 rw [← hI.eff j hj he]
 constructor
 ·intro hl
  rcases Nat.lt_or_ge j i with k | k
  ·exact k
  ·rw [hf j k hj he] at hl; cases hl
 ·intro k; exact hb j k he
theorem Cx.noAl (hC : Cx P cf rf ops g r h n0 d D) (hb : (D (i + 1)).b = (D i).b) : ∀ al ∈ d.als, al.i ≠ i := by
 intro al hal e
 obtain ⟨o, v, h', _, _, _, _, _, k1, k2⟩ := hC.als hal
 subst e
 omega
theorem Cx.noGrp (hC : Cx P cf rf ops g r h n0 d D) (hi : i < ops.size) (hb : (D (i + 1)).grp = (D i).grp) : ∀ x ∈ d.grp, x.i ≠ i := by
 intro x hx e
 have hm := hC.tr.grpm (i := i + 1) (k := ops.size) (by omega) (Nat.le_refl _)
 rw [hC.tr.last] at hm
 rcases hm.2 x hx with k | k
 ·rw [hb] at k
  obtain ⟨_, _, _, _, _, _, _, _, k1, _⟩ := hC.gStep i (by omega) x k
  omega
 ·omega
theorem Cx.noEff (hC : Cx P cf rf ops g r h n0 d D) (hi : i < ops.size) (hs : (D (i + 1)).s = (D i).s) : ¬ IsEff D i := by
 intro e
 unfold IsEff at e
 rw [hs] at e
 exact absurd (hC.tr.elt rfl i (by omega) i e).1 (Nat.lt_irrefl _)
theorem Cx.noPn (hC : Cx P cf rf ops g r h n0 d D) (hb : (D (i + 1)).pn = (D i).pn) : ∀ p, d.pn = some p → p.2.2 ≠ i := by
 intro p hp e
 obtain ⟨_, o, _, _, k1, k2⟩ := hC.pnStep ops.size (Nat.le_refl _) p (by rw [hC.tr.last]; exact hp)
 subst e
 rw [hb, k2] at k1; cases k1
theorem SInv.gstage (hC : Cx P cf rf ops g r h n0 d D) (hI : SInv ops r h n0 d D B π0 w0 q l a w π i0) {x : Gp} (hx : x ∈ d.grp) (hr : ∀ j, tb (mkA ops x.i) j = true → lst l j = true) : (D i0).s = (D x.i).s := by
 obtain ⟨o, t, ax, xx, j, v, x0, h1, k1, k2, k3, k4, k5, k6, _⟩ := hC.grps hx
 refine hI.stage hC k1 (fun j hj he => hr j (hC.ahead k1 k6 hj he)) ?_
 intro j hj hjn he
 exfalso
 obtain ⟨o', v', h', _, _, e1, _⟩ := hC.effStep hjn he
 have := Nat.le_of_ble_eq_true k5
 have e2 : Nat.ble g j = true := by rw [Nat.ble_eq]; omega
 rw [e1] at e2; cases e2
theorem HL_mono (hC : Cx P cf rf ops g r h n0 d D) (hil : i < l.size) (ha : ∀ al ∈ d.als, al.i ≠ i) (hg : ∀ x ∈ d.grp, x.i ≠ i) : Hle (HL d (l.setIfInBounds i true) S) (HL d l S) := by
 have hL : ∀ j, j ≠ i → lst (l.setIfInBounds i true) j = lst l j := fun j hj => by rw [lst_set hil, if_neg hj]
 intro b x e
 rcases HL_inv e with ⟨y, k1, k2, rfl, rfl⟩ | ⟨k0, ⟨al, k1, k2, k3, rfl, rfl⟩ | ⟨k1, k2⟩⟩
 ·exact HL_g hC k1 (by rw [← hL _ (hg y k1)]; exact k2)
 ·exact HL_al hC k1 (by rw [← hL _ (ha al k1)]; exact k2) k3 (fun y hy hl => k0 y hy (by rw [hL _ (hg y hy)]; exact hl))
 ·rw [HL_s (fun y hy hl => k0 y hy (by rw [hL _ (hg y hy)]; exact hl)) (fun al hal h1 h2 => k1 al hal (by rw [hL _ (ha al hal)]; exact h1) h2)]
  exact k2
theorem SInv.same (hC : Cx P cf rf ops g r h n0 d D) (hI : SInv ops r h n0 d D B π0 w0 q l a w π i0) (h0 : HRel π0 B h w0) (hdst : dstOk q.sz ops.toList = true) (ho : ops[i]? = some o) (_hLi : lst l i = false) (hrdy : ∀ j, tb (mkA ops i) j = true → lst l j = true) {π' : Pi} {w' : World} {cv : Value} {v : AV}
  (hr : (D (i + 1)).r = putD o.dst v (D i).r) (hs : (D (i + 1)).s = (D i).s) (hb : (D (i + 1)).b = (D i).b) (hp : (D (i + 1)).pn = (D i).pn) (hg : (D (i + 1)).grp = (D i).grp) (hv : VR π' v cv) (hst : Step B π (HL d l (D i0).s) w π' (HL d l (D i0).s) w') :
  SInv ops r h n0 d D B π0 w0 q (l.setIfInBounds i true) (a.put o.dst cv) w' π' i0 := by
 have hi := Cx.lt_of ho
 have hil : i < l.size := by rw [hI.ln]; exact hi
 have nal := hC.noAl hb
 have ngr := hC.noGrp hi hg
 refine hI.adv hC hdst ho hrdy hr hv hst.ext i0 hI.hi0 ?_ ((Step.trans h0 hI.st hst).less (HL_mono hC hil nal ngr) (by rw [HL_nx, HL_nx]; exact Nat.le_refl _)) ?_ ?_ hI.freshS hI.nx (hC.noPn hp) (fun al hal e => absurd e (nal al hal))
 ·intro j hj he
  have hne : j ≠ i := fun e => hC.noEff hi hs (e ▸ he)
  rw [lst_set hil, if_neg hne]; exact hI.eff j hj he
 ·intro j hj
  rw [lst_set hil]; split
  ·rfl
  ·exact hI.cm j hj
 ·intro al hal hl hne
  cases hp' : π' al.b with
  | none => rfl
  | some p =>
   have := (hst.new al.b p hp' (hI.fresh al hal hl)).1
   rw [HL_nx] at this
   have := hI.nx
   have := (hC.al_lt hal).1
   omega
theorem SInv.part (hC : Cx P cf rf ops g r h n0 d D) (hI : SInv ops r h n0 d D B π0 w0 q l a w π i0) (hrdy : ∀ j, tb (mkA ops i) j = true → lst l j = true) (hng : ∀ x ∈ d.grp, lst l x.i = false) : Hle (lay (selM (mkA ops i) (D i0).s.cm) d.als (D i0).s.h) (HL d l (D i0).s) := by
 have hng' : ∀ (b : Nat), ∀ x ∈ d.grp, lst l x.i = true → x.b ≠ b := fun b x hx hl => by rw [hng x hx] at hl; cases hl
 intro b x e
 rcases lay_inv e with ⟨al, k1, k2, rfl, rfl⟩ | ⟨k1, k2⟩
 ·have := selM_iff.1 k2
  exact HL_al hC k1 (hrdy _ this.1) this.2 (hng' _)
 ·rw [HL_s (hng' _) ?_]
  ·exact k2
  ·intro al hal hl hc e
   subst e
   rw [hI.freshS al hal hc] at k2; cases k2
end
end Go.Proofs.YtnpkdiffpgcbhaaGreatDoor.Ev
namespace Go.Proofs.YtnpkdiffpgcbhaaGreatDoor.Ev
open Go Go.RowKit
section
variable {P : Program} {cf : CallF} {rf : RndF} {ops : Array Oper} {g : Nat} {r : T AV} {h : Hp} {n0 : Nat} {d : DS} {D : Nat → DS} {B : Nat} {π0 π : Pi} {w0 w : World} {q : Q} {l : Array Bool} {a : Act} {i0 i : Nat} {o : Oper} {ro : Option Nat} {m : Nat} {K : Act → World → Prop} {Q' : Exit → Act → World → Prop}
theorem tkOk_spec (hC : Cx P cf rf ops g r h n0 d D) {t : Tk} {i0 : Nat} (h1 : ∀ j, j < ops.size → IsEff D j → i0 ≤ j → tb t.m j = false) (h2 : ∀ j, j < ops.size → IsEff D j → j < i0 → tb (mkA ops j) t.i = false) :
  ∀ k, i0 ≤ k → k ≤ ops.size → tkOk P (mkA ops) d.als t (D k).s (D k).st = true → tkAt P d.als t (D i0).s = true := by
 intro k
 induction k with
 | zero =>
  intro hk _ e
  have : i0 = 0 := by omega
  subst this
  rw [hC.tr.first] at e ⊢
  exact e
 | succ k ih =>
  intro hk hkn e
  have ho : ops[k]? = some ops[k] := Array.getElem?_eq_getElem (by omega)
  rcases (hC.tr.step k _ ho).stg with ⟨e1, e2⟩ | ⟨e1, e2⟩
  ·by_cases hik : i0 = k + 1
   ·
    rw [hik, e1]
    rw [e1, e2] at e
    cases hst : (D k).st with
    | nil => rw [hst] at e; exact e
    | cons s' l' =>
     rw [hst] at e
     unfold tkOk at e
     split at e
     ·rename_i ef hef
      obtain ⟨f1, f2, f3⟩ := hC.tr.elt rfl k (by omega) ef hef
      obtain ⟨g1, _⟩ := beq_and e
      rw [h2 ef (by omega) f2 (by omega)] at g1
      simpa using g1
     ·cases e
   ·exact ih (by omega) (by omega) (by rw [← e1, ← e2]; exact e)
  ·rw [e2] at e
   unfold tkOk at e
   rw [e1] at e
   simp only at e
   obtain ⟨g1, g2⟩ := beq_and e
   by_cases hik : i0 = k + 1
   ·rw [hik]
    rw [h2 k (by omega) e1 (by omega)] at g1
    simpa using g1
   ·rw [h1 k (by omega) e1 (by omega)] at g2
    exact ih (by omega) (by omega) (by simpa using g2)
theorem SInv.read_at (hC : Cx P cf rf ops g r h n0 d D) (hI : SInv ops r h n0 d D B π0 w0 q l a w π i0) (ho : ops[i]? = some o) (hLi : lst l i = false) (hrdy : ∀ j, tb (mkA ops i) j = true → lst l j = true) (hc : cls P o.op = 1) {v : AV} {h' : Hp}
  (e : opA P (D i).r o (lay (selM (mkA ops i) (D i).s.cm) (D i).als (D i).s.h) = .val v h') (ht : (⟨i, mkA ops i, o, (D i).r, v⟩ : Tk) ∈ d.tks) : ∃ h2, opA P (D i).r o (lay (selM (mkA ops i) (D i0).s.cm) d.als (D i0).s.h) = .val v h2 := by
 have hi := Cx.lt_of ho
 have hbk : ∀ j, i ≤ j → ∀ cm, selM (mkA ops i) cm j = false := by
  intro j hj cm
  cases hs : selM (mkA ops i) cm j with
  | false => rfl
  | true => have := mk_lt hC.st.back i j (selM_iff.1 hs).1; omega
 rcases hC.rds with hs | hs
 ·obtain ⟨_, _, s3, s4⟩ := seqOk_spec hs
  have hst : (D i0).s = (D i).s := by
   refine hI.stage hC hi ?_ ?_
   ·intro j hj he
    obtain ⟨oj, _, _, hoj, hcj, _⟩ := hC.effStep (by omega) he
    have := s4 j i (oj, mkA ops j) (o, mkA ops i) hj (by rw [plan_get, hoj]; rfl) (by rw [plan_get, ho]; rfl) hcj hc
    rw [Nat.zero_add] at this
    exact hrdy j this
   ·intro j hj hjn he
    obtain ⟨oj, _, _, hoj, hcj, _⟩ := hC.effStep hjn he
    cases hl : lst l j with
    | false => rfl
    | true =>
     have hne : j ≠ i := by intro e; subst e; rw [ho] at hoj; cases hoj; omega
     have := s3 i j (o, mkA ops i) (oj, mkA ops j) (by omega) (by rw [plan_get, ho]; rfl) (by rw [plan_get, hoj]; rfl) hc hcj
     rw [Nat.zero_add] at this
     rw [hI.down j hl i this] at hLi; cases hLi
  rw [hst]
  refine ⟨_, ((cls1 (r := (D i).r) hc) _ v h' e).2 _ ?_⟩
  intro b x hb
  rw [← hC.lay_eq (by omega) (fun j hj => hbk j hj _)]
  exact hb
 ·have hall := List.all_eq_true.1 hs _ ht
  have hat := tkOk_spec hC (t := ⟨i, mkA ops i, o, (D i).r, v⟩) (i0 := i0) ?_ ?_ ops.size hI.hi0 (Nat.le_refl _) (by rw [hC.tr.last]; exact hall)
  ·unfold tkAt at hat
   simp only at hat
   split at hat
   ·rename_i v' h2 he
    exact ⟨h2, by rw [← AV.beq_eq _ _ hat]; exact he⟩
   ·cases hat
  ·intro j hj he hij
   cases ht : tb (mkA ops i) j with
   | false => rfl
   | true => have := (hI.eff j hj he).1 (hrdy j ht); omega
  ·intro j hj he hij
   cases ht : tb (mkA ops j) i with
   | false => rfl
   | true => rw [hI.down j ((hI.eff j hj he).2 hij) i ht] at hLi; cases hLi
theorem step_sound (hO : OpsOk P) (hcf : CfOk P cf) (hrf : RfOk P rf) (hC : Cx P cf rf ops g r h n0 d D) (hI : SInv ops r h n0 d D B π0 w0 q l a w π i0) (h0 : HRel π0 B h w0) (hdst : dstOk q.sz ops.toList = true) (hrd : i ∈ Region.ready .any ops l)
  (hK : ∀ a' w' π' i0', SInv ops r h n0 d D B π0 w0 q (l.setIfInBounds i true) a' w' π' i0' → K a' w')
  (hQ : ∀ p chain w' π', d.pn = some p → PRs π' p.1 chain → PExt π π' → Step B π0 h w0 π' p.2.1 w' → Q' (.panic chain) a w') : wpOpIn (Fw ro) m P ops Q' i K a w := by
 obtain ⟨hun, o, ho, hall⟩ := mem_ready.1 hrd
 have hi := Cx.lt_of ho
 have hil : i < l.size := by rw [hI.ln]; exact hi
 have hLi : lst l i = false := by unfold lst; rw [Array.getD_eq_getD_getElem?] at hun ⊢; simpa [Array.getElem?_eq_getElem hil] using hun
 have hrdy : ∀ j, tb (mkA ops i) j = true → lst l j = true := ready_all hC.st.back hI.down ho fun e he hb => hall e (by simpa using he) hb
 have hlook := hI.look hC ho hLi hrdy
 have hcg : ∀ H, opA P (restr (D i).r (o.looksAt ops)) o H = opA P (D i).r o H := fun H => (opA_congr (restr_agree _ _)).symm
 have hwant : ∀ b, wantA ops (D i).r o = some b → Region.wanted o (yielded ops a.tmps) = b := fun b hb => wantA_sound hlook (by rw [wantA_restr]; exact hb)
 have goV : ∀ (Hin : Hp) (v : AV) (H' : Hp), HRel π B Hin w → opE cf rf (opA P (D i).r o Hin) = .val v H' → (∀ π' cv w', VR π' v cv → Step B π Hin w π' H' w' → K (a.put o.dst cv) w') → o.wpIn (Fw ro) m P a w K Q' := by
  intro Hin v H' hR he hk
  refine opE_wp hO hcf hrf hR hlook (fun dd hd => by rw [hcg, he] at hd; cases hd) ?_
  rw [hcg, he]
  exact hk
 unfold wpOpIn
 simp only [ho]
 have hS := hC.tr.step i o ho
 generalize hs' : D (i + 1) = s' at hS
 generalize hs0 : D i = s at hS
 have noskip : behindPan s.pn (mkA ops i) ≠ true := by
  intro e
  unfold behindPan at e
  cases hp : s.pn with
  | none => rw [hp] at e; cases e
  | some p =>
   rw [hp] at e
   have e : tb (mkA ops i) p.2.2 = true := e
   have h1 := hC.tr.pnm (i := i) (k := ops.size) (by omega) (Nat.le_refl _) p (by rw [hs0, hp])
   rw [hC.tr.last] at h1
   have := hrdy _ e
   rw [hI.pn p h1] at this; cases this
 cases hS with
 | skip e => exact absurd e noskip
 | unw hw =>
  rw [hwant false (by rw [hs0]; exact hw), if_neg (by simp)]
  refine ⟨about_Fw, hK _ _ π i0 (hI.same hC h0 hdst ho hLi hrdy (v := undA) (cv := undef) ?_ ?_ ?_ ?_ ?_ undA_R (.refl hI.st.rel))⟩ <;> simp only [hs', hs0]
 | pure hw hc v h' e =>
  rw [hwant true (by rw [hs0]; exact hw), if_pos rfl]
  have e2 : opA P s.r o (HL d l (D i0).s) = .val v (HL d l (D i0).s) := (cls0 hc _ v h' e).2 _
  refine goV (HL d l (D i0).s) v (HL d l (D i0).s) hI.st.rel (by rw [hs0, e2]; rfl) ?_
  intro π' cv w' hv hst
  refine hK _ _ π' i0 (hI.same hC h0 hdst ho hLi hrdy (v := v) ?_ ?_ ?_ ?_ ?_ hv hst) <;> simp only [hs', hs0]
 | read hw hc v h' e =>
  rw [hwant true (by rw [hs0]; exact hw), if_pos rfl]
  have htk : (⟨i, mkA ops i, o, (D i).r, v⟩ : Tk) ∈ d.tks := by
   rw [← hC.tr.last]
   refine hC.tr.tksm (i := i + 1) (by omega) (Nat.le_refl _) _ ?_
   rw [hs', hs0]; simp
  obtain ⟨h2, e2⟩ := hI.read_at hC ho hLi hrdy hc (by rw [hs0]; exact e) htk
  have hng : ∀ x ∈ d.grp, lst l x.i = false := by
   intro x hx
   cases hl : lst l x.i with
   | false => rfl
   | true =>
    have := (hC.gok hx).1 _ htk
    obtain ⟨_, _, _, _, _, _, _, _, _, _, _, hm, _⟩ := hC.grps hx
    rw [hm] at this
    rw [hI.down _ hl _ this] at hLi; cases hLi
  have e3 : opA P (D i).r o (HL d l (D i0).s) = .val v (HL d l (D i0).s) := ((cls1 (r := (D i).r) hc) _ v h2 e2).2 _ (hI.part hC hrdy hng)
  refine goV (HL d l (D i0).s) v (HL d l (D i0).s) hI.st.rel (by rw [e3]; rfl) ?_
  intro π' cv w' hv hst
  refine hK _ _ π' i0 (hI.same hC h0 hdst ho hLi hrdy (v := v) ?_ ?_ ?_ ?_ ?_ hv hst) <;> simp only [hs', hs0]
 | alloc hw hc v h' x e hx =>
  rw [hwant true (by rw [hs0]; exact hw), if_pos rfl]
  have hal : (⟨i, s.b, x⟩ : Al) ∈ d.als := by
   rw [← hC.tr.last]
   refine (hC.tr.alsm (i := i + 1) (by omega) (Nat.le_refl _)).1 _ ?_
   rw [hs']; simp
  rw [← hs0] at e
  rw [← hcg] at e
  obtain ⟨x', sm, k1, k2, k3⟩ := cls2 hc hI.st.rel hlook e
  rw [hs0] at k1 k3
  have hxx : x' = x := by
   rw [k1, Hp.get_new, if_pos rfl] at hx
   simpa using hx
  subst hxx
  obtain ⟨ob, z, cv, r1, r2, r3, r4, r5⟩ := k3
  have hfr := hI.fresh _ hal hLi
  have hlt := hC.al_lt hal
  have hdf : ∀ c, o.op ≠ .defer c := by intro c hcc; rw [hcc] at hc; exact absurd (show (3 : Nat) = 2 from hc) (by decide)
  refine ⟨about_Fw, ?_⟩
  show o.uponIn (Fw ro) m P a K Q' ((o.semAt ro a.eval).run P w)
  rw [Oper.semAt_eq ro _ o hdf, k2, Sem.run_bind, r1, Result.andThen_ok]
  show K (a.put o.dst cv) (w.alloc ob)
  have ngr := hC.noGrp hi (by rw [hs', hs0])
  have hst := (D i0).s
  refine hK _ _ (piNew π s.b w.heap.size z) i0 (hI.adv hC hdst ho hrdy (v := v) (by rw [hs', hs0]) (r5 _ (piNew_ext' hfr _ _) (by simp [piNew])) (piNew_ext' hfr _ _) i0 hI.hi0 ?_ ?_ ?_ ?_ hI.freshS hI.nx (hC.noPn (by rw [hs', hs0])) ?_)
  ·intro j hj he
   have hne : j ≠ i := fun e => hC.noEff hi (by rw [hs', hs0]) (e ▸ he)
   rw [lst_set hil, if_neg hne]; exact hI.eff j hj he
  ·refine hI.st.addBlock hfr hlt.2 (by rw [HL_nx]; exact Nat.lt_of_lt_of_le hlt.1 hI.nx) r2 (by rw [HL_nx, HL_nx]) ?_
   have hL : ∀ j, j ≠ i → lst (l.setIfInBounds i true) j = lst l j := fun j hj => by rw [lst_set hil, if_neg hj]
   have hLt : lst (l.setIfInBounds i true) i = true := by rw [lst_set hil, if_pos rfl]
   have hcmi : tb (D i0).s.cm i = false := by
    cases ht : tb (D i0).s.cm i with
    | false => rfl
    | true => rw [hI.cm i ht] at hLi; cases hLi
   intro c y hy
   rcases HL_inv hy with ⟨y1, k1, k2, rfl, rfl⟩ | ⟨k0, ⟨al, k1, k2, k3, rfl, rfl⟩ | ⟨k1, k2⟩⟩
   ·have hl1 : lst l y1.i = true := by rw [← hL _ (ngr y1 k1)]; exact k2
    refine .inr ⟨?_, HL_g hC k1 hl1⟩
    intro ebb
    obtain ⟨_, _, _, _, _, _, x0, _, _, _, _, _, _, _, _, _, _, q0, _⟩ := hC.grps k1
    rw [← hI.gstage hC k1 (fun j hj => hI.down _ hl1 j hj), ebb] at q0
    rw [hI.freshS _ hal hcmi] at q0; cases q0
   ·by_cases e : al.i = i
    ·have := hC.al_idx k1 hal e
     subst this
     exact .inl ⟨rfl, rfl⟩
    ·refine .inr ⟨fun eb => e (by rw [hC.al_uniq k1 hal eb]), HL_al hC k1 (by rw [← hL _ e]; exact k2) k3 (fun y hy hl => k0 y hy (by rw [hL _ (ngr y hy)]; exact hl))⟩
   ·refine .inr ⟨fun eb => k1 _ hal hLt hcmi eb.symm, ?_⟩
    rw [HL_s (fun y hy hl => k0 y hy (by rw [hL _ (ngr y hy)]; exact hl)) (fun al hal' h1 h2 => k1 al hal' (by rw [lst_set hil]; split; rfl; exact h1) h2)]
    exact k2
  ·intro j hj
   rw [lst_set hil]; split
   ·rfl
   ·exact hI.cm j hj
  ·intro al hal' hl hne
   have hb : al.b ≠ s.b := fun eb => hne (by rw [hC.al_uniq hal' hal eb])
   unfold piNew
   rw [if_neg hb]; exact hI.fresh al hal' hl
  ·intro al hal' hia
   have := hC.al_idx hal' hal hia
   subst this
   exact ⟨r3, r4⟩
 | eff hw hc hg hch v h' e =>
  rw [hwant true (by rw [hs0]; exact hw), if_pos rfl]
  have hie : IsEff D i := by unfold IsEff; rw [hs']
  have behind : ∀ j, i < j → j < ops.size → IsEff D j → lst l j = false := by
   intro j hj hjn he
   cases hl : lst l j with
   | false => rfl
   | true =>
    obtain ⟨_, _, _, _, _, _, hch', _⟩ := hC.effStep hjn he
    rw [hI.down j hl i (hC.ahead hjn hch' hj hie)] at hLi; cases hLi
  have hst : (D i0).s = (D i).s := by
   refine hI.stage hC hi (fun j hj he => hrdy j (hC.ahead hi (by rw [hs0]; exact hch) hj he)) ?_
   intro j hj hjn he
   by_cases hji : j = i
   ·subst hji; exact hLi
   ·exact behind j (by omega) hjn he
  have hng : ∀ x ∈ d.grp, lst l x.i = false := by
   intro x hx
   cases hl : lst l x.i with
   | false => rfl
   | true =>
    obtain ⟨_, _, _, _, _, _, _, _, q1, _, _, _, q5, q6, _⟩ := hC.grps hx
    have hlt : i < x.i := by
     rcases Nat.lt_or_ge i x.i with k | k
     ·exact k
     ·have a1 := Nat.le_of_ble_eq_true q5
      have a2 : Nat.ble g i = true := by rw [Nat.ble_eq]; omega
      rw [hg] at a2; cases a2
    rw [hI.down _ hl i (hC.ahead q1 q6 hlt hie)] at hLi; cases hLi
  have hbk : ∀ j, i ≤ j → ∀ cm, selM (mkA ops i) cm j = false := by
   intro j hj cm
   cases hs : selM (mkA ops i) cm j with
   | false => rfl
   | true => have := mk_lt hC.st.back i j (selM_iff.1 hs).1; omega
  have hpart := hI.part hC hrdy hng
  rw [hst, hs0] at hpart
  have hle : Hle (lay (selM (mkA ops i) s.s.cm) s.als s.s.h) (HL d l (D i0).s) := by
   rw [hst, hs0]
   intro b x hb
   refine hpart b x ?_
   rw [← hC.lay_eq (by omega) (fun j hj => hbk j hj _), hs0]
   exact hb
  have hnx : (lay (selM (mkA ops i) s.s.cm) s.als s.s.h).nx = (HL d l (D i0).s).nx := by rw [HL_nx, lay_nx, hst, hs0]
  have hRin := hI.st.rel.less hle (by rw [hnx]; exact Nat.le_refl _)
  refine goV _ v h' hRin (by rw [hs0]; exact e) ?_
  intro π' cv w' hv hstep
  have hst' : (D (i + 1)).s = ⟨some i, Nat.lor s.s.cm (mkA ops i), h'⟩ := by rw [hs']
  have nal := hC.noAl (i := i) (by rw [hs', hs0])
  have ngr := hC.noGrp hi (by rw [hs', hs0])
  have hL : ∀ j, j ≠ i → lst (l.setIfInBounds i true) j = lst l j := fun j hj => by rw [lst_set hil, if_neg hj]
  have hn0 : n0 ≤ (lay (selM (mkA ops i) s.s.cm) s.als s.s.h).nx := by rw [lay_nx]; have := hI.nx; rw [hst, hs0] at this; exact this
  have hcmS : (D i0).s.cm = s.s.cm := by rw [hst, hs0]
  have notin : ∀ al ∈ d.als, tb s.s.cm al.i = false → tb (mkA ops i) al.i = false → (lay (selM (mkA ops i) s.s.cm) s.als s.s.h).get al.b = none := by
   intro al hal hc1 hc2
   rw [lay_out, ← hs0, ← hst]
   ·exact hI.freshS al hal (by rw [hcmS]; exact hc1)
   ·intro b hb hsel eb
    have hbd : b ∈ d.als := by
     rw [← hC.tr.last]
     exact (hC.tr.alsm (i := i) (by omega) (Nat.le_refl _)).1 _ (by rw [hs0]; exact hb)
    have := hC.al_uniq hbd hal eb
    subst this
    rw [(selM_iff.1 hsel).1] at hc2; cases hc2
  refine hK _ _ π' (i + 1) (hI.adv hC hdst ho hrdy (v := v) (by rw [hs', hs0]) hv hstep.ext (i + 1) (by omega) ?_ ?_ ?_ ?_ ?_ ?_ (hC.noPn (by rw [hs', hs0])) (fun al hal e => absurd e (nal al hal)))
  ·intro j hj he
   rw [lst_set hil]
   by_cases hji : j = i
   ·subst hji; simp
   ·rw [if_neg hji]
    rcases Nat.lt_or_ge j i with k | k
    ·have := hrdy j (hC.ahead hi (by rw [hs0]; exact hch) k he)
     rw [this]; simp; omega
    ·rw [behind j (by omega) hj he]; simp; omega
  ·refine Step.merge h0 hI.st hle hnx hstep (by rw [HL_nx, hst']) ?_
   intro c y hy
   rw [hst'] at hy
   rcases HL_inv hy with ⟨y1, k1, k2, rfl, rfl⟩ | ⟨k0, ⟨al, k1, k2, k3, rfl, rfl⟩ | ⟨k1, k2⟩⟩
   ·rw [hL _ (ngr y1 k1), hng y1 k1] at k2; cases k2
   ·right
    have k3 : tb (Nat.lor s.s.cm (mkA ops i)) al.i = false := k3
    rw [tb_lor, Bool.or_eq_false_iff] at k3
    have hl1 : lst l al.i = true := by rw [← hL _ (nal al k1)]; exact k2
    have hx := hI.alx al k1 hl1
    exact ⟨HL_al hC k1 hl1 (by rw [hcmS]; exact k3.1) (fun y hy hl => by rw [hng y hy] at hl; cases hl), notin al k1 k3.1 k3.2, hx.1, hx.2⟩
   ·exact .inl k2
  ·intro j hj
   rw [hst'] at hj
   have hj : tb (Nat.lor s.s.cm (mkA ops i)) j = true := hj
   rw [tb_lor, Bool.or_eq_true] at hj
   rw [lst_set hil]
   split
   ·rfl
   ·rcases hj with hj | hj
    ·exact hI.cm j (by rw [hcmS]; exact hj)
    ·exact hrdy j hj
  ·intro al hal hl hne
   cases hp' : π' al.b with
   | none => rfl
   | some p =>
    have := (hstep.new al.b p hp' (hI.fresh al hal hl)).1
    have := (hC.al_lt hal).1
    omega
  ·intro al hal hcm
   rw [hst'] at hcm ⊢
   have hcm : tb (Nat.lor s.s.cm (mkA ops i)) al.i = false := hcm
   rw [tb_lor, Bool.or_eq_false_iff] at hcm
   show h'.get al.b = none
   cases hg' : h'.get al.b with
   | none => rfl
   | some y =>
    rcases hstep.old al.b y hg' with ⟨y', hy', _⟩ | hge
    ·rw [notin al hal hcm.1 hcm.2] at hy'; cases hy'
    ·have := (hC.al_lt hal).1
     omega
  ·rw [hst']
   exact Nat.le_trans hn0 hstep.nx
 | pan hw hc hg hch ch h' e =>
  rw [hwant true (by rw [hs0]; exact hw), if_pos rfl]
  have hdp : d.pn = some (ch, h', i) := by
   rw [← hC.tr.last]
   exact hC.tr.pnm (i := i + 1) (by omega) (Nat.le_refl _) _ (by rw [hs'])
  have nopn : ∀ j, i < j → j ≤ ops.size → (D j).pn = some (ch, h', i) := fun j h1 h2 => hC.tr.pnm (i := i + 1) (by omega) h2 _ (by rw [hs'])
  have hst : (D i0).s = (D i).s := by
   refine hI.stage hC hi (fun j hj he => hrdy j (hC.ahead hi (by rw [hs0]; exact hch) hj he)) ?_
   intro j hj hjn he
   exfalso
   by_cases hji : j = i
   ·subst hji; exact hC.noEff hi (by rw [hs', hs0]) he
   ·obtain ⟨_, _, _, _, _, _, hch', _⟩ := hC.effStep hjn he
    unfold inChain at hch'
    rw [nopn j (by omega) (by omega), both_eq, Bool.and_eq_true] at hch'
    cases hch'.2
  have hng : ∀ x ∈ d.grp, lst l x.i = false := by
   intro x hx
   exfalso
   obtain ⟨_, _, _, _, _, _, _, _, q1, _, _, _, q5, q6, _⟩ := hC.grps hx
   have hlt : i < x.i := by
    rcases Nat.lt_or_ge i x.i with k | k
    ·exact k
    ·have a1 := Nat.le_of_ble_eq_true q5
     have a2 : Nat.ble g i = true := by rw [Nat.ble_eq]; omega
     rw [hg] at a2; cases a2
   unfold inChain at q6
   rw [nopn x.i hlt (by omega), both_eq, Bool.and_eq_true] at q6
   cases q6.2
  have hbk : ∀ j, i ≤ j → ∀ cm, selM (mkA ops i) cm j = false := by
   intro j hj cm
   cases hs : selM (mkA ops i) cm j with
   | false => rfl
   | true => have := mk_lt hC.st.back i j (selM_iff.1 hs).1; omega
  have hpart := hI.part hC hrdy hng
  rw [hst, hs0] at hpart
  have hle : Hle (lay (selM (mkA ops i) s.s.cm) s.als s.s.h) (HL d l (D i0).s) := by
   rw [hst, hs0]
   intro b x hb
   refine hpart b x ?_
   rw [← hC.lay_eq (by omega) (fun j hj => hbk j hj _), hs0]
   exact hb
  have hnx : (lay (selM (mkA ops i) s.s.cm) s.als s.s.h).nx = (HL d l (D i0).s).nx := by rw [HL_nx, lay_nx, hst, hs0]
  have hsl := hI.st.less hle (by rw [hnx]; exact Nat.le_refl _)
  refine opE_wp hO hcf hrf hsl.rel hlook (fun dd hd => by rw [hcg, hs0, e] at hd; cases hd) ?_
  rw [hcg, hs0, e]
  intro π' chain w' hv hstep
  exact hQ _ chain w' π' hdp hv hstep.ext (Step.trans h0 hsl hstep)
 | flt hw hc hg hch t ax xx c j v x0 x1 h1 hop ea ex e0 hk hf es e1 =>
  rw [hwant true (by rw [hs0]; exact hw), if_pos rfl]
  have hgm : (⟨i, mkA ops i, c, x1⟩ : Gp) ∈ d.grp := by
   rw [← hC.tr.last]
   refine (hC.tr.grpm (i := i + 1) (by omega) (Nat.le_refl _)).1 _ ?_
   rw [hs']; simp
  have hst : (D i0).s = (D i).s := hI.gstage hC hgm hrdy
  have hL : ∀ j, j ≠ i → lst (l.setIfInBounds i true) j = lst l j := fun j hj => by rw [lst_set hil, if_neg hj]
  have hLt : lst (l.setIfInBounds i true) i = true := by rw [lst_set hil, if_pos rfl]
  have hSc : (D i0).s.h.get c = some x0 := by rw [hst, hs0]; exact e0
  have hcg' : ∀ y ∈ d.grp, lst l y.i = true → y.b ≠ c := by
   intro y hy hl eb
   have := hC.g_uniq hy hgm eb
   subst this
   rw [hLi] at hl; cases hl
  have hca : ∀ al ∈ d.als, tb (D i0).s.cm al.i = false → al.b ≠ c := by
   intro al hal hcm eb
   rw [← eb, hI.freshS al hal hcm] at hSc; cases hSc
  have hHc : (HL d l (D i0).s).get c = some x0 := by
   rw [HL_s hcg' (fun al hal _ h2 => hca al hal h2)]
   exact hSc
  have hsib := stores_sib (store_stores es) e0 e1
  have hk2 : noKill j (HL d l (D i0).s) x0.sibs = true := by
   refine noKill_of (h := s.s.h) ?_ hk
   intro sb hsb y hy
   rw [← hsib] at hsb
   rcases HL_inv hy with ⟨y1, k1, k2, k3, k4⟩ | ⟨k0, ⟨al, k1, k2, k3, k4, k5⟩ | ⟨k1, k2⟩⟩
   ·exfalso
    rcases Nat.lt_trichotomy y1.i i with k | k | k
    ·exact (hC.g_free k1 hgm k).2.1 sb hsb k3.symm
    ·rw [k, hLi] at k2; cases k2
    ·exact (hC.g_free hgm k1 k).2.2 sb hsb k3.symm
   ·exact absurd k4.symm ((hC.gok hgm).2 al k1 sb hsb)
   ·rw [hst, hs0] at k2; exact k2
  obtain ⟨H2, f1, f2, f3⟩ := store_at es e0 hk e1 hHc hk2
  have hopA : opA P (D i).r o (HL d l (D i0).s) = .val undA H2 := by
   have hA : ∀ op', o.op = op' → opA P (D i).r o (HL d l (D i0).s) = opA P (D i).r { o with op := op' } (HL d l (D i0).s) := fun op' e => by subst e; rfl
   rw [hA _ hop]
   show opStore t ax xx P (D i).r (HL d l (D i0).s) = _
   unfold opStore
   rw [hs0, ea, oo_some, ex, oo_some, f1, oo_some]
  refine goV (HL d l (D i0).s) undA H2 hI.st.rel (by rw [hopA]; rfl) ?_
  intro π' cv w' hv hstep
  have nal := hC.noAl (i := i) (by rw [hs', hs0])
  refine hK _ _ π' i0 (hI.adv hC hdst ho hrdy (v := undA) (by rw [hs', hs0]) hv hstep.ext i0 hI.hi0 ?_ ((Step.trans h0 hI.st hstep).less ?_ (by rw [f2, HL_nx, HL_nx]; exact Nat.le_refl _)) ?_ ?_ hI.freshS hI.nx (hC.noPn (by rw [hs', hs0])) (fun al hal e => absurd e (nal al hal)))
  ·intro k hk' he
   have hne : k ≠ i := fun e => hC.noEff hi (by rw [hs', hs0]) (e ▸ he)
   rw [lst_set hil, if_neg hne]; exact hI.eff k hk' he
  ·intro b y hy
   rw [f3]
   rcases HL_inv hy with ⟨y1, k1, k2, rfl, rfl⟩ | ⟨k0, ⟨al, k1, k2, k3, rfl, rfl⟩ | ⟨k1, k2⟩⟩
   ·by_cases e : y1.i = i
    ·have := hC.g_idx k1 hgm e
     subst this
     rw [if_pos rfl]
    ·have hl1 : lst l y1.i = true := by rw [← hL _ e]; exact k2
     rw [if_neg (hcg' y1 k1 hl1)]
     exact HL_g hC k1 hl1
   ·rw [if_neg (hca al k1 k3)]
    exact HL_al hC k1 (by rw [← hL _ (nal al k1)]; exact k2) k3 (fun y hy hl => k0 y hy (by rw [lst_set hil]; split; rfl; exact hl))
   ·rw [if_neg (fun eb => k0 _ hgm hLt eb.symm)]
    rw [HL_s (fun y hy hl => k0 y hy (by rw [lst_set hil]; split; rfl; exact hl)) (fun al hal' h1 h2 => k1 al hal' (by rw [lst_set hil]; split; rfl; exact h1) h2)]
    exact k2
  ·intro k hk'
   rw [lst_set hil]; split
   ·rfl
   ·exact hI.cm k hk'
  ·intro al hal hl hne
   cases hp' : π' al.b with
   | none => rfl
   | some p =>
    have := (hstep.new al.b p hp' (hI.fresh al hal hl)).1
    rw [HL_nx] at this
    have := hI.nx
    have := (hC.al_lt hal).1
    omega
end
end Go.Proofs.YtnpkdiffpgcbhaaGreatDoor.Ev
namespace Go.Proofs.YtnpkdiffpgcbhaaGreatDoor.Ev
open Go Go.RowKit
section
variable {P : Program} {cf : CallF} {rf : RndF} {ops : Array Oper} {g : Nat} {r : T AV} {h : Hp} {n0 : Nat} {d : DS} {D : Nat → DS} {B : Nat} {π0 π : Pi} {w0 w : World} {q : Q} {l : Array Bool} {a : Act} {i0 i : Nat} {o : Oper} {ro : Option Nat} {m : Nat} {K : Act → World → Prop} {Q' : Exit → Act → World → Prop}
theorem selF_iff {cm j : Nat} : selF cm j = true ↔ tb cm j = false := by
 unfold selF
 cases tb cm j with
 | false => rw [ob_false]; simp
 | true => rw [ob_true]; simp
theorem SInv.done (hC : Cx P cf rf ops g r h n0 d D) (hI : SInv ops r h n0 d D B π0 w0 q l a w π i0) (hall : ∀ j, j < ops.size → lst l j = true) :
  d.pn = none ∧ St π q d.r a ∧ Step B π0 h w0 π (layG d.grp (lay (selF d.s.cm) d.als d.s.h)) w := by
 have hs : d.s = (D i0).s := by
  rw [← hC.tr.last]
  exact (hC.tr.stage rfl hI.hi0 (Nat.le_refl _) (fun j h1 h2 he => by have := (hI.eff j h2 he).1 (hall j h2); omega)).1
 refine ⟨?_, ⟨?_, hI.asz, hI.adf⟩, hI.st.less ?_ ?_⟩
 ·cases hp : d.pn with
  | none => rfl
  | some p =>
   obtain ⟨h1, _⟩ := hC.pnStep ops.size (Nat.le_refl _) p (by rw [hC.tr.last]; exact hp)
   have := hI.pn p hp
   rw [hall _ h1] at this; cases this
 ·intro t v hv
  refine hI.reg t v ?_
  by_cases hex : ∃ (j : Nat) (oj : Oper), ops[j]? = some oj ∧ oj.dst = some t
  ·obtain ⟨j, oj, h1, h2⟩ := hex
   exact .inl ⟨⟨j, oj, h1, h2, hall j (Cx.lt_of h1)⟩, hv⟩
  ·refine .inr ⟨fun j oj h1 h2 => absurd ⟨j, oj, h1, h2⟩ hex, ?_⟩
   rw [← hC.tr.last, hC.tr.reg (Nat.zero_le _) (Nat.le_refl _) (fun j oj _ _ h1 h2 => hex ⟨j, oj, h1, h2⟩), hC.tr.first] at hv
   exact hv
 ·intro b x e
  rw [layG_eq] at e
  rcases layg_inv e with ⟨y, k1, k2, rfl, rfl⟩ | ⟨k0, k1⟩
  ·obtain ⟨_, _, _, _, _, _, _, _, k3, _⟩ := hC.grps k1
   exact HL_g hC k1 (hall _ k3)
  ·have hg : ∀ (b' : Nat), b' = b → ∀ y ∈ d.grp, lst l y.i = true → y.b ≠ b' := fun b' e y hy _ => by rw [e]; exact k0 y hy rfl
   rcases lay_inv k1 with ⟨al, k2, k3, k4, rfl⟩ | ⟨k2, k3⟩
   ·obtain ⟨_, _, _, k5, _⟩ := hC.als k2
    rw [← k4]
    exact HL_al hC k2 (hall _ k5) (by rw [← hs]; exact selF_iff.1 k3) (hg _ k4)
   ·rw [HL_s (hg b rfl) (fun al hal _ h2 => k2 al hal (selF_iff.2 (by rw [hs]; exact h2))), ← hs]
    exact k3
 ·rw [HL_nx, layG_eq, layg_nx, lay_nx, hs]; exact Nat.le_refl _
theorem cnt_set {n i : Nat} {p p' : Nat → Bool} (hi : i < n) (h1 : p i = true) (h2 : p' i = false) (h3 : ∀ j, j ≠ i → p' j = p j) : (List.range n).countP p' < (List.range n).countP p := by
 induction n with
 | zero => omega
 | succ n ih =>
  rw [List.range_succ, List.countP_append, List.countP_append]
  by_cases he : i = n
  ·subst he
   have : (List.range i).countP p' = (List.range i).countP p := by
    refine List.countP_congr fun j hj => ?_
    rw [h3 j (by simp at hj; omega)]
   rw [this]
   simp [h1, h2]
  ·have := ih (by omega)
   have e : p' n = p n := h3 n (fun e => he e.symm)
   simp [e]; omega
theorem any_sound (hO : OpsOk P) (hcf : CfOk P cf) (hrf : RfOk P rf) (hC : Cx P cf rf ops g r h n0 d D) (h0 : HRel π0 B h w0) (hdst : dstOk q.sz ops.toList = true)
  (hN : ∀ a' w' π', d.pn = none → St π' q d.r a' → Step B π0 h w0 π' (layG d.grp (lay (selF d.s.cm) d.als d.s.h)) w' → Q' .normal a' w')
  (hQ : ∀ p chain a' w' π' π'', d.pn = some p → PRs π' p.1 chain → Step B π0 h w0 π' p.2.1 w' → PExt π'' π' → (∀ t v, (∀ (j : Nat) (o : Oper), ops[j]? = some o → o.dst ≠ some t) → r.get (Pos.of t) = some v → ∃ cv, a'.tmps[t]? = some cv ∧ VR π'' v cv) → a'.tmps.size = q.sz → DRs π'' q.df a'.defers → Q' (.panic chain) a' w') :
  ∀ (fuel : Nat) (l : Array Bool) (a : Act) (w : World) (π : Pi) (i0 : Nat), (List.range ops.size).countP (fun j => !lst l j) ≤ fuel → SInv ops r h n0 d D B π0 w0 q l a w π i0 → wpAnyIn (Fw ro) m P .any ops Q' fuel l a w := by
 have fin : ∀ (l : Array Bool) (a : Act) (w : World) (π : Pi) (i0 : Nat), SInv ops r h n0 d D B π0 w0 q l a w π i0 → (∀ j, j < ops.size → lst l j = true) → Q' .normal a w := by
  intro l a w π i0 hI hall
  obtain ⟨h1, h2, h3⟩ := hI.done hC hall
  exact hN a w π h1 h2 h3
 have nil_all : ∀ (l : Array Bool) (a : Act) (w : World) (π : Pi) (i0 : Nat), SInv ops r h n0 d D B π0 w0 q l a w π i0 → Region.ready .any ops l = [] → ∀ j, j < ops.size → lst l j = true := by
  intro l a w π i0 hI hnil j
  induction j using Nat.strongRecOn with
  | _ j ih =>
   intro hj
   cases hl : lst l j with
   | true => rfl
   | false =>
    exfalso
    have ho : ops[j]? = some ops[j] := Array.getElem?_eq_getElem hj
    have hmem : j ∈ Region.ready .any ops l := by
     refine mem_ready.2 ⟨?_, ops[j], ho, fun e he hb => ?_⟩
     ·have hjl : j < l.size := by rw [hI.ln]; exact hj
      unfold lst at hl
      rw [Array.getD_eq_getD_getElem?] at hl ⊢
      simpa [Array.getElem?_eq_getElem hjl] using hl
     ·have := edge_lt hC.st.back ho (by simpa using he) hb
      exact ih e.on this (by omega)
    rw [hnil] at hmem; cases hmem
 intro fuel
 induction fuel with
 | zero =>
  intro l a w π i0 hf hI
  have hall : ∀ j, j < ops.size → lst l j = true := by
   intro j hj
   cases hl : lst l j with
   | true => rfl
   | false =>
    have : 0 < (List.range ops.size).countP (fun j => !lst l j) := List.countP_pos_iff.2 ⟨j, by simpa using hj, by simp [hl]⟩
    omega
  refine ⟨?_, fin l a w π i0 hI hall⟩
  cases hr : Region.ready .any ops l with
  | nil => rfl
  | cons i rest =>
   obtain ⟨hun, o, ho, _⟩ := mem_ready.1 (show i ∈ Region.ready .any ops l by rw [hr]; simp)
   have hi := Cx.lt_of ho
   have hil : i < l.size := by rw [hI.ln]; exact hi
   have := hall i hi
   unfold lst at this
   rw [Array.getD_eq_getD_getElem?] at hun this
   simp [Array.getElem?_eq_getElem hil] at hun this
   rw [hun] at this; cases this
 | succ fuel ih =>
  intro l a w π i0 hf hI
  refine ⟨fun hnil => fin l a w π i0 hI (nil_all l a w π i0 hI hnil), fun i hrd => ?_⟩
  obtain ⟨hun, o, ho, _⟩ := mem_ready.1 hrd
  have hi := Cx.lt_of ho
  have hil : i < l.size := by rw [hI.ln]; exact hi
  have hLi : lst l i = false := by unfold lst; rw [Array.getD_eq_getD_getElem?] at hun ⊢; simpa [Array.getElem?_eq_getElem hil] using hun
  refine step_sound hO hcf hrf hC hI h0 hdst hrd ?_ ?_
  ·intro a' w' π' i0' hI'
   refine ih _ a' w' π' i0' ?_ hI'
   have := cnt_set (p := fun j => !lst l j) (p' := fun j => !lst (l.setIfInBounds i true) j) hi (by simp [hLi]) (by simp [lst_set hil]) (fun j hj => by simp [lst_set hil, hj])
   omega
  ·intro p chain w' π' hp hpr hext hst
   exact hQ p chain a w' π' π hp hpr hst hext (fun t v hn hv => hI.reg t v (.inr ⟨fun j o h1 h2 => absurd h2 (hn j o h1), hv⟩)) hI.asz hI.adf
theorem forget_get : ∀ (l : List Nat) (r : T AV) (t : Nat), (forget l r).get (Pos.of t) = if t ∈ l then none else r.get (Pos.of t)
 | [], r, t => by simp [forget]
 | d :: l, r, t => by
  unfold forget
  rw [forget_get l, T.get_putN]
  by_cases h1 : t ∈ l
  ·simp [h1]
  ·by_cases h2 : t = d
   ·subst h2; simp
   ·simp [h1, h2]
theorem SS.drawn (hm : P.follows .mixedOrders = true) (hO : OpsOk P) (hcf : CfOk P cf) (hrf : RfOk P rf) {id : Nat} : SS P (.region id ops true) (drawnS P cf rf ops) := by
  intro r h q k hok hd hrc B π a w ro m hH hS hro
  unfold drawnS at hok ⊢
  cases hrk : rOk ops with
  | false => rw [hrk] at hok; exact hok.elim
  | true =>
    rw [hrk] at hok
    have hok : (drawnK P cf rf ops r h q k).ok := hok
    show (Code.region id ops true).wpIn (Fw ro) m P (Post B π h w q (drawnK P cf rf ops r h q k) k) a w
    unfold drawnK at hok ⊢
    rw [fN_eq] at hok ⊢
    cases hop : opsD P cf rf ops (grpAt P none (plan ops) 0) (plan ops) 0 ⟨r, ⟨none, 0, ⟨h.t, Nat.add h.nx (cntAl P ops.toList)⟩⟩, [], [], h.nx, none, [], []⟩ with
    | bad w => rw [hop] at hok; exact hok.elim
    | ok d =>
      rw [hop] at hok
      have hok : (endD P ops r q k d).ok := hok
      show (Code.region id ops true).wpIn (Fw ro) m P (Post B π h w q (endD P ops r q k d) k) a w
      obtain ⟨D, hT⟩ := trace_of hop
      unfold endD at hok
      cases hg : grpOk d with
      | false => rw [hg] at hok; exact hok.elim
      | true =>
        rw [hg, ob_true] at hok
        cases hrd : ob (seqOk P (plan ops) 0 []) (tksOk P (fun i => (msks ops.toList []).getD i 0) d) true with
        | false => rw [hrd] at hok; exact hok.elim
        | true =>
          rw [hrd, ob_true] at hok
          have hC : Cx P cf rf ops (grpAt P none (plan ops) 0) r h (Nat.add h.nx (cntAl P ops.toList)) d D := by
            refine ⟨hT, static_of hrk, rfl, hg, ?_⟩
            cases hsq : seqOk P (plan ops) 0 [] with
            | true => exact .inl rfl
            | false => rw [hsq] at hrd; exact .inr hrd
          have hend : endD P ops r q k d = oo d.pn (tick (k .nrm d.r (layG d.grp (lay (selF d.s.cm) d.als d.s.h)) q)) fun p => k (.pan p.1) (forget (dsts ops.toList) r) p.2.1 q := by
            unfold endD
            rw [hg, ob_true, hrd, ob_true]
          have hdr : HRel π B h { w with drawn := w.drawn + 1 } := hH.same rfl
          have hst0 : Step B π h w π h { w with drawn := w.drawn + 1 } := Step.same hH rfl ⟨rfl, rfl, rfl⟩
          refine wpIn_region_any hm ?_
          refine any_sound hO hcf hrf hC hH hd ?_ ?_ ops.size (Array.replicate ops.size false) a { w with drawn := w.drawn + 1 } π 0 ?_ ?_
          · intro a' w' π' hpn hS' hst
            rw [hend, hpn]
            exact ⟨.nrm, d.r, _, q, π', trivial, hS', .refl q, hst, .refl _⟩
          · intro p chain a' w' π' π'' hpn hpr hst hext hreg hsz hdf
            rw [hend, hpn]
            refine ⟨.pan p.1, _, p.2.1, q, π', hpr, ⟨?_, hsz, hdf.mono hext⟩, .refl q, hst, .refl _⟩
            intro t v hv
            rw [forget_get] at hv
            split at hv
            · cases hv
            · rename_i hnm
              obtain ⟨cv, h1, h2⟩ := hreg t v (fun j o ho hd' => hnm (dsts_mem.2 ⟨o, List.mem_of_getElem? (by rw [Array.getElem?_toList]; exact ho), hd'⟩)) hv
              exact ⟨cv, h1, h2.mono hext⟩
          · refine Nat.le_trans (List.countP_le_length) ?_
            simp
          · have hl0 : ∀ j, lst (Array.replicate ops.size false) j = false := by
              intro j
              unfold lst
              rw [Array.getD_eq_getD_getElem?]
              rcases Nat.lt_or_ge j ops.size with hj | hj
              · simp [hj]
              · rw [Array.getElem?_eq_none (by simpa using hj)]; rfl
            have hD0 : D 0 = ⟨r, ⟨none, 0, ⟨h.t, Nat.add h.nx (cntAl P ops.toList)⟩⟩, [], [], h.nx, none, [], []⟩ := hT.first
            have hhl : ∀ b x, (HL d (Array.replicate ops.size false) (D 0).s).get b = some x → h.get b = some x := by
              intro b x e
              rw [HL_s (fun y _ hl => by rw [hl0] at hl; cases hl) (fun al _ hl => by rw [hl0] at hl; cases hl), hD0] at e
              exact e
            refine ⟨by simp, Nat.zero_le _, ?_, hst0.less hhl ?_, ?_, hS.sz, hS.df, ?_, ?_, ?_, ?_, fun p _ => hl0 _, ?_, ?_⟩
            · intro j hj he; rw [hl0]; simp
            · rw [HL_nx, hD0]; exact Nat.le_add_right _ _
            · intro t v hv
              rcases hv with ⟨⟨j, o, _, _, h3⟩, _⟩ | ⟨_, hv⟩
              · rw [hl0] at h3; cases h3
              · exact hS.rr t v hv
            · intro j hj; rw [hD0, tb_zero] at hj; cases hj
            · intro al hal _
              cases hp : π al.b with
              | none => rfl
              | some p => have := (hH.dom _ _ hp).1; have := (hC.al_lt hal).2; omega
            · intro al hal _
              rw [hD0]
              show h.get al.b = none
              cases hgb : h.get al.b with
              | none => rfl
              | some x =>
                obtain ⟨c, z, o, k1, _⟩ := hH.blk _ _ hgb
                have := (hH.dom _ _ k1).1; have := (hC.al_lt hal).2; omega
            · rw [hD0]; exact Nat.le_refl _
            · intro i hi; rw [hl0] at hi; cases hi
            · intro al _ hl; rw [hl0] at hl; cases hl
variable {ev : CodeF}
theorem codeC_loop (b : Code) : codeC P cf rf ev (.loop b) = fun r h q k => loopS (codeC P cf rf ev b) k 100000000 r h q := rfl
theorem codeC_scope (b : Code) : codeC P cf rf ev (.scope b) = fun r h q k => scopeS ev b k 100000000 b r h q := rfl
theorem codeC_sound (hm : P.follows .mixedOrders = true) (hO : OpsOk P) (hcf : CfOk P cf) (hrf : RfOk P rf) (hev : EvOk P ev) : ∀ c, SS P c (codeC P cf rf ev c)
 | .skip => SS.skip
 | .region id ops false => SS.region hO hcf hrf
 | .region id ops true => SS.drawn hm hO hcf hrf
 | .seq a b => SS.seq (codeC_sound hm hO hcf hrf hev a) (codeC_sound hm hO hcf hrf hev b)
 | .cond c a b => SS.cond (codeC_sound hm hO hcf hrf hev a) (codeC_sound hm hO hcf hrf hev b)
 | .block id b => SS.block (codeC_sound hm hO hcf hrf hev b)
 | .loop b => by rw [codeC_loop]; exact SS.loop _ (codeC_sound hm hO hcf hrf hev b)
 | .rangeFunc f ps asg b => SS.rangeFunc hcf hev
 | .exit id => SS.exit
 | .scope b => by rw [codeC_scope]; exact SS.scope hev _
 | .label l => SS.label
 | .goto l => SS.goto
 | .ret => SS.ret
 | .refuse s => SS.refuse
def KnOk (P : Program) (kn : CallF → CallF) : Prop := ∀ cf, CfOk P cf → CfOk P (kn cf)
theorem codeN_sound (hm : P.follows .mixedOrders = true) (hO : OpsOk P) {kn : CallF → CallF} (hk : KnOk P kn) : ∀ n, EvOk P (codeN P kn n)
 | 0 => fun _c _r _h _q _k hok => hok.elim
 | n + 1 => fun c => codeC_sound hm hO (hk _ (callB_sound hO (codeN_sound hm hO hk n))) (rndB_sound (codeN_sound hm hO hk n)) (codeN_sound hm hO hk n) c
theorem call_sound (hm : P.follows .mixedOrders = true) (hO : OpsOk P) {kn : CallF → CallF} (hk : KnOk P kn) (n : Nat) : CfOk P (callB P (codeN P kn n)) := callB_sound hO (codeN_sound hm hO hk n)
end
end Go.Proofs.YtnpkdiffpgcbhaaGreatDoor.Ev
