/- The evaluator's soundness, 14: rounds. -/
import Derived.Test.YtmoejaloachlkaaGreatDoorFh
namespace Go.Proofs.YtmoejaloachlkaaGreatDoor.Ev
open Go Go.RowKit

section
variable {P : Program} {B : Nat} {π : Pi} {H : Hp} {w : World}
theorem HRel.loop (hH : HRel π B H w) {l : Nat} {st : LoopState} {pd : Option Code} {r : T AV} {sz : Nat} {ps : List Nat} {asg body : Code} {df : Nat} (h : H.get l = some (.loop st pd r sz ps asg body df)) :
    ∃ c z L z', π l = some (c, z) ∧ w.heap[c]? = some (.loop L) ∧ L.state = st ∧ L.pending = pd ∧ RR π r L.tmps ∧ L.tmps.size = sz ∧ L.params.toList = ps ∧ L.assign = asg ∧ L.body = body ∧ π df = some (L.defers, z') := by
  obtain ⟨c, z, o, p1, p2, ⟨L, rfl, h1, h2, h3, h4, h5, h6, h7, z', h8⟩, p5⟩ := hH.blk l _ h
  exact ⟨c, z, L, z', p1, p2, h1, h2, h3, h4, h5, h6, h7, h8⟩
theorem run_getLoop {c : Nat} {L : Loop} (h : w.heap[c]? = some (.loop L)) : (Instr.getLoop c).run P w = .ok L w := by
  unfold Instr.getLoop
  rw [Sem.run_bind, run_getObj h (by simp)]; rfl
theorem loop_set (hH : HRel π B H w) {l : Nat} {st : LoopState} {pd : Option Code} {r : T AV} {sz : Nat} {ps : List Nat} {asg body : Code} {df c z : Nat} {L : Loop} (h : H.get l = some (.loop st pd r sz ps asg body df)) (hp : π l = some (c, z)) (hw : w.heap[c]? = some (.loop L)) (st' : LoopState) (pd' : Option Code) :
    ∃ w', (setObj c (.loop { L with state := st', pending := pd' })).run P w = .ok () w' ∧ Step B π H w π (H.set l (.loop st' pd' r sz ps asg body df)) w' := by
  obtain ⟨c', z1, o, p1, p2, ⟨L', e, h1, h2, h3, h4, h5, h6, h7, z', h8⟩, p5⟩ := hH.blk l _ h
  rw [hp] at p1; cases p1
  rw [hw] at p2; cases p2
  cases e
  exact ⟨_, objSet_step hH h rfl rfl hp hw (by simp) (Evo.noMap (by simp)) ⟨_, rfl, rfl, rfl, h3, h4, h5, h6, h7, z', h8⟩⟩
theorem setP_sound : ∀ (ps : List Nat) (args : List AV) (cargs : List Value) (r : T AV) (tmps : Array Value), VRs π args cargs → (∀ p ∈ ps, p < tmps.size) → RR π r tmps →
    RR π (setP ps args r) ((ps.zip cargs).foldl (fun tmps (t, a) => tmps.setIfInBounds t a) tmps) ∧ ((ps.zip cargs).foldl (fun tmps (t, a) => tmps.setIfInBounds t a) tmps).size = tmps.size
  | [], args, cargs, r, tmps, _, _, hR => by cases args <;> exact ⟨hR, rfl⟩
  | p :: ps, [], cargs, r, tmps, h, _, hR => by cases h; exact ⟨hR, rfl⟩
  | p :: ps, v :: args, cargs, r, tmps, h, hps, hR => by
    cases h with
    | cons _ cv _ cargs hv hvs =>
      have hp := hps p (by simp)
      have h1 : RR π (r.put (some v) (Pos.of p)) (tmps.setIfInBounds p cv) := by
        intro s u hu
        rw [T.get_putN] at hu
        by_cases hs : s = p
        · subst hs
          rw [if_pos rfl] at hu; cases hu
          exact ⟨cv, by simp [hp], hv⟩
        · rw [if_neg hs] at hu
          obtain ⟨cu, h1, h2⟩ := hR s u hu
          exact ⟨cu, by rw [Array.getElem?_setIfInBounds_ne (fun e => hs e.symm)]; exact h1, h2⟩
      obtain ⟨a, b⟩ := setP_sound ps args cargs _ (tmps.setIfInBounds p cv) hvs (fun q hq => by rw [Array.size_setIfInBounds]; exact hps q (by simp [hq])) h1
      exact ⟨a, by rw [List.zip_cons_cons, List.foldl_cons, b, Array.size_setIfInBounds]⟩
theorem COut.of_le {a b : CR} (hl : Le a b) (ha : a.ok) {π : Pi} {w' : World} {e : Ending} (h : COut B π H w b e w') : COut B π H w a e w' := (hl ha).2 _ _ _ _ _ _ h
theorem COut.step {r : CR} {π' : Pi} {H' : Hp} {w' w'' : World} {e : Ending} (hH : HRel π B H w) (hs : Step B π H w π' H' w') (h : COut B π' H' w' r e w'') : COut B π H w r e w'' := by
  cases r with
  | bad _ => trivial
  | ret v h2 => obtain ⟨π2, cv, rfl, h3, h4⟩ := h; exact ⟨π2, cv, rfl, h3, Step.trans hH hs h4⟩
  | pan ch h2 => obtain ⟨π2, cv, rfl, h3, h4⟩ := h; exact ⟨π2, cv, rfl, h3, Step.trans hH hs h4⟩
/-- What a round's body is followed by. -/
noncomputable def rndE (l : Nat) : XK := fun x _ h q =>
  match q.df with
  | [] => endRnd l x h
  | _ => .bad "round: defers"
noncomputable def rndK (ev : CodeF) (l sz : Nat) (body : Code) : XK := fun x r h q =>
  match x, q.df, h.get l with
  | .nrm, [], some (.loop .ready pd r' sz' ps' asg' body' df') => ev body r (h.set l (.loop .busy pd r' sz' ps' asg' body' df')) ⟨sz, [], .no, some l⟩ (rndE l)
  | _, _, _ => .bad "round: assign"
variable {ev : CodeF}
theorem rndB_eq {l : Nat} {args : List AV} {st : LoopState} {pd : Option Code} {r : T AV} {sz : Nat} {ps : List Nat} {asg body : Code} {df : Nat} (h : H.get l = some (.loop st pd r sz ps asg body df)) :
    rndB ev l args H = bif Nat.beq args.length ps.length && ltAll sz ps && codeOk sz asg && codeOk sz body then ev asg (setP ps args r) H ⟨sz, [], .no, some l⟩ (rndK ev l sz body) else .bad "round: arguments" := by
  unfold rndB
  rw [h]
  rfl
theorem rndK_inv {l sz : Nat} {body : Code} {x : X} {r : T AV} {h : Hp} {q : Q} (hk : (rndK ev l sz body x r h q).ok) : x = .nrm ∧ q.df = [] ∧ ∃ pd r' sz' ps' asg' body' df', h.get l = some (.loop .ready pd r' sz' ps' asg' body' df') ∧
    rndK ev l sz body x r h q = ev body r (h.set l (.loop .busy pd r' sz' ps' asg' body' df')) ⟨sz, [], .no, some l⟩ (rndE l) := by
  unfold rndK at hk ⊢
  split at hk
  · rename_i pd r' sz' ps' asg' body' df' e1 e2
    exact ⟨rfl, e1, pd, r', sz', ps', asg', body', df', e2, rfl⟩
  · exact hk.elim
/-- The end of a round. -/
theorem endRnd_sound (hH : HRel π B H w) {l c z : Nat} (hp : π l = some (c, z)) {x : X} {e : Exit} (hx : XR π x e) {H0 : Hp} {w0 : World} {π0 : Pi} {res : CR} (hH0 : HRel π0 B H0 w0) (hs : Step B π0 H0 w0 π H w) (hok : res.ok) (hle : Le res (endRnd l x H)) (a : Act) :
    roundPost P c (COut B π0 H0 w0 res) e a w := by
  have hk := (hle hok).1
  unfold endRnd at hk hle
  cases hg : H.get l with
  | none => rw [hg] at hk; exact hk.elim
  | some b =>
    rw [hg] at hk hle
    cases b with
    | loop st pd r sz ps asg body df =>
      obtain ⟨c', z', L, z2, p1, p2, _⟩ := hH.loop hg
      rw [hp] at p1; cases p1
      have go : ∀ (st' : LoopState) (j : Option Code) (r' : CR), st' = (if j.isNone then .ready else .done) → r' = .ret (.bool j.isNone) (H.set l (.loop st' j r sz ps asg body df)) → Le res r' → ∃ v w', (Instr.endRound c j).run P w = .ok v w' ∧ COut B π0 H0 w0 res (.returned v) w' := by
        intro st' j r' h1 h2 h3
        obtain ⟨w', k1, k2⟩ := loop_set (P := P) hH hg hp p2 st' j
        refine ⟨.bool j.isNone, w', ?_, ?_⟩
        · unfold Instr.endRound
          rw [Sem.run_bind, run_getLoop p2, Result.andThen_ok]
          have k1' : (setObj c (.loop { L with state := if j.isNone then .ready else .done, pending := j })).run P w = .ok () w' := by rw [← h1]; exact k1
          rw [Sem.run_bind, k1', Result.andThen_ok]; rfl
        · refine COut.of_le h3 hok ?_
          rw [h2]
          exact ⟨π, _, rfl, .bool _, Step.trans hH0 hs k2⟩
      cases e with
      | normal => cases x <;> first | exact hx.elim | exact go _ none _ rfl rfl hle
      | ret => cases x <;> first | exact hx.elim | exact go _ (some .ret) _ rfl rfl hle
      | exit id =>
        cases x <;> first | exact hx.elim | skip
        have hx : _ = id := hx
        subst hx
        exact go _ (some (.exit _)) _ rfl rfl hle
      | goto id =>
        cases x <;> first | exact hx.elim | skip
        have hx : _ = id := hx
        subst hx
        exact go _ (some (.goto _)) _ rfl rfl hle
      | panic ch => cases x <;> first | exact hx.elim | exact hk.elim
      | outgrown => cases x <;> exact hx.elim
    | _ => exact hk.elim
theorem rndB_sound (hev : EvOk P ev) : RfOk P (rndB ev) := by
  intro B π H w l args cargs c z ro n hH hp ha hok
  cases hg : H.get l with
  | none => unfold rndB at hok; rw [hg] at hok; exact hok.elim
  | some b =>
    cases b with
    | loop st pd r sz ps asg body df =>
      have e0 := rndB_eq (ev := ev) (args := args) hg
      rw [e0] at hok ⊢
      cases hb : Nat.beq args.length ps.length && ltAll sz ps && codeOk sz asg && codeOk sz body with
      | false => rw [hb] at hok; exact hok.elim
      | true =>
        rw [hb] at hok
        have hok : (ev asg (setP ps args r) H ⟨sz, [], .no, some l⟩ (rndK ev l sz body)).ok := hok
        simp only [Bool.and_eq_true] at hb
        obtain ⟨c', z1, L, z2, p1, p2, h1, h2, h3, h4, h5, h6, h7, h8⟩ := hH.loop hg
        rw [hp] at p1; cases p1
        have hlen : cargs.size = L.params.size := by
          have a1 := Nat.eq_of_beq_eq_true hb.1.1.1
          have a2 := ha.length
          rw [← Array.length_toList, ← Array.length_toList, h5, ← a2, a1]
        have hlt : ∀ p ∈ L.params.toList, p < L.tmps.size := by
          rw [h5, h4]
          intro p hpm
          have := List.all_eq_true.1 hb.1.1.2 p hpm
          simpa [Nat.blt_eq] using this
        obtain ⟨s1, s2⟩ := setP_sound L.params.toList args cargs.toList r L.tmps ha hlt h3
        have ef : (L.params.zip cargs).foldl (fun tmps (t, a) => tmps.setIfInBounds t a) L.tmps = (L.params.toList.zip cargs.toList).foldl (fun tmps (t, a) => tmps.setIfInBounds t a) L.tmps := by
          rw [← Array.foldl_toList, Array.toList_zip]
        rw [cond_true]
        refine ⟨c, L.fn, (L.params.zip cargs).foldl (fun tmps (t, a) => tmps.setIfInBounds t a) L.tmps, L.assign, L.body, w, ?_, roundIn_of_wpIn trivial ?_⟩
        · unfold Instr.yield
          rw [Sem.run_bind, run_getLoop p2, Result.andThen_ok, if_neg (by simpa using hlen)]
          rfl
        · rw [h6, h7, ef]
          have hSt : St π ⟨sz, [], .no, some l⟩ (setP ps args r) { tmps := (L.params.toList.zip cargs.toList).foldl (fun tmps (t, a) => tmps.setIfInBounds t a) L.tmps, defers := [] } := ⟨by rw [← h5]; exact s1, by rw [← h4]; exact s2, .nil⟩
          refine wpIn_mono (hev asg (setP ps args r) H ⟨sz, [], .no, some l⟩ (rndK ev l sz body) hok hb.1.2 rfl B π _ w (some c) n hH hSt ⟨z, hp⟩) ?_
          intro e a' w' hpost
          obtain ⟨x, r', h', q', π', a1, a2, a3, a4, a5⟩ := hpost
          obtain ⟨rfl, hdf, pd2, r2, sz2, ps2, asg2, body2, df2, hg2, e2⟩ := rndK_inv (a5 hok).1
          rw [e2] at a5
          cases e with
          | normal =>
            obtain ⟨c3, z3, L3, z4, g1, g2, g3, g4, _⟩ := a4.rel.loop hg2
            have hp' := a4.ext _ _ hp
            rw [hp'] at g1; cases g1
            obtain ⟨w2, k1, k2⟩ := loop_set (P := P) a4.rel hg2 hp' g2 .busy pd2
            refine ⟨w2, ?_, ?_⟩
            · unfold Instr.beginRound
              rw [Sem.run_bind, run_getLoop g2, Result.andThen_ok]
              have k1' : (setObj c (.loop { L3 with state := .busy })).run P w' = .ok () w2 := by
                rw [← k1, ← g4]
              rw [Sem.run_bind, k1', Result.andThen_ok, g3]
              rfl
            · have hSt2 : St π' ⟨sz, [], .no, some l⟩ r' a' := by
                refine ⟨a2.rr, a2.sz.trans a3.sz, ?_⟩
                have := a2.df; rw [hdf] at this; exact this
              refine wpIn_mono (hev body r' _ ⟨sz, [], .no, some l⟩ (rndE l) (a5 hok).1 hb.2 rfl B π' a' w2 (some c) n k2.rel hSt2 ⟨z, hp'⟩) ?_
              intro e a2 w3 hpost2
              obtain ⟨x, r4, h4, q4, π4, b1, b2, b3, b4, b5⟩ := hpost2
              have hle := a5.trans b5
              have hk := (hle hok).1
              unfold rndE at hk hle
              cases hq : q4.df with
              | cons _ _ => simp only [hq] at hk; exact hk.elim
              | nil =>
                simp only [hq] at hle
                exact endRnd_sound b4.rel (b4.ext _ _ hp') b1 hH (Step.trans hH (Step.trans hH a4 k2) b4) hok hle a2
          | _ => exact a1.elim
    | _ => unfold rndB at hok; rw [hg] at hok; exact hok.elim
end
end Go.Proofs.YtmoejaloachlkaaGreatDoor.Ev
