/- The evaluator's soundness, 12: results; deferred bodies; how a call leaves. -/
import Derived.Test.YtmoejaloachlkaaGreatDoorFf
namespace Go.Proofs.YtmoejaloachlkaaGreatDoor.Ev
open Go Go.RowKit

section
variable {P : Program} {B : Nat} {π : Pi} {H : Hp} {w : World} {r : T AV}
/-! ### Results -/
theorem resA_sound (hH : HRel π B H w) {tmps : Array Value} (hR : RR π r tmps) {f : ResultVar → Sem Value} (f1 : ∀ t, f (.tmp t) = pure (tmps.getD t undef)) (f2 : ∀ a t, f (.cell a t) = do loadVar t (← asAddr (tmps.getD a undef))) :
    ∀ {rs : List ResultVar} {l : List AV}, resA P r H rs = some l → ∃ vs, (rs.mapM f).run P w = .ok vs w ∧ VRs π l vs
  | [], l, h => by cases h; exact ⟨[], rfl, .nil⟩
  | .tmp t :: rs, l, h => by
    unfold resA at h
    cases hg : r.get (Pos.of t) with
    | none => rw [hg] at h; cases h
    | some v =>
      rw [hg] at h
      simp only [Option.map_eq_some_iff] at h
      obtain ⟨l', h1, rfl⟩ := h
      obtain ⟨vs, a, b⟩ := resA_sound hH hR f1 f2 h1
      obtain ⟨cv, c1, c2⟩ := hR t v hg
      refine ⟨cv :: vs, ?_, .cons _ _ _ _ c2 b⟩
      rw [List.mapM_cons, f1]
      simp only [Sem.run_bind, Sem.run_pure, Result.andThen_ok, a, Array.getD_eq_getD_getElem?, c1, Option.getD_some]
  | .cell x t :: rs, l, h => by
    unfold resA at h
    cases hg : r.get (Pos.of x) with
    | none => rw [hg] at h; cases h
    | some p =>
      rw [hg] at h
      simp only at h
      cases hl : load P t p H with
      | none => rw [hl] at h; cases h
      | some v =>
        rw [hl] at h
        simp only [Option.map_eq_some_iff] at h
        obtain ⟨l', h1, rfl⟩ := h
        obtain ⟨vs, a, b⟩ := resA_sound hH hR f1 f2 h1
        obtain ⟨cp, c1, c2⟩ := hR x p hg
        obtain ⟨cv, d1, d2⟩ := load_sound (P := P) hH hl c2
        refine ⟨cv :: vs, ?_, .cons _ _ _ _ d2 b⟩
        have e : (do loadVar t (← asAddr cp) : Sem Value).run P w = .ok cv w := by
          obtain ⟨bb, oo', rfl, _⟩ := avPtr_some (p := (· = some v)) hl (by simp)
          cases c2 with
          | ptr _ _ c z hp =>
            have d1 := d1
            unfold Instr.loadAt at d1
            have hs : (Instr.sureAddr (.pointer (some ⟨c, oo', none⟩))).run P w = .ok ⟨c, oo', none⟩ w := rfl
            rw [Sem.run_bind, hs, Result.andThen_ok] at d1
            simp only [Sem.run_bind, asAddr, Sem.run_pure, Result.andThen_ok]
            exact d1
        rw [List.mapM_cons, f2]
        simp only [Array.getD_eq_getD_getElem?, c1, Option.getD_some]
        rw [Sem.run_bind, e, Result.andThen_ok, Sem.run_bind, a]; rfl
theorem resF_sound (hH : HRel π B H w) {tmps : Array Value} (hR : RR π r tmps) {fn : Func} {v : AV} (h : resF P fn r H = some v) : ∃ cv, (results fn tmps).run P w = .ok cv w ∧ VR π v cv := by
  unfold resF at h
  have main : ∀ l, resA P r H fn.results.toList = some l → ∃ cv, (results fn tmps).run P w = .ok cv w ∧ VR π (tupA l) cv := by
    intro l hl
    obtain ⟨vs, a, b⟩ := resA_sound (P := P) hH hR (f := fun x => match x with
      | .tmp t => pure (tmps.getD t undef)
      | .cell a t => do loadVar t (← asAddr (tmps.getD a undef))) (fun _ => rfl) (fun _ _ => rfl) hl
    have e : (results fn tmps).run P w = .ok (if h : vs.toArray.size = 1 then vs.toArray[0] else .tuple vs.toArray) w := by
      unfold results
      rw [Array.mapM_eq_mapM_toList, map_eq_pure_bind, Sem.run_bind, Sem.run_bind]
      have a2 : Sem.run P (List.mapM (fun x => match x with
        | .tmp t => pure (tmps.getD t undef)
        | .cell a t => do loadVar t (← asAddr (tmps.getD a undef))) fn.results.toList) w = .ok vs w := a
      refine (congrArg (fun z => Result.andThen (Result.andThen z _) _) (Eq.trans ?_ a2)).trans ?_
      · congr 2
      · rfl
    refine ⟨_, e, ?_⟩
    have hlen := b.length
    match l, vs, b with
    | [], [], b => exact .tup _ _ .nil
    | [x], [y], .cons _ _ _ _ h1 _ => exact h1
    | x :: x' :: l, y :: y' :: vs, b =>
      rw [dif_neg (by simp)]
      exact .tup _ _ (by simpa using b)
  cases ho : oneRes fn with
  | none =>
    rw [ho] at h
    obtain ⟨l, h1, h2⟩ := oo_eq h
    cases h2
    exact main l h1
  | some t =>
    rw [ho] at h
    have h : r.get (Pos.of t) = some v := h
    have hres : fn.results.toList = [.tmp t] := by
      unfold oneRes at ho
      split at ho
      · rename_i t' ht; cases ho; exact ht
      · cases ho
    have : resA P r H fn.results.toList = some [v] := by rw [hres]; unfold resA; rw [h]; rfl
    exact main [v] this

/-! ### Registers at the start -/
theorem regsOf_cons (v : AV) (l : List AV) (i : Nat) (r : T AV) : regsOf (v :: l) i r = regsOf l (i + 1) (r.put (some v) (Pos.of i)) := rfl
theorem regsOf_get : ∀ (l : List AV) (i : Nat) (r : T AV) (t : Nat), (regsOf l i r).get (Pos.of t) = if i ≤ t ∧ t < i + l.length then l[t - i]? else r.get (Pos.of t)
  | [], i, r, t => by rw [if_neg (by simp only [List.length_nil]; omega)]; rfl
  | v :: l, i, r, t => by
    rw [regsOf_cons, regsOf_get l (i + 1), T.get_putN]
    simp only [List.length_cons]
    by_cases h1 : i + 1 ≤ t ∧ t < i + 1 + l.length
    · rw [if_pos h1, if_pos (by omega), show t - i = (t - (i + 1)) + 1 by omega, List.getElem?_cons_succ]
    · rw [if_neg h1]
      by_cases h2 : t = i
      · subst h2; rw [if_pos rfl, if_pos (by omega), Nat.sub_self, List.getElem?_cons_zero]
      · rw [if_neg h2, if_neg (by omega)]
theorem start_St {args : List AV} {cargs : Array Value} {n : Nat} {rc : RC} {rd : Option Nat} (h : VRs π args cargs.toList) (hn : args.length ≤ n) : St π ⟨n, [], rc, rd⟩ (regsOf args 0 .e) { tmps := cargs ++ Array.replicate (n - cargs.size) undef, defers := [] } := by
  have hl : args.length = cargs.size := by rw [h.length]; simp
  refine ⟨?_, ?_, .nil⟩
  · intro t v hv
    rw [regsOf_get] at hv
    split at hv
    · rename_i ht
      rw [Nat.sub_zero] at hv
      obtain ⟨cv, a, b⟩ := h.get hv
      refine ⟨cv, ?_, b⟩
      show (cargs ++ _)[t]? = some cv
      rw [Array.getElem?_append_left (by omega), ← Array.getElem?_toList]; exact a
    · rw [T.get_e] at hv; cases hv
  · simp; omega
end

/-! ### Deferred bodies -/
/-- The mode of the frame below. -/
def RCR (π : Pi) : RC → FrameMode → Prop
  | .ret, .returning => True
  | .pan ch, .panicking c => PRs π ch c
  | _, _ => False
theorem RCR.mono {π π' : Pi} (hE : PExt π π') {rc : RC} {u : FrameMode} (h : RCR π rc u) : RCR π' rc u := by
  cases rc <;> cases u <;> first | exact h.elim | trivial | exact PRs.mono hE h
structure QSameD (q q' : Q) : Prop where
  sz : q'.sz = q.sz
  rd : q'.rd = q.rd
def PostS (B : Nat) (π : Pi) (h : Hp) (w : World) (q : Q) (res : CR) (k : XK) (c0 : Frame) (cs : List Frame) : Exit → Act → List Frame → World → Prop := fun e a' cs' w' =>
  ∃ x r' h' q' π' u', cs' = { c0 with mode := u' } :: cs ∧ RCR π' q'.rc u' ∧ XR π' x e ∧ St π' q' r' a' ∧ QSameD q q' ∧ Step B π h w π' h' w' ∧ Le res (k x r' h' q')
theorem PostS.step {B : Nat} {π π1 : Pi} {h h1 : Hp} {w w1 : World} {q q1 : Q} {res res1 : CR} {k : XK} {c0 : Frame} {cs : List Frame} (hH : HRel π B h w) (hs : Step B π h w π1 h1 w1) (hq : QSameD q q1) (hl : Le res res1) {e : Exit} {a' : Act} {cs' : List Frame} {w' : World} (hp : PostS B π1 h1 w1 q1 res1 k c0 cs e a' cs' w') : PostS B π h w q res k c0 cs e a' cs' w' := by
  obtain ⟨x, r', h', q', π', u', a1, a2, a3, a4, a5, a6, a7⟩ := hp
  exact ⟨x, r', h', q', π', u', a1, a2, a3, a4, ⟨a5.sz.trans hq.sz, a5.rd.trans hq.rd⟩, Step.trans hH hs a6, hl.trans a7⟩
def SD (P : Program) (c : Code) (f : SF) : Prop := ∀ (r : T AV) (h : Hp) (q : Q) (k : XK), (f r h q k).ok → codeOk q.sz c = true → q.rd = none → ∀ (B : Nat) (π : Pi) (a : Act) (w : World) (c0 : Frame) (cs : List Frame) (u : FrameMode) (m : Nat), HRel π B h w → St π q r a → RCR π q.rc u →
  c.wpSIn (Fw none) m P (PostS B π h w q (f r h q k) k c0 cs) a ({ c0 with mode := u } :: cs) w
section
variable {P : Program} {ev : CodeF}
theorem SD.rcNo (hev : EvOk P ev) (c : Code) : SD P c (rcNo ev c) := by
  intro r h q k hok hd hrd B π a w c0 cs u m hH hS hu
  refine wpSIn_of_wpIn rfl ?_
  refine wpIn_mono (hev c r h ⟨q.sz, q.df, .no, q.rd⟩ _ hok hd rfl B π a w none m hH ⟨hS.rr, hS.sz, hS.df⟩ (by rw [show (⟨q.sz, q.df, .no, q.rd⟩ : Q).rd = q.rd from rfl, hrd]; trivial)) ?_
  intro e a' w' hp
  obtain ⟨x, r', h', q', π', a1, a2, a3, a4, a5⟩ := hp
  exact ⟨x, r', h', ⟨q'.sz, q'.df, q.rc, q'.rd⟩, π', u, rfl, hu.mono a4.ext, a1, ⟨a2.rr, a2.sz, a2.df⟩, ⟨a3.sz, a3.rd⟩, a4, a5⟩
theorem SD.seq {x y : Code} {f g : SF} (hf : SD P x f) (hg : SD P y g) : SD P (.seq x y) (fun r h q k => f r h q (seqK g k)) := by
  intro r h q k hok hd hrd B π a w c0 cs u m hH hS hu
  have hd : (codeOk q.sz x && codeOk q.sz y) = true := hd
  rw [Bool.and_eq_true] at hd
  refine wpSIn_seq ?_
  have h1 := hf r h q (seqK g k) hok hd.1 hrd B π a w c0 cs u m hH hS hu
  intro b k0 hk1 hk2 hk3 hk4
  obtain ⟨e, a', cs', w', hl, hp, harr⟩ := h1 b k0 hk1 hk2 hk3 hk4
  refine ⟨e, a', cs', w', hl, ?_, harr⟩
  obtain ⟨x1, r', h', q', π', u', a1, a2, a3, a4, a5, a6, a7⟩ := hp
  cases e with
  | normal =>
    have := a3.normal; subst this
    have a7 : Le (f r h q (seqK g k)) (g r' h' q' k) := a7
    have hk := (a7 hok).1
    show (Code.wpSIn (Fw none) m P y _ a' cs' w')
    subst a1
    have := hg r' h' q' k hk (by rw [a5.sz]; exact hd.2) (a5.rd.trans hrd) B π' a' w' c0 cs u' m a6.rel a4 a2
    intro b k0 hk1 hk2 hk3 hk4
    obtain ⟨e, a', cs', w', hl, hp, harr⟩ := this b k0 hk1 hk2 hk3 hk4
    exact ⟨e, a', cs', w', hl, PostS.step hH a6 a5 a7 hp, harr⟩
  | outgrown => cases x1 <;> exact a3.elim
  | exit i => cases x1 <;> first | exact a3.elim | exact ⟨_, r', h', q', π', u', a1, a2, a3, a4, a5, a6, a7⟩
  | goto i => cases x1 <;> first | exact a3.elim | exact ⟨_, r', h', q', π', u', a1, a2, a3, a4, a5, a6, a7⟩
  | ret => cases x1 <;> first | exact a3.elim | exact ⟨_, r', h', q', π', u', a1, a2, a3, a4, a5, a6, a7⟩
  | panic i => cases x1 <;> first | exact a3.elim | exact ⟨_, r', h', q', π', u', a1, a2, a3, a4, a5, a6, a7⟩
theorem SD.cond {c : Operand} {x y : Code} {f g : SF} (hf : SD P x f) (hg : SD P y g) : SD P (.cond c x y) (condS c f g) := by
  intro r h q k hok hd hrd B π a w c0 cs u m hH hS hu
  have hd : (codeOk q.sz x && codeOk q.sz y) = true := hd
  rw [Bool.and_eq_true] at hd
  obtain ⟨v, h1, h2⟩ := oo_ok hok
  obtain ⟨b, rfl, h3⟩ := avBool_some (p := CR.ok) h2 (fun h => h)
  have hv := opnd_sound hH hS.rr h1
  have hb : a.eval c = .bool b := by generalize a.eval c = cv at hv; cases hv; rfl
  have e : condS c f g r h q k = (ob b g f) r h q k := by unfold condS; rw [h1]; cases b <;> rfl
  rw [e] at hok ⊢
  refine wpSIn_cond hb ?_
  cases b with
  | true => exact hf r h q k hok hd.1 hrd B π a w c0 cs u m hH hS hu
  | false => exact hg r h q k hok hd.2 hrd B π a w c0 cs u m hH hS hu
theorem opsR_cons (o : Oper) (l : List Oper) : opsR P (o :: l) = oo o.guard (opR P o (opsR P l)) fun _ _ _ _ _ => .bad "deferred: guard" := rfl
theorem opsR_sound (hO : OpsOk P) (ops : Array Oper) (B : Nat) (m : Nat) (c0 : Frame) (cs : List Frame) : ∀ (l : List Oper) (i : Nat), (∀ j, l[j]? = ops[i + j]?) → ∀ (r : T AV) (h : Hp) (q : Q) (k : XK), (opsR P l r h q k).ok → dstOk q.sz l = true → ∀ (π : Pi) (a : Act) (w : World) (u : FrameMode), HRel π B h w → St π q r a → RCR π q.rc u →
    ∀ (π0 : Pi) (h0 : Hp) (w0 : World) (q0 : Q) (res : CR), HRel π0 B h0 w0 → Step B π0 h0 w0 π h w → QSameD q0 q → Le res (opsR P l r h q k) →
    wpOpsSIn (Fw none) m P ops (PostS B π0 h0 w0 q0 res k c0 cs) (List.range' i l.length) a ({ c0 with mode := u } :: cs) w := by
  intro l
  induction l with
  | nil =>
    intro i _ r h q k _ _ π a w u hH hS hu π0 h0 w0 q0 res _ hs hq hl
    exact ⟨.nrm, r, h, q, π, u, rfl, hu, trivial, hS, hq, hs, hl⟩
  | cons o l ih =>
    intro i hl r h q k hok hd π a w u hH hS hu π0 h0 w0 q0 res hH0 hs0 hq hle
    have ho : ops[i]? = some o := by have := hl 0; simpa using this.symm
    have hl' : ∀ j, l[j]? = ops[i + 1 + j]? := fun j => by have := hl (j + 1); simpa [Nat.add_assoc, Nat.add_comm 1 j] using this
    have hdo : ∀ t, o.dst = some t → t < q.sz := fun t ht => dstOk_mem hd (by simp) ht
    have hdl : dstOk q.sz l = true := by unfold dstOk at hd ⊢; rw [List.all_cons, Bool.and_eq_true] at hd; exact hd.2
    rw [List.length_cons, List.range'_succ]
    unfold wpOpsSIn
    simp only [ho]
    rw [opsR_cons] at hok hle
    cases hg : o.guard with
    | some g => rw [hg] at hok; exact hok.elim
    | none =>
      rw [hg] at hok hle
      have hok : (opR P o (opsR P l) r h q k).ok := hok
      have hle : Le res (opR P o (opsR P l) r h q k) := hle
      have hw : Region.wanted o (yielded ops a.tmps) = true := by unfold Region.wanted; rw [hg]
      refine ⟨about_Fw (ro := none), ?_⟩
      rw [if_pos hw]
      have hr := hO r o B π h w a hH hS.rr
      unfold opR at hok hle
      cases hA : opA P r o h with
      | bad s => rw [hA] at hok; exact hok.elim
      | dfr d => rw [hA] at hok; exact hok.elim
      | alts l => rw [hA] at hok; exact hok.elim
      | call f args h' => rw [hA] at hok; exact hok.elim
      | rnd f args h' => rw [hA] at hok; exact hok.elim
      | val v h' =>
        rw [hA] at hok hle hr
        obtain ⟨π', w', cv, nx, r1, r2, r3, r4⟩ := hr
        have go : wpOpsSIn (Fw none) m P ops (PostS B π0 h0 w0 q0 res k c0 cs) (List.range' (i + 1) l.length) (a.put o.dst cv) ({ c0 with mode := u } :: cs) w' :=
          ih (i + 1) hl' (putD o.dst v r) h' q k hok hdl π' (a.put o.dst cv) w' u r4.rel (hS.put r4.ext hdo r3) (hu.mono r4.ext) π0 h0 w0 q0 res hH0 (Step.trans hH0 hs0 r4) hq hle
        rw [r1]
        rcases r2 with rfl | ⟨rfl, rfl⟩
        · exact go
        · exact go
      | pan v h' =>
        rw [hA] at hok hle hr
        obtain ⟨π', cv, w', r1, r2, r3⟩ := hr
        rw [r1]
        exact ⟨.pan [⟨v, false⟩], r, h', q, π', u, rfl, hu.mono r3.ext, .cons _ _ _ _ _ r2 .nil, ⟨hS.rr.mono r3.ext, hS.sz, hS.df.mono r3.ext⟩, hq, Step.trans hH0 hs0 r3, hle⟩
      | rcv =>
        rw [hA] at hok hle hr
        have r1 : (execOp a.eval o).run P w = .ok .recover w := hr
        rw [r1]
        obtain ⟨qsz, qdf, qrc, qrd⟩ := q
        cases qrc with
        | no => exact hok.elim
        | ret =>
          cases u with
          | returning =>
            have : recoverD ({ c0 with mode := .returning } :: cs) = none := rfl
            simp only [this]
            exact ih (i + 1) hl' (putD o.dst .nili r) h _ k hok hdl π (a.put o.dst .nilIface) w _ hH (hS.put (.refl π) hdo .nili) hu π0 h0 w0 q0 res hH0 hs0 hq hle
          | _ => exact hu.elim
        | pan ch =>
          cases u with
          | panicking c =>
            have hu : PRs π ch c := hu
            cases hu with
            | nil => exact hok.elim
            | cons v v' rcd l1 l1' hv hu' =>
              cases rcd with
              | true => exact hok.elim
              | false =>
                have : recoverD ({ c0 with mode := .panicking (⟨v', false, false⟩ :: l1') } :: cs) = some (v', { c0 with mode := .panicking (⟨v', true, false⟩ :: l1') } :: cs) := rfl
                simp only [this]
                exact ih (i + 1) hl' (putD o.dst v r) h ⟨qsz, qdf, .pan (⟨v, true⟩ :: l1), qrd⟩ k hok hdl π (a.put o.dst v') w (.panicking (⟨v', true, false⟩ :: l1')) hH (St.put (q := ⟨qsz, qdf, .pan (⟨v, true⟩ :: l1), qrd⟩) (.refl π) ⟨hS.rr, hS.sz, hS.df⟩ hdo hv) (PRs.cons _ _ _ _ _ hv hu') π0 h0 w0 q0 res hH0 hs0 ⟨hq.sz, hq.rd⟩ hle
          | _ => exact hu.elim
theorem SD.region (hO : OpsOk P) (hev : EvOk P ev) (id : Nat) (ops : Array Oper) (d : Bool) : SD P (.region id ops d) (regD P ev id ops d) := by
  intro r h q k hok hd hrd B π a w c0 cs u m hH hS hu
  unfold regD at hok ⊢
  cases hR : ops.toList.any isRcv with
  | false =>
    rw [hR] at hok
    exact SD.rcNo hev _ r h q k hok hd hrd B π a w c0 cs u m hH hS hu
  | true =>
    rw [hR] at hok
    cases d with
    | true => exact hok.elim
    | false =>
      refine wpSIn_region ?_
      have := opsR_sound hO ops B m c0 cs ops.toList 0 (fun j => by simp) r h q k hok hd π a w u hH hS hu π h w q _ hH (.refl hH) ⟨rfl, rfl⟩ (.refl _)
      rw [Array.length_toList, ← List.range_eq_range'] at this
      exact this
theorem codeD_sound (hO : OpsOk P) (hev : EvOk P ev) : ∀ c, SD P c (codeD P ev c)
  | .skip => SD.rcNo hev _
  | .region id ops d => SD.region hO hev id ops d
  | .seq a b => SD.seq (codeD_sound hO hev a) (codeD_sound hO hev b)
  | .cond c a b => SD.cond (codeD_sound hO hev a) (codeD_sound hO hev b)
  | .block .. => SD.rcNo hev _
  | .loop .. => SD.rcNo hev _
  | .rangeFunc .. => SD.rcNo hev _
  | .exit .. => SD.rcNo hev _
  | .scope .. => SD.rcNo hev _
  | .label .. => SD.rcNo hev _
  | .goto .. => SD.rcNo hev _
  | .ret => SD.rcNo hev _
  | .refuse .. => SD.rcNo hev _
end
end Go.Proofs.YtmoejaloachlkaaGreatDoor.Ev
