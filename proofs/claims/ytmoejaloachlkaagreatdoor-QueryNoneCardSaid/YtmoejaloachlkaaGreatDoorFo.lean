/- The evaluator's soundness, 20: drawn regions: heaps laid together; the run by the text's order. -/
import Derived.Test.YtmoejaloachlkaaGreatDoorFn
namespace Go.Proofs.YtmoejaloachlkaaGreatDoor.Ev
open Go Go.RowKit

/-! ### Heaps laid together -/
section
variable {sel : Nat → Bool} {h : Hp}
theorem lay_nx : ∀ (als : List Al), (lay sel als h).nx = h.nx
  | [] => rfl
  | a :: l => by
    unfold lay
    cases sel a.i with
    | false => exact lay_nx l
    | true => exact lay_nx l
theorem lay_inv {b : Nat} {x : Blk} : ∀ {als : List Al}, (lay sel als h).get b = some x → (∃ a ∈ als, sel a.i = true ∧ a.b = b ∧ a.x = x) ∨ ((∀ a ∈ als, sel a.i = true → a.b ≠ b) ∧ h.get b = some x)
  | [], e => .inr ⟨fun a ha => (by cases ha), e⟩
  | a :: l, e => by
    unfold lay at e
    cases hs : sel a.i with
    | false =>
      rw [hs] at e
      rcases lay_inv (als := l) e with ⟨a', h1, h2⟩ | ⟨h1, h2⟩
      · exact .inl ⟨a', by simp [h1], h2⟩
      · refine .inr ⟨fun a' ha' hs' => ?_, h2⟩
        rcases List.mem_cons.1 ha' with rfl | ha'
        · rw [hs] at hs'; cases hs'
        · exact h1 a' ha' hs'
    | true =>
      rw [hs] at e
      have e : ((lay sel l h).set a.b a.x).get b = some x := e
      rw [Hp.get_set] at e
      by_cases hb : b = a.b
      · rw [if_pos hb] at e
        exact .inl ⟨a, by simp, hs, hb.symm, by simpa using e⟩
      · rw [if_neg hb] at e
        rcases lay_inv (als := l) e with ⟨a', h1, h2⟩ | ⟨h1, h2⟩
        · exact .inl ⟨a', by simp [h1], h2⟩
        · refine .inr ⟨fun a' ha' hs' => ?_, h2⟩
          rcases List.mem_cons.1 ha' with rfl | ha'
          · exact fun e => hb e.symm
          · exact h1 a' ha' hs'
theorem lay_out {b : Nat} : ∀ {als : List Al}, (∀ a ∈ als, sel a.i = true → a.b ≠ b) → (lay sel als h).get b = h.get b
  | [], _ => rfl
  | a :: l, hn => by
    unfold lay
    cases hs : sel a.i with
    | false => exact lay_out fun a' ha' => hn a' (by simp [ha'])
    | true =>
      show ((lay sel l h).set a.b a.x).get b = _
      rw [Hp.get_set, if_neg (fun e => hn a (by simp) hs e.symm)]
      exact lay_out fun a' ha' => hn a' (by simp [ha'])
theorem lay_in : ∀ {als : List Al}, (∀ a ∈ als, ∀ a' ∈ als, a.b = a'.b → a = a') → ∀ a ∈ als, sel a.i = true → (lay sel als h).get a.b = some a.x
  | [], _, a, ha, _ => by cases ha
  | a0 :: l, hu, a, ha, hs => by
    unfold lay
    cases hs0 : sel a0.i with
    | false =>
      rcases List.mem_cons.1 ha with rfl | ha
      · rw [hs0] at hs; cases hs
      · exact lay_in (fun a h1 a' h2 => hu a (by simp [h1]) a' (by simp [h2])) a ha hs
    | true =>
      show ((lay sel l h).set a0.b a0.x).get a.b = _
      rw [Hp.get_set]
      by_cases hb : a.b = a0.b
      · have := hu a ha a0 (by simp) hb
        subst this; simp
      · rw [if_neg hb]
        rcases List.mem_cons.1 ha with rfl | ha
        · exact absurd rfl hb
        · exact lay_in (fun a h1 a' h2 => hu a (by simp [h1]) a' (by simp [h2])) a ha hs
theorem lay_cons_out {a : Al} {l : List Al} (hs : sel a.i = false) : lay sel (a :: l) h = lay sel l h := by
  conv => lhs; unfold lay
  rw [hs]; rfl
/-- The stores in no order that are chosen. -/
noncomputable def laygS (sel : Nat → Bool) : List Gp → Hp → Hp
  | [], h => h
  | g :: l, h => ob (sel g.i) (laygS sel l h) ((laygS sel l h).set g.b g.x)
theorem layG_eq : ∀ (l : List Gp), layG l h = laygS (fun _ => true) l h
  | [] => rfl
  | g :: l => by unfold layG laygS; rw [layG_eq l]; rfl
theorem layg_nx : ∀ (l : List Gp), (laygS sel l h).nx = h.nx
  | [] => rfl
  | a :: l => by
    unfold laygS
    cases sel a.i with
    | false => exact layg_nx l
    | true => exact layg_nx l
theorem layg_inv {b : Nat} {x : Blk} : ∀ {l : List Gp}, (laygS sel l h).get b = some x → (∃ a ∈ l, sel a.i = true ∧ a.b = b ∧ a.x = x) ∨ ((∀ a ∈ l, sel a.i = true → a.b ≠ b) ∧ h.get b = some x)
  | [], e => .inr ⟨fun a ha => (by cases ha), e⟩
  | a :: l, e => by
    unfold laygS at e
    cases hs : sel a.i with
    | false =>
      rw [hs] at e
      rcases layg_inv (l := l) e with ⟨a', h1, h2⟩ | ⟨h1, h2⟩
      · exact .inl ⟨a', by simp [h1], h2⟩
      · refine .inr ⟨fun a' ha' hs' => ?_, h2⟩
        rcases List.mem_cons.1 ha' with rfl | ha'
        · rw [hs] at hs'; cases hs'
        · exact h1 a' ha' hs'
    | true =>
      rw [hs] at e
      have e : ((laygS sel l h).set a.b a.x).get b = some x := e
      rw [Hp.get_set] at e
      by_cases hb : b = a.b
      · rw [if_pos hb] at e
        exact .inl ⟨a, by simp, hs, hb.symm, by simpa using e⟩
      · rw [if_neg hb] at e
        rcases layg_inv (l := l) e with ⟨a', h1, h2⟩ | ⟨h1, h2⟩
        · exact .inl ⟨a', by simp [h1], h2⟩
        · refine .inr ⟨fun a' ha' hs' => ?_, h2⟩
          rcases List.mem_cons.1 ha' with rfl | ha'
          · exact fun e => hb e.symm
          · exact h1 a' ha' hs'
theorem layg_out {b : Nat} : ∀ {l : List Gp}, (∀ a ∈ l, sel a.i = true → a.b ≠ b) → (laygS sel l h).get b = h.get b
  | [], _ => rfl
  | a :: l, hn => by
    unfold laygS
    cases hs : sel a.i with
    | false => exact layg_out fun a' ha' => hn a' (by simp [ha'])
    | true =>
      show ((laygS sel l h).set a.b a.x).get b = _
      rw [Hp.get_set, if_neg (fun e => hn a (by simp) hs e.symm)]
      exact layg_out fun a' ha' => hn a' (by simp [ha'])
theorem layg_in : ∀ {l : List Gp}, (∀ a ∈ l, ∀ a' ∈ l, a.b = a'.b → a = a') → ∀ a ∈ l, sel a.i = true → (laygS sel l h).get a.b = some a.x
  | [], _, a, ha, _ => by cases ha
  | a0 :: l, hu, a, ha, hs => by
    unfold laygS
    cases hs0 : sel a0.i with
    | false =>
      rcases List.mem_cons.1 ha with rfl | ha
      · rw [hs0] at hs; cases hs
      · exact layg_in (fun a h1 a' h2 => hu a (by simp [h1]) a' (by simp [h2])) a ha hs
    | true =>
      show ((laygS sel l h).set a0.b a0.x).get a.b = _
      rw [Hp.get_set]
      by_cases hb : a.b = a0.b
      · have := hu a ha a0 (by simp) hb
        subst this; simp
      · rw [if_neg hb]
        rcases List.mem_cons.1 ha with rfl | ha
        · exact absurd rfl hb
        · exact layg_in (fun a h1 a' h2 => hu a (by simp [h1]) a' (by simp [h2])) a ha hs
end

/-! ### One operation, in the text's order -/
inductive StepR (P : Program) (cf : CallF) (rf : RndF) (ops : Array Oper) (g i m : Nat) (o : Oper) (s : DS) : DS → Prop
  | skip (h : behindPan s.pn m = true) : StepR P cf rf ops g i m o s s
  | unw (hw : wantA ops s.r o = some false) : StepR P cf rf ops g i m o s ⟨putD o.dst undA s.r, s.s, s.st, s.als, s.b, s.pn, s.tks, s.grp⟩
  | pure (hw : wantA ops s.r o = some true) (hc : cls P o.op = 0) (v : AV) (h' : Hp) (e : opA P s.r o s.s.h = .val v h') : StepR P cf rf ops g i m o s ⟨putD o.dst v s.r, s.s, s.st, s.als, s.b, s.pn, s.tks, s.grp⟩
  | read (hw : wantA ops s.r o = some true) (hc : cls P o.op = 1) (v : AV) (h' : Hp) (e : opA P s.r o (lay (selM m s.s.cm) s.als s.s.h) = .val v h') : StepR P cf rf ops g i m o s ⟨putD o.dst v s.r, s.s, s.st, s.als, s.b, s.pn, ⟨i, m, o, s.r, v⟩ :: s.tks, s.grp⟩
  | alloc (hw : wantA ops s.r o = some true) (hc : cls P o.op = 2) (v : AV) (h' : Hp) (x : Blk) (e : opA P s.r o ⟨.e, s.b⟩ = .val v h') (hx : h'.get s.b = some x) : StepR P cf rf ops g i m o s ⟨putD o.dst v s.r, s.s, s.st, ⟨i, s.b, x⟩ :: s.als, s.b + 1, s.pn, s.tks, s.grp⟩
  | eff (hw : wantA ops s.r o = some true) (hc : 3 ≤ cls P o.op) (hg : Nat.ble g i = false) (hch : inChain m s.s s.pn = true) (v : AV) (h' : Hp) (e : opE cf rf (opA P s.r o (lay (selM m s.s.cm) s.als s.s.h)) = .val v h') :
      StepR P cf rf ops g i m o s ⟨putD o.dst v s.r, ⟨some i, Nat.lor s.s.cm m, h'⟩, s.s :: s.st, s.als, s.b, s.pn, s.tks, s.grp⟩
  | pan (hw : wantA ops s.r o = some true) (hc : 3 ≤ cls P o.op) (hg : Nat.ble g i = false) (hch : inChain m s.s s.pn = true) (ch : List PE) (h' : Hp) (e : opE cf rf (opA P s.r o (lay (selM m s.s.cm) s.als s.s.h)) = .pan ch h') :
      StepR P cf rf ops g i m o s ⟨s.r, s.s, s.st, s.als, s.b, some (ch, h', i), s.tks, s.grp⟩
  | flt (hw : wantA ops s.r o = some true) (hc : 3 ≤ cls P o.op) (hg : Nat.ble g i = true) (hch : inChain m s.s s.pn = true) (t : TypeId) (a x : Operand) (c j : Nat) (v : AV) (x0 x1 : Blk) (h1 : Hp) (ho : o.op = .store t a x) (ea : opnd s.r a = some (.ptr c j)) (ex : opnd s.r x = some v)
      (e0 : s.s.h.get c = some x0) (hk : noKill j s.s.h x0.sibs = true) (hf : grpFree c x0.sibs s.grp = true) (es : store P t (.ptr c j) v s.s.h = some h1) (e1 : h1.get c = some x1) : StepR P cf rf ops g i m o s ⟨putD o.dst undA s.r, s.s, s.st, s.als, s.b, s.pn, s.tks, ⟨i, m, c, x1⟩ :: s.grp⟩
section
variable {P : Program} {cf : CallF} {rf : RndF} {ops : Array Oper} {g : Nat}
theorem oo_dr {α : Type} {x : Option α} {w : String} {k : α → DRes} {s : DS} (h : oo x (.bad w) k = .ok s) : ∃ a, x = some a ∧ k a = .ok s := oo_inv (p := (· = DRes.ok s)) h (by simp)
theorem ob_dr {b : Bool} {w : String} {t : DRes} {s : DS} (h : ob b (.bad w) t = .ok s) : b = true ∧ t = .ok s := ob_inv (p := (· = DRes.ok s)) h (by simp)
theorem orD_ok {c : OR} {k : AV → Hp → DRes} {s : DS} (h : orD c k = .ok s) : ∃ v h', c = .val v h' ∧ k v h' = .ok s := by
  cases c <;> first | exact ⟨_, _, rfl, h⟩ | cases h
theorem stepD_inv {i m : Nat} {o : Oper} {s s' : DS} (h : stepD P cf rf ops g i m o s = .ok s') : StepR P cf rf ops g i m o s s' := by
  obtain ⟨r, s0, st, als, b, pn, tks, grp⟩ := s
  have h : stepF P cf rf ops g i m o r s0 st als b pn tks grp = .ok s' := h
  unfold stepF at h
  cases hb : behindPan pn m with
  | true => rw [hb] at h; cases h; exact .skip hb
  | false =>
    rw [hb] at h
    have h : (oo (wantA ops r o) (.bad "guard") fun w => ob w (putS o undA r s0 st als b pn tks grp) (dOp P cf rf g i m o (cls P o.op) r s0 st als b pn tks grp)) = DRes.ok s' := h
    obtain ⟨w, h1, h2⟩ := oo_dr h
    cases w with
    | false => have h2 : putS o undA r s0 st als b pn tks grp = .ok s' := h2; unfold putS at h2; cases h2; exact .unw h1
    | true =>
      have h2 : dOp P cf rf g i m o (cls P o.op) r s0 st als b pn tks grp = .ok s' := h2
      match hc : cls P o.op, h2 with
      | 0, h2 =>
        have h2 : (orD (opA P r o s0.h) fun v _ => putS o v r s0 st als b pn tks grp) = .ok s' := h2
        obtain ⟨v, h', e, h3⟩ := orD_ok h2
        unfold putS at h3; cases h3
        exact .pure h1 hc v h' e
      | 1, h2 =>
        have h2 : (orD (opA P r o (lay (selM m s0.cm) als s0.h)) fun v _ => .ok ⟨putD o.dst v r, s0, st, als, b, pn, ⟨i, m, o, r, v⟩ :: tks, grp⟩) = .ok s' := h2
        obtain ⟨v, h', e, h3⟩ := orD_ok h2
        cases h3
        exact .read h1 hc v h' e
      | 2, h2 =>
        have h2 : (orD (opA P r o ⟨.e, b⟩) fun v h => oo (h.get b) (.bad "region: block") fun x => fN (Nat.succ b) fun b' => .ok ⟨putD o.dst v r, s0, st, ⟨i, b, x⟩ :: als, b', pn, tks, grp⟩) = .ok s' := h2
        obtain ⟨v, h', e, h3⟩ := orD_ok h2
        obtain ⟨x, h4, h5⟩ := oo_dr h3
        rw [fN_eq] at h5
        cases h5
        exact .alloc h1 hc v h' x e h4
      | c + 3, h2 =>
        have h2 : ob (Nat.ble g i) (dEff P cf rf i m o) (dFloat P i m o) r s0 st als b pn tks grp = .ok s' := h2
        have h3c : 3 ≤ cls P o.op := by omega
        cases hg : Nat.ble g i with
        | false =>
          rw [hg] at h2
          have h2 : dEff P cf rf i m o r s0 st als b pn tks grp = .ok s' := h2
          unfold dEff at h2
          obtain ⟨k1, k2⟩ := ob_dr h2
          cases he : opE cf rf (opA P r o (lay (selM m s0.cm) als s0.h)) with
          | bad w => rw [he] at k2; cases k2
          | dfr w => rw [he] at k2; cases k2
          | rcv => rw [he] at k2; cases k2
          | val v h' =>
            rw [he] at k2
            have k2 : (fN (Nat.lor s0.cm m) fun cm => DRes.ok ⟨putD o.dst v r, ⟨some i, cm, h'⟩, s0 :: st, als, b, pn, tks, grp⟩) = .ok s' := k2
            rw [fN_eq] at k2
            cases k2
            exact .eff h1 h3c hg k1 v h' he
          | pan ch h' =>
            rw [he] at k2
            have k2 : DRes.ok ⟨r, s0, st, als, b, some (ch, h', i), tks, grp⟩ = .ok s' := k2
            cases k2
            exact .pan h1 h3c hg k1 ch h' he
        | true =>
          rw [hg] at h2
          have h2 : dFloat P i m o r s0 st als b pn tks grp = .ok s' := h2
          unfold dFloat at h2
          obtain ⟨k1, k2⟩ := ob_dr h2
          split at k2
          · rename_i t a x ho
            unfold dFloatS at k2
            obtain ⟨av, ea, k3⟩ := oo_dr k2
            obtain ⟨v, ex, k4⟩ := oo_dr k3
            obtain ⟨c', j, rfl, k5⟩ := avPtr_some (p := (· = DRes.ok s')) k4 (by simp)
            unfold dFloatB at k5
            obtain ⟨x0, e0, k6⟩ := oo_dr k5
            obtain ⟨hkf, k7⟩ := ob_dr k6
            rw [both_eq, Bool.and_eq_true] at hkf
            obtain ⟨h1', es, k8⟩ := oo_dr k7
            obtain ⟨x1, e1, k9⟩ := oo_dr k8
            cases k9
            exact .flt h1 h3c hg k1 t a x c' j v x0 x1 h1' ho ea ex e0 hkf.1 hkf.2 es e1
          · cases k2
theorem opsD_cons (p : Oper × Nat) (l : List (Oper × Nat)) (i : Nat) (s : DS) : opsD P cf rf ops g (p :: l) i s = onDR (stepD P cf rf ops g i p.2 p.1 s) fun s => tickD (opsD P cf rf ops g l (Nat.succ i) s) := rfl
theorem opsD_trace : ∀ (l : List (Oper × Nat)) (k : Nat) (s d : DS), opsD P cf rf ops g l k s = .ok d → ∃ D : Nat → DS, D 0 = s ∧ D l.length = d ∧ ∀ (i : Nat) (p : Oper × Nat), l[i]? = some p → StepR P cf rf ops g (k + i) p.2 p.1 (D i) (D (i + 1))
  | [], k, s, d, h => by cases h; exact ⟨fun _ => s, rfl, rfl, fun i p hp => by simp at hp⟩
  | p :: l, k, s, d, h => by
    rw [opsD_cons] at h
    cases hs : stepD P cf rf ops g k p.2 p.1 s with
    | bad w => rw [hs] at h; cases h
    | ok s' =>
      rw [hs] at h
      have h : opsD P cf rf ops g l (Nat.succ k) s' = .ok d := h
      obtain ⟨D, h1, h2, h3⟩ := opsD_trace l (Nat.succ k) s' d h
      refine ⟨fun i => match i with | 0 => s | i + 1 => D i, rfl, h2, ?_⟩
      intro i q hq
      cases i with
      | zero =>
        simp at hq; subst hq
        show StepR P cf rf ops g (k + 0) p.2 p.1 s (D 0)
        rw [h1]; exact stepD_inv hs
      | succ i =>
        have := h3 i q (by simpa using hq)
        rw [show k + (i + 1) = Nat.succ k + i by omega]
        exact this
/-- The run by the text's order. -/
structure Tr (P : Program) (cf : CallF) (rf : RndF) (ops : Array Oper) (g : Nat) (s0 d : DS) (D : Nat → DS) : Prop where
  first : D 0 = s0
  last : D ops.size = d
  step : ∀ (i : Nat) (o : Oper), ops[i]? = some o → StepR P cf rf ops g i (mkA ops i) o (D i) (D (i + 1))
theorem trace_of {s0 d : DS} (h : opsD P cf rf ops g (plan ops) 0 s0 = .ok d) : ∃ D, Tr P cf rf ops g s0 d D := by
  obtain ⟨D, h1, h2, h3⟩ := opsD_trace _ _ _ _ h
  rw [plan_length] at h2
  refine ⟨D, h1, h2, fun i o ho => ?_⟩
  have := h3 i (o, mkA ops i) (by rw [plan_get, ho]; rfl)
  rwa [Nat.zero_add] at this
variable {s0 d : DS} {D : Nat → DS}
/-- What holds of each step holds of many. -/
theorem Tr.ind (hT : Tr P cf rf ops g s0 d D) (R : DS → DS → Prop) (hr : ∀ s, R s s) (ht : ∀ a b c, R a b → R b c → R a c) {i k : Nat} (hik : i ≤ k) (hk : k ≤ ops.size)
    (hs : ∀ (j : Nat) (o : Oper), i ≤ j → j < k → ops[j]? = some o → StepR P cf rf ops g j (mkA ops j) o (D j) (D (j + 1)) → R (D j) (D (j + 1))) : R (D i) (D k) := by
  induction k with
  | zero => have : i = 0 := by omega
            subst this; exact hr _
  | succ k ih =>
    by_cases he : i = k + 1
    · subst he; exact hr _
    · have hlt : k < ops.size := by omega
      have ho : ops[k]? = some ops[k] := Array.getElem?_eq_getElem hlt
      exact ht _ _ _ (ih (by omega) (by omega) fun j o h1 h2 => hs j o h1 (by omega)) (hs k _ (by omega) (by omega) ho (hT.step k _ ho))
theorem putD_get {o : Oper} {v : AV} {r : T AV} {t : Nat} (h : o.dst ≠ some t) : (putD o.dst v r).get (Pos.of t) = r.get (Pos.of t) := by
  unfold putD
  cases hd : o.dst with
  | none => rfl
  | some d =>
    show (r.put (some v) (Pos.of d)).get (Pos.of t) = _
    rw [T.get_putN, if_neg (fun e => h (by rw [hd, e]))]
theorem putD_same {o : Oper} {v : AV} {r : T AV} {t : Nat} (h : o.dst = some t) : (putD o.dst v r).get (Pos.of t) = some v := by
  unfold putD
  rw [h]
  show (r.put (some v) (Pos.of t)).get (Pos.of t) = _
  rw [T.get_putN, if_pos rfl]
theorem StepR.reg {i m : Nat} {o : Oper} {s s' : DS} (h : StepR P cf rf ops g i m o s s') {t : Nat} (ht : o.dst ≠ some t) : s'.r.get (Pos.of t) = s.r.get (Pos.of t) := by
  cases h <;> first | rfl | exact putD_get ht
theorem Tr.reg (hT : Tr P cf rf ops g s0 d D) {i k : Nat} (hik : i ≤ k) (hk : k ≤ ops.size) {t : Nat} (hn : ∀ (j : Nat) (o : Oper), i ≤ j → j < k → ops[j]? = some o → o.dst ≠ some t) : (D k).r.get (Pos.of t) = (D i).r.get (Pos.of t) :=
  (hT.ind (fun a b => b.r.get (Pos.of t) = a.r.get (Pos.of t)) (fun _ => rfl) (fun _ _ _ h k => k.trans h) hik hk fun j o h1 h2 ho hs => hs.reg (hn j o h1 h2 ho))
theorem StepR.alsm {i m : Nat} {o : Oper} {s s' : DS} (h : StepR P cf rf ops g i m o s s') : (∀ a ∈ s.als, a ∈ s'.als) ∧ (∀ a ∈ s'.als, a ∈ s.als ∨ a.i = i) := by
  cases h <;> first | exact ⟨fun a h => h, fun a h => .inl h⟩ | skip
  refine ⟨fun a h => by simp [h], fun a h => ?_⟩
  rcases List.mem_cons.1 h with rfl | h
  · exact .inr rfl
  · exact .inl h
theorem Tr.alsm (hT : Tr P cf rf ops g s0 d D) {i k : Nat} (hik : i ≤ k) (hk : k ≤ ops.size) : (∀ a ∈ (D i).als, a ∈ (D k).als) ∧ (∀ a ∈ (D k).als, a ∈ (D i).als ∨ i ≤ a.i) :=
  hT.ind (fun a b => (∀ x ∈ a.als, x ∈ b.als) ∧ (∀ x ∈ b.als, x ∈ a.als ∨ i ≤ x.i)) (fun _ => ⟨fun _ h => h, fun _ h => .inl h⟩) (fun _ _ _ h k => ⟨fun x hx => k.1 x (h.1 x hx), fun x hx => (k.2 x hx).elim (h.2 x) .inr⟩) hik hk
    fun j o h1 h2 ho hs => ⟨hs.alsm.1, fun a ha => (hs.alsm.2 a ha).imp id fun e => by omega⟩
theorem StepR.grpm {i m : Nat} {o : Oper} {s s' : DS} (h : StepR P cf rf ops g i m o s s') : (∀ a ∈ s.grp, a ∈ s'.grp) ∧ (∀ a ∈ s'.grp, a ∈ s.grp ∨ a.i = i) := by
  cases h <;> first | exact ⟨fun a h => h, fun a h => .inl h⟩ | skip
  refine ⟨fun a h => by simp [h], fun a h => ?_⟩
  rcases List.mem_cons.1 h with rfl | h
  · exact .inr rfl
  · exact .inl h
theorem Tr.grpm (hT : Tr P cf rf ops g s0 d D) {i k : Nat} (hik : i ≤ k) (hk : k ≤ ops.size) : (∀ a ∈ (D i).grp, a ∈ (D k).grp) ∧ (∀ a ∈ (D k).grp, a ∈ (D i).grp ∨ i ≤ a.i) :=
  hT.ind (fun a b => (∀ x ∈ a.grp, x ∈ b.grp) ∧ (∀ x ∈ b.grp, x ∈ a.grp ∨ i ≤ x.i)) (fun _ => ⟨fun _ h => h, fun _ h => .inl h⟩) (fun _ _ _ h k => ⟨fun x hx => k.1 x (h.1 x hx), fun x hx => (k.2 x hx).elim (h.2 x) .inr⟩) hik hk
    fun j o h1 h2 ho hs => ⟨hs.grpm.1, fun a ha => (hs.grpm.2 a ha).imp id fun e => by omega⟩
theorem StepR.tksm {i m : Nat} {o : Oper} {s s' : DS} (h : StepR P cf rf ops g i m o s s') : ∀ a ∈ s.tks, a ∈ s'.tks := by
  cases h <;> first | exact fun a h => h | exact fun a h => by simp [h]
theorem StepR.pnm {i m : Nat} {o : Oper} {s s' : DS} (h : StepR P cf rf ops g i m o s s') : ∀ p, s.pn = some p → s'.pn = some p := by
  cases h <;> first | exact fun p h => h | skip
  rename_i hch _ _ _
  intro p hp
  unfold inChain at hch
  rw [both_eq, Bool.and_eq_true, hp] at hch
  cases hch.2
theorem Tr.tksm (hT : Tr P cf rf ops g s0 d D) {i k : Nat} (hik : i ≤ k) (hk : k ≤ ops.size) : ∀ a ∈ (D i).tks, a ∈ (D k).tks :=
  hT.ind (fun a b => ∀ x ∈ a.tks, x ∈ b.tks) (fun _ _ h => h) (fun _ _ _ h k x hx => k x (h x hx)) hik hk
    fun j o h1 h2 ho hs => hs.tksm
theorem Tr.pnm (hT : Tr P cf rf ops g s0 d D) {i k : Nat} (hik : i ≤ k) (hk : k ≤ ops.size) : ∀ p, (D i).pn = some p → (D k).pn = some p :=
  hT.ind (fun a b => ∀ p, a.pn = some p → b.pn = some p) (fun _ _ h => h) (fun _ _ _ h k x hx => k x (h x hx)) hik hk
    fun j o h1 h2 ho hs => hs.pnm
theorem StepR.bm {i m : Nat} {o : Oper} {s s' : DS} (h : StepR P cf rf ops g i m o s s') : s.b ≤ s'.b := by
  cases h <;> first | exact Nat.le_refl _ | exact Nat.le_succ _
theorem Tr.bm (hT : Tr P cf rf ops g s0 d D) {i k : Nat} (hik : i ≤ k) (hk : k ≤ ops.size) : (D i).b ≤ (D k).b :=
  hT.ind (fun a b => a.b ≤ b.b) (fun _ => Nat.le_refl _) (fun _ _ _ h k => Nat.le_trans h k) hik hk fun j o h1 h2 ho hs => hs.bm
/-- An operation behind which a stage stands. -/
def IsEff (D : Nat → DS) (j : Nat) : Prop := (D (j + 1)).s.e = some j
theorem StepR.stg {i m : Nat} {o : Oper} {s s' : DS} (h : StepR P cf rf ops g i m o s s') : (s'.s = s.s ∧ s'.st = s.st) ∨ (s'.s.e = some i ∧ s'.st = s.s :: s.st) := by
  cases h <;> first | exact .inl ⟨rfl, rfl⟩ | exact .inr ⟨rfl, rfl⟩
/-- The stage is of an operation that was. -/
theorem Tr.elt (hT : Tr P cf rf ops g s0 d D) (h0 : s0.s.e = none) : ∀ (k : Nat), k ≤ ops.size → ∀ e, (D k).s.e = some e → e < k ∧ IsEff D e ∧ (D (e + 1)).s = (D k).s := by
  intro k
  induction k with
  | zero => intro _ e he; rw [hT.first, h0] at he; cases he
  | succ k ih =>
    intro hk e he
    have ho : ops[k]? = some ops[k] := Array.getElem?_eq_getElem (by omega)
    rcases (hT.step k _ ho).stg with ⟨a, _⟩ | ⟨a, _⟩
    · rw [a] at he
      obtain ⟨b, c, d⟩ := ih (by omega) e he
      exact ⟨by omega, c, by rw [d, a]⟩
    · rw [a] at he; cases he
      exact ⟨by omega, a, rfl⟩
theorem Tr.stage (hT : Tr P cf rf ops g s0 d D) (h0 : s0.s.e = none) {i k : Nat} (hik : i ≤ k) (hk : k ≤ ops.size) (hn : ∀ j, i ≤ j → j < k → ¬ IsEff D j) : (D k).s = (D i).s ∧ (D k).st = (D i).st := by
  refine hT.ind (fun a b => b.s = a.s ∧ b.st = a.st) (fun _ => ⟨rfl, rfl⟩) (fun _ _ _ h k => ⟨k.1.trans h.1, k.2.trans h.2⟩) hik hk ?_
  intro j o h1 h2 ho hs
  rcases hs.stg with h | ⟨h, _⟩
  · exact h
  · exact absurd h (hn j h1 h2)
end
end Go.Proofs.YtmoejaloachlkaaGreatDoor.Ev
