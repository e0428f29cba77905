/- The evaluator, 6: Regions whose order is drawn. No conditions. -/
import Derived.Test.YthfenjgelbkloaaGreatDoorV5
import Derived.OrdersIn

namespace Go.Proofs.YthfenjgelbkloaaGreatDoor.Ev
open Go Go.RowKit

/-! ### Heaps laid together -/
section
variable {sel : Nat → Bool} {h : Hp}
theorem lay_nx : ∀ (als : List Al), (lay sel als h).nx = h.nx
  | [] => rfl
  | a :: l => by
    unfold lay
    cases sel a.i with
    | false => exact lay_nx l
    | true => exact lay_nx l
theorem lay_inv {b : Nat} {x : Blk} : ∀ {als : List Al}, (lay sel als h).get b = some x → (∃ a ∈ als, sel a.i = true ∧ a.b = b ∧ a.x = x) ∨ ((∀ a ∈ als, sel a.i = true → a.b ≠ b) ∧ h.get b = some x)
  | [], e => .inr ⟨fun a ha => (by cases ha), e⟩
  | a :: l, e => by
    unfold lay at e
    cases hs : sel a.i with
    | false =>
      rw [hs] at e
      rcases lay_inv (als := l) e with ⟨a', h1, h2⟩ | ⟨h1, h2⟩
      · exact .inl ⟨a', by simp [h1], h2⟩
      · refine .inr ⟨fun a' ha' hs' => ?_, h2⟩
        rcases List.mem_cons.1 ha' with rfl | ha'
        · rw [hs] at hs'; cases hs'
        · exact h1 a' ha' hs'
    | true =>
      rw [hs] at e
      have e : ((lay sel l h).set a.b a.x).get b = some x := e
      rw [Hp.get_set] at e
      by_cases hb : b = a.b
      · rw [if_pos hb] at e
        exact .inl ⟨a, by simp, hs, hb.symm, by simpa using e⟩
      · rw [if_neg hb] at e
        rcases lay_inv (als := l) e with ⟨a', h1, h2⟩ | ⟨h1, h2⟩
        · exact .inl ⟨a', by simp [h1], h2⟩
        · refine .inr ⟨fun a' ha' hs' => ?_, h2⟩
          rcases List.mem_cons.1 ha' with rfl | ha'
          · exact fun e => hb e.symm
          · exact h1 a' ha' hs'
theorem lay_out {b : Nat} : ∀ {als : List Al}, (∀ a ∈ als, sel a.i = true → a.b ≠ b) → (lay sel als h).get b = h.get b
  | [], _ => rfl
  | a :: l, hn => by
    unfold lay
    cases hs : sel a.i with
    | false => exact lay_out fun a' ha' => hn a' (by simp [ha'])
    | true =>
      show ((lay sel l h).set a.b a.x).get b = _
      rw [Hp.get_set, if_neg (fun e => hn a (by simp) hs e.symm)]
      exact lay_out fun a' ha' => hn a' (by simp [ha'])
theorem lay_in : ∀ {als : List Al}, (∀ a ∈ als, ∀ a' ∈ als, a.b = a'.b → a = a') → ∀ a ∈ als, sel a.i = true → (lay sel als h).get a.b = some a.x
  | [], _, a, ha, _ => by cases ha
  | a0 :: l, hu, a, ha, hs => by
    unfold lay
    cases hs0 : sel a0.i with
    | false =>
      rcases List.mem_cons.1 ha with rfl | ha
      · rw [hs0] at hs; cases hs
      · exact lay_in (fun a h1 a' h2 => hu a (by simp [h1]) a' (by simp [h2])) a ha hs
    | true =>
      show ((lay sel l h).set a0.b a0.x).get a.b = _
      rw [Hp.get_set]
      by_cases hb : a.b = a0.b
      · have := hu a ha a0 (by simp) hb
        subst this; simp
      · rw [if_neg hb]
        rcases List.mem_cons.1 ha with rfl | ha
        · exact absurd rfl hb
        · exact lay_in (fun a h1 a' h2 => hu a (by simp [h1]) a' (by simp [h2])) a ha hs
theorem lay_cons_out {a : Al} {l : List Al} (hs : sel a.i = false) : lay sel (a :: l) h = lay sel l h := by
  conv => lhs; unfold lay
  rw [hs]; rfl
/-- The stores in no order that are chosen. -/
noncomputable def laygS (sel : Nat → Bool) : List Gp → Hp → Hp
  | [], h => h
  | g :: l, h => ob (sel g.i) (laygS sel l h) ((laygS sel l h).set g.b g.x)
theorem layG_eq : ∀ (l : List Gp), layG l h = laygS (fun _ => true) l h
  | [] => rfl
  | g :: l => by unfold layG laygS; rw [layG_eq l]; rfl
theorem layg_nx : ∀ (l : List Gp), (laygS sel l h).nx = h.nx
  | [] => rfl
  | a :: l => by
    unfold laygS
    cases sel a.i with
    | false => exact layg_nx l
    | true => exact layg_nx l
theorem layg_inv {b : Nat} {x : Blk} : ∀ {l : List Gp}, (laygS sel l h).get b = some x → (∃ a ∈ l, sel a.i = true ∧ a.b = b ∧ a.x = x) ∨ ((∀ a ∈ l, sel a.i = true → a.b ≠ b) ∧ h.get b = some x)
  | [], e => .inr ⟨fun a ha => (by cases ha), e⟩
  | a :: l, e => by
    unfold laygS at e
    cases hs : sel a.i with
    | false =>
      rw [hs] at e
      rcases layg_inv (l := l) e with ⟨a', h1, h2⟩ | ⟨h1, h2⟩
      · exact .inl ⟨a', by simp [h1], h2⟩
      · refine .inr ⟨fun a' ha' hs' => ?_, h2⟩
        rcases List.mem_cons.1 ha' with rfl | ha'
        · rw [hs] at hs'; cases hs'
        · exact h1 a' ha' hs'
    | true =>
      rw [hs] at e
      have e : ((laygS sel l h).set a.b a.x).get b = some x := e
      rw [Hp.get_set] at e
      by_cases hb : b = a.b
      · rw [if_pos hb] at e
        exact .inl ⟨a, by simp, hs, hb.symm, by simpa using e⟩
      · rw [if_neg hb] at e
        rcases layg_inv (l := l) e with ⟨a', h1, h2⟩ | ⟨h1, h2⟩
        · exact .inl ⟨a', by simp [h1], h2⟩
        · refine .inr ⟨fun a' ha' hs' => ?_, h2⟩
          rcases List.mem_cons.1 ha' with rfl | ha'
          · exact fun e => hb e.symm
          · exact h1 a' ha' hs'
theorem layg_out {b : Nat} : ∀ {l : List Gp}, (∀ a ∈ l, sel a.i = true → a.b ≠ b) → (laygS sel l h).get b = h.get b
  | [], _ => rfl
  | a :: l, hn => by
    unfold laygS
    cases hs : sel a.i with
    | false => exact layg_out fun a' ha' => hn a' (by simp [ha'])
    | true =>
      show ((laygS sel l h).set a.b a.x).get b = _
      rw [Hp.get_set, if_neg (fun e => hn a (by simp) hs e.symm)]
      exact layg_out fun a' ha' => hn a' (by simp [ha'])
theorem layg_in : ∀ {l : List Gp}, (∀ a ∈ l, ∀ a' ∈ l, a.b = a'.b → a = a') → ∀ a ∈ l, sel a.i = true → (laygS sel l h).get a.b = some a.x
  | [], _, a, ha, _ => by cases ha
  | a0 :: l, hu, a, ha, hs => by
    unfold laygS
    cases hs0 : sel a0.i with
    | false =>
      rcases List.mem_cons.1 ha with rfl | ha
      · rw [hs0] at hs; cases hs
      · exact layg_in (fun a h1 a' h2 => hu a (by simp [h1]) a' (by simp [h2])) a ha hs
    | true =>
      show ((laygS sel l h).set a0.b a0.x).get a.b = _
      rw [Hp.get_set]
      by_cases hb : a.b = a0.b
      · have := hu a ha a0 (by simp) hb
        subst this; simp
      · rw [if_neg hb]
        rcases List.mem_cons.1 ha with rfl | ha
        · exact absurd rfl hb
        · exact layg_in (fun a h1 a' h2 => hu a (by simp [h1]) a' (by simp [h2])) a ha hs
end

/-! ### One operation, in the text's order -/
inductive StepR (P : Program) (cf : CallF) (rf : RndF) (ops : Array Oper) (g i m : Nat) (o : Oper) (s : DS) : DS → Prop
  | skip (h : behindPan s.pn m = true) : StepR P cf rf ops g i m o s s
  | unw (hw : wantA ops s.r o = some false) : StepR P cf rf ops g i m o s ⟨putD o.dst undA s.r, s.s, s.st, s.als, s.b, s.pn, s.tks, s.grp⟩
  | pure (hw : wantA ops s.r o = some true) (hc : cls P o.op = 0) (v : AV) (h' : Hp) (e : opA P s.r o s.s.h = .val v h') : StepR P cf rf ops g i m o s ⟨putD o.dst v s.r, s.s, s.st, s.als, s.b, s.pn, s.tks, s.grp⟩
  | read (hw : wantA ops s.r o = some true) (hc : cls P o.op = 1) (v : AV) (h' : Hp) (e : opA P s.r o (lay (selM m s.s.cm) s.als s.s.h) = .val v h') : StepR P cf rf ops g i m o s ⟨putD o.dst v s.r, s.s, s.st, s.als, s.b, s.pn, ⟨i, m, o, s.r, v⟩ :: s.tks, s.grp⟩
  | alloc (hw : wantA ops s.r o = some true) (hc : cls P o.op = 2) (v : AV) (h' : Hp) (x : Blk) (e : opA P s.r o ⟨.e, s.b⟩ = .val v h') (hx : h'.get s.b = some x) : StepR P cf rf ops g i m o s ⟨putD o.dst v s.r, s.s, s.st, ⟨i, s.b, x⟩ :: s.als, s.b + 1, s.pn, s.tks, s.grp⟩
  | eff (hw : wantA ops s.r o = some true) (hc : 3 ≤ cls P o.op) (hg : Nat.ble g i = false) (hch : inChain m s.s s.pn = true) (v : AV) (h' : Hp) (e : opE cf rf (opA P s.r o (lay (selM m s.s.cm) s.als s.s.h)) = .val v h') :
      StepR P cf rf ops g i m o s ⟨putD o.dst v s.r, ⟨some i, Nat.lor s.s.cm m, h'⟩, s.s :: s.st, s.als, s.b, s.pn, s.tks, s.grp⟩
  | pan (hw : wantA ops s.r o = some true) (hc : 3 ≤ cls P o.op) (hg : Nat.ble g i = false) (hch : inChain m s.s s.pn = true) (ch : List PE) (h' : Hp) (e : opE cf rf (opA P s.r o (lay (selM m s.s.cm) s.als s.s.h)) = .pan ch h') :
      StepR P cf rf ops g i m o s ⟨s.r, s.s, s.st, s.als, s.b, some (ch, h', i), s.tks, s.grp⟩
  | flt (hw : wantA ops s.r o = some true) (hc : 3 ≤ cls P o.op) (hg : Nat.ble g i = true) (hch : inChain m s.s s.pn = true) (t : TypeId) (a x : Operand) (c j : Nat) (v : AV) (x0 x1 : Blk) (h1 : Hp) (ho : o.op = .store t a x) (ea : opnd s.r a = some (.ptr c j)) (ex : opnd s.r x = some v)
      (e0 : s.s.h.get c = some x0) (hk : noKill j s.s.h x0.sibs = true) (hf : grpFree c x0.sibs s.grp = true) (es : store P t (.ptr c j) v s.s.h = some h1) (e1 : h1.get c = some x1) : StepR P cf rf ops g i m o s ⟨putD o.dst undA s.r, s.s, s.st, s.als, s.b, s.pn, s.tks, ⟨i, m, c, x1⟩ :: s.grp⟩
section
variable {P : Program} {cf : CallF} {rf : RndF} {ops : Array Oper} {g : Nat}
theorem oo_dr {α : Type} {x : Option α} {w : String} {k : α → DRes} {s : DS} (h : oo x (.bad w) k = .ok s) : ∃ a, x = some a ∧ k a = .ok s := oo_inv (p := (· = DRes.ok s)) h (by simp)
theorem ob_dr {b : Bool} {w : String} {t : DRes} {s : DS} (h : ob b (.bad w) t = .ok s) : b = true ∧ t = .ok s := ob_inv (p := (· = DRes.ok s)) h (by simp)
theorem orD_ok {c : OR} {k : AV → Hp → DRes} {s : DS} (h : orD c k = .ok s) : ∃ v h', c = .val v h' ∧ k v h' = .ok s := by
  cases c <;> first | exact ⟨_, _, rfl, h⟩ | cases h
theorem stepD_inv {i m : Nat} {o : Oper} {s s' : DS} (h : stepD P cf rf ops g i m o s = .ok s') : StepR P cf rf ops g i m o s s' := by
  obtain ⟨r, s0, st, als, b, pn, tks, grp⟩ := s
  have h : stepF P cf rf ops g i m o r s0 st als b pn tks grp = .ok s' := h
  unfold stepF at h
  cases hb : behindPan pn m with
  | true => rw [hb] at h; cases h; exact .skip hb
  | false =>
    rw [hb] at h
    have h : (oo (wantA ops r o) (.bad "guard") fun w => ob w (putS o undA r s0 st als b pn tks grp) (dOp P cf rf g i m o (cls P o.op) r s0 st als b pn tks grp)) = DRes.ok s' := h
    obtain ⟨w, h1, h2⟩ := oo_dr h
    cases w with
    | false => have h2 : putS o undA r s0 st als b pn tks grp = .ok s' := h2; unfold putS at h2; cases h2; exact .unw h1
    | true =>
      have h2 : dOp P cf rf g i m o (cls P o.op) r s0 st als b pn tks grp = .ok s' := h2
      match hc : cls P o.op, h2 with
      | 0, h2 =>
        have h2 : (orD (opA P r o s0.h) fun v _ => putS o v r s0 st als b pn tks grp) = .ok s' := h2
        obtain ⟨v, h', e, h3⟩ := orD_ok h2
        unfold putS at h3; cases h3
        exact .pure h1 hc v h' e
      | 1, h2 =>
        have h2 : (orD (opA P r o (lay (selM m s0.cm) als s0.h)) fun v _ => .ok ⟨putD o.dst v r, s0, st, als, b, pn, ⟨i, m, o, r, v⟩ :: tks, grp⟩) = .ok s' := h2
        obtain ⟨v, h', e, h3⟩ := orD_ok h2
        cases h3
        exact .read h1 hc v h' e
      | 2, h2 =>
        have h2 : (orD (opA P r o ⟨.e, b⟩) fun v h => oo (h.get b) (.bad "region: block") fun x => fN (Nat.succ b) fun b' => .ok ⟨putD o.dst v r, s0, st, ⟨i, b, x⟩ :: als, b', pn, tks, grp⟩) = .ok s' := h2
        obtain ⟨v, h', e, h3⟩ := orD_ok h2
        obtain ⟨x, h4, h5⟩ := oo_dr h3
        rw [fN_eq] at h5
        cases h5
        exact .alloc h1 hc v h' x e h4
      | c + 3, h2 =>
        have h2 : ob (Nat.ble g i) (dEff P cf rf i m o) (dFloat P i m o) r s0 st als b pn tks grp = .ok s' := h2
        have h3c : 3 ≤ cls P o.op := by omega
        cases hg : Nat.ble g i with
        | false =>
          rw [hg] at h2
          have h2 : dEff P cf rf i m o r s0 st als b pn tks grp = .ok s' := h2
          unfold dEff at h2
          obtain ⟨k1, k2⟩ := ob_dr h2
          cases he : opE cf rf (opA P r o (lay (selM m s0.cm) als s0.h)) with
          | bad w => rw [he] at k2; cases k2
          | dfr w => rw [he] at k2; cases k2
          | rcv => rw [he] at k2; cases k2
          | val v h' =>
            rw [he] at k2
            have k2 : (fN (Nat.lor s0.cm m) fun cm => DRes.ok ⟨putD o.dst v r, ⟨some i, cm, h'⟩, s0 :: st, als, b, pn, tks, grp⟩) = .ok s' := k2
            rw [fN_eq] at k2
            cases k2
            exact .eff h1 h3c hg k1 v h' he
          | pan ch h' =>
            rw [he] at k2
            have k2 : DRes.ok ⟨r, s0, st, als, b, some (ch, h', i), tks, grp⟩ = .ok s' := k2
            cases k2
            exact .pan h1 h3c hg k1 ch h' he
        | true =>
          rw [hg] at h2
          have h2 : dFloat P i m o r s0 st als b pn tks grp = .ok s' := h2
          unfold dFloat at h2
          obtain ⟨k1, k2⟩ := ob_dr h2
          split at k2
          · rename_i t a x ho
            unfold dFloatS at k2
            obtain ⟨av, ea, k3⟩ := oo_dr k2
            obtain ⟨v, ex, k4⟩ := oo_dr k3
            obtain ⟨c', j, rfl, k5⟩ := avPtr_some (p := (· = DRes.ok s')) k4 (by simp)
            unfold dFloatB at k5
            obtain ⟨x0, e0, k6⟩ := oo_dr k5
            obtain ⟨hkf, k7⟩ := ob_dr k6
            rw [both_eq, Bool.and_eq_true] at hkf
            obtain ⟨h1', es, k8⟩ := oo_dr k7
            obtain ⟨x1, e1, k9⟩ := oo_dr k8
            cases k9
            exact .flt h1 h3c hg k1 t a x c' j v x0 x1 h1' ho ea ex e0 hkf.1 hkf.2 es e1
          · cases k2
theorem opsD_cons (p : Oper × Nat) (l : List (Oper × Nat)) (i : Nat) (s : DS) : opsD P cf rf ops g (p :: l) i s = onDR (stepD P cf rf ops g i p.2 p.1 s) fun s => tickD (opsD P cf rf ops g l (Nat.succ i) s) := rfl
theorem opsD_trace : ∀ (l : List (Oper × Nat)) (k : Nat) (s d : DS), opsD P cf rf ops g l k s = .ok d → ∃ D : Nat → DS, D 0 = s ∧ D l.length = d ∧ ∀ (i : Nat) (p : Oper × Nat), l[i]? = some p → StepR P cf rf ops g (k + i) p.2 p.1 (D i) (D (i + 1))
  | [], k, s, d, h => by cases h; exact ⟨fun _ => s, rfl, rfl, fun i p hp => by simp at hp⟩
  | p :: l, k, s, d, h => by
    rw [opsD_cons] at h
    cases hs : stepD P cf rf ops g k p.2 p.1 s with
    | bad w => rw [hs] at h; cases h
    | ok s' =>
      rw [hs] at h
      have h : opsD P cf rf ops g l (Nat.succ k) s' = .ok d := h
      obtain ⟨D, h1, h2, h3⟩ := opsD_trace l (Nat.succ k) s' d h
      refine ⟨fun i => match i with | 0 => s | i + 1 => D i, rfl, h2, ?_⟩
      intro i q hq
      cases i with
      | zero =>
        simp at hq; subst hq
        show StepR P cf rf ops g (k + 0) p.2 p.1 s (D 0)
        rw [h1]; exact stepD_inv hs
      | succ i =>
        have := h3 i q (by simpa using hq)
        rw [show k + (i + 1) = Nat.succ k + i by omega]
        exact this
/-- The run by the text's order. -/
structure Tr (P : Program) (cf : CallF) (rf : RndF) (ops : Array Oper) (g : Nat) (s0 d : DS) (D : Nat → DS) : Prop where
  first : D 0 = s0
  last : D ops.size = d
  step : ∀ (i : Nat) (o : Oper), ops[i]? = some o → StepR P cf rf ops g i (mkA ops i) o (D i) (D (i + 1))
theorem trace_of {s0 d : DS} (h : opsD P cf rf ops g (plan ops) 0 s0 = .ok d) : ∃ D, Tr P cf rf ops g s0 d D := by
  obtain ⟨D, h1, h2, h3⟩ := opsD_trace _ _ _ _ h
  rw [plan_length] at h2
  refine ⟨D, h1, h2, fun i o ho => ?_⟩
  have := h3 i (o, mkA ops i) (by rw [plan_get, ho]; rfl)
  rwa [Nat.zero_add] at this
variable {s0 d : DS} {D : Nat → DS}
/-- What holds of each step holds of many. -/
theorem Tr.ind (hT : Tr P cf rf ops g s0 d D) (R : DS → DS → Prop) (hr : ∀ s, R s s) (ht : ∀ a b c, R a b → R b c → R a c) {i k : Nat} (hik : i ≤ k) (hk : k ≤ ops.size)
    (hs : ∀ (j : Nat) (o : Oper), i ≤ j → j < k → ops[j]? = some o → StepR P cf rf ops g j (mkA ops j) o (D j) (D (j + 1)) → R (D j) (D (j + 1))) : R (D i) (D k) := by
  induction k with
  | zero => have : i = 0 := by omega
            subst this; exact hr _
  | succ k ih =>
    by_cases he : i = k + 1
    · subst he; exact hr _
    · have hlt : k < ops.size := by omega
      have ho : ops[k]? = some ops[k] := Array.getElem?_eq_getElem hlt
      exact ht _ _ _ (ih (by omega) (by omega) fun j o h1 h2 => hs j o h1 (by omega)) (hs k _ (by omega) (by omega) ho (hT.step k _ ho))
theorem putD_get {o : Oper} {v : AV} {r : T AV} {t : Nat} (h : o.dst ≠ some t) : (putD o.dst v r).get (Pos.of t) = r.get (Pos.of t) := by
  unfold putD
  cases hd : o.dst with
  | none => rfl
  | some d =>
    show (r.put (some v) (Pos.of d)).get (Pos.of t) = _
    rw [T.get_putN, if_neg (fun e => h (by rw [hd, e]))]
theorem putD_same {o : Oper} {v : AV} {r : T AV} {t : Nat} (h : o.dst = some t) : (putD o.dst v r).get (Pos.of t) = some v := by
  unfold putD
  rw [h]
  show (r.put (some v) (Pos.of t)).get (Pos.of t) = _
  rw [T.get_putN, if_pos rfl]
theorem StepR.reg {i m : Nat} {o : Oper} {s s' : DS} (h : StepR P cf rf ops g i m o s s') {t : Nat} (ht : o.dst ≠ some t) : s'.r.get (Pos.of t) = s.r.get (Pos.of t) := by
  cases h <;> first | rfl | exact putD_get ht
theorem Tr.reg (hT : Tr P cf rf ops g s0 d D) {i k : Nat} (hik : i ≤ k) (hk : k ≤ ops.size) {t : Nat} (hn : ∀ (j : Nat) (o : Oper), i ≤ j → j < k → ops[j]? = some o → o.dst ≠ some t) : (D k).r.get (Pos.of t) = (D i).r.get (Pos.of t) :=
  (hT.ind (fun a b => b.r.get (Pos.of t) = a.r.get (Pos.of t)) (fun _ => rfl) (fun _ _ _ h k => k.trans h) hik hk fun j o h1 h2 ho hs => hs.reg (hn j o h1 h2 ho))
theorem StepR.alsm {i m : Nat} {o : Oper} {s s' : DS} (h : StepR P cf rf ops g i m o s s') : (∀ a ∈ s.als, a ∈ s'.als) ∧ (∀ a ∈ s'.als, a ∈ s.als ∨ a.i = i) := by
  cases h <;> first | exact ⟨fun a h => h, fun a h => .inl h⟩ | skip
  refine ⟨fun a h => by simp [h], fun a h => ?_⟩
  rcases List.mem_cons.1 h with rfl | h
  · exact .inr rfl
  · exact .inl h
theorem Tr.alsm (hT : Tr P cf rf ops g s0 d D) {i k : Nat} (hik : i ≤ k) (hk : k ≤ ops.size) : (∀ a ∈ (D i).als, a ∈ (D k).als) ∧ (∀ a ∈ (D k).als, a ∈ (D i).als ∨ i ≤ a.i) :=
  hT.ind (fun a b => (∀ x ∈ a.als, x ∈ b.als) ∧ (∀ x ∈ b.als, x ∈ a.als ∨ i ≤ x.i)) (fun _ => ⟨fun _ h => h, fun _ h => .inl h⟩) (fun _ _ _ h k => ⟨fun x hx => k.1 x (h.1 x hx), fun x hx => (k.2 x hx).elim (h.2 x) .inr⟩) hik hk
    fun j o h1 h2 ho hs => ⟨hs.alsm.1, fun a ha => (hs.alsm.2 a ha).imp id fun e => by omega⟩
theorem StepR.grpm {i m : Nat} {o : Oper} {s s' : DS} (h : StepR P cf rf ops g i m o s s') : (∀ a ∈ s.grp, a ∈ s'.grp) ∧ (∀ a ∈ s'.grp, a ∈ s.grp ∨ a.i = i) := by
  cases h <;> first | exact ⟨fun a h => h, fun a h => .inl h⟩ | skip
  refine ⟨fun a h => by simp [h], fun a h => ?_⟩
  rcases List.mem_cons.1 h with rfl | h
  · exact .inr rfl
  · exact .inl h
theorem Tr.grpm (hT : Tr P cf rf ops g s0 d D) {i k : Nat} (hik : i ≤ k) (hk : k ≤ ops.size) : (∀ a ∈ (D i).grp, a ∈ (D k).grp) ∧ (∀ a ∈ (D k).grp, a ∈ (D i).grp ∨ i ≤ a.i) :=
  hT.ind (fun a b => (∀ x ∈ a.grp, x ∈ b.grp) ∧ (∀ x ∈ b.grp, x ∈ a.grp ∨ i ≤ x.i)) (fun _ => ⟨fun _ h => h, fun _ h => .inl h⟩) (fun _ _ _ h k => ⟨fun x hx => k.1 x (h.1 x hx), fun x hx => (k.2 x hx).elim (h.2 x) .inr⟩) hik hk
    fun j o h1 h2 ho hs => ⟨hs.grpm.1, fun a ha => (hs.grpm.2 a ha).imp id fun e => by omega⟩
theorem StepR.tksm {i m : Nat} {o : Oper} {s s' : DS} (h : StepR P cf rf ops g i m o s s') : ∀ a ∈ s.tks, a ∈ s'.tks := by
  cases h <;> first | exact fun a h => h | exact fun a h => by simp [h]
theorem StepR.pnm {i m : Nat} {o : Oper} {s s' : DS} (h : StepR P cf rf ops g i m o s s') : ∀ p, s.pn = some p → s'.pn = some p := by
  cases h <;> first | exact fun p h => h | skip
  rename_i hch _ _ _
  intro p hp
  unfold inChain at hch
  rw [both_eq, Bool.and_eq_true, hp] at hch
  cases hch.2
theorem Tr.tksm (hT : Tr P cf rf ops g s0 d D) {i k : Nat} (hik : i ≤ k) (hk : k ≤ ops.size) : ∀ a ∈ (D i).tks, a ∈ (D k).tks :=
  hT.ind (fun a b => ∀ x ∈ a.tks, x ∈ b.tks) (fun _ _ h => h) (fun _ _ _ h k x hx => k x (h x hx)) hik hk
    fun _j _o _h1 _h2 _ho hs => hs.tksm
theorem Tr.pnm (hT : Tr P cf rf ops g s0 d D) {i k : Nat} (hik : i ≤ k) (hk : k ≤ ops.size) : ∀ p, (D i).pn = some p → (D k).pn = some p :=
  hT.ind (fun a b => ∀ p, a.pn = some p → b.pn = some p) (fun _ _ h => h) (fun _ _ _ h k x hx => k x (h x hx)) hik hk
    fun _j _o _h1 _h2 _ho hs => hs.pnm
theorem StepR.bm {i m : Nat} {o : Oper} {s s' : DS} (h : StepR P cf rf ops g i m o s s') : s.b ≤ s'.b := by
  cases h <;> first | exact Nat.le_refl _ | exact Nat.le_succ _
theorem Tr.bm (hT : Tr P cf rf ops g s0 d D) {i k : Nat} (hik : i ≤ k) (hk : k ≤ ops.size) : (D i).b ≤ (D k).b :=
  hT.ind (fun a b => a.b ≤ b.b) (fun _ => Nat.le_refl _) (fun _ _ _ h k => Nat.le_trans h k) hik hk fun _j _o _h1 _h2 _ho hs => hs.bm
/-- An operation behind which a stage stands. -/
def IsEff (D : Nat → DS) (j : Nat) : Prop := (D (j + 1)).s.e = some j
theorem StepR.stg {i m : Nat} {o : Oper} {s s' : DS} (h : StepR P cf rf ops g i m o s s') : (s'.s = s.s ∧ s'.st = s.st) ∨ (s'.s.e = some i ∧ s'.st = s.s :: s.st) := by
  cases h <;> first | exact .inl ⟨rfl, rfl⟩ | exact .inr ⟨rfl, rfl⟩
/-- The stage is of an operation that was. -/
theorem Tr.elt (hT : Tr P cf rf ops g s0 d D) (h0 : s0.s.e = none) : ∀ (k : Nat), k ≤ ops.size → ∀ e, (D k).s.e = some e → e < k ∧ IsEff D e ∧ (D (e + 1)).s = (D k).s := by
  intro k
  induction k with
  | zero => intro _ e he; rw [hT.first, h0] at he; cases he
  | succ k ih =>
    intro hk e he
    have ho : ops[k]? = some ops[k] := Array.getElem?_eq_getElem (by omega)
    rcases (hT.step k _ ho).stg with ⟨a, _⟩ | ⟨a, _⟩
    · rw [a] at he
      obtain ⟨b, c, d⟩ := ih (by omega) e he
      exact ⟨by omega, c, by rw [d, a]⟩
    · rw [a] at he; cases he
      exact ⟨by omega, a, rfl⟩
theorem Tr.stage (hT : Tr P cf rf ops g s0 d D) (_h0 : s0.s.e = none) {i k : Nat} (hik : i ≤ k) (hk : k ≤ ops.size) (hn : ∀ j, i ≤ j → j < k → ¬ IsEff D j) : (D k).s = (D i).s ∧ (D k).st = (D i).st := by
  refine hT.ind (fun a b => b.s = a.s ∧ b.st = a.st) (fun _ => ⟨rfl, rfl⟩) (fun _ _ _ h k => ⟨k.1.trans h.1, k.2.trans h.2⟩) hik hk ?_
  intro j o h1 h2 ho hs
  rcases hs.stg with h | ⟨h, _⟩
  · exact h
  · exact absurd h (hn j h1 h2)
end
end Go.Proofs.YthfenjgelbkloaaGreatDoor.Ev

namespace Go.Proofs.YthfenjgelbkloaaGreatDoor.Ev
open Go Go.RowKit

/-- A drawn region that was run by the text's order. -/
structure Cx (P : Program) (cf : CallF) (rf : RndF) (ops : Array Oper) (g : Nat) (r : T AV) (h : Hp) (n0 : Nat) (d : DS) (D : Nat → DS) : Prop where
  tr : Tr P cf rf ops g ⟨r, ⟨none, 0, ⟨h.t, n0⟩⟩, [], [], h.nx, none, [], []⟩ d D
  st : Static ops
  hn0 : n0 = h.nx + cntAl P ops.toList
  grp : grpOk d = true
  rds : seqOk P (plan ops) 0 [] = true ∨ tksOk P (mkA ops) d = true
section
variable {P : Program} {cf : CallF} {rf : RndF} {ops : Array Oper} {g : Nat} {r : T AV} {h : Hp} {n0 : Nat} {d : DS} {D : Nat → DS}
theorem cntAl_cons (o : Oper) (l : List Oper) : cntAl P (o :: l) = cntAl P l + if cls P o.op = 2 then 1 else 0 := by
  conv => lhs; unfold cntAl
  match cls P o.op with
  | 0 => rfl
  | 1 => rfl
  | 2 => rfl
  | c + 3 => rw [if_neg (by omega)]; rfl
theorem Cx.lt_of {i : Nat} {o : Oper} (ho : ops[i]? = some o) : i < ops.size := by
  rcases Nat.lt_or_ge i ops.size with k | k
  · exact k
  · rw [Array.getElem?_eq_none k] at ho; cases ho
theorem drop_cons {i : Nat} {o : Oper} (ho : ops[i]? = some o) : ops.toList.drop i = o :: ops.toList.drop (i + 1) := by
  have hi := Cx.lt_of ho
  have : ops.toList[i]? = some o := by rw [Array.getElem?_toList]; exact ho
  rw [List.getElem?_eq_getElem (by simpa using hi)] at this
  rw [List.drop_eq_getElem_cons (by simpa using hi)]
  simp at this
  simp [this]
/-- Numbers of blocks suffice. -/
theorem Cx.bcnt (hC : Cx P cf rf ops g r h n0 d D) : ∀ k, k ≤ ops.size → (D k).b + cntAl P (ops.toList.drop k) ≤ n0 := by
  intro k
  induction k with
  | zero => intro _; rw [hC.tr.first, hC.hn0]; simp
  | succ k ih =>
    intro hk
    have ho : ops[k]? = some ops[k] := Array.getElem?_eq_getElem (by omega)
    have h1 := ih (by omega)
    rw [drop_cons ho, cntAl_cons] at h1
    have hs := hC.tr.step k _ ho
    generalize D (k + 1) = s' at hs
    generalize D k = s at hs h1
    generalize hcl : (if cls P ops[k].op = 2 then 1 else 0) = y at h1
    cases hs <;> first | (dsimp only at h1 ⊢; omega) | omega | skip
    rename_i hw hc v h' x e hx
    subst hcl
    rw [if_pos hc] at h1
    show s.b + 1 + _ ≤ n0
    omega
/-- A block that is made in the region. -/
theorem Cx.alStep (hC : Cx P cf rf ops g r h n0 d D) : ∀ k, k ≤ ops.size → ∀ al ∈ (D k).als, ∃ o v h', al.i < k ∧ ops[al.i]? = some o ∧ cls P o.op = 2 ∧ opA P (D al.i).r o ⟨.e, (D al.i).b⟩ = .val v h' ∧ h'.get (D al.i).b = some al.x ∧ al.b = (D al.i).b ∧ (D (al.i + 1)).b = al.b + 1 := by
  intro k
  induction k with
  | zero => intro _ al hal; rw [hC.tr.first] at hal; cases hal
  | succ k ih =>
    intro hk al hal
    have ho : ops[k]? = some ops[k] := Array.getElem?_eq_getElem (by omega)
    have hs := hC.tr.step k _ ho
    have old : al ∈ (D k).als → ∃ o v h', al.i < k + 1 ∧ ops[al.i]? = some o ∧ cls P o.op = 2 ∧ opA P (D al.i).r o ⟨.e, (D al.i).b⟩ = .val v h' ∧ h'.get (D al.i).b = some al.x ∧ al.b = (D al.i).b ∧ (D (al.i + 1)).b = al.b + 1 := fun hm =>
      let ⟨o, v, h', a, b⟩ := ih (by omega) al hm
      ⟨o, v, h', by omega, b⟩
    rcases hs.alsm.2 al hal with hm | hm
    · exact old hm
    · by_cases hold : al ∈ (D k).als
      · exact old hold
      · generalize hs' : D (k + 1) = s' at hs hal
        generalize hs0 : D k = s at hs hold
        cases hs <;> first | exact absurd hal hold | skip
        rename_i hw hc v h' x e hx
        rcases List.mem_cons.1 hal with rfl | hal
        · subst hs0
          exact ⟨_, v, h', by simp, ho, hc, e, hx, rfl, by simp only; rw [hs']⟩
        · exact absurd hal hold
theorem Cx.als (hC : Cx P cf rf ops g r h n0 d D) {al : Al} (hal : al ∈ d.als) : ∃ o v h', al.i < ops.size ∧ ops[al.i]? = some o ∧ cls P o.op = 2 ∧ opA P (D al.i).r o ⟨.e, (D al.i).b⟩ = .val v h' ∧ h'.get (D al.i).b = some al.x ∧ al.b = (D al.i).b ∧ (D (al.i + 1)).b = al.b + 1 :=
  hC.alStep _ (Nat.le_refl _) al (by rw [hC.tr.last]; exact hal)
theorem Cx.al_lt (hC : Cx P cf rf ops g r h n0 d D) {al : Al} (hal : al ∈ d.als) : al.b < n0 ∧ h.nx ≤ al.b := by
  obtain ⟨o, v, h', a, b, c, _, _, e, _⟩ := hC.als hal
  have h1 := hC.bcnt al.i (by omega)
  rw [drop_cons b, cntAl_cons, if_pos c] at h1
  have h2 := hC.tr.bm (Nat.zero_le al.i) (by omega)
  rw [hC.tr.first] at h2
  simp only at h2
  omega
theorem Cx.al_uniq (hC : Cx P cf rf ops g r h n0 d D) {al al' : Al} (h1 : al ∈ d.als) (h2 : al' ∈ d.als) (hb : al.b = al'.b) : al = al' := by
  obtain ⟨o, v, k, a, b, c, e, f, g1, g2⟩ := hC.als h1
  obtain ⟨o', v', k', a', b', c', e', f', g1', g2'⟩ := hC.als h2
  have hi : al.i = al'.i := by
    rcases Nat.lt_trichotomy al.i al'.i with k | k | k
    · have := hC.tr.bm (i := al.i + 1) (k := al'.i) (by omega) (by omega); omega
    · exact k
    · have := hC.tr.bm (i := al'.i + 1) (k := al.i) (by omega) (by omega); omega
  obtain ⟨i, b0, x⟩ := al
  obtain ⟨i', b0', x'⟩ := al'
  simp only at *
  subst hi; subst hb
  rw [b] at b'; cases b'
  rw [e] at e'; cases e'
  rw [f] at f'; cases f'
  rfl
theorem Cx.al_idx (hC : Cx P cf rf ops g r h n0 d D) {al al' : Al} (h1 : al ∈ d.als) (h2 : al' ∈ d.als) (hi : al.i = al'.i) : al = al' := by
  obtain ⟨o, v, k, a, b, c, e, f, g1, g2⟩ := hC.als h1
  obtain ⟨o', v', k', a', b', c', e', f', g1', g2'⟩ := hC.als h2
  exact hC.al_uniq h1 h2 (by rw [g1, g1', hi])
/-- Als at i and in the end, as what is ahead of i sees them. -/
theorem Cx.lay_eq (hC : Cx P cf rf ops g r h n0 d D) {i : Nat} (hi : i ≤ ops.size) {sel : Nat → Bool} (hsel : ∀ j, i ≤ j → sel j = false) (H : Hp) : ∀ b, (lay sel (D i).als H).get b = (lay sel d.als H).get b := by
  intro b
  have hm := hC.tr.alsm hi (Nat.le_refl _)
  rw [hC.tr.last] at hm
  cases h1 : (lay sel (D i).als H).get b with
  | some x =>
    rcases lay_inv h1 with ⟨a, k1, k2, k3, k4⟩ | ⟨k1, k2⟩
    · subst k3 k4
      rw [lay_in (fun a h1 a' h2 => hC.al_uniq h1 h2) a (hm.1 a k1) k2]
    · rw [lay_out, k2]
      intro a ha hs
      rcases hm.2 a ha with h | h
      · exact k1 a h hs
      · rw [hsel _ h] at hs; cases hs
  | none =>
    cases h2 : (lay sel d.als H).get b with
    | none => rfl
    | some x =>
      rcases lay_inv h2 with ⟨a, k1, k2, k3, k4⟩ | ⟨k1, k2⟩
      · subst k3 k4
        rcases hm.2 a k1 with h | h
        · rw [lay_in (fun a h1 a' h2 => hC.al_uniq (hm.1 a h1) (hm.1 a' h2)) a h k2] at h1; cases h1
        · rw [hsel _ h] at k2; cases k2
      · rw [lay_out fun a ha hs => k1 a (hm.1 a ha) hs, k2] at h1; cases h1
/-- An effect. -/
theorem Cx.effStep (hC : Cx P cf rf ops g r h n0 d D) {j : Nat} (hj : j < ops.size) (he : IsEff D j) : ∃ o v h', ops[j]? = some o ∧ 3 ≤ cls P o.op ∧ Nat.ble g j = false ∧ inChain (mkA ops j) (D j).s (D j).pn = true ∧ opE cf rf (opA P (D j).r o (lay (selM (mkA ops j) (D j).s.cm) (D j).als (D j).s.h)) = .val v h' ∧ (D (j + 1)).s = ⟨some j, Nat.lor (D j).s.cm (mkA ops j), h'⟩ ∧ (D (j + 1)).r = putD o.dst v (D j).r := by
  have ho : ops[j]? = some ops[j] := Array.getElem?_eq_getElem hj
  have hs := hC.tr.step j _ ho
  have hne : (D (j + 1)).s ≠ (D j).s := by
    intro e
    unfold IsEff at he
    rw [e] at he
    exact absurd (hC.tr.elt rfl j (by omega) j he).1 (Nat.lt_irrefl _)
  generalize D (j + 1) = s' at hs hne
  generalize D j = s at hs hne
  cases hs <;> first | exact absurd rfl hne | skip
  rename_i hw hc hg hch v h' e
  exact ⟨_, v, h', ho, hc, hg, hch, e, rfl, rfl⟩
/-- Effects stand in a row. -/
theorem Cx.chain (hC : Cx P cf rf ops g r h n0 d D) : ∀ k, k ≤ ops.size → ∀ j, j < k → IsEff D j → ∃ e, (D k).s.e = some e ∧ (j = e ∨ tb (mkA ops e) j = true) := by
  intro k
  induction k with
  | zero => intro _ j hj; omega
  | succ k ih =>
    intro hk j hj he
    have ho : ops[k]? = some ops[k] := Array.getElem?_eq_getElem (by omega)
    by_cases hek : IsEff D k
    · refine ⟨k, hek, ?_⟩
      by_cases hjk : j = k
      · exact .inl hjk
      · obtain ⟨e, h1, h2⟩ := ih (by omega) j (by omega) he
        obtain ⟨o, v, h', _, _, _, hch, _⟩ := hC.effStep (by omega) hek
        unfold inChain at hch
        rw [both_eq, Bool.and_eq_true, h1] at hch
        have hch : tb (mkA ops k) e = true := hch.1
        rcases h2 with rfl | h2
        · exact .inr hch
        · exact .inr (mk_trans hC.st.back k e j hch h2)
    · have hjk : j ≠ k := fun e => hek (e ▸ he)
      obtain ⟨e, h1, h2⟩ := ih (by omega) j (by omega) he
      have := (hC.tr.stage rfl (Nat.le_succ k) hk (fun i h1 h2 => by have : i = k := by omega
                                                                     subst this; exact hek)).1
      exact ⟨e, by rw [this]; exact h1, h2⟩
theorem Cx.ahead (hC : Cx P cf rf ops g r h n0 d D) {i : Nat} (hi : i < ops.size) (hch : inChain (mkA ops i) (D i).s (D i).pn = true) {j : Nat} (hj : j < i) (he : IsEff D j) : tb (mkA ops i) j = true := by
  obtain ⟨e, h1, h2⟩ := hC.chain i (by omega) j hj he
  unfold inChain at hch
  rw [both_eq, Bool.and_eq_true, h1] at hch
  have hch : tb (mkA ops i) e = true := hch.1
  rcases h2 with rfl | h2
  · exact hch
  · exact mk_trans hC.st.back i e j hch h2
theorem Cx.pnStep (hC : Cx P cf rf ops g r h n0 d D) : ∀ k, k ≤ ops.size → ∀ p, (D k).pn = some p → p.2.2 < k ∧ ∃ o, ops[p.2.2]? = some o ∧ 3 ≤ cls P o.op ∧ (D (p.2.2 + 1)).pn = some p ∧ (D p.2.2).pn = none := by
  intro k
  induction k with
  | zero => intro _ p hp; rw [hC.tr.first] at hp; cases hp
  | succ k ih =>
    intro hk p hp
    have ho : ops[k]? = some ops[k] := Array.getElem?_eq_getElem (by omega)
    have hs := hC.tr.step k _ ho
    by_cases hold : (D k).pn = some p
    · obtain ⟨a, b⟩ := ih (by omega) p hold
      exact ⟨by omega, b⟩
    · have hp0 := hp
      generalize hs' : D (k + 1) = s' at hs hp
      generalize hs0 : D k = s at hs hold
      cases hs <;> first | exact absurd hp hold | skip
      rename_i hw hc hg hch ch h' e
      simp only [Option.some.injEq] at hp
      subst hp
      refine ⟨by simp, _, ho, hc, hp0, ?_⟩
      simp only
      rw [hs0]
      unfold inChain at hch
      rw [both_eq, Bool.and_eq_true] at hch
      cases hpn : s.pn with
      | none => rfl
      | some p' => rw [hpn] at hch; cases hch.2
/-- A store in no order. -/
theorem Cx.gStep (hC : Cx P cf rf ops g r h n0 d D) : ∀ k, k ≤ ops.size → ∀ a ∈ (D k).grp, ∃ o t ax xx j v x0 h1, a.i < k ∧ ops[a.i]? = some o ∧ 3 ≤ cls P o.op ∧ a.m = mkA ops a.i ∧ Nat.ble g a.i = true ∧ inChain (mkA ops a.i) (D a.i).s (D a.i).pn = true ∧ o.op = .store t ax xx ∧ opnd (D a.i).r ax = some (.ptr a.b j) ∧ opnd (D a.i).r xx = some v ∧
    (D a.i).s.h.get a.b = some x0 ∧ noKill j (D a.i).s.h x0.sibs = true ∧ grpFree a.b x0.sibs (D a.i).grp = true ∧ store P t (.ptr a.b j) v (D a.i).s.h = some h1 ∧ h1.get a.b = some a.x := by
  intro k
  induction k with
  | zero => intro _ a ha; rw [hC.tr.first] at ha; cases ha
  | succ k ih =>
    intro hk a ha
    have ho : ops[k]? = some ops[k] := Array.getElem?_eq_getElem (by omega)
    have hs := hC.tr.step k _ ho
    by_cases hold : a ∈ (D k).grp
    · obtain ⟨o, t, ax, xx, j, v, x0, h1, c, e⟩ := ih (by omega) a hold
      exact ⟨o, t, ax, xx, j, v, x0, h1, by omega, e⟩
    · generalize hs' : D (k + 1) = s' at hs ha
      generalize hs0 : D k = s at hs hold
      cases hs <;> first | exact absurd ha hold | skip
      rename_i hw hc hg hch t ax xx c j v x0 x1 h1 hop ea ex e0 hkk hf es e1
      rcases List.mem_cons.1 ha with rfl | ha
      · subst hs0
        exact ⟨_, t, ax, xx, j, v, x0, h1, by simp, ho, hc, rfl, hg, hch, hop, ea, ex, e0, hkk, hf, es, e1⟩
      · exact absurd ha hold
theorem stores_sib {H H' : Hp} {b j : Nat} {l : List (Option AV)} (h : stores H b j l = some H') {x x' : Blk} (hx : H.get b = some x) (hx' : H'.get b = some x') : x'.sibs = x.sibs := by
  unfold stores at h
  split at h
  · cases h; rw [hx] at hx'; cases hx'; rfl
  · split at h
    · rename_i hb
      rw [hx] at hb; cases hb
      obtain ⟨_, rfl⟩ := cond_some h
      rw [Hp.get_set, if_pos rfl] at hx'; cases hx'; rfl
    · rename_i hb
      rw [hx] at hb; cases hb
      obtain ⟨_, rfl⟩ := cond_some h
      rw [Hp.get_set, if_pos rfl] at hx'; cases hx'; rfl
    · cases h
theorem store_stores {P : Program} {t : TypeId} {c j : Nat} {v : AV} {H H' : Hp} (h : store P t (.ptr c j) v H = some H') : stores H c j (v.cells.map some) = some H' := by
  have h : (oo (tAgg P t) none fun g => ob (Nat.beq v.cells.length g.2) none (stores H c j (v.cells.map some))) = some H' := h
  obtain ⟨_, _, h2⟩ := oo_eq h
  exact (ob_eq h2).2
theorem Cx.grps (hC : Cx P cf rf ops g r h n0 d D) {a : Gp} (ha : a ∈ d.grp) : ∃ o t ax xx j v x0 h1, a.i < ops.size ∧ ops[a.i]? = some o ∧ 3 ≤ cls P o.op ∧ a.m = mkA ops a.i ∧ Nat.ble g a.i = true ∧ inChain (mkA ops a.i) (D a.i).s (D a.i).pn = true ∧ o.op = .store t ax xx ∧ opnd (D a.i).r ax = some (.ptr a.b j) ∧ opnd (D a.i).r xx = some v ∧
    (D a.i).s.h.get a.b = some x0 ∧ noKill j (D a.i).s.h x0.sibs = true ∧ grpFree a.b x0.sibs (D a.i).grp = true ∧ store P t (.ptr a.b j) v (D a.i).s.h = some h1 ∧ h1.get a.b = some a.x :=
  hC.gStep _ (Nat.le_refl _) a (by rw [hC.tr.last]; exact ha)
theorem Cx.g_free (hC : Cx P cf rf ops g r h n0 d D) {a b : Gp} (ha : a ∈ d.grp) (hb : b ∈ d.grp) (hi : a.i < b.i) : a.b ≠ b.b ∧ (∀ s ∈ b.x.sibs, s ≠ a.b) ∧ ∀ s ∈ a.x.sibs, s ≠ b.b := by
  obtain ⟨o, t, ax, xx, j, v, x0, h1, k1, k2, k3, k4, k5, k6, k7, k8, k9, k10, k11, k12, k13, k14⟩ := hC.grps hb
  have hm := hC.tr.grpm (i := b.i) (k := ops.size) (by omega) (Nat.le_refl _)
  rw [hC.tr.last] at hm
  have ha' : a ∈ (D b.i).grp := (hm.2 a ha).resolve_right (by omega)
  have := List.all_eq_true.1 k12 a ha'
  simp only [Bool.and_eq_true, Bool.not_eq_true', List.all_eq_true] at this
  have nb : ∀ x y : Nat, Nat.beq x y = false → x ≠ y := fun x y e e' => by subst e'; simp at e
  obtain ⟨⟨q1, q2⟩, q3⟩ := this
  refine ⟨nb _ _ q1, fun s hs => ?_, fun s hs => nb _ _ (q3 s hs)⟩
  rw [stores_sib (store_stores k13) k10 k14] at hs
  exact nb _ _ (q2 s hs)
theorem Cx.g_idx (hC : Cx P cf rf ops g r h n0 d D) {a b : Gp} (ha : a ∈ d.grp) (hb : b ∈ d.grp) (hi : a.i = b.i) : a = b := by
  obtain ⟨o, t, ax, xx, j, v, x0, h1, k1, k2, k3, k4, k5, k6, k7, k8, k9, k10, k11, k12, k13, k14⟩ := hC.grps ha
  obtain ⟨o', t', ax', xx', j', v', x0', h1', k1', k2', k3', k4', k5', k6', k7', k8', k9', k10', k11', k12', k13', k14'⟩ := hC.grps hb
  obtain ⟨i, m, b0, x⟩ := a
  obtain ⟨i', m', b0', x'⟩ := b
  simp only at *
  subst hi
  rw [k2] at k2'; cases k2'
  rw [k7] at k7'; cases k7'
  rw [k8] at k8'; cases k8'
  rw [k9] at k9'; cases k9'
  rw [k13] at k13'; cases k13'
  rw [k14] at k14'; cases k14'
  rw [k4, k4']
theorem Cx.g_uniq (hC : Cx P cf rf ops g r h n0 d D) {a b : Gp} (ha : a ∈ d.grp) (hb : b ∈ d.grp) (he : a.b = b.b) : a = b := by
  rcases Nat.lt_trichotomy a.i b.i with k | k | k
  · exact absurd he (hC.g_free ha hb k).1
  · exact hC.g_idx ha hb k
  · exact absurd he.symm (hC.g_free hb ha k).1
theorem Cx.gok (hC : Cx P cf rf ops g r h n0 d D) {a : Gp} (ha : a ∈ d.grp) : (∀ t ∈ d.tks, tb a.m t.i = true) ∧ ∀ al ∈ d.als, ∀ s ∈ a.x.sibs, s ≠ al.b := by
  have := List.all_eq_true.1 hC.grp a ha
  rw [Bool.and_eq_true, List.all_eq_true, List.all_eq_true] at this
  refine ⟨this.1, fun al hal s hs e => ?_⟩
  have h2 := List.all_eq_true.1 (this.2 al hal) s hs
  subst e
  simp at h2
end
end Go.Proofs.YthfenjgelbkloaaGreatDoor.Ev

namespace Go.Proofs.YthfenjgelbkloaaGreatDoor.Ev
open Go Go.RowKit

section
variable {B : Nat} {π0 π π' : Pi} {h H HA HB Hin H' : Hp} {w0 w w' : World}
/-- A block of the region is made. -/
theorem Step.addBlock (hs : Step B π0 h w0 π H w) {b z : Nat} {x : Blk} {o : Obj} (hb : π b = none) (hlo : h.nx ≤ b) (hhi : b < H.nx) (hx : ∀ w', BR π w' x z o) (hn : H'.nx = H.nx)
    (hH : ∀ c y, H'.get c = some y → (c = b ∧ y = x) ∨ (c ≠ b ∧ H.get c = some y)) : Step B π0 h w0 (piNew π b w.heap.size z) H' (w.alloc o) := by
  have he := piNew_ext' hb w.heap.size z
  have hheap : ∀ c, c < w.heap.size → (w.alloc o).heap[c]? = w.heap[c]? := fun c hc => Below.heap_alloc _ _ _ hc
  have hevo : ∀ c, c < w.heap.size → Evo w.heap[c]? (w.alloc o).heap[c]? := fun c hc => Evo.of_eq (hheap c hc)
  have hB := hs.rel.low
  have h := hs.rel
  have hdm : ∀ b p, π b = some p → p.1 < w.heap.size := fun b p hp => (h.dom b p hp).2
  refine ⟨hs.ext.trans he, ⟨by simp; omega, fun g hg => let ⟨z, hz⟩ := h.glob g hg; ⟨z, he _ _ hz⟩, ?_, ?_, ?_⟩, ?_, ?_, by rw [hn]; exact hs.nx, ?_, ?_, hs.out, fun c hc => (hs.evo c hc).trans (hevo c (Nat.lt_of_lt_of_le hc hs.size))⟩
  · intro c y hy
    rcases hH c y hy with ⟨rfl, rfl⟩ | ⟨hne, hy⟩
    · exact ⟨w.heap.size, z, o, by simp [piNew], heap_alloc_new w o, (hx w).on he hevo hdm, fun _ => hB⟩
    · obtain ⟨c', z1, o1, h1, h2, h3, h4⟩ := h.blk c y hy
      exact ⟨c', z1, o1, he _ _ h1, (hheap c' (h.dom _ _ h1).2).trans h2, h3.on he hevo hdm, h4⟩
  · intro c p hp
    rw [hn]
    unfold piNew at hp
    split at hp
    · rename_i e; subst e; cases hp; exact ⟨hhi, by simp⟩
    · have := h.dom c p hp; exact ⟨this.1, by simp; omega⟩
  · intro b1 y b2 y' c z1 z2 hy hy' hp hp' hne
    unfold piNew at hp hp'
    rcases hH b1 y hy with ⟨e, _⟩ | ⟨e, hyo⟩
    · rw [if_pos e] at hp; cases hp
      rw [if_neg (fun k => hne (by rw [e, k]))] at hp'
      have := (h.dom _ _ hp').2
      simp at this
    · rw [if_neg e] at hp
      rcases hH b2 y' hy' with ⟨e', _⟩ | ⟨e', hyo'⟩
      · rw [if_pos e'] at hp'; cases hp'
        have := (h.dom _ _ hp).2
        simp at this
      · rw [if_neg e'] at hp'
        exact h.sep b1 y b2 y' c z1 z2 hyo hyo' hp hp' hne
  · intro c hc hno
    rw [hheap c (Nat.lt_of_lt_of_le hc hs.size)]
    exact hs.fr c hc hno
  · have := hs.size; simp; omega
  · intro c p hp hnone
    unfold piNew at hp
    split at hp
    · rename_i e; subst e; cases hp; exact ⟨hlo, .inl hs.size⟩
    · exact hs.new c p hp hnone
  · intro c y hy
    rcases hH c y hy with ⟨rfl, rfl⟩ | ⟨hne, hyo⟩
    · exact .inr hlo
    · exact hs.old c y hyo
/-- What a run over a part of the heap does not turn stays. -/
theorem Step.merge (h0 : HRel π0 B h w0) (hs : Step B π0 h w0 π HA w) (hle : Hle Hin HA) (hnx : Hin.nx = HA.nx) (he : Step B π Hin w π' H' w') (hnB : HB.nx = H'.nx)
    (hB : ∀ c y, HB.get c = some y → H'.get c = some y ∨ (HA.get c = some y ∧ Hin.get c = none ∧ y.wr = true ∧ y.sib = [])) : Step B π0 h w0 π' HB w' := by
  have hs' : Step B π0 h w0 π Hin w := hs.less hle (by omega)
  have ht := Step.trans h0 hs' he
  refine ⟨ht.ext, ⟨he.rel.low, he.rel.glob, ?_, fun b p hp => by rw [hnB]; exact he.rel.dom b p hp, ?_⟩, ht.fr, ht.size, by rw [hnB]; exact ht.nx, ht.new, ?_, ht.out, ht.evo⟩
  · intro b x hx
    rcases hB b x hx with hx | ⟨hx, hn, hw, hsb⟩
    · exact he.rel.blk b x hx
    · obtain ⟨c, z, o, k1, k2, k3, k4⟩ := hs.rel.blk b x hx
      refine ⟨c, z, o, he.ext _ _ k1, ?_, k3.on he.ext he.evo (fun b p hp => (hs.rel.dom b p hp).2), k4⟩
      rw [he.fr c (hs.rel.dom _ _ k1).2 ?_]
      · exact k2
      · intro b2 x2 z2 hx2 hw2 hp2
        have hne : b ≠ b2 := by intro e; subst e; rw [hn] at hx2; cases hx2
        have := ((hs.rel.sep b x b2 x2 c z z2 hx (hle _ _ hx2) k1 hp2 hne).2 hw).1
        rw [hsb] at this; cases this
  · have none_of : ∀ b x b' x' c z z', (HA.get b = some x ∧ Hin.get b = none ∧ x.wr = true ∧ x.sib = []) → H'.get b' = some x' → π' b = some (c, z) → π' b' = some (c, z') → False := by
      intro b x b' x' c z z' ⟨hx, hn, hw, hsb⟩ hx' hp hp'
      obtain ⟨c1, z1, o1, k1, _⟩ := hs.rel.blk b x hx
      have := he.ext _ _ k1
      rw [hp] at this; cases this
      cases hb' : π b' with
      | none =>
        have k2 := (hs.rel.dom _ _ k1).2
        rcases (he.new b' _ hp' hb').2 with q | ⟨b0, x0, z0, q1, q2, q3⟩
        · simp at *; omega
        · have hne : b ≠ b0 := by intro e; subst e; rw [hn] at q1; cases q1
          have := ((hs.rel.sep b x b0 x0 c z z0 hx (hle _ _ q1) k1 q3 hne).2 hw).1
          rw [hsb] at this; cases this
      | some p =>
        have := he.ext _ _ hb'
        rw [hp'] at this; cases this
        rcases he.old b' x' hx' with ⟨y, hy, _⟩ | hge
        · have hne : b ≠ b' := by intro e; subst e; rw [hn] at hy; cases hy
          have := ((hs.rel.sep b x b' y c z z' hx (hle _ _ hy) k1 hb' hne).2 hw).1
          rw [hsb] at this; cases this
        · have := (hs.rel.dom _ _ hb').1
          omega
    intro b x b' x' c z z' hx hx' hp hp' hne
    rcases hB b x hx with k | k
    · rcases hB b' x' hx' with k' | k'
      · exact he.rel.sep b x b' x' c z z' k k' hp hp' hne
      · exact (none_of b' x' b x c z' z k' k hp' hp).elim
    · rcases hB b' x' hx' with k' | k'
      · exact (none_of b x b' x' c z z' k k' hp hp').elim
      · obtain ⟨hx, hn, hw, hsb⟩ := k
        obtain ⟨c1, z1, o1, k1, _⟩ := hs.rel.blk b x hx
        obtain ⟨c2, z2, o2, k2, _⟩ := hs.rel.blk b' x' k'.1
        have e1 := he.ext _ _ k1
        have e2 := he.ext _ _ k2
        rw [hp] at e1; cases e1
        rw [hp'] at e2; cases e2
        have := ((hs.rel.sep b x b' x' c z z' hx k'.1 k1 k2 hne).2 hw).1
        rw [hsb] at this; cases this
  · intro b x hx
    rcases hB b x hx with hx | ⟨hx, _⟩
    · exact ht.old b x hx
    · exact hs.old b x hx
end

/-! ### What holds between operations -/
def lst (l : Array Bool) (j : Nat) : Bool := l.getD j false
theorem lst_set {l : Array Bool} {i : Nat} (hi : i < l.size) (j : Nat) : lst (l.setIfInBounds i true) j = if j = i then true else lst l j := by
  unfold lst
  by_cases h : j = i
  · subst h; simp [hi]
  · rw [if_neg h]; simp [Array.getElem?_setIfInBounds_ne (fun e => h e.symm)]
noncomputable def selL (l : Array Bool) (cm j : Nat) : Bool := ob (tb cm j) (lst l j) false
theorem selL_iff {l : Array Bool} {cm j : Nat} : selL l cm j = true ↔ lst l j = true ∧ tb cm j = false := by
  unfold selL
  cases tb cm j with
  | false => rw [ob_false]; simp
  | true => rw [ob_true]; simp
theorem selM_iff {m cm j : Nat} : selM m cm j = true ↔ tb m j = true ∧ tb cm j = false := by
  unfold selM
  cases tb m j with
  | false => rw [ob_false]; simp
  | true =>
    rw [ob_true]
    cases tb cm j with
    | false => rw [ob_false]; simp
    | true => rw [ob_true]; simp
/-- What is known when the operations l have run; the last effects' stage S. -/
noncomputable def HL (d : DS) (l : Array Bool) (S : Stg) : Hp := laygS (lst l) d.grp (lay (selL l S.cm) d.als S.h)
structure SInv (ops : Array Oper) (r : T AV) (h : Hp) (n0 : Nat) (d : DS) (D : Nat → DS) (B : Nat) (π0 : Pi) (w0 : World) (q : Q) (l : Array Bool) (a : Act) (w : World) (π : Pi) (i0 : Nat) : Prop where
  ln : l.size = ops.size
  hi0 : i0 ≤ ops.size
  eff : ∀ j, j < ops.size → IsEff D j → (lst l j = true ↔ j < i0)
  st : Step B π0 h w0 π (HL d l (D i0).s) w
  reg : ∀ t v, ((∃ (j : Nat) (o : Oper), ops[j]? = some o ∧ o.dst = some t ∧ lst l j = true) ∧ d.r.get (Pos.of t) = some v) ∨ ((∀ (j : Nat) (o : Oper), ops[j]? = some o → o.dst = some t → lst l j = false) ∧ r.get (Pos.of t) = some v) → ∃ cv, a.tmps[t]? = some cv ∧ VR π v cv
  asz : a.tmps.size = q.sz
  adf : DRs π q.df a.defers
  cm : ∀ j, tb (D i0).s.cm j = true → lst l j = true
  fresh : ∀ al ∈ d.als, lst l al.i = false → π al.b = none
  freshS : ∀ al ∈ d.als, tb (D i0).s.cm al.i = false → (D i0).s.h.get al.b = none
  nx : n0 ≤ (D i0).s.h.nx
  pn : ∀ p, d.pn = some p → lst l p.2.2 = false
  down : Down ops (lst l)
  alx : ∀ al ∈ d.als, lst l al.i = true → al.x.wr = true ∧ al.x.sib = []
section
variable {P : Program} {cf : CallF} {rf : RndF} {ops : Array Oper} {g : Nat} {r : T AV} {h : Hp} {n0 : Nat} {d : DS} {D : Nat → DS} {B : Nat} {π0 π : Pi} {w0 w : World} {q : Q} {l : Array Bool} {a : Act} {i0 i : Nat} {o : Oper} {S : Stg}
theorem HL_nx : (HL d l S).nx = S.h.nx := by unfold HL; rw [layg_nx, lay_nx]
theorem HL_inv {b : Nat} {x : Blk} (e : (HL d l S).get b = some x) : (∃ g ∈ d.grp, lst l g.i = true ∧ g.b = b ∧ g.x = x) ∨ ((∀ g ∈ d.grp, lst l g.i = true → g.b ≠ b) ∧
    ((∃ al ∈ d.als, lst l al.i = true ∧ tb S.cm al.i = false ∧ al.b = b ∧ al.x = x) ∨ ((∀ al ∈ d.als, lst l al.i = true → tb S.cm al.i = false → al.b ≠ b) ∧ S.h.get b = some x))) := by
  rcases layg_inv e with h1 | ⟨h1, h2⟩
  · exact .inl h1
  · refine .inr ⟨h1, ?_⟩
    rcases lay_inv h2 with ⟨al, k1, k2, k3⟩ | ⟨k1, k2⟩
    · have := selL_iff.1 k2
      exact .inl ⟨al, k1, this.1, this.2, k3⟩
    · exact .inr ⟨fun al hal h1 h2 => k1 al hal (selL_iff.2 ⟨h1, h2⟩), k2⟩
theorem HL_g (hC : Cx P cf rf ops g r h n0 d D) {x : Gp} (hx : x ∈ d.grp) (hl : lst l x.i = true) : (HL d l S).get x.b = some x.x := layg_in (fun _a h1 _a' h2 => hC.g_uniq h1 h2) x hx hl
theorem HL_al (hC : Cx P cf rf ops g r h n0 d D) {al : Al} (ha : al ∈ d.als) (hl : lst l al.i = true) (hc : tb S.cm al.i = false) (hg : ∀ g ∈ d.grp, lst l g.i = true → g.b ≠ al.b) : (HL d l S).get al.b = some al.x := by
  unfold HL
  rw [layg_out hg]
  exact lay_in (fun a h1 a' h2 => hC.al_uniq h1 h2) al ha (selL_iff.2 ⟨hl, hc⟩)
theorem HL_s {b : Nat} (hg : ∀ g ∈ d.grp, lst l g.i = true → g.b ≠ b) (ha : ∀ al ∈ d.als, lst l al.i = true → tb S.cm al.i = false → al.b ≠ b) : (HL d l S).get b = S.h.get b := by
  unfold HL
  rw [layg_out hg]
  exact lay_out fun al hal hs => ha al hal (selL_iff.1 hs).1 (selL_iff.1 hs).2
/-- Registers that an operation looks at. -/
noncomputable def restr (r : T AV) : List Nat → T AV
  | [] => .e
  | t :: ts => (restr r ts).put (r.get (Pos.of t)) (Pos.of t)
theorem restr_get (r : T AV) : ∀ (ts : List Nat) (t : Nat), (restr r ts).get (Pos.of t) = if t ∈ ts then r.get (Pos.of t) else none
  | [], t => by simp [restr, T.get_e]
  | s :: ts, t => by
    unfold restr
    rw [T.get_putN, restr_get r ts t]
    by_cases e : t = s
    · subst e; simp
    · simp [e]
theorem SInv.look (hC : Cx P cf rf ops g r h n0 d D) (hI : SInv ops r h n0 d D B π0 w0 q l a w π i0) (ho : ops[i]? = some o) (hLi : lst l i = false) (hrdy : ∀ j, tb (mkA ops i) j = true → lst l j = true) :
    RR π (restr (D i).r (o.looksAt ops)) a.tmps := by
  intro t v hv
  rw [restr_get] at hv
  split at hv
  · rename_i ht
    have hi := Cx.lt_of ho
    refine hI.reg t v ?_
    by_cases hex : ∃ (j : Nat) (oj : Oper), ops[j]? = some oj ∧ oj.dst = some t ∧ lst l j = true
    · refine .inl ⟨hex, ?_⟩
      obtain ⟨j, oj, h1, h2, h3⟩ := hex
      have hj := Cx.lt_of h1
      have hji : tb (mkA ops i) j = true := by
        rcases hC.st.names i o ho t ht j oj h1 h2 with e | e | e
        · subst e; rw [hLi] at h3; cases h3
        · exact e
        · have := hI.down j h3 i e; rw [hLi] at this; cases this
      have hlt := mk_lt hC.st.back i j hji
      rw [← hC.tr.last, hC.tr.reg (i := i) (k := ops.size) (by omega) (Nat.le_refl _) ?_]
      · exact hv
      · intro k ok h4 h5 h6 h7
        have := hC.st.uniq k j ok oj t h6 h1 h7 h2
        omega
    · refine .inr ⟨fun j oj h1 h2 => ?_, ?_⟩
      · cases hl : lst l j with
        | false => rfl
        | true => exact absurd ⟨j, oj, h1, h2, hl⟩ hex
      · rw [hC.tr.reg (i := 0) (k := i) (by omega) (by omega) ?_, hC.tr.first] at hv
        · exact hv
        · intro k ok h4 h5 h6 h7
          rcases hC.st.names i o ho t ht k ok h6 h7 with e | e | e
          · omega
          · exact hex ⟨k, ok, h6, h7, hrdy k e⟩
          · have := mk_lt hC.st.back k i e; omega
  · cases hv
theorem restr_agree (r : T AV) (o : Oper) : OAgree r (restr r (o.looksAt ops)) o := by
  intro t ht
  rw [restr_get, if_pos]
  unfold Oper.looksAt
  exact List.mem_append_left _ (List.mem_filterMap.2 ⟨.tmp t, by simpa using ht, rfl⟩)
theorem wantA_restr (r : T AV) (o : Oper) : wantA ops (restr r (o.looksAt ops)) o = wantA ops r o := by
  unfold wantA
  cases hg : o.guard with
  | none => rfl
  | some gd =>
    show grdA ops _ gd = grdA ops _ gd
    unfold grdA
    cases hd : grdD ops gd with
    | none => rfl
    | some dd =>
      show oo ((restr r (o.looksAt ops)).get (Pos.of dd)) _ _ = oo (r.get (Pos.of dd)) _ _
      rw [restr_get, if_pos]
      unfold Oper.looksAt
      refine List.mem_append_right _ ?_
      rw [hg]
      unfold grdD at hd
      cases hx : ops[gd.1]? with
      | none => rw [hx] at hd; cases hd
      | some y =>
        rw [hx] at hd
        have hd : y.dst = some dd := hd
        simp [hx, hd]
/-- One operation more. -/
theorem SInv.adv (hC : Cx P cf rf ops g r h n0 d D) (hI : SInv ops r h n0 d D B π0 w0 q l a w π i0) (hdst : dstOk q.sz ops.toList = true) (ho : ops[i]? = some o) (hrdy : ∀ j, tb (mkA ops i) j = true → lst l j = true) {π' : Pi} {w' : World} {cv : Value} {v : AV}
    (hr : (D (i + 1)).r = putD o.dst v (D i).r) (hv : VR π' v cv) (hE : PExt π π') (i0' : Nat) (h1 : i0' ≤ ops.size) (h2 : ∀ j, j < ops.size → IsEff D j → (lst (l.setIfInBounds i true) j = true ↔ j < i0'))
    (h3 : Step B π0 h w0 π' (HL d (l.setIfInBounds i true) (D i0').s) w') (h4 : ∀ j, tb (D i0').s.cm j = true → lst (l.setIfInBounds i true) j = true) (h5 : ∀ al ∈ d.als, lst l al.i = false → al.i ≠ i → π' al.b = none)
    (h6 : ∀ al ∈ d.als, tb (D i0').s.cm al.i = false → (D i0').s.h.get al.b = none) (h7 : n0 ≤ (D i0').s.h.nx) (h8 : ∀ p, d.pn = some p → p.2.2 ≠ i) (h9 : ∀ al ∈ d.als, al.i = i → al.x.wr = true ∧ al.x.sib = []) : SInv ops r h n0 d D B π0 w0 q (l.setIfInBounds i true) (a.put o.dst cv) w' π' i0' := by
  have hi := Cx.lt_of ho
  have hil : i < l.size := by rw [hI.ln]; exact hi
  have hLs := lst_set (l := l) hil
  refine ⟨by simp [hI.ln], h1, h2, h3, ?_, by rw [put_size]; exact hI.asz, by rw [put_defers]; exact hI.adf.mono hE, h4, ?_, h6, h7, ?_, ?_, ?_⟩
  · intro t u hu
    by_cases ht : o.dst = some t
    · have hu' : u = v := by
        rcases hu with ⟨_, hu⟩ | ⟨hu, _⟩
        · rw [← hC.tr.last, hC.tr.reg (i := i + 1) (k := ops.size) (by omega) (Nat.le_refl _) ?_, hr, putD_same ht] at hu
          · simpa using hu.symm
          · intro k ok k1 k2 k3 k4
            have := hC.st.uniq k i ok o t k3 ho k4 ht
            omega
        · have := hu i o ho ht
          rw [hLs, if_pos rfl] at this; cases this
      subst hu'
      refine ⟨cv, ?_, hv⟩
      have hlt : t < a.tmps.size := by rw [hI.asz]; exact dstOk_mem hdst (List.mem_of_getElem? (by rw [Array.getElem?_toList]; exact ho)) ht
      rw [ht]
      show (a.tmps.setIfInBounds t cv)[t]? = some cv
      simp [hlt]
    · obtain ⟨cu, k1, k2⟩ := hI.reg t u (hu.imp (fun ⟨⟨j, oj, a1, a2, a3⟩, b⟩ => ⟨⟨j, oj, a1, a2, by
          rw [hLs] at a3
          split at a3
          · rename_i e; subst e; rw [ho] at a1; cases a1; exact absurd a2 ht
          · exact a3⟩, b⟩) (fun ⟨k1, b⟩ => ⟨fun j oj a1 a2 => by
          have := k1 j oj a1 a2
          rw [hLs] at this
          split at this
          · cases this
          · exact this, b⟩))
      refine ⟨cu, ?_, k2.mono hE⟩
      cases hd : o.dst with
      | none => exact k1
      | some dd =>
        show (a.tmps.setIfInBounds dd cv)[t]? = some cu
        rw [Array.getElem?_setIfInBounds_ne (fun e => ht (by rw [hd, e]))]; exact k1
  · intro al hal hl
    rw [hLs] at hl
    split at hl
    · cases hl
    · rename_i hne; exact h5 al hal hl hne
  · intro p hp
    rw [hLs, if_neg (h8 p hp)]; exact hI.pn p hp
  · intro k hk j hj
    rw [hLs] at hk ⊢
    split
    · rfl
    · split at hk
      · rename_i e; subst e; exact hrdy j hj
      · exact hI.down k hk j hj
  · intro al hal hl
    rw [hLs] at hl
    split at hl
    · rename_i e; exact h9 al hal e
    · exact hI.alx al hal hl
end
end Go.Proofs.YthfenjgelbkloaaGreatDoor.Ev

namespace Go.Proofs.YthfenjgelbkloaaGreatDoor.Ev
open Go Go.RowKit

/-! ### A store leans on its block alone -/
theorem kill_id {j : Nat} : ∀ {l : List Nat} {h : Hp}, noKill j h l = true → kill j l h = h
  | [], h, _ => rfl
  | s :: l, h, hn => by
    unfold noKill at hn
    obtain ⟨h1, h2⟩ := beq_and hn
    unfold kill
    have e : (match h.get s with
      | some (.cells _ _ n _ _ _ _ _) => bif Nat.blt j n then h.del s else h
      | _ => h) = h := by
      split
      · rename_i cc dd n e lo hi w sib hb
        rw [hb] at h1
        simp only at h1
        have : Nat.blt j n = false := by
          cases hx : Nat.blt j n with
          | false => rfl
          | true =>
            have a1 := Nat.le_of_ble_eq_true h1
            have a2 := Nat.le_of_ble_eq_true hx
            exact absurd a2 (by omega)
        rw [this]; rfl
      · rfl
    exact (congrArg (kill j l) e).trans (kill_id h2)
theorem noKill_of {j : Nat} {h h2 : Hp} : ∀ {l : List Nat}, (∀ s ∈ l, ∀ y, h2.get s = some y → h.get s = some y) → noKill j h l = true → noKill j h2 l = true
  | [], _, _ => rfl
  | s :: l, hs, hn => by
    unfold noKill at hn ⊢
    obtain ⟨h1, h2'⟩ := beq_and hn
    rw [Bool.and_eq_true]
    refine ⟨?_, noKill_of (fun s hs' => hs s (by simp [hs'])) h2'⟩
    cases hg : h2.get s with
    | none => rfl
    | some y => rw [← hs s (by simp) y hg]; exact h1
theorem stores_at {H1 H2 h1 : Hp} {c j : Nat} {l : List (Option AV)} {x0 x1 : Blk} (h : stores H1 c j l = some h1) (hx0 : H1.get c = some x0) (hk : noKill j H1 x0.sibs = true) (hx1 : h1.get c = some x1) (h2 : H2.get c = some x0) (hk2 : noKill j H2 x0.sibs = true) :
    ∃ H2', stores H2 c j l = some H2' ∧ H2'.nx = H2.nx ∧ ∀ b, H2'.get b = if b = c then some x1 else H2.get b := by
  have key : ∀ (y : Blk) (hh : (kill j x0.sibs H1).set c y = h1), ∃ H2', some ((kill j x0.sibs H2).set c y) = some H2' ∧ H2'.nx = H2.nx ∧ ∀ b, H2'.get b = if b = c then some x1 else H2.get b := by
    intro y hh
    subst hh
    rw [Hp.get_set, if_pos rfl] at hx1; cases hx1
    refine ⟨_, rfl, by rw [Hp.nx_set, kill_id hk2], fun b => ?_⟩
    rw [Hp.get_set, kill_id hk2]
  unfold stores at h ⊢
  split at h
  · cases h
    rw [hx0] at hx1; cases hx1
    refine ⟨H2, rfl, rfl, fun b => ?_⟩
    split
    · rename_i e; subst e; exact h2
    · rfl
  · rename_i hne
    rw [h2]
    rw [hx0] at h
    cases x0 with
    | cells cc dd n e lo hi wr sib =>
      cases wr with
      | false => cases dd <;> cases h
      | true =>
        cases dd with
        | none =>
          simp only at h ⊢
          obtain ⟨hb, hh⟩ := cond_some h
          rw [hb, cond_true]
          exact key _ hh
        | some dd =>
          simp only at h ⊢
          obtain ⟨hb, hh⟩ := cond_some h
          rw [hb, cond_true]
          exact key _ hh
    | _ => cases h
theorem store_at {P : Program} {t : TypeId} {v : AV} {H1 H2 h1 : Hp} {c j : Nat} {x0 x1 : Blk} (h : store P t (.ptr c j) v H1 = some h1) (hx0 : H1.get c = some x0) (hk : noKill j H1 x0.sibs = true) (hx1 : h1.get c = some x1) (h2 : H2.get c = some x0) (hk2 : noKill j H2 x0.sibs = true) :
    ∃ H2', store P t (.ptr c j) v H2 = some H2' ∧ H2'.nx = H2.nx ∧ ∀ b, H2'.get b = if b = c then some x1 else H2.get b := by
  have h : (oo (tAgg P t) none fun g => ob (Nat.beq v.cells.length g.2) none (stores H1 c j (v.cells.map some))) = some h1 := h
  show ∃ H2', (oo (tAgg P t) none fun g => ob (Nat.beq v.cells.length g.2) none (stores H2 c j (v.cells.map some))) = some H2' ∧ _
  obtain ⟨gg, e1, e2⟩ := oo_eq h
  obtain ⟨e3, e4⟩ := ob_eq e2
  rw [e1, oo_some, e3, ob_true]
  exact stores_at e4 hx0 hk hx1 h2 hk2

section
variable {P : Program} {cf : CallF} {rf : RndF} {ops : Array Oper} {g : Nat} {r : T AV} {h : Hp} {n0 : Nat} {d : DS} {D : Nat → DS} {B : Nat} {π0 π : Pi} {w0 w : World} {q : Q} {l : Array Bool} {a : Act} {i0 i : Nat} {o : Oper} {S : Stg}
/-! ### Stages -/
/-- No effect stands between: one stage. -/
theorem Cx.same_stage (hC : Cx P cf rf ops g r h n0 d D) {i k : Nat} (hi : i ≤ ops.size) (hk : k ≤ ops.size) (he : ∀ j, j < ops.size → IsEff D j → (j < i ↔ j < k)) : (D i).s = (D k).s := by
  rcases Nat.le_total i k with h1 | h1
  · exact (hC.tr.stage rfl h1 hk (fun j a b e => by have := (he j (by omega) e).2 b; omega)).1.symm
  · exact (hC.tr.stage rfl h1 hi (fun j a b e => by have := (he j (by omega) e).1 b; omega)).1
/-- The stage of an operation that stands behind all effects ahead of it. -/
theorem SInv.stage (hC : Cx P cf rf ops g r h n0 d D) (hI : SInv ops r h n0 d D B π0 w0 q l a w π i0) (hi : i < ops.size) (hb : ∀ j, j < i → IsEff D j → lst l j = true) (hf : ∀ j, i ≤ j → j < ops.size → IsEff D j → lst l j = false) : (D i0).s = (D i).s := by
  refine hC.same_stage hI.hi0 (by omega) fun j hj he => ?_
  rw [← hI.eff j hj he]
  constructor
  · intro hl
    rcases Nat.lt_or_ge j i with k | k
    · exact k
    · rw [hf j k hj he] at hl; cases hl
  · intro k; exact hb j k he
theorem Cx.noAl (hC : Cx P cf rf ops g r h n0 d D) (hb : (D (i + 1)).b = (D i).b) : ∀ al ∈ d.als, al.i ≠ i := by
  intro al hal e
  obtain ⟨o, v, h', _, _, _, _, _, k1, k2⟩ := hC.als hal
  subst e
  omega
theorem Cx.noGrp (hC : Cx P cf rf ops g r h n0 d D) (hi : i < ops.size) (hb : (D (i + 1)).grp = (D i).grp) : ∀ x ∈ d.grp, x.i ≠ i := by
  intro x hx e
  have hm := hC.tr.grpm (i := i + 1) (k := ops.size) (by omega) (Nat.le_refl _)
  rw [hC.tr.last] at hm
  rcases hm.2 x hx with k | k
  · rw [hb] at k
    obtain ⟨_, _, _, _, _, _, _, _, k1, _⟩ := hC.gStep i (by omega) x k
    omega
  · omega
theorem Cx.noEff (hC : Cx P cf rf ops g r h n0 d D) (hi : i < ops.size) (hs : (D (i + 1)).s = (D i).s) : ¬ IsEff D i := by
  intro e
  unfold IsEff at e
  rw [hs] at e
  exact absurd (hC.tr.elt rfl i (by omega) i e).1 (Nat.lt_irrefl _)
theorem Cx.noPn (hC : Cx P cf rf ops g r h n0 d D) (hb : (D (i + 1)).pn = (D i).pn) : ∀ p, d.pn = some p → p.2.2 ≠ i := by
  intro p hp e
  obtain ⟨_, o, _, _, k1, k2⟩ := hC.pnStep ops.size (Nat.le_refl _) p (by rw [hC.tr.last]; exact hp)
  subst e
  rw [hb, k2] at k1; cases k1
/-- A store in no order that has run: all effects have run. -/
theorem SInv.gstage (hC : Cx P cf rf ops g r h n0 d D) (hI : SInv ops r h n0 d D B π0 w0 q l a w π i0) {x : Gp} (hx : x ∈ d.grp) (hr : ∀ j, tb (mkA ops x.i) j = true → lst l j = true) : (D i0).s = (D x.i).s := by
  obtain ⟨o, t, ax, xx, j, v, x0, h1, k1, k2, k3, k4, k5, k6, _⟩ := hC.grps hx
  refine hI.stage hC k1 (fun j hj he => hr j (hC.ahead k1 k6 hj he)) ?_
  intro j hj hjn he
  exfalso
  obtain ⟨o', v', h', _, _, e1, _⟩ := hC.effStep hjn he
  have := Nat.le_of_ble_eq_true k5
  have e2 : Nat.ble g j = true := by rw [Nat.ble_eq]; omega
  rw [e1] at e2; cases e2
theorem HL_mono (hC : Cx P cf rf ops g r h n0 d D) (hil : i < l.size) (ha : ∀ al ∈ d.als, al.i ≠ i) (hg : ∀ x ∈ d.grp, x.i ≠ i) : Hle (HL d (l.setIfInBounds i true) S) (HL d l S) := by
  have hL : ∀ j, j ≠ i → lst (l.setIfInBounds i true) j = lst l j := fun j hj => by rw [lst_set hil, if_neg hj]
  intro b x e
  rcases HL_inv e with ⟨y, k1, k2, rfl, rfl⟩ | ⟨k0, ⟨al, k1, k2, k3, rfl, rfl⟩ | ⟨k1, k2⟩⟩
  · exact HL_g hC k1 (by rw [← hL _ (hg y k1)]; exact k2)
  · exact HL_al hC k1 (by rw [← hL _ (ha al k1)]; exact k2) k3 (fun y hy hl => k0 y hy (by rw [hL _ (hg y hy)]; exact hl))
  · rw [HL_s (fun y hy hl => k0 y hy (by rw [hL _ (hg y hy)]; exact hl)) (fun al hal h1 h2 => k1 al hal (by rw [hL _ (ha al hal)]; exact h1) h2)]
    exact k2
/-- An operation that turns nothing. -/
theorem SInv.same (hC : Cx P cf rf ops g r h n0 d D) (hI : SInv ops r h n0 d D B π0 w0 q l a w π i0) (h0 : HRel π0 B h w0) (hdst : dstOk q.sz ops.toList = true) (ho : ops[i]? = some o) (_hLi : lst l i = false) (hrdy : ∀ j, tb (mkA ops i) j = true → lst l j = true) {π' : Pi} {w' : World} {cv : Value} {v : AV}
    (hr : (D (i + 1)).r = putD o.dst v (D i).r) (hs : (D (i + 1)).s = (D i).s) (hb : (D (i + 1)).b = (D i).b) (hp : (D (i + 1)).pn = (D i).pn) (hg : (D (i + 1)).grp = (D i).grp) (hv : VR π' v cv) (hst : Step B π (HL d l (D i0).s) w π' (HL d l (D i0).s) w') :
    SInv ops r h n0 d D B π0 w0 q (l.setIfInBounds i true) (a.put o.dst cv) w' π' i0 := by
  have hi := Cx.lt_of ho
  have hil : i < l.size := by rw [hI.ln]; exact hi
  have nal := hC.noAl hb
  have ngr := hC.noGrp hi hg
  refine hI.adv hC hdst ho hrdy hr hv hst.ext i0 hI.hi0 ?_ ((Step.trans h0 hI.st hst).less (HL_mono hC hil nal ngr) (by rw [HL_nx, HL_nx]; exact Nat.le_refl _)) ?_ ?_ hI.freshS hI.nx (hC.noPn hp) (fun al hal e => absurd e (nal al hal))
  · intro j hj he
    have hne : j ≠ i := fun e => hC.noEff hi hs (e ▸ he)
    rw [lst_set hil, if_neg hne]; exact hI.eff j hj he
  · intro j hj
    rw [lst_set hil]; split
    · rfl
    · exact hI.cm j hj
  · intro al hal hl hne
    cases hp' : π' al.b with
    | none => rfl
    | some p =>
      have := (hst.new al.b p hp' (hI.fresh al hal hl)).1
      rw [HL_nx] at this
      have := hI.nx
      have := (hC.al_lt hal).1
      omega
/-- What is ahead of an operation is a part of what is known. -/
theorem SInv.part (hC : Cx P cf rf ops g r h n0 d D) (hI : SInv ops r h n0 d D B π0 w0 q l a w π i0) (hrdy : ∀ j, tb (mkA ops i) j = true → lst l j = true) (hng : ∀ x ∈ d.grp, lst l x.i = false) : Hle (lay (selM (mkA ops i) (D i0).s.cm) d.als (D i0).s.h) (HL d l (D i0).s) := by
  have hng' : ∀ (b : Nat), ∀ x ∈ d.grp, lst l x.i = true → x.b ≠ b := fun b x hx hl => by rw [hng x hx] at hl; cases hl
  intro b x e
  rcases lay_inv e with ⟨al, k1, k2, rfl, rfl⟩ | ⟨k1, k2⟩
  · have := selM_iff.1 k2
    exact HL_al hC k1 (hrdy _ this.1) this.2 (hng' _)
  · rw [HL_s (hng' _) ?_]
    · exact k2
    · intro al hal hl hc e
      subst e
      rw [hI.freshS al hal hc] at k2; cases k2
end
end Go.Proofs.YthfenjgelbkloaaGreatDoor.Ev

namespace Go.Proofs.YthfenjgelbkloaaGreatDoor.Ev
open Go Go.RowKit

section
variable {P : Program} {cf : CallF} {rf : RndF} {ops : Array Oper} {g : Nat} {r : T AV} {h : Hp} {n0 : Nat} {d : DS} {D : Nat → DS} {B : Nat} {π0 π : Pi} {w0 w : World} {q : Q} {l : Array Bool} {a : Act} {i0 i : Nat} {o : Oper} {ro : Option Nat} {m : Nat} {K : Act → World → Prop} {Q' : Exit → Act → World → Prop}
theorem tkOk_spec (hC : Cx P cf rf ops g r h n0 d D) {t : Tk} {i0 : Nat} (h1 : ∀ j, j < ops.size → IsEff D j → i0 ≤ j → tb t.m j = false) (h2 : ∀ j, j < ops.size → IsEff D j → j < i0 → tb (mkA ops j) t.i = false) :
    ∀ k, i0 ≤ k → k ≤ ops.size → tkOk P (mkA ops) d.als t (D k).s (D k).st = true → tkAt P d.als t (D i0).s = true := by
  intro k
  induction k with
  | zero =>
    intro hk _ e
    have : i0 = 0 := by omega
    subst this
    rw [hC.tr.first] at e ⊢
    exact e
  | succ k ih =>
    intro hk hkn e
    have ho : ops[k]? = some ops[k] := Array.getElem?_eq_getElem (by omega)
    rcases (hC.tr.step k _ ho).stg with ⟨e1, e2⟩ | ⟨e1, e2⟩
    · by_cases hik : i0 = k + 1
      · -- the stage of i0 = k + 1 is k's own
        rw [hik, e1]
        rw [e1, e2] at e
        -- its last effect is behind i0
        cases hst : (D k).st with
        | nil => rw [hst] at e; exact e
        | cons s' l' =>
          rw [hst] at e
          unfold tkOk at e
          split at e
          · rename_i ef hef
            obtain ⟨f1, f2, f3⟩ := hC.tr.elt rfl k (by omega) ef hef
            obtain ⟨g1, _⟩ := beq_and e
            rw [h2 ef (by omega) f2 (by omega)] at g1
            simpa using g1
          · cases e
      · exact ih (by omega) (by omega) (by rw [← e1, ← e2]; exact e)
    · rw [e2] at e
      unfold tkOk at e
      rw [e1] at e
      simp only at e
      obtain ⟨g1, g2⟩ := beq_and e
      by_cases hik : i0 = k + 1
      · rw [hik]
        rw [h2 k (by omega) e1 (by omega)] at g1
        simpa using g1
      · rw [h1 k (by omega) e1 (by omega)] at g2
        exact ih (by omega) (by omega) (by simpa using g2)
/-- A read tells what it told. -/
theorem SInv.read_at (hC : Cx P cf rf ops g r h n0 d D) (hI : SInv ops r h n0 d D B π0 w0 q l a w π i0) (ho : ops[i]? = some o) (hLi : lst l i = false) (hrdy : ∀ j, tb (mkA ops i) j = true → lst l j = true) (hc : cls P o.op = 1) {v : AV} {h' : Hp}
    (e : opA P (D i).r o (lay (selM (mkA ops i) (D i).s.cm) (D i).als (D i).s.h) = .val v h') (ht : (⟨i, mkA ops i, o, (D i).r, v⟩ : Tk) ∈ d.tks) : ∃ h2, opA P (D i).r o (lay (selM (mkA ops i) (D i0).s.cm) d.als (D i0).s.h) = .val v h2 := by
  have hi := Cx.lt_of ho
  have hbk : ∀ j, i ≤ j → ∀ cm, selM (mkA ops i) cm j = false := by
    intro j hj cm
    cases hs : selM (mkA ops i) cm j with
    | false => rfl
    | true => have := mk_lt hC.st.back i j (selM_iff.1 hs).1; omega
  rcases hC.rds with hs | hs
  · obtain ⟨_, _, s3, s4⟩ := seqOk_spec hs
    have hst : (D i0).s = (D i).s := by
      refine hI.stage hC hi ?_ ?_
      · intro j hj he
        obtain ⟨oj, _, _, hoj, hcj, _⟩ := hC.effStep (by omega) he
        have := s4 j i (oj, mkA ops j) (o, mkA ops i) hj (by rw [plan_get, hoj]; rfl) (by rw [plan_get, ho]; rfl) hcj hc
        rw [Nat.zero_add] at this
        exact hrdy j this
      · intro j hj hjn he
        obtain ⟨oj, _, _, hoj, hcj, _⟩ := hC.effStep hjn he
        cases hl : lst l j with
        | false => rfl
        | true =>
          have hne : j ≠ i := by intro e; subst e; rw [ho] at hoj; cases hoj; omega
          have := s3 i j (o, mkA ops i) (oj, mkA ops j) (by omega) (by rw [plan_get, ho]; rfl) (by rw [plan_get, hoj]; rfl) hc hcj
          rw [Nat.zero_add] at this
          rw [hI.down j hl i this] at hLi; cases hLi
    rw [hst]
    refine ⟨_, ((cls1 (r := (D i).r) hc) _ v h' e).2 _ ?_⟩
    intro b x hb
    rw [← hC.lay_eq (by omega) (fun j hj => hbk j hj _)]
    exact hb
  · have hall := List.all_eq_true.1 hs _ ht
    have hat := tkOk_spec hC (t := ⟨i, mkA ops i, o, (D i).r, v⟩) (i0 := i0) ?_ ?_ ops.size hI.hi0 (Nat.le_refl _) (by rw [hC.tr.last]; exact hall)
    · unfold tkAt at hat
      simp only at hat
      split at hat
      · rename_i v' h2 he
        exact ⟨h2, by rw [← AV.beq_eq _ _ hat]; exact he⟩
      · cases hat
    · intro j hj he hij
      cases ht : tb (mkA ops i) j with
      | false => rfl
      | true => have := (hI.eff j hj he).1 (hrdy j ht); omega
    · intro j hj he hij
      cases ht : tb (mkA ops j) i with
      | false => rfl
      | true => rw [hI.down j ((hI.eff j hj he).2 hij) i ht] at hLi; cases hLi
theorem step_sound (hO : OpsOk P) (hcf : CfOk P cf) (hrf : RfOk P rf) (hC : Cx P cf rf ops g r h n0 d D) (hI : SInv ops r h n0 d D B π0 w0 q l a w π i0) (h0 : HRel π0 B h w0) (hdst : dstOk q.sz ops.toList = true) (hrd : i ∈ Region.ready .any ops l)
    (hK : ∀ a' w' π' i0', SInv ops r h n0 d D B π0 w0 q (l.setIfInBounds i true) a' w' π' i0' → K a' w')
    (hQ : ∀ p chain w' π', d.pn = some p → PRs π' p.1 chain → PExt π π' → Step B π0 h w0 π' p.2.1 w' → Q' (.panic chain) a w') : wpOpIn (Fw ro) m P ops Q' i K a w := by
  obtain ⟨hun, o, ho, hall⟩ := mem_ready.1 hrd
  have hi := Cx.lt_of ho
  have hil : i < l.size := by rw [hI.ln]; exact hi
  have hLi : lst l i = false := by unfold lst; rw [Array.getD_eq_getD_getElem?] at hun ⊢; simpa [Array.getElem?_eq_getElem hil] using hun
  have hrdy : ∀ j, tb (mkA ops i) j = true → lst l j = true := ready_all hC.st.back hI.down ho fun e he hb => hall e (by simpa using he) hb
  have hlook := hI.look hC ho hLi hrdy
  have hcg : ∀ H, opA P (restr (D i).r (o.looksAt ops)) o H = opA P (D i).r o H := fun H => (opA_congr (restr_agree _ _)).symm
  have hwant : ∀ b, wantA ops (D i).r o = some b → Region.wanted o (yielded ops a.tmps) = b := fun b hb => wantA_sound hlook (by rw [wantA_restr]; exact hb)
  -- an operation that comes to a value over a part of the heap
  have goV : ∀ (Hin : Hp) (v : AV) (H' : Hp), HRel π B Hin w → opE cf rf (opA P (D i).r o Hin) = .val v H' → (∀ π' cv w', VR π' v cv → Step B π Hin w π' H' w' → K (a.put o.dst cv) w') → o.wpIn (Fw ro) m P a w K Q' := by
    intro Hin v H' hR he hk
    refine opE_wp hO hcf hrf hR hlook (fun dd hd => by rw [hcg, he] at hd; cases hd) ?_
    rw [hcg, he]
    exact hk
  unfold wpOpIn
  simp only [ho]
  have hS := hC.tr.step i o ho
  generalize hs' : D (i + 1) = s' at hS
  generalize hs0 : D i = s at hS
  have noskip : behindPan s.pn (mkA ops i) ≠ true := by
    intro e
    unfold behindPan at e
    cases hp : s.pn with
    | none => rw [hp] at e; cases e
    | some p =>
      rw [hp] at e
      have e : tb (mkA ops i) p.2.2 = true := e
      have h1 := hC.tr.pnm (i := i) (k := ops.size) (by omega) (Nat.le_refl _) p (by rw [hs0, hp])
      rw [hC.tr.last] at h1
      have := hrdy _ e
      rw [hI.pn p h1] at this; cases this
  cases hS with
  | skip e => exact absurd e noskip
  | unw hw =>
    rw [hwant false (by rw [hs0]; exact hw), if_neg (by simp)]
    refine ⟨about_Fw, hK _ _ π i0 (hI.same hC h0 hdst ho hLi hrdy (v := undA) (cv := undef) ?_ ?_ ?_ ?_ ?_ undA_R (.refl hI.st.rel))⟩ <;> simp only [hs', hs0]
  | pure hw hc v h' e =>
    rw [hwant true (by rw [hs0]; exact hw), if_pos rfl]
    have e2 : opA P s.r o (HL d l (D i0).s) = .val v (HL d l (D i0).s) := (cls0 hc _ v h' e).2 _
    refine goV (HL d l (D i0).s) v (HL d l (D i0).s) hI.st.rel (by rw [hs0, e2]; rfl) ?_
    intro π' cv w' hv hst
    refine hK _ _ π' i0 (hI.same hC h0 hdst ho hLi hrdy (v := v) ?_ ?_ ?_ ?_ ?_ hv hst) <;> simp only [hs', hs0]
  | read hw hc v h' e =>
    rw [hwant true (by rw [hs0]; exact hw), if_pos rfl]
    have htk : (⟨i, mkA ops i, o, (D i).r, v⟩ : Tk) ∈ d.tks := by
      rw [← hC.tr.last]
      refine hC.tr.tksm (i := i + 1) (by omega) (Nat.le_refl _) _ ?_
      rw [hs', hs0]; simp
    obtain ⟨h2, e2⟩ := hI.read_at hC ho hLi hrdy hc (by rw [hs0]; exact e) htk
    have hng : ∀ x ∈ d.grp, lst l x.i = false := by
      intro x hx
      cases hl : lst l x.i with
      | false => rfl
      | true =>
        have := (hC.gok hx).1 _ htk
        obtain ⟨_, _, _, _, _, _, _, _, _, _, _, hm, _⟩ := hC.grps hx
        rw [hm] at this
        rw [hI.down _ hl _ this] at hLi; cases hLi
    have e3 : opA P (D i).r o (HL d l (D i0).s) = .val v (HL d l (D i0).s) := ((cls1 (r := (D i).r) hc) _ v h2 e2).2 _ (hI.part hC hrdy hng)
    refine goV (HL d l (D i0).s) v (HL d l (D i0).s) hI.st.rel (by rw [e3]; rfl) ?_
    intro π' cv w' hv hst
    refine hK _ _ π' i0 (hI.same hC h0 hdst ho hLi hrdy (v := v) ?_ ?_ ?_ ?_ ?_ hv hst) <;> simp only [hs', hs0]
  | alloc hw hc v h' x e hx =>
    rw [hwant true (by rw [hs0]; exact hw), if_pos rfl]
    have hal : (⟨i, s.b, x⟩ : Al) ∈ d.als := by
      rw [← hC.tr.last]
      refine (hC.tr.alsm (i := i + 1) (by omega) (Nat.le_refl _)).1 _ ?_
      rw [hs']; simp
    rw [← hs0] at e
    rw [← hcg] at e
    obtain ⟨x', sm, k1, k2, k3⟩ := cls2 hc hI.st.rel hlook e
    rw [hs0] at k1 k3
    have hxx : x' = x := by
      rw [k1, Hp.get_new, if_pos rfl] at hx
      simpa using hx
    subst hxx
    obtain ⟨ob, z, cv, r1, r2, r3, r4, r5⟩ := k3
    have hfr := hI.fresh _ hal hLi
    have hlt := hC.al_lt hal
    have hdf : ∀ c, o.op ≠ .defer c := by intro c hcc; rw [hcc] at hc; exact absurd (show (3 : Nat) = 2 from hc) (by decide)
    refine ⟨about_Fw, ?_⟩
    show o.uponIn (Fw ro) m P a K Q' ((o.semAt ro a.eval).run P w)
    rw [Oper.semAt_eq ro _ o hdf, k2, Sem.run_bind, r1, Result.andThen_ok]
    show K (a.put o.dst cv) (w.alloc ob)
    have ngr := hC.noGrp hi (by rw [hs', hs0])
    have hst := (D i0).s
    refine hK _ _ (piNew π s.b w.heap.size z) i0 (hI.adv hC hdst ho hrdy (v := v) (by rw [hs', hs0]) (r5 _ (piNew_ext' hfr _ _) (by simp [piNew])) (piNew_ext' hfr _ _) i0 hI.hi0 ?_ ?_ ?_ ?_ hI.freshS hI.nx (hC.noPn (by rw [hs', hs0])) ?_)
    · intro j hj he
      have hne : j ≠ i := fun e => hC.noEff hi (by rw [hs', hs0]) (e ▸ he)
      rw [lst_set hil, if_neg hne]; exact hI.eff j hj he
    · refine hI.st.addBlock hfr hlt.2 (by rw [HL_nx]; exact Nat.lt_of_lt_of_le hlt.1 hI.nx) r2 (by rw [HL_nx, HL_nx]) ?_
      have hL : ∀ j, j ≠ i → lst (l.setIfInBounds i true) j = lst l j := fun j hj => by rw [lst_set hil, if_neg hj]
      have hLt : lst (l.setIfInBounds i true) i = true := by rw [lst_set hil, if_pos rfl]
      have hcmi : tb (D i0).s.cm i = false := by
        cases ht : tb (D i0).s.cm i with
        | false => rfl
        | true => rw [hI.cm i ht] at hLi; cases hLi
      intro c y hy
      rcases HL_inv hy with ⟨y1, k1, k2, rfl, rfl⟩ | ⟨k0, ⟨al, k1, k2, k3, rfl, rfl⟩ | ⟨k1, k2⟩⟩
      · have hl1 : lst l y1.i = true := by rw [← hL _ (ngr y1 k1)]; exact k2
        refine .inr ⟨?_, HL_g hC k1 hl1⟩
        intro ebb
        obtain ⟨_, _, _, _, _, _, x0, _, _, _, _, _, _, _, _, _, _, q0, _⟩ := hC.grps k1
        rw [← hI.gstage hC k1 (fun j hj => hI.down _ hl1 j hj), ebb] at q0
        rw [hI.freshS _ hal hcmi] at q0; cases q0
      · by_cases e : al.i = i
        · have := hC.al_idx k1 hal e
          subst this
          exact .inl ⟨rfl, rfl⟩
        · refine .inr ⟨fun eb => e (by rw [hC.al_uniq k1 hal eb]), HL_al hC k1 (by rw [← hL _ e]; exact k2) k3 (fun y hy hl => k0 y hy (by rw [hL _ (ngr y hy)]; exact hl))⟩
      · refine .inr ⟨fun eb => k1 _ hal hLt hcmi eb.symm, ?_⟩
        rw [HL_s (fun y hy hl => k0 y hy (by rw [hL _ (ngr y hy)]; exact hl)) (fun al hal' h1 h2 => k1 al hal' (by rw [lst_set hil]; split; rfl; exact h1) h2)]
        exact k2
    · intro j hj
      rw [lst_set hil]; split
      · rfl
      · exact hI.cm j hj
    · intro al hal' hl hne
      have hb : al.b ≠ s.b := fun eb => hne (by rw [hC.al_uniq hal' hal eb])
      unfold piNew
      rw [if_neg hb]; exact hI.fresh al hal' hl
    · intro al hal' hia
      have := hC.al_idx hal' hal hia
      subst this
      exact ⟨r3, r4⟩
  | eff hw hc hg hch v h' e =>
    rw [hwant true (by rw [hs0]; exact hw), if_pos rfl]
    have hie : IsEff D i := by unfold IsEff; rw [hs']
    have behind : ∀ j, i < j → j < ops.size → IsEff D j → lst l j = false := by
      intro j hj hjn he
      cases hl : lst l j with
      | false => rfl
      | true =>
        obtain ⟨_, _, _, _, _, _, hch', _⟩ := hC.effStep hjn he
        rw [hI.down j hl i (hC.ahead hjn hch' hj hie)] at hLi; cases hLi
    have hst : (D i0).s = (D i).s := by
      refine hI.stage hC hi (fun j hj he => hrdy j (hC.ahead hi (by rw [hs0]; exact hch) hj he)) ?_
      intro j hj hjn he
      by_cases hji : j = i
      · subst hji; exact hLi
      · exact behind j (by omega) hjn he
    have hng : ∀ x ∈ d.grp, lst l x.i = false := by
      intro x hx
      cases hl : lst l x.i with
      | false => rfl
      | true =>
        obtain ⟨_, _, _, _, _, _, _, _, q1, _, _, _, q5, q6, _⟩ := hC.grps hx
        have hlt : i < x.i := by
          rcases Nat.lt_or_ge i x.i with k | k
          · exact k
          · have a1 := Nat.le_of_ble_eq_true q5
            have a2 : Nat.ble g i = true := by rw [Nat.ble_eq]; omega
            rw [hg] at a2; cases a2
        rw [hI.down _ hl i (hC.ahead q1 q6 hlt hie)] at hLi; cases hLi
    have hbk : ∀ j, i ≤ j → ∀ cm, selM (mkA ops i) cm j = false := by
      intro j hj cm
      cases hs : selM (mkA ops i) cm j with
      | false => rfl
      | true => have := mk_lt hC.st.back i j (selM_iff.1 hs).1; omega
    have hpart := hI.part hC hrdy hng
    rw [hst, hs0] at hpart
    have hle : Hle (lay (selM (mkA ops i) s.s.cm) s.als s.s.h) (HL d l (D i0).s) := by
      rw [hst, hs0]
      intro b x hb
      refine hpart b x ?_
      rw [← hC.lay_eq (by omega) (fun j hj => hbk j hj _), hs0]
      exact hb
    have hnx : (lay (selM (mkA ops i) s.s.cm) s.als s.s.h).nx = (HL d l (D i0).s).nx := by rw [HL_nx, lay_nx, hst, hs0]
    have hRin := hI.st.rel.less hle (by rw [hnx]; exact Nat.le_refl _)
    refine goV _ v h' hRin (by rw [hs0]; exact e) ?_
    intro π' cv w' hv hstep
    have hst' : (D (i + 1)).s = ⟨some i, Nat.lor s.s.cm (mkA ops i), h'⟩ := by rw [hs']
    have nal := hC.noAl (i := i) (by rw [hs', hs0])
    have ngr := hC.noGrp hi (by rw [hs', hs0])
    have hL : ∀ j, j ≠ i → lst (l.setIfInBounds i true) j = lst l j := fun j hj => by rw [lst_set hil, if_neg hj]
    have hn0 : n0 ≤ (lay (selM (mkA ops i) s.s.cm) s.als s.s.h).nx := by rw [lay_nx]; have := hI.nx; rw [hst, hs0] at this; exact this
    have hcmS : (D i0).s.cm = s.s.cm := by rw [hst, hs0]
    -- a block that is not ahead of i is not known to it
    have notin : ∀ al ∈ d.als, tb s.s.cm al.i = false → tb (mkA ops i) al.i = false → (lay (selM (mkA ops i) s.s.cm) s.als s.s.h).get al.b = none := by
      intro al hal hc1 hc2
      rw [lay_out, ← hs0, ← hst]
      · exact hI.freshS al hal (by rw [hcmS]; exact hc1)
      · intro b hb hsel eb
        have hbd : b ∈ d.als := by
          rw [← hC.tr.last]
          exact (hC.tr.alsm (i := i) (by omega) (Nat.le_refl _)).1 _ (by rw [hs0]; exact hb)
        have := hC.al_uniq hbd hal eb
        subst this
        rw [(selM_iff.1 hsel).1] at hc2; cases hc2
    refine hK _ _ π' (i + 1) (hI.adv hC hdst ho hrdy (v := v) (by rw [hs', hs0]) hv hstep.ext (i + 1) (by omega) ?_ ?_ ?_ ?_ ?_ ?_ (hC.noPn (by rw [hs', hs0])) (fun al hal e => absurd e (nal al hal)))
    · intro j hj he
      rw [lst_set hil]
      by_cases hji : j = i
      · subst hji; simp
      · rw [if_neg hji]
        rcases Nat.lt_or_ge j i with k | k
        · have := hrdy j (hC.ahead hi (by rw [hs0]; exact hch) k he)
          rw [this]; simp; omega
        · rw [behind j (by omega) hj he]; simp; omega
    · refine Step.merge h0 hI.st hle hnx hstep (by rw [HL_nx, hst']) ?_
      intro c y hy
      rw [hst'] at hy
      rcases HL_inv hy with ⟨y1, k1, k2, rfl, rfl⟩ | ⟨k0, ⟨al, k1, k2, k3, rfl, rfl⟩ | ⟨k1, k2⟩⟩
      · rw [hL _ (ngr y1 k1), hng y1 k1] at k2; cases k2
      · right
        have k3 : tb (Nat.lor s.s.cm (mkA ops i)) al.i = false := k3
        rw [tb_lor, Bool.or_eq_false_iff] at k3
        have hl1 : lst l al.i = true := by rw [← hL _ (nal al k1)]; exact k2
        have hx := hI.alx al k1 hl1
        exact ⟨HL_al hC k1 hl1 (by rw [hcmS]; exact k3.1) (fun y hy hl => by rw [hng y hy] at hl; cases hl), notin al k1 k3.1 k3.2, hx.1, hx.2⟩
      · exact .inl k2
    · intro j hj
      rw [hst'] at hj
      have hj : tb (Nat.lor s.s.cm (mkA ops i)) j = true := hj
      rw [tb_lor, Bool.or_eq_true] at hj
      rw [lst_set hil]
      split
      · rfl
      · rcases hj with hj | hj
        · exact hI.cm j (by rw [hcmS]; exact hj)
        · exact hrdy j hj
    · intro al hal hl hne
      cases hp' : π' al.b with
      | none => rfl
      | some p =>
        have := (hstep.new al.b p hp' (hI.fresh al hal hl)).1
        have := (hC.al_lt hal).1
        omega
    · intro al hal hcm
      rw [hst'] at hcm ⊢
      have hcm : tb (Nat.lor s.s.cm (mkA ops i)) al.i = false := hcm
      rw [tb_lor, Bool.or_eq_false_iff] at hcm
      show h'.get al.b = none
      cases hg' : h'.get al.b with
      | none => rfl
      | some y =>
        rcases hstep.old al.b y hg' with ⟨y', hy', _⟩ | hge
        · rw [notin al hal hcm.1 hcm.2] at hy'; cases hy'
        · have := (hC.al_lt hal).1
          omega
    · rw [hst']
      exact Nat.le_trans hn0 hstep.nx
  | pan hw hc hg hch ch h' e =>
    rw [hwant true (by rw [hs0]; exact hw), if_pos rfl]
    have hdp : d.pn = some (ch, h', i) := by
      rw [← hC.tr.last]
      exact hC.tr.pnm (i := i + 1) (by omega) (Nat.le_refl _) _ (by rw [hs'])
    have nopn : ∀ j, i < j → j ≤ ops.size → (D j).pn = some (ch, h', i) := fun j h1 h2 => hC.tr.pnm (i := i + 1) (by omega) h2 _ (by rw [hs'])
    have hst : (D i0).s = (D i).s := by
      refine hI.stage hC hi (fun j hj he => hrdy j (hC.ahead hi (by rw [hs0]; exact hch) hj he)) ?_
      intro j hj hjn he
      exfalso
      by_cases hji : j = i
      · subst hji; exact hC.noEff hi (by rw [hs', hs0]) he
      · obtain ⟨_, _, _, _, _, _, hch', _⟩ := hC.effStep hjn he
        unfold inChain at hch'
        rw [nopn j (by omega) (by omega), both_eq, Bool.and_eq_true] at hch'
        cases hch'.2
    have hng : ∀ x ∈ d.grp, lst l x.i = false := by
      intro x hx
      exfalso
      obtain ⟨_, _, _, _, _, _, _, _, q1, _, _, _, q5, q6, _⟩ := hC.grps hx
      have hlt : i < x.i := by
        rcases Nat.lt_or_ge i x.i with k | k
        · exact k
        · have a1 := Nat.le_of_ble_eq_true q5
          have a2 : Nat.ble g i = true := by rw [Nat.ble_eq]; omega
          rw [hg] at a2; cases a2
      unfold inChain at q6
      rw [nopn x.i hlt (by omega), both_eq, Bool.and_eq_true] at q6
      cases q6.2
    have hbk : ∀ j, i ≤ j → ∀ cm, selM (mkA ops i) cm j = false := by
      intro j hj cm
      cases hs : selM (mkA ops i) cm j with
      | false => rfl
      | true => have := mk_lt hC.st.back i j (selM_iff.1 hs).1; omega
    have hpart := hI.part hC hrdy hng
    rw [hst, hs0] at hpart
    have hle : Hle (lay (selM (mkA ops i) s.s.cm) s.als s.s.h) (HL d l (D i0).s) := by
      rw [hst, hs0]
      intro b x hb
      refine hpart b x ?_
      rw [← hC.lay_eq (by omega) (fun j hj => hbk j hj _), hs0]
      exact hb
    have hnx : (lay (selM (mkA ops i) s.s.cm) s.als s.s.h).nx = (HL d l (D i0).s).nx := by rw [HL_nx, lay_nx, hst, hs0]
    have hsl := hI.st.less hle (by rw [hnx]; exact Nat.le_refl _)
    refine opE_wp hO hcf hrf hsl.rel hlook (fun dd hd => by rw [hcg, hs0, e] at hd; cases hd) ?_
    rw [hcg, hs0, e]
    intro π' chain w' hv hstep
    exact hQ _ chain w' π' hdp hv hstep.ext (Step.trans h0 hsl hstep)
  | flt hw hc hg hch t ax xx c j v x0 x1 h1 hop ea ex e0 hk hf es e1 =>
    rw [hwant true (by rw [hs0]; exact hw), if_pos rfl]
    have hgm : (⟨i, mkA ops i, c, x1⟩ : Gp) ∈ d.grp := by
      rw [← hC.tr.last]
      refine (hC.tr.grpm (i := i + 1) (by omega) (Nat.le_refl _)).1 _ ?_
      rw [hs']; simp
    have hst : (D i0).s = (D i).s := hI.gstage hC hgm hrdy
    have hL : ∀ j, j ≠ i → lst (l.setIfInBounds i true) j = lst l j := fun j hj => by rw [lst_set hil, if_neg hj]
    have hLt : lst (l.setIfInBounds i true) i = true := by rw [lst_set hil, if_pos rfl]
    have hSc : (D i0).s.h.get c = some x0 := by rw [hst, hs0]; exact e0
    have hcg' : ∀ y ∈ d.grp, lst l y.i = true → y.b ≠ c := by
      intro y hy hl eb
      have := hC.g_uniq hy hgm eb
      subst this
      rw [hLi] at hl; cases hl
    have hca : ∀ al ∈ d.als, tb (D i0).s.cm al.i = false → al.b ≠ c := by
      intro al hal hcm eb
      rw [← eb, hI.freshS al hal hcm] at hSc; cases hSc
    have hHc : (HL d l (D i0).s).get c = some x0 := by
      rw [HL_s hcg' (fun al hal _ h2 => hca al hal h2)]
      exact hSc
    have hsib := stores_sib (store_stores es) e0 e1
    have hk2 : noKill j (HL d l (D i0).s) x0.sibs = true := by
      refine noKill_of (h := s.s.h) ?_ hk
      intro sb hsb y hy
      rw [← hsib] at hsb
      rcases HL_inv hy with ⟨y1, k1, k2, k3, k4⟩ | ⟨k0, ⟨al, k1, k2, k3, k4, k5⟩ | ⟨k1, k2⟩⟩
      · exfalso
        rcases Nat.lt_trichotomy y1.i i with k | k | k
        · exact (hC.g_free k1 hgm k).2.1 sb hsb k3.symm
        · rw [k, hLi] at k2; cases k2
        · exact (hC.g_free hgm k1 k).2.2 sb hsb k3.symm
      · exact absurd k4.symm ((hC.gok hgm).2 al k1 sb hsb)
      · rw [hst, hs0] at k2; exact k2
    obtain ⟨H2, f1, f2, f3⟩ := store_at es e0 hk e1 hHc hk2
    have hopA : opA P (D i).r o (HL d l (D i0).s) = .val undA H2 := by
      have hA : ∀ op', o.op = op' → opA P (D i).r o (HL d l (D i0).s) = opA P (D i).r { o with op := op' } (HL d l (D i0).s) := fun op' e => by subst e; rfl
      rw [hA _ hop]
      show opStore t ax xx P (D i).r (HL d l (D i0).s) = _
      unfold opStore
      rw [hs0, ea, oo_some, ex, oo_some, f1, oo_some]
    refine goV (HL d l (D i0).s) undA H2 hI.st.rel (by rw [hopA]; rfl) ?_
    intro π' cv w' hv hstep
    have nal := hC.noAl (i := i) (by rw [hs', hs0])
    refine hK _ _ π' i0 (hI.adv hC hdst ho hrdy (v := undA) (by rw [hs', hs0]) hv hstep.ext i0 hI.hi0 ?_ ((Step.trans h0 hI.st hstep).less ?_ (by rw [f2, HL_nx, HL_nx]; exact Nat.le_refl _)) ?_ ?_ hI.freshS hI.nx (hC.noPn (by rw [hs', hs0])) (fun al hal e => absurd e (nal al hal)))
    · intro k hk' he
      have hne : k ≠ i := fun e => hC.noEff hi (by rw [hs', hs0]) (e ▸ he)
      rw [lst_set hil, if_neg hne]; exact hI.eff k hk' he
    · intro b y hy
      rw [f3]
      rcases HL_inv hy with ⟨y1, k1, k2, rfl, rfl⟩ | ⟨k0, ⟨al, k1, k2, k3, rfl, rfl⟩ | ⟨k1, k2⟩⟩
      · by_cases e : y1.i = i
        · have := hC.g_idx k1 hgm e
          subst this
          rw [if_pos rfl]
        · have hl1 : lst l y1.i = true := by rw [← hL _ e]; exact k2
          rw [if_neg (hcg' y1 k1 hl1)]
          exact HL_g hC k1 hl1
      · rw [if_neg (hca al k1 k3)]
        exact HL_al hC k1 (by rw [← hL _ (nal al k1)]; exact k2) k3 (fun y hy hl => k0 y hy (by rw [lst_set hil]; split; rfl; exact hl))
      · rw [if_neg (fun eb => k0 _ hgm hLt eb.symm)]
        rw [HL_s (fun y hy hl => k0 y hy (by rw [lst_set hil]; split; rfl; exact hl)) (fun al hal' h1 h2 => k1 al hal' (by rw [lst_set hil]; split; rfl; exact h1) h2)]
        exact k2
    · intro k hk'
      rw [lst_set hil]; split
      · rfl
      · exact hI.cm k hk'
    · intro al hal hl hne
      cases hp' : π' al.b with
      | none => rfl
      | some p =>
        have := (hstep.new al.b p hp' (hI.fresh al hal hl)).1
        rw [HL_nx] at this
        have := hI.nx
        have := (hC.al_lt hal).1
        omega
end
end Go.Proofs.YthfenjgelbkloaaGreatDoor.Ev

namespace Go.Proofs.YthfenjgelbkloaaGreatDoor.Ev
open Go Go.RowKit

section
variable {P : Program} {cf : CallF} {rf : RndF} {ops : Array Oper} {g : Nat} {r : T AV} {h : Hp} {n0 : Nat} {d : DS} {D : Nat → DS} {B : Nat} {π0 π : Pi} {w0 w : World} {q : Q} {l : Array Bool} {a : Act} {i0 i : Nat} {o : Oper} {ro : Option Nat} {m : Nat} {K : Act → World → Prop} {Q' : Exit → Act → World → Prop}
theorem selF_iff {cm j : Nat} : selF cm j = true ↔ tb cm j = false := by
  unfold selF
  cases tb cm j with
  | false => rw [ob_false]; simp
  | true => rw [ob_true]; simp
theorem SInv.done (hC : Cx P cf rf ops g r h n0 d D) (hI : SInv ops r h n0 d D B π0 w0 q l a w π i0) (hall : ∀ j, j < ops.size → lst l j = true) :
    d.pn = none ∧ St π q d.r a ∧ Step B π0 h w0 π (layG d.grp (lay (selF d.s.cm) d.als d.s.h)) w := by
  have hs : d.s = (D i0).s := by
    rw [← hC.tr.last]
    exact (hC.tr.stage rfl hI.hi0 (Nat.le_refl _) (fun j h1 h2 he => by have := (hI.eff j h2 he).1 (hall j h2); omega)).1
  refine ⟨?_, ⟨?_, hI.asz, hI.adf⟩, hI.st.less ?_ ?_⟩
  · cases hp : d.pn with
    | none => rfl
    | some p =>
      obtain ⟨h1, _⟩ := hC.pnStep ops.size (Nat.le_refl _) p (by rw [hC.tr.last]; exact hp)
      have := hI.pn p hp
      rw [hall _ h1] at this; cases this
  · intro t v hv
    refine hI.reg t v ?_
    by_cases hex : ∃ (j : Nat) (oj : Oper), ops[j]? = some oj ∧ oj.dst = some t
    · obtain ⟨j, oj, h1, h2⟩ := hex
      exact .inl ⟨⟨j, oj, h1, h2, hall j (Cx.lt_of h1)⟩, hv⟩
    · refine .inr ⟨fun j oj h1 h2 => absurd ⟨j, oj, h1, h2⟩ hex, ?_⟩
      rw [← hC.tr.last, hC.tr.reg (Nat.zero_le _) (Nat.le_refl _) (fun j oj _ _ h1 h2 => hex ⟨j, oj, h1, h2⟩), hC.tr.first] at hv
      exact hv
  · intro b x e
    rw [layG_eq] at e
    rcases layg_inv e with ⟨y, k1, k2, rfl, rfl⟩ | ⟨k0, k1⟩
    · obtain ⟨_, _, _, _, _, _, _, _, k3, _⟩ := hC.grps k1
      exact HL_g hC k1 (hall _ k3)
    · have hg : ∀ (b' : Nat), b' = b → ∀ y ∈ d.grp, lst l y.i = true → y.b ≠ b' := fun b' e y hy _ => by rw [e]; exact k0 y hy rfl
      rcases lay_inv k1 with ⟨al, k2, k3, k4, rfl⟩ | ⟨k2, k3⟩
      · obtain ⟨_, _, _, k5, _⟩ := hC.als k2
        rw [← k4]
        exact HL_al hC k2 (hall _ k5) (by rw [← hs]; exact selF_iff.1 k3) (hg _ k4)
      · rw [HL_s (hg b rfl) (fun al hal _ h2 => k2 al hal (selF_iff.2 (by rw [hs]; exact h2))), ← hs]
        exact k3
  · rw [HL_nx, layG_eq, layg_nx, lay_nx, hs]; exact Nat.le_refl _
theorem cnt_set {n i : Nat} {p p' : Nat → Bool} (hi : i < n) (h1 : p i = true) (h2 : p' i = false) (h3 : ∀ j, j ≠ i → p' j = p j) : (List.range n).countP p' < (List.range n).countP p := by
  induction n with
  | zero => omega
  | succ n ih =>
    rw [List.range_succ, List.countP_append, List.countP_append]
    by_cases he : i = n
    · subst he
      have : (List.range i).countP p' = (List.range i).countP p := by
        refine List.countP_congr fun j hj => ?_
        rw [h3 j (by simp at hj; omega)]
      rw [this]
      simp [h1, h2]
    · have := ih (by omega)
      have e : p' n = p n := h3 n (fun e => he e.symm)
      simp [e]; omega
theorem any_sound (hO : OpsOk P) (hcf : CfOk P cf) (hrf : RfOk P rf) (hC : Cx P cf rf ops g r h n0 d D) (h0 : HRel π0 B h w0) (hdst : dstOk q.sz ops.toList = true)
    (hN : ∀ a' w' π', d.pn = none → St π' q d.r a' → Step B π0 h w0 π' (layG d.grp (lay (selF d.s.cm) d.als d.s.h)) w' → Q' .normal a' w')
    (hQ : ∀ p chain a' w' π' π'', d.pn = some p → PRs π' p.1 chain → Step B π0 h w0 π' p.2.1 w' → PExt π'' π' → (∀ t v, (∀ (j : Nat) (o : Oper), ops[j]? = some o → o.dst ≠ some t) → r.get (Pos.of t) = some v → ∃ cv, a'.tmps[t]? = some cv ∧ VR π'' v cv) → a'.tmps.size = q.sz → DRs π'' q.df a'.defers → Q' (.panic chain) a' w') :
    ∀ (fuel : Nat) (l : Array Bool) (a : Act) (w : World) (π : Pi) (i0 : Nat), (List.range ops.size).countP (fun j => !lst l j) ≤ fuel → SInv ops r h n0 d D B π0 w0 q l a w π i0 → wpAnyIn (Fw ro) m P .any ops Q' fuel l a w := by
  have fin : ∀ (l : Array Bool) (a : Act) (w : World) (π : Pi) (i0 : Nat), SInv ops r h n0 d D B π0 w0 q l a w π i0 → (∀ j, j < ops.size → lst l j = true) → Q' .normal a w := by
    intro l a w π i0 hI hall
    obtain ⟨h1, h2, h3⟩ := hI.done hC hall
    exact hN a w π h1 h2 h3
  have nil_all : ∀ (l : Array Bool) (a : Act) (w : World) (π : Pi) (i0 : Nat), SInv ops r h n0 d D B π0 w0 q l a w π i0 → Region.ready .any ops l = [] → ∀ j, j < ops.size → lst l j = true := by
    intro l a w π i0 hI hnil j
    induction j using Nat.strongRecOn with
    | _ j ih =>
      intro hj
      cases hl : lst l j with
      | true => rfl
      | false =>
        exfalso
        have ho : ops[j]? = some ops[j] := Array.getElem?_eq_getElem hj
        have hmem : j ∈ Region.ready .any ops l := by
          refine mem_ready.2 ⟨?_, ops[j], ho, fun e he hb => ?_⟩
          · have hjl : j < l.size := by rw [hI.ln]; exact hj
            unfold lst at hl
            rw [Array.getD_eq_getD_getElem?] at hl ⊢
            simpa [Array.getElem?_eq_getElem hjl] using hl
          · have := edge_lt hC.st.back ho (by simpa using he) hb
            exact ih e.on this (by omega)
        rw [hnil] at hmem; cases hmem
  intro fuel
  induction fuel with
  | zero =>
    intro l a w π i0 hf hI
    have hall : ∀ j, j < ops.size → lst l j = true := by
      intro j hj
      cases hl : lst l j with
      | true => rfl
      | false =>
        have : 0 < (List.range ops.size).countP (fun j => !lst l j) := List.countP_pos_iff.2 ⟨j, by simpa using hj, by simp [hl]⟩
        omega
    refine ⟨?_, fin l a w π i0 hI hall⟩
    cases hr : Region.ready .any ops l with
    | nil => rfl
    | cons i rest =>
      obtain ⟨hun, o, ho, _⟩ := mem_ready.1 (show i ∈ Region.ready .any ops l by rw [hr]; simp)
      have hi := Cx.lt_of ho
      have hil : i < l.size := by rw [hI.ln]; exact hi
      have := hall i hi
      unfold lst at this
      rw [Array.getD_eq_getD_getElem?] at hun this
      simp [Array.getElem?_eq_getElem hil] at hun this
      rw [hun] at this; cases this
  | succ fuel ih =>
    intro l a w π i0 hf hI
    refine ⟨fun hnil => fin l a w π i0 hI (nil_all l a w π i0 hI hnil), fun i hrd => ?_⟩
    obtain ⟨hun, o, ho, _⟩ := mem_ready.1 hrd
    have hi := Cx.lt_of ho
    have hil : i < l.size := by rw [hI.ln]; exact hi
    have hLi : lst l i = false := by unfold lst; rw [Array.getD_eq_getD_getElem?] at hun ⊢; simpa [Array.getElem?_eq_getElem hil] using hun
    refine step_sound hO hcf hrf hC hI h0 hdst hrd ?_ ?_
    · intro a' w' π' i0' hI'
      refine ih _ a' w' π' i0' ?_ hI'
      have := cnt_set (p := fun j => !lst l j) (p' := fun j => !lst (l.setIfInBounds i true) j) hi (by simp [hLi]) (by simp [lst_set hil]) (fun j hj => by simp [lst_set hil, hj])
      omega
    · intro p chain w' π' hp hpr hext hst
      exact hQ p chain a w' π' π hp hpr hst hext (fun t v hn hv => hI.reg t v (.inr ⟨fun j o h1 h2 => absurd h2 (hn j o h1), hv⟩)) hI.asz hI.adf
theorem forget_get : ∀ (l : List Nat) (r : T AV) (t : Nat), (forget l r).get (Pos.of t) = if t ∈ l then none else r.get (Pos.of t)
  | [], r, t => by simp [forget]
  | d :: l, r, t => by
    unfold forget
    rw [forget_get l, T.get_putN]
    by_cases h1 : t ∈ l
    · simp [h1]
    · by_cases h2 : t = d
      · subst h2; simp
      · simp [h1, h2]
theorem SS.drawn (hm : P.follows .mixedOrders = true) (hO : OpsOk P) (hcf : CfOk P cf) (hrf : RfOk P rf) {id : Nat} : SS P (.region id ops true) (drawnS P cf rf ops) := by
  intro r h q k hok hd hrc B π a w ro m hH hS hro
  unfold drawnS at hok ⊢
  cases hrk : rOk ops with
  | false => rw [hrk] at hok; exact hok.elim
  | true =>
    rw [hrk] at hok
    have hok : (drawnK P cf rf ops r h q k).ok := hok
    show (Code.region id ops true).wpIn (Fw ro) m P (Post B π h w q (drawnK P cf rf ops r h q k) k) a w
    unfold drawnK at hok ⊢
    rw [fN_eq] at hok ⊢
    cases hop : opsD P cf rf ops (grpAt P none (plan ops) 0) (plan ops) 0 ⟨r, ⟨none, 0, ⟨h.t, Nat.add h.nx (cntAl P ops.toList)⟩⟩, [], [], h.nx, none, [], []⟩ with
    | bad w => rw [hop] at hok; exact hok.elim
    | ok d =>
      rw [hop] at hok
      have hok : (endD P ops r q k d).ok := hok
      show (Code.region id ops true).wpIn (Fw ro) m P (Post B π h w q (endD P ops r q k d) k) a w
      obtain ⟨D, hT⟩ := trace_of hop
      unfold endD at hok
      cases hg : grpOk d with
      | false => rw [hg] at hok; exact hok.elim
      | true =>
        rw [hg, ob_true] at hok
        cases hrd : ob (seqOk P (plan ops) 0 []) (tksOk P (fun i => (msks ops.toList []).getD i 0) d) true with
        | false => rw [hrd] at hok; exact hok.elim
        | true =>
          rw [hrd, ob_true] at hok
          have hC : Cx P cf rf ops (grpAt P none (plan ops) 0) r h (Nat.add h.nx (cntAl P ops.toList)) d D := by
            refine ⟨hT, static_of hrk, rfl, hg, ?_⟩
            cases hsq : seqOk P (plan ops) 0 [] with
            | true => exact .inl rfl
            | false => rw [hsq] at hrd; exact .inr hrd
          have hend : endD P ops r q k d = oo d.pn (tick (k .nrm d.r (layG d.grp (lay (selF d.s.cm) d.als d.s.h)) q)) fun p => k (.pan p.1) (forget (dsts ops.toList) r) p.2.1 q := by
            unfold endD
            rw [hg, ob_true, hrd, ob_true]
          have hdr : HRel π B h { w with drawn := w.drawn + 1 } := hH.same rfl
          have hst0 : Step B π h w π h { w with drawn := w.drawn + 1 } := Step.same hH rfl ⟨rfl, rfl, rfl⟩
          refine wpIn_region_any hm ?_
          refine any_sound hO hcf hrf hC hH hd ?_ ?_ ops.size (Array.replicate ops.size false) a { w with drawn := w.drawn + 1 } π 0 ?_ ?_
          · intro a' w' π' hpn hS' hst
            rw [hend, hpn]
            exact ⟨.nrm, d.r, _, q, π', trivial, hS', .refl q, hst, .refl _⟩
          · intro p chain a' w' π' π'' hpn hpr hst hext hreg hsz hdf
            rw [hend, hpn]
            refine ⟨.pan p.1, _, p.2.1, q, π', hpr, ⟨?_, hsz, hdf.mono hext⟩, .refl q, hst, .refl _⟩
            intro t v hv
            rw [forget_get] at hv
            split at hv
            · cases hv
            · rename_i hnm
              obtain ⟨cv, h1, h2⟩ := hreg t v (fun j o ho hd' => hnm (dsts_mem.2 ⟨o, List.mem_of_getElem? (by rw [Array.getElem?_toList]; exact ho), hd'⟩)) hv
              exact ⟨cv, h1, h2.mono hext⟩
          · refine Nat.le_trans (List.countP_le_length) ?_
            simp
          · have hl0 : ∀ j, lst (Array.replicate ops.size false) j = false := by
              intro j
              unfold lst
              rw [Array.getD_eq_getD_getElem?]
              rcases Nat.lt_or_ge j ops.size with hj | hj
              · simp [hj]
              · rw [Array.getElem?_eq_none (by simpa using hj)]; rfl
            have hD0 : D 0 = ⟨r, ⟨none, 0, ⟨h.t, Nat.add h.nx (cntAl P ops.toList)⟩⟩, [], [], h.nx, none, [], []⟩ := hT.first
            have hhl : ∀ b x, (HL d (Array.replicate ops.size false) (D 0).s).get b = some x → h.get b = some x := by
              intro b x e
              rw [HL_s (fun y _ hl => by rw [hl0] at hl; cases hl) (fun al _ hl => by rw [hl0] at hl; cases hl), hD0] at e
              exact e
            refine ⟨by simp, Nat.zero_le _, ?_, hst0.less hhl ?_, ?_, hS.sz, hS.df, ?_, ?_, ?_, ?_, fun p _ => hl0 _, ?_, ?_⟩
            · intro j hj he; rw [hl0]; simp
            · rw [HL_nx, hD0]; exact Nat.le_add_right _ _
            · intro t v hv
              rcases hv with ⟨⟨j, o, _, _, h3⟩, _⟩ | ⟨_, hv⟩
              · rw [hl0] at h3; cases h3
              · exact hS.rr t v hv
            · intro j hj; rw [hD0, tb_zero] at hj; cases hj
            · intro al hal _
              cases hp : π al.b with
              | none => rfl
              | some p => have := (hH.dom _ _ hp).1; have := (hC.al_lt hal).2; omega
            · intro al hal _
              rw [hD0]
              show h.get al.b = none
              cases hgb : h.get al.b with
              | none => rfl
              | some x =>
                obtain ⟨c, z, o, k1, _⟩ := hH.blk _ _ hgb
                have := (hH.dom _ _ k1).1; have := (hC.al_lt hal).2; omega
            · rw [hD0]; exact Nat.le_refl _
            · intro i hi; rw [hl0] at hi; cases hi
            · intro al _ hl; rw [hl0] at hl; cases hl

/-! ### All code -/
variable {ev : CodeF}
theorem codeC_loop (b : Code) : codeC P cf rf ev (.loop b) = fun r h q k => loopS (codeC P cf rf ev b) k 100000000 r h q := rfl
theorem codeC_scope (b : Code) : codeC P cf rf ev (.scope b) = fun r h q k => scopeS ev b k 100000000 b r h q := rfl
theorem codeC_sound (hm : P.follows .mixedOrders = true) (hO : OpsOk P) (hcf : CfOk P cf) (hrf : RfOk P rf) (hev : EvOk P ev) : ∀ c, SS P c (codeC P cf rf ev c)
  | .skip => SS.skip
  | .region id ops false => SS.region hO hcf hrf
  | .region id ops true => SS.drawn hm hO hcf hrf
  | .seq a b => SS.seq (codeC_sound hm hO hcf hrf hev a) (codeC_sound hm hO hcf hrf hev b)
  | .cond c a b => SS.cond (codeC_sound hm hO hcf hrf hev a) (codeC_sound hm hO hcf hrf hev b)
  | .block id b => SS.block (codeC_sound hm hO hcf hrf hev b)
  | .loop b => by rw [codeC_loop]; exact SS.loop _ (codeC_sound hm hO hcf hrf hev b)
  | .rangeFunc f ps asg b => SS.rangeFunc hcf hev
  | .exit id => SS.exit
  | .scope b => by rw [codeC_scope]; exact SS.scope hev _
  | .label l => SS.label
  | .goto l => SS.goto
  | .ret => SS.ret
  | .refuse s => SS.refuse
/-- Calls that are answered otherwise. -/
def KnOk (P : Program) (kn : CallF → CallF) : Prop := ∀ cf, CfOk P cf → CfOk P (kn cf)
theorem codeN_sound (hm : P.follows .mixedOrders = true) (hO : OpsOk P) {kn : CallF → CallF} (hk : KnOk P kn) : ∀ n, EvOk P (codeN P kn n)
  | 0 => fun _c _r _h _q _k hok => hok.elim
  | n + 1 => fun c => codeC_sound hm hO (hk _ (callB_sound hO (codeN_sound hm hO hk n))) (rndB_sound (codeN_sound hm hO hk n)) (codeN_sound hm hO hk n) c
theorem call_sound (hm : P.follows .mixedOrders = true) (hO : OpsOk P) {kn : CallF → CallF} (hk : KnOk P kn) (n : Nat) : CfOk P (callB P (codeN P kn n)) := callB_sound hO (codeN_sound hm hO hk n)
end
end Go.Proofs.YthfenjgelbkloaaGreatDoor.Ev
