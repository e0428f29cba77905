/- The evaluator's soundness, 39: calls that are known already. -/
import Derived.Test.YtmoejaloachlkaaGreatDoorGg
namespace Go.Proofs.YtmoejaloachlkaaGreatDoor.Ev
open Go Go.RowKit

/-- A call that is known already: its function, its arguments, the next block's number; what must be there; what it comes to; what is known behind it. -/
structure KF where
  f : Nat
  args : List AV
  nx : Nat
  hin : List (Nat × Blk)
  v : AV
  hout : List (Nat × Blk)
  nx' : Nat
noncomputable def putsT (l : List (Nat × Blk)) (t : T Blk) : T Blk := List.rec (motive := fun _ => T Blk → T Blk) (fun t => t) (fun y _ ih t => (ih t).put (some y.2) (Pos.of y.1)) l t
noncomputable def delsT (l : List (Nat × Blk)) (t : T Blk) : T Blk := List.rec (motive := fun _ => T Blk → T Blk) (fun t => t) (fun y _ ih t => (ih t).put none (Pos.of y.1)) l t
theorem putsT_get : ∀ {l : List (Nat × Blk)} {t : T Blk} {b : Nat} {x : Blk}, (putsT l t).get (Pos.of b) = some x → ((b, x) ∈ l ∧ (putsT l .e).get (Pos.of b) = some x) ∨ t.get (Pos.of b) = some x
  | [], t, b, x, h => .inr h
  | y :: l, t, b, x, h => by
    have h : (Hp.set ⟨putsT l t, 0⟩ y.1 y.2).get b = some x := h
    rw [Hp.get_set] at h
    have goal : (putsT (y :: l) .e).get (Pos.of b) = (Hp.set ⟨putsT l .e, 0⟩ y.1 y.2).get b := rfl
    split at h
    · rename_i e
      cases h
      exact .inl ⟨by rw [e]; exact List.mem_cons_self, by rw [goal, Hp.get_set, if_pos e]⟩
    · rename_i hne
      rcases putsT_get (l := l) (t := t) (b := b) (x := x) h with ⟨h1, h2⟩ | h
      · exact .inl ⟨List.mem_cons_of_mem _ h1, by rw [goal, Hp.get_set, if_neg hne]; exact h2⟩
      · exact .inr h
theorem delsT_get : ∀ {l : List (Nat × Blk)} {t : T Blk} {b : Nat} {x : Blk}, (delsT l t).get (Pos.of b) = some x → (∀ y, (b, y) ∉ l) ∧ t.get (Pos.of b) = some x
  | [], t, b, x, h => ⟨fun y => by simp, h⟩
  | y :: l, t, b, x, h => by
    have h : (Hp.del ⟨delsT l t, 0⟩ y.1).get b = some x := h
    rw [Hp.get_del] at h
    split at h
    · cases h
    · rename_i hne
      obtain ⟨h1, h2⟩ := delsT_get (l := l) (t := t) (b := b) (x := x) h
      refine ⟨fun z hz => ?_, h2⟩
      rcases List.mem_cons.1 hz with e | e
      · exact hne (by rw [← e])
      · exact h1 z e
theorem putsT_mem : ∀ {l : List (Nat × Blk)} {t : T Blk} {b : Nat} {y : Blk}, (b, y) ∈ l → ∃ x, (putsT l t).get (Pos.of b) = some x
  | [], _, _, _, h => by cases h
  | z :: l, t, b, y, h => by
    show ∃ x, (Hp.set ⟨putsT l t, 0⟩ z.1 z.2).get b = some x
    rw [Hp.get_set]
    by_cases e : b = z.1
    · rw [if_pos e]; exact ⟨_, rfl⟩
    · rw [if_neg e]
      rcases List.mem_cons.1 h with e' | h'
      · exact absurd (by rw [← e']) e
      · exact putsT_mem h'
noncomputable def KF.inH (F : KF) : Hp := ⟨putsT F.hin .e, F.nx⟩
noncomputable def KF.outH (F : KF) : Hp := ⟨putsT F.hout .e, F.nx'⟩
/-- What a fact says. -/
def FactOk (P : Program) (F : KF) : Prop := ∀ (B : Nat) (π : Pi) (w : World) (cargs : Array Value), HRel π B F.inH w → VRs π F.args cargs.toList →
  Calls P F.f cargs w fun e w' => ∃ π' cv, e = .returned cv ∧ VR π' F.v cv ∧ Step B π F.inH w π' F.outH w'
noncomputable def hasB (l : List (Nat × Blk)) (h : Hp) : Bool := l.all fun y => oo (h.get y.1) false fun x => eqBlk y.2 x
def sibIn (l : List (Nat × Blk)) : Bool := l.all fun y => y.2.sibs.all fun s => l.any fun z => Nat.beq z.1 s
/-- The check of a fact. -/
noncomputable def factC (F : KF) (c : CR) : Bool :=
  match c with
  | .ret v h => AV.beq v F.v && Nat.beq h.nx F.nx' && hasB F.hout h
  | _ => false
noncomputable def factB (P : Program) (kn : CallF → CallF) (n : Nat) (F : KF) : Bool := factC F (callB P (codeN P kn n) F.f F.args F.inH)
section
variable {P : Program} {B : Nat} {π π' : Pi} {H Hin H' HB : Hp} {w w' : World}
theorem hasB_get {l : List (Nat × Blk)} {h : Hp} (hb : hasB l h = true) {b : Nat} {x : Blk} (hm : (b, x) ∈ l) : ∃ y, h.get b = some y ∧ (y = x ∨ ∃ es es' c, x = .map es c ∧ y = .map es' c ∧ es.Perm es') := by
  have := List.all_eq_true.1 hb _ hm
  simp only at this
  cases hg : h.get b with
  | none => rw [hg] at this; cases this
  | some y =>
    rw [hg] at this
    have this : eqBlk x y = true := this
    refine ⟨y, rfl, ?_⟩
    rcases eqBlk_spec this with rfl | ⟨es, es', c, h1, h2, h3⟩
    · exact .inl rfl
    · exact .inr ⟨es, es', c, h1, h2, h3⟩
theorem fact_ok (hm : P.follows .mixedOrders = true) (hX : extOk P = true) {kn : CallF → CallF} (hk : KnOk P kn) {n : Nat} {F : KF} (hF : factB P kn n F = true) : FactOk P F := by
  intro B π w cargs hH ha
  unfold factB at hF
  have hok : (callB P (codeN P kn n) F.f F.args F.inH).ok := by
    cases hc : callB P (codeN P kn n) F.f F.args F.inH with
    | bad w => rw [hc] at hF; cases hF
    | _ => trivial
  refine (call_sound hm (opsOk hX) hk n B π F.inH w F.f F.args cargs hH ha hok).mono fun e w' ho => ?_
  cases hc : callB P (codeN P kn n) F.f F.args F.inH with
  | bad w => rw [hc] at hF; cases hF
  | pan c h => rw [hc] at hF; cases hF
  | ret v h =>
    rw [hc] at hF ho
    obtain ⟨π', cv, rfl, h1, h2⟩ := ho
    have hF : (AV.beq v F.v && Nat.beq h.nx F.nx' && hasB F.hout h) = true := hF
    rw [Bool.and_eq_true, Bool.and_eq_true] at hF
    obtain ⟨⟨f1, f2⟩, f3⟩ := hF
    have f1 := AV.beq_eq _ _ f1
    have f2 : h.nx = F.nx' := Nat.eq_of_beq_eq_true f2
    subst f1
    refine ⟨π', cv, rfl, h1, h2.alike (fun b x hx => ?_) (by show h.nx ≤ F.nx'; omega)⟩
    rcases putsT_get hx with ⟨hx, _⟩ | hx
    · obtain ⟨y, k1, k2⟩ := hasB_get f3 hx
      rcases k2 with rfl | ⟨es, es', c, rfl, rfl, k3⟩
      · exact .inl k1
      · exact .inr ⟨es, es', c, rfl, k1, k3⟩
    · rw [T.get_e] at hx; cases hx
/-- What a run over a part of the heap does not turn stays. -/
theorem Step.merge2 (hs : HRel π B H w) (hle : ∀ b x, Hin.get b = some x → ∃ y, H.get b = some y ∧ y.wr = x.wr ∧ y.isC = x.isC ∧ y.sib = x.sib) (hnx : Hin.nx = H.nx)
    (hC : ∀ b x s, Hin.get b = some x → s ∈ x.sib → Hin.get s ≠ none) (he : Step B π Hin w π' H' w') (hnB : HB.nx = H'.nx)
    (hB : ∀ c y, HB.get c = some y → H'.get c = some y ∨ (H.get c = some y ∧ Hin.get c = none)) : Step B π H w π' HB w' := by
  have noWr : ∀ b x c z, H.get b = some x → Hin.get b = none → π b = some (c, z) → ∀ b2 x2 z2, Hin.get b2 = some x2 → x2.wr = true → π b2 ≠ some (c, z2) := by
    intro b x c z hx hn hp b2 x2 z2 hx2 hw2 hp2
    obtain ⟨y2, q1, q2, q3, q4⟩ := hle b2 x2 hx2
    have hne : b2 ≠ b := by intro e; subst e; rw [hn] at hx2; cases hx2
    have := ((hs.sep b2 y2 b x c z2 z q1 hx hp2 hp hne).2 (by rw [q2]; exact hw2)).1
    rw [q4] at this
    exact hC b2 x2 b hx2 this hn
  have newNo : ∀ b x c z, H.get b = some x → Hin.get b = none → π b = some (c, z) → ∀ b' z', π' b' = some (c, z') → π b' ≠ none := by
    intro b x c z hx hn hp b' z' hp' hb'
    rcases (he.new b' _ hp' hb').2 with q | ⟨b0, x0, z0, q1, q2, q3⟩
    · have := (hs.dom _ _ hp).2
      simp at q this; omega
    · exact noWr b x c z hx hn hp b0 x0 z0 q1 q2 q3
  refine ⟨he.ext, ⟨he.rel.low, he.rel.glob, ?_, fun b p hp => by rw [hnB]; exact he.rel.dom b p hp, ?_⟩, ?_, he.size, by rw [hnB, ← hnx]; exact he.nx, ?_, ?_, he.out, he.evo⟩
  · intro b x hx
    rcases hB b x hx with hx | ⟨hx, hn⟩
    · exact he.rel.blk b x hx
    · obtain ⟨c, z, o, k1, k2, k3, k4⟩ := hs.blk b x hx
      refine ⟨c, z, o, he.ext _ _ k1, ?_, k3.on he.ext he.evo (fun b p hp => (hs.dom b p hp).2), k4⟩
      rw [he.fr c (hs.dom _ _ k1).2 (noWr b x c z hx hn k1)]
      exact k2
  · intro b x b' x' c z z' hx hx' hp hp' hne
    rcases hB b x hx with k | ⟨k, kn⟩
    · rcases hB b' x' hx' with k' | ⟨k', kn'⟩
      · exact he.rel.sep b x b' x' c z z' k k' hp hp' hne
      · obtain ⟨c2, z2, o2, q1, q2, q3, q4⟩ := hs.blk b' x' k'
        have e2 := he.ext _ _ q1
        rw [hp'] at e2; cases e2
        cases hb : π b with
        | none => exact absurd hb (newNo b' x' c z' k' kn' q1 b z hp)
        | some p =>
          have e1 := he.ext _ _ hb
          rw [hp] at e1; cases e1
          rcases he.old b x k with ⟨y0, r1, r2⟩ | hge
          · obtain ⟨yA, s1, s2, s3, s4⟩ := hle b y0 r1
            have hwx : x.wr = false := by
              cases hw : x.wr with
              | false => rfl
              | true => exact absurd hb (noWr b' x' c z' k' kn' q1 b y0 z r1 (r2 hw))
            refine ⟨?_, fun h => by rw [hwx] at h; cases h⟩
            have hC' := (hs.sep b' x' b yA c z' z k' s1 q1 hb (fun e => hne e.symm)).1
            have hkeep : w'.heap[c]? = some o2 := by rw [he.fr c (hs.dom _ _ q1).2 (noWr b' x' c z' k' kn' q1)]; exact q2
            obtain ⟨c3, z3, o3, t1, t2, t3, t4⟩ := he.rel.blk b x k
            rw [hp] at t1; cases t1
            rw [hkeep] at t2; cases t2
            cases x' with
            | cells t d n e lo hi w s =>
              obtain ⟨arr, fz, rfl, _⟩ := q3
              cases x with
              | cells => rfl
              | map => obtain ⟨_, _, h, _⟩ := t3; cases h
              | loop => obtain ⟨_, h, _⟩ := t3; cases h
              | dfr => obtain ⟨_, h, _⟩ := t3; cases h
              | siter => exact t3.elim
              | miter => obtain ⟨_, _, _, h, _⟩ := t3; cases h
            | _ => cases hC'
          · have := (hs.dom _ _ hb).1
            omega
    · obtain ⟨c2, z2, o2, q1, q2, q3, q4⟩ := hs.blk b x k
      have e2 := he.ext _ _ q1
      rw [hp] at e2; cases e2
      rcases hB b' x' hx' with k' | ⟨k', kn'⟩
      · cases hb : π b' with
        | none => exact absurd hb (newNo b x c z k kn q1 b' z' hp')
        | some p =>
          have e1 := he.ext _ _ hb
          rw [hp'] at e1; cases e1
          rcases he.old b' x' k' with ⟨y0, r1, r2⟩ | hge
          · obtain ⟨yA, s1, s2, s3, s4⟩ := hle b' y0 r1
            have := hs.sep b x b' yA c z z' k s1 q1 hb hne
            refine ⟨this.1, fun h => ⟨(this.2 h).1, ?_⟩⟩
            have hA := (this.2 h).2
            cases hw : x'.wr with
            | false => rfl
            | true => have := r2 hw; rw [← s2, hA] at this; cases this
          · have := (hs.dom _ _ hb).1
            omega
      · obtain ⟨c3, z3, o3, p1, _⟩ := hs.blk b' x' k'
        have e1 := he.ext _ _ p1
        rw [hp'] at e1; cases e1
        exact hs.sep b x b' x' c z z' k k' q1 p1 hne
  · intro c hc hno
    refine he.fr c hc fun b x z hx hw hp => ?_
    obtain ⟨y, k1, k2, _⟩ := hle b x hx
    exact hno b y z k1 (by rw [k2]; exact hw) hp
  · intro b p hp hn
    obtain ⟨q1, q2⟩ := he.new b p hp hn
    refine ⟨by omega, ?_⟩
    rcases q2 with q2 | ⟨b0, x0, z0, r1, r2, r3⟩
    · exact .inl q2
    · obtain ⟨y, k1, k2, _⟩ := hle b0 x0 r1
      exact .inr ⟨b0, y, z0, k1, by rw [k2]; exact r2, r3⟩
  · intro b x hx
    rcases hB b x hx with hx | ⟨hx, _⟩
    · rcases he.old b x hx with ⟨y0, r1, r2⟩ | hge
      · obtain ⟨y, k1, k2, _⟩ := hle b y0 r1
        exact .inl ⟨y, k1, fun h => by rw [k2]; exact r2 h⟩
      · exact .inr (by omega)
    · exact .inl ⟨x, hx, id⟩
end
theorem beqs_eq : ∀ {l m : List AV}, AV.beqs l m = true → l = m
  | [], [], _ => rfl
  | [], _ :: _, h => by simp [AV.beqs] at h
  | _ :: _, [], h => by simp [AV.beqs] at h
  | x :: l, y :: m, h => by
    rw [AV.beqs, Bool.and_eq_true] at h
    rw [AV.beq_eq _ _ h.1, beqs_eq h.2]
/-- Does a fact fit a call? -/
noncomputable def fitsF (F : KF) (f : Nat) (args : List AV) (h : Hp) : Bool := ob (Nat.beq F.f f) false (ob (Nat.beq F.nx h.nx) false (ob (AV.beqs F.args args) false (hasB F.hin h)))
noncomputable def useF (F : KF) (h : Hp) : CR := .ret F.v ⟨putsT F.hout (delsT F.hin h.t), F.nx'⟩
noncomputable def knF (F : KF) : CallF → CallF := fun cf f args h => ob (fitsF F f args h) (cf f args h) (useF F h)
theorem knId_ok (P : Program) : KnOk P (fun cf => cf) := fun _ h => h
section
variable {P : Program}
theorem knF_ok {F : KF} (hF : FactOk P F) (hs : sibIn F.hin = true) {kn : CallF → CallF} (hk : KnOk P kn) : KnOk P (fun cf => knF F (kn cf)) := by
  intro cf hcf B π H w f args cargs hH ha hok
  have hok : (ob (fitsF F f args H) (kn cf f args H) (useF F H)).ok := hok
  show Calls P f cargs w (COut B π H w (ob (fitsF F f args H) (kn cf f args H) (useF F H)))
  cases hfit : fitsF F f args H with
  | false =>
    rw [hfit, ob_false] at hok
    rw [ob_false]
    exact hk cf hcf B π H w f args cargs hH ha hok
  | true =>
    rw [ob_true]
    unfold fitsF at hfit
    cases h1 : Nat.beq F.f f with
    | false => rw [h1, ob_false] at hfit; cases hfit
    | true =>
    cases h2 : Nat.beq F.nx H.nx with
    | false => rw [h1, h2, ob_true, ob_false] at hfit; cases hfit
    | true =>
    cases h3 : AV.beqs F.args args with
    | false => rw [h1, h2, h3, ob_true, ob_true, ob_false] at hfit; cases hfit
    | true =>
    rw [h1, h2, h3, ob_true, ob_true, ob_true] at hfit
    have h1 : F.f = f := Nat.eq_of_beq_eq_true h1
    have h2 : F.nx = H.nx := Nat.eq_of_beq_eq_true h2
    have h3 : F.args = args := beqs_eq h3
    subst h1 h3
    have hmem : ∀ b x, F.inH.get b = some x → (b, x) ∈ F.hin := by
      intro b x hx
      rcases putsT_get hx with ⟨h, _⟩ | h
      · exact h
      · rw [T.get_e] at h; cases h
    have hin : HRel π B F.inH w := hH.alike (fun b x hx => by
      obtain ⟨y, k1, k2⟩ := hasB_get hfit (hmem b x hx)
      rcases k2 with rfl | ⟨es, es', c, rfl, rfl, k3⟩
      · exact .inl k1
      · exact .inr ⟨es, es', c, rfl, k1, k3⟩) (by show H.nx ≤ F.nx; omega)
    refine (hF B π w cargs hin ha).mono fun e w' ⟨π', cv, he, hv, hst⟩ => ?_
    refine ⟨π', cv, he, hv, Step.merge2 hH ?_ h2 ?_ hst rfl ?_⟩
    · intro b x hx
      obtain ⟨y, k1, k2⟩ := hasB_get hfit (hmem b x hx)
      rcases k2 with rfl | ⟨es, es', c, rfl, rfl, k3⟩
      · exact ⟨_, k1, rfl, rfl, rfl⟩
      · exact ⟨_, k1, rfl, rfl, rfl⟩
    · intro b x s hx hm hn
      have := List.all_eq_true.1 hs _ (hmem b x hx)
      have hsb : x.sibs = x.sib := by cases x <;> rfl
      simp only at this
      rw [hsb] at this
      have := List.all_eq_true.1 this s hm
      obtain ⟨⟨b2, y2⟩, q1, q2⟩ := List.any_eq_true.1 this
      have q2 : b2 = s := Nat.eq_of_beq_eq_true q2
      subst q2
      obtain ⟨u, hu⟩ := putsT_mem (t := .e) q1
      have hu : F.inH.get b2 = some u := hu
      rw [hu] at hn; cases hn
    · intro c y hy
      rcases putsT_get hy with ⟨_, h⟩ | h
      · exact .inl h
      · right
        obtain ⟨k1, k2⟩ := delsT_get h
        refine ⟨k2, ?_⟩
        cases hg : F.inH.get c with
        | none => rfl
        | some x => exact absurd (hmem c x hg) (k1 x)
end
end Go.Proofs.YtmoejaloachlkaaGreatDoor.Ev
