/- The evaluator's soundness, 23: drawn regions: one operation more. -/
import Derived.Test.YtmoejaloachlkaaGreatDoorFq
namespace Go.Proofs.YtmoejaloachlkaaGreatDoor.Ev
open Go Go.RowKit

/-! ### A store leans on its block alone -/
theorem kill_id {j : Nat} : ∀ {l : List Nat} {h : Hp}, noKill j h l = true → kill j l h = h
  | [], h, _ => rfl
  | s :: l, h, hn => by
    unfold noKill at hn
    obtain ⟨h1, h2⟩ := beq_and hn
    unfold kill
    have e : (match h.get s with
      | some (.cells _ _ n _ _ _ _ _) => bif Nat.blt j n then h.del s else h
      | _ => h) = h := by
      split
      · rename_i cc dd n e lo hi w sib hb
        rw [hb] at h1
        simp only at h1
        have : Nat.blt j n = false := by
          cases hx : Nat.blt j n with
          | false => rfl
          | true =>
            have a1 := Nat.le_of_ble_eq_true h1
            have a2 := Nat.le_of_ble_eq_true hx
            exact absurd a2 (by omega)
        rw [this]; rfl
      · rfl
    exact (congrArg (kill j l) e).trans (kill_id h2)
theorem noKill_of {j : Nat} {h h2 : Hp} : ∀ {l : List Nat}, (∀ s ∈ l, ∀ y, h2.get s = some y → h.get s = some y) → noKill j h l = true → noKill j h2 l = true
  | [], _, _ => rfl
  | s :: l, hs, hn => by
    unfold noKill at hn ⊢
    obtain ⟨h1, h2'⟩ := beq_and hn
    rw [Bool.and_eq_true]
    refine ⟨?_, noKill_of (fun s hs' => hs s (by simp [hs'])) h2'⟩
    cases hg : h2.get s with
    | none => rfl
    | some y => rw [← hs s (by simp) y hg]; exact h1
theorem stores_at {H1 H2 h1 : Hp} {c j : Nat} {l : List (Option AV)} {x0 x1 : Blk} (h : stores H1 c j l = some h1) (hx0 : H1.get c = some x0) (hk : noKill j H1 x0.sibs = true) (hx1 : h1.get c = some x1) (h2 : H2.get c = some x0) (hk2 : noKill j H2 x0.sibs = true) :
    ∃ H2', stores H2 c j l = some H2' ∧ H2'.nx = H2.nx ∧ ∀ b, H2'.get b = if b = c then some x1 else H2.get b := by
  have key : ∀ (y : Blk) (hh : (kill j x0.sibs H1).set c y = h1), ∃ H2', some ((kill j x0.sibs H2).set c y) = some H2' ∧ H2'.nx = H2.nx ∧ ∀ b, H2'.get b = if b = c then some x1 else H2.get b := by
    intro y hh
    subst hh
    rw [Hp.get_set, if_pos rfl] at hx1; cases hx1
    refine ⟨_, rfl, by rw [Hp.nx_set, kill_id hk2], fun b => ?_⟩
    rw [Hp.get_set, kill_id hk2]
  unfold stores at h ⊢
  split at h
  · cases h
    rw [hx0] at hx1; cases hx1
    refine ⟨H2, rfl, rfl, fun b => ?_⟩
    split
    · rename_i e; subst e; exact h2
    · rfl
  · rename_i hne
    rw [h2]
    rw [hx0] at h
    cases x0 with
    | cells cc dd n e lo hi wr sib =>
      cases wr with
      | false => cases dd <;> cases h
      | true =>
        cases dd with
        | none =>
          simp only at h ⊢
          obtain ⟨hb, hh⟩ := cond_some h
          rw [hb, cond_true]
          exact key _ hh
        | some dd =>
          simp only at h ⊢
          obtain ⟨hb, hh⟩ := cond_some h
          rw [hb, cond_true]
          exact key _ hh
    | _ => cases h
theorem store_at {P : Program} {t : TypeId} {v : AV} {H1 H2 h1 : Hp} {c j : Nat} {x0 x1 : Blk} (h : store P t (.ptr c j) v H1 = some h1) (hx0 : H1.get c = some x0) (hk : noKill j H1 x0.sibs = true) (hx1 : h1.get c = some x1) (h2 : H2.get c = some x0) (hk2 : noKill j H2 x0.sibs = true) :
    ∃ H2', store P t (.ptr c j) v H2 = some H2' ∧ H2'.nx = H2.nx ∧ ∀ b, H2'.get b = if b = c then some x1 else H2.get b := by
  have h : (oo (tAgg P t) none fun g => ob (Nat.beq v.cells.length g.2) none (stores H1 c j (v.cells.map some))) = some h1 := h
  show ∃ H2', (oo (tAgg P t) none fun g => ob (Nat.beq v.cells.length g.2) none (stores H2 c j (v.cells.map some))) = some H2' ∧ _
  obtain ⟨gg, e1, e2⟩ := oo_eq h
  obtain ⟨e3, e4⟩ := ob_eq e2
  rw [e1, oo_some, e3, ob_true]
  exact stores_at e4 hx0 hk hx1 h2 hk2

section
variable {P : Program} {cf : CallF} {rf : RndF} {ops : Array Oper} {g : Nat} {r : T AV} {h : Hp} {n0 : Nat} {d : DS} {D : Nat → DS} {B : Nat} {π0 π : Pi} {w0 w : World} {q : Q} {l : Array Bool} {a : Act} {i0 i : Nat} {o : Oper} {S : Stg}
/-! ### Stages -/
/-- No effect stands between: one stage. -/
theorem Cx.same_stage (hC : Cx P cf rf ops g r h n0 d D) {i k : Nat} (hi : i ≤ ops.size) (hk : k ≤ ops.size) (he : ∀ j, j < ops.size → IsEff D j → (j < i ↔ j < k)) : (D i).s = (D k).s := by
  rcases Nat.le_total i k with h1 | h1
  · exact (hC.tr.stage rfl h1 hk (fun j a b e => by have := (he j (by omega) e).2 b; omega)).1.symm
  · exact (hC.tr.stage rfl h1 hi (fun j a b e => by have := (he j (by omega) e).1 b; omega)).1
/-- The stage of an operation that stands behind all effects ahead of it. -/
theorem SInv.stage (hC : Cx P cf rf ops g r h n0 d D) (hI : SInv ops r h n0 d D B π0 w0 q l a w π i0) (hi : i < ops.size) (hb : ∀ j, j < i → IsEff D j → lst l j = true) (hf : ∀ j, i ≤ j → j < ops.size → IsEff D j → lst l j = false) : (D i0).s = (D i).s := by
  refine hC.same_stage hI.hi0 (by omega) fun j hj he => ?_
  rw [← hI.eff j hj he]
  constructor
  · intro hl
    rcases Nat.lt_or_ge j i with k | k
    · exact k
    · rw [hf j k hj he] at hl; cases hl
  · intro k; exact hb j k he
theorem Cx.noAl (hC : Cx P cf rf ops g r h n0 d D) (hb : (D (i + 1)).b = (D i).b) : ∀ al ∈ d.als, al.i ≠ i := by
  intro al hal e
  obtain ⟨o, v, h', _, _, _, _, _, k1, k2⟩ := hC.als hal
  subst e
  omega
theorem Cx.noGrp (hC : Cx P cf rf ops g r h n0 d D) (hi : i < ops.size) (hb : (D (i + 1)).grp = (D i).grp) : ∀ x ∈ d.grp, x.i ≠ i := by
  intro x hx e
  have hm := hC.tr.grpm (i := i + 1) (k := ops.size) (by omega) (Nat.le_refl _)
  rw [hC.tr.last] at hm
  rcases hm.2 x hx with k | k
  · rw [hb] at k
    obtain ⟨_, _, _, _, _, _, _, _, k1, _⟩ := hC.gStep i (by omega) x k
    omega
  · omega
theorem Cx.noEff (hC : Cx P cf rf ops g r h n0 d D) (hi : i < ops.size) (hs : (D (i + 1)).s = (D i).s) : ¬ IsEff D i := by
  intro e
  unfold IsEff at e
  rw [hs] at e
  exact absurd (hC.tr.elt rfl i (by omega) i e).1 (Nat.lt_irrefl _)
theorem Cx.noPn (hC : Cx P cf rf ops g r h n0 d D) (hb : (D (i + 1)).pn = (D i).pn) : ∀ p, d.pn = some p → p.2.2 ≠ i := by
  intro p hp e
  obtain ⟨_, o, _, _, k1, k2⟩ := hC.pnStep ops.size (Nat.le_refl _) p (by rw [hC.tr.last]; exact hp)
  subst e
  rw [hb, k2] at k1; cases k1
/-- A store in no order that has run: all effects have run. -/
theorem SInv.gstage (hC : Cx P cf rf ops g r h n0 d D) (hI : SInv ops r h n0 d D B π0 w0 q l a w π i0) {x : Gp} (hx : x ∈ d.grp) (hr : ∀ j, tb (mkA ops x.i) j = true → lst l j = true) : (D i0).s = (D x.i).s := by
  obtain ⟨o, t, ax, xx, j, v, x0, h1, k1, k2, k3, k4, k5, k6, _⟩ := hC.grps hx
  refine hI.stage hC k1 (fun j hj he => hr j (hC.ahead k1 k6 hj he)) ?_
  intro j hj hjn he
  exfalso
  obtain ⟨o', v', h', _, _, e1, _⟩ := hC.effStep hjn he
  have := Nat.le_of_ble_eq_true k5
  have e2 : Nat.ble g j = true := by rw [Nat.ble_eq]; omega
  rw [e1] at e2; cases e2
theorem HL_mono (hC : Cx P cf rf ops g r h n0 d D) (hil : i < l.size) (ha : ∀ al ∈ d.als, al.i ≠ i) (hg : ∀ x ∈ d.grp, x.i ≠ i) : Hle (HL d (l.setIfInBounds i true) S) (HL d l S) := by
  have hL : ∀ j, j ≠ i → lst (l.setIfInBounds i true) j = lst l j := fun j hj => by rw [lst_set hil, if_neg hj]
  intro b x e
  rcases HL_inv e with ⟨y, k1, k2, rfl, rfl⟩ | ⟨k0, ⟨al, k1, k2, k3, rfl, rfl⟩ | ⟨k1, k2⟩⟩
  · exact HL_g hC k1 (by rw [← hL _ (hg y k1)]; exact k2)
  · exact HL_al hC k1 (by rw [← hL _ (ha al k1)]; exact k2) k3 (fun y hy hl => k0 y hy (by rw [hL _ (hg y hy)]; exact hl))
  · rw [HL_s (fun y hy hl => k0 y hy (by rw [hL _ (hg y hy)]; exact hl)) (fun al hal h1 h2 => k1 al hal (by rw [hL _ (ha al hal)]; exact h1) h2)]
    exact k2
/-- An operation that turns nothing. -/
theorem SInv.same (hC : Cx P cf rf ops g r h n0 d D) (hI : SInv ops r h n0 d D B π0 w0 q l a w π i0) (h0 : HRel π0 B h w0) (hdst : dstOk q.sz ops.toList = true) (ho : ops[i]? = some o) (hLi : lst l i = false) (hrdy : ∀ j, tb (mkA ops i) j = true → lst l j = true) {π' : Pi} {w' : World} {cv : Value} {v : AV}
    (hr : (D (i + 1)).r = putD o.dst v (D i).r) (hs : (D (i + 1)).s = (D i).s) (hb : (D (i + 1)).b = (D i).b) (hp : (D (i + 1)).pn = (D i).pn) (hg : (D (i + 1)).grp = (D i).grp) (hv : VR π' v cv) (hst : Step B π (HL d l (D i0).s) w π' (HL d l (D i0).s) w') :
    SInv ops r h n0 d D B π0 w0 q (l.setIfInBounds i true) (a.put o.dst cv) w' π' i0 := by
  have hi := Cx.lt_of ho
  have hil : i < l.size := by rw [hI.ln]; exact hi
  have nal := hC.noAl hb
  have ngr := hC.noGrp hi hg
  refine hI.adv hC hdst ho hrdy hr hv hst.ext i0 hI.hi0 ?_ ((Step.trans h0 hI.st hst).less (HL_mono hC hil nal ngr) (by rw [HL_nx, HL_nx]; exact Nat.le_refl _)) ?_ ?_ hI.freshS hI.nx (hC.noPn hp) (fun al hal e => absurd e (nal al hal))
  · intro j hj he
    have hne : j ≠ i := fun e => hC.noEff hi hs (e ▸ he)
    rw [lst_set hil, if_neg hne]; exact hI.eff j hj he
  · intro j hj
    rw [lst_set hil]; split
    · rfl
    · exact hI.cm j hj
  · intro al hal hl hne
    cases hp' : π' al.b with
    | none => rfl
    | some p =>
      have := (hst.new al.b p hp' (hI.fresh al hal hl)).1
      rw [HL_nx] at this
      have := hI.nx
      have := (hC.al_lt hal).1
      omega
/-- What is ahead of an operation is a part of what is known. -/
theorem SInv.part (hC : Cx P cf rf ops g r h n0 d D) (hI : SInv ops r h n0 d D B π0 w0 q l a w π i0) (hrdy : ∀ j, tb (mkA ops i) j = true → lst l j = true) (hng : ∀ x ∈ d.grp, lst l x.i = false) : Hle (lay (selM (mkA ops i) (D i0).s.cm) d.als (D i0).s.h) (HL d l (D i0).s) := by
  have hng' : ∀ (b : Nat), ∀ x ∈ d.grp, lst l x.i = true → x.b ≠ b := fun b x hx hl => by rw [hng x hx] at hl; cases hl
  intro b x e
  rcases lay_inv e with ⟨al, k1, k2, rfl, rfl⟩ | ⟨k1, k2⟩
  · have := selM_iff.1 k2
    exact HL_al hC k1 (hrdy _ this.1) this.2 (hng' _)
  · rw [HL_s (hng' _) ?_]
    · exact k2
    · intro al hal hl hc e
      subst e
      rw [hI.freshS al hal hc] at k2; cases k2
end
end Go.Proofs.YtmoejaloachlkaaGreatDoor.Ev
