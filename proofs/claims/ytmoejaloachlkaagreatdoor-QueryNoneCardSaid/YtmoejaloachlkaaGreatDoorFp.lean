/- The evaluator's soundness, 21: drawn regions: facts of the run by the text's order. -/
import Derived.Test.YtmoejaloachlkaaGreatDoorFo
namespace Go.Proofs.YtmoejaloachlkaaGreatDoor.Ev
open Go Go.RowKit

/-- A drawn region that was run by the text's order. -/
structure Cx (P : Program) (cf : CallF) (rf : RndF) (ops : Array Oper) (g : Nat) (r : T AV) (h : Hp) (n0 : Nat) (d : DS) (D : Nat → DS) : Prop where
  tr : Tr P cf rf ops g ⟨r, ⟨none, 0, ⟨h.t, n0⟩⟩, [], [], h.nx, none, [], []⟩ d D
  st : Static ops
  hn0 : n0 = h.nx + cntAl P ops.toList
  grp : grpOk d = true
  rds : seqOk P (plan ops) 0 [] = true ∨ tksOk P (mkA ops) d = true
section
variable {P : Program} {cf : CallF} {rf : RndF} {ops : Array Oper} {g : Nat} {r : T AV} {h : Hp} {n0 : Nat} {d : DS} {D : Nat → DS}
theorem cntAl_cons (o : Oper) (l : List Oper) : cntAl P (o :: l) = cntAl P l + if cls P o.op = 2 then 1 else 0 := by
  conv => lhs; unfold cntAl
  match cls P o.op with
  | 0 => rfl
  | 1 => rfl
  | 2 => rfl
  | c + 3 => rw [if_neg (by omega)]; rfl
theorem Cx.lt_of {i : Nat} {o : Oper} (ho : ops[i]? = some o) : i < ops.size := by
  rcases Nat.lt_or_ge i ops.size with k | k
  · exact k
  · rw [Array.getElem?_eq_none k] at ho; cases ho
theorem drop_cons {i : Nat} {o : Oper} (ho : ops[i]? = some o) : ops.toList.drop i = o :: ops.toList.drop (i + 1) := by
  have hi := Cx.lt_of ho
  have : ops.toList[i]? = some o := by rw [Array.getElem?_toList]; exact ho
  rw [List.getElem?_eq_getElem (by simpa using hi)] at this
  rw [List.drop_eq_getElem_cons (by simpa using hi)]
  simp at this
  simp [this]
/-- Numbers of blocks suffice. -/
theorem Cx.bcnt (hC : Cx P cf rf ops g r h n0 d D) : ∀ k, k ≤ ops.size → (D k).b + cntAl P (ops.toList.drop k) ≤ n0 := by
  intro k
  induction k with
  | zero => intro _; rw [hC.tr.first, hC.hn0]; simp
  | succ k ih =>
    intro hk
    have ho : ops[k]? = some ops[k] := Array.getElem?_eq_getElem (by omega)
    have h1 := ih (by omega)
    rw [drop_cons ho, cntAl_cons] at h1
    have hs := hC.tr.step k _ ho
    generalize D (k + 1) = s' at hs
    generalize D k = s at hs h1
    generalize hcl : (if cls P ops[k].op = 2 then 1 else 0) = y at h1
    cases hs <;> first | (dsimp only at h1 ⊢; omega) | omega | skip
    rename_i hw hc v h' x e hx
    subst hcl
    rw [if_pos hc] at h1
    show s.b + 1 + _ ≤ n0
    omega
/-- A block that is made in the region. -/
theorem Cx.alStep (hC : Cx P cf rf ops g r h n0 d D) : ∀ k, k ≤ ops.size → ∀ al ∈ (D k).als, ∃ o v h', al.i < k ∧ ops[al.i]? = some o ∧ cls P o.op = 2 ∧ opA P (D al.i).r o ⟨.e, (D al.i).b⟩ = .val v h' ∧ h'.get (D al.i).b = some al.x ∧ al.b = (D al.i).b ∧ (D (al.i + 1)).b = al.b + 1 := by
  intro k
  induction k with
  | zero => intro _ al hal; rw [hC.tr.first] at hal; cases hal
  | succ k ih =>
    intro hk al hal
    have ho : ops[k]? = some ops[k] := Array.getElem?_eq_getElem (by omega)
    have hs := hC.tr.step k _ ho
    have old : al ∈ (D k).als → ∃ o v h', al.i < k + 1 ∧ ops[al.i]? = some o ∧ cls P o.op = 2 ∧ opA P (D al.i).r o ⟨.e, (D al.i).b⟩ = .val v h' ∧ h'.get (D al.i).b = some al.x ∧ al.b = (D al.i).b ∧ (D (al.i + 1)).b = al.b + 1 := fun hm =>
      let ⟨o, v, h', a, b⟩ := ih (by omega) al hm
      ⟨o, v, h', by omega, b⟩
    rcases hs.alsm.2 al hal with hm | hm
    · exact old hm
    · by_cases hold : al ∈ (D k).als
      · exact old hold
      · generalize hs' : D (k + 1) = s' at hs hal
        generalize hs0 : D k = s at hs hold
        cases hs <;> first | exact absurd hal hold | skip
        rename_i hw hc v h' x e hx
        rcases List.mem_cons.1 hal with rfl | hal
        · subst hs0
          exact ⟨_, v, h', by simp, ho, hc, e, hx, rfl, by simp only; rw [hs']⟩
        · exact absurd hal hold
theorem Cx.als (hC : Cx P cf rf ops g r h n0 d D) {al : Al} (hal : al ∈ d.als) : ∃ o v h', al.i < ops.size ∧ ops[al.i]? = some o ∧ cls P o.op = 2 ∧ opA P (D al.i).r o ⟨.e, (D al.i).b⟩ = .val v h' ∧ h'.get (D al.i).b = some al.x ∧ al.b = (D al.i).b ∧ (D (al.i + 1)).b = al.b + 1 :=
  hC.alStep _ (Nat.le_refl _) al (by rw [hC.tr.last]; exact hal)
theorem Cx.al_lt (hC : Cx P cf rf ops g r h n0 d D) {al : Al} (hal : al ∈ d.als) : al.b < n0 ∧ h.nx ≤ al.b := by
  obtain ⟨o, v, h', a, b, c, _, _, e, _⟩ := hC.als hal
  have h1 := hC.bcnt al.i (by omega)
  rw [drop_cons b, cntAl_cons, if_pos c] at h1
  have h2 := hC.tr.bm (Nat.zero_le al.i) (by omega)
  rw [hC.tr.first] at h2
  simp only at h2
  omega
theorem Cx.al_uniq (hC : Cx P cf rf ops g r h n0 d D) {al al' : Al} (h1 : al ∈ d.als) (h2 : al' ∈ d.als) (hb : al.b = al'.b) : al = al' := by
  obtain ⟨o, v, k, a, b, c, e, f, g1, g2⟩ := hC.als h1
  obtain ⟨o', v', k', a', b', c', e', f', g1', g2'⟩ := hC.als h2
  have hi : al.i = al'.i := by
    rcases Nat.lt_trichotomy al.i al'.i with k | k | k
    · have := hC.tr.bm (i := al.i + 1) (k := al'.i) (by omega) (by omega); omega
    · exact k
    · have := hC.tr.bm (i := al'.i + 1) (k := al.i) (by omega) (by omega); omega
  obtain ⟨i, b0, x⟩ := al
  obtain ⟨i', b0', x'⟩ := al'
  simp only at *
  subst hi; subst hb
  rw [b] at b'; cases b'
  rw [e] at e'; cases e'
  rw [f] at f'; cases f'
  rfl
theorem Cx.al_idx (hC : Cx P cf rf ops g r h n0 d D) {al al' : Al} (h1 : al ∈ d.als) (h2 : al' ∈ d.als) (hi : al.i = al'.i) : al = al' := by
  obtain ⟨o, v, k, a, b, c, e, f, g1, g2⟩ := hC.als h1
  obtain ⟨o', v', k', a', b', c', e', f', g1', g2'⟩ := hC.als h2
  exact hC.al_uniq h1 h2 (by rw [g1, g1', hi])
/-- Als at i and in the end, as what is ahead of i sees them. -/
theorem Cx.lay_eq (hC : Cx P cf rf ops g r h n0 d D) {i : Nat} (hi : i ≤ ops.size) {sel : Nat → Bool} (hsel : ∀ j, i ≤ j → sel j = false) (H : Hp) : ∀ b, (lay sel (D i).als H).get b = (lay sel d.als H).get b := by
  intro b
  have hm := hC.tr.alsm hi (Nat.le_refl _)
  rw [hC.tr.last] at hm
  cases h1 : (lay sel (D i).als H).get b with
  | some x =>
    rcases lay_inv h1 with ⟨a, k1, k2, k3, k4⟩ | ⟨k1, k2⟩
    · subst k3 k4
      rw [lay_in (fun a h1 a' h2 => hC.al_uniq h1 h2) a (hm.1 a k1) k2]
    · rw [lay_out, k2]
      intro a ha hs
      rcases hm.2 a ha with h | h
      · exact k1 a h hs
      · rw [hsel _ h] at hs; cases hs
  | none =>
    cases h2 : (lay sel d.als H).get b with
    | none => rfl
    | some x =>
      rcases lay_inv h2 with ⟨a, k1, k2, k3, k4⟩ | ⟨k1, k2⟩
      · subst k3 k4
        rcases hm.2 a k1 with h | h
        · rw [lay_in (fun a h1 a' h2 => hC.al_uniq (hm.1 a h1) (hm.1 a' h2)) a h k2] at h1; cases h1
        · rw [hsel _ h] at k2; cases k2
      · rw [lay_out fun a ha hs => k1 a (hm.1 a ha) hs, k2] at h1; cases h1
/-- An effect. -/
theorem Cx.effStep (hC : Cx P cf rf ops g r h n0 d D) {j : Nat} (hj : j < ops.size) (he : IsEff D j) : ∃ o v h', ops[j]? = some o ∧ 3 ≤ cls P o.op ∧ Nat.ble g j = false ∧ inChain (mkA ops j) (D j).s (D j).pn = true ∧ opE cf rf (opA P (D j).r o (lay (selM (mkA ops j) (D j).s.cm) (D j).als (D j).s.h)) = .val v h' ∧ (D (j + 1)).s = ⟨some j, Nat.lor (D j).s.cm (mkA ops j), h'⟩ ∧ (D (j + 1)).r = putD o.dst v (D j).r := by
  have ho : ops[j]? = some ops[j] := Array.getElem?_eq_getElem hj
  have hs := hC.tr.step j _ ho
  have hne : (D (j + 1)).s ≠ (D j).s := by
    intro e
    unfold IsEff at he
    rw [e] at he
    exact absurd (hC.tr.elt rfl j (by omega) j he).1 (Nat.lt_irrefl _)
  generalize D (j + 1) = s' at hs hne
  generalize D j = s at hs hne
  cases hs <;> first | exact absurd rfl hne | skip
  rename_i hw hc hg hch v h' e
  exact ⟨_, v, h', ho, hc, hg, hch, e, rfl, rfl⟩
/-- Effects stand in a row. -/
theorem Cx.chain (hC : Cx P cf rf ops g r h n0 d D) : ∀ k, k ≤ ops.size → ∀ j, j < k → IsEff D j → ∃ e, (D k).s.e = some e ∧ (j = e ∨ tb (mkA ops e) j = true) := by
  intro k
  induction k with
  | zero => intro _ j hj; omega
  | succ k ih =>
    intro hk j hj he
    have ho : ops[k]? = some ops[k] := Array.getElem?_eq_getElem (by omega)
    by_cases hek : IsEff D k
    · refine ⟨k, hek, ?_⟩
      by_cases hjk : j = k
      · exact .inl hjk
      · obtain ⟨e, h1, h2⟩ := ih (by omega) j (by omega) he
        obtain ⟨o, v, h', _, _, _, hch, _⟩ := hC.effStep (by omega) hek
        unfold inChain at hch
        rw [both_eq, Bool.and_eq_true, h1] at hch
        have hch : tb (mkA ops k) e = true := hch.1
        rcases h2 with rfl | h2
        · exact .inr hch
        · exact .inr (mk_trans hC.st.back k e j hch h2)
    · have hjk : j ≠ k := fun e => hek (e ▸ he)
      obtain ⟨e, h1, h2⟩ := ih (by omega) j (by omega) he
      have := (hC.tr.stage rfl (Nat.le_succ k) hk (fun i h1 h2 => by have : i = k := by omega
                                                                     subst this; exact hek)).1
      exact ⟨e, by rw [this]; exact h1, h2⟩
theorem Cx.ahead (hC : Cx P cf rf ops g r h n0 d D) {i : Nat} (hi : i < ops.size) (hch : inChain (mkA ops i) (D i).s (D i).pn = true) {j : Nat} (hj : j < i) (he : IsEff D j) : tb (mkA ops i) j = true := by
  obtain ⟨e, h1, h2⟩ := hC.chain i (by omega) j hj he
  unfold inChain at hch
  rw [both_eq, Bool.and_eq_true, h1] at hch
  have hch : tb (mkA ops i) e = true := hch.1
  rcases h2 with rfl | h2
  · exact hch
  · exact mk_trans hC.st.back i e j hch h2
theorem Cx.pnStep (hC : Cx P cf rf ops g r h n0 d D) : ∀ k, k ≤ ops.size → ∀ p, (D k).pn = some p → p.2.2 < k ∧ ∃ o, ops[p.2.2]? = some o ∧ 3 ≤ cls P o.op ∧ (D (p.2.2 + 1)).pn = some p ∧ (D p.2.2).pn = none := by
  intro k
  induction k with
  | zero => intro _ p hp; rw [hC.tr.first] at hp; cases hp
  | succ k ih =>
    intro hk p hp
    have ho : ops[k]? = some ops[k] := Array.getElem?_eq_getElem (by omega)
    have hs := hC.tr.step k _ ho
    by_cases hold : (D k).pn = some p
    · obtain ⟨a, b⟩ := ih (by omega) p hold
      exact ⟨by omega, b⟩
    · have hp0 := hp
      generalize hs' : D (k + 1) = s' at hs hp
      generalize hs0 : D k = s at hs hold
      cases hs <;> first | exact absurd hp hold | skip
      rename_i hw hc hg hch ch h' e
      simp only [Option.some.injEq] at hp
      subst hp
      refine ⟨by simp, _, ho, hc, hp0, ?_⟩
      simp only
      rw [hs0]
      unfold inChain at hch
      rw [both_eq, Bool.and_eq_true] at hch
      cases hpn : s.pn with
      | none => rfl
      | some p' => rw [hpn] at hch; cases hch.2
/-- A store in no order. -/
theorem Cx.gStep (hC : Cx P cf rf ops g r h n0 d D) : ∀ k, k ≤ ops.size → ∀ a ∈ (D k).grp, ∃ o t ax xx j v x0 h1, a.i < k ∧ ops[a.i]? = some o ∧ 3 ≤ cls P o.op ∧ a.m = mkA ops a.i ∧ Nat.ble g a.i = true ∧ inChain (mkA ops a.i) (D a.i).s (D a.i).pn = true ∧ o.op = .store t ax xx ∧ opnd (D a.i).r ax = some (.ptr a.b j) ∧ opnd (D a.i).r xx = some v ∧
    (D a.i).s.h.get a.b = some x0 ∧ noKill j (D a.i).s.h x0.sibs = true ∧ grpFree a.b x0.sibs (D a.i).grp = true ∧ store P t (.ptr a.b j) v (D a.i).s.h = some h1 ∧ h1.get a.b = some a.x := by
  intro k
  induction k with
  | zero => intro _ a ha; rw [hC.tr.first] at ha; cases ha
  | succ k ih =>
    intro hk a ha
    have ho : ops[k]? = some ops[k] := Array.getElem?_eq_getElem (by omega)
    have hs := hC.tr.step k _ ho
    by_cases hold : a ∈ (D k).grp
    · obtain ⟨o, t, ax, xx, j, v, x0, h1, c, e⟩ := ih (by omega) a hold
      exact ⟨o, t, ax, xx, j, v, x0, h1, by omega, e⟩
    · generalize hs' : D (k + 1) = s' at hs ha
      generalize hs0 : D k = s at hs hold
      cases hs <;> first | exact absurd ha hold | skip
      rename_i hw hc hg hch t ax xx c j v x0 x1 h1 hop ea ex e0 hkk hf es e1
      rcases List.mem_cons.1 ha with rfl | ha
      · subst hs0
        exact ⟨_, t, ax, xx, j, v, x0, h1, by simp, ho, hc, rfl, hg, hch, hop, ea, ex, e0, hkk, hf, es, e1⟩
      · exact absurd ha hold
theorem stores_sib {H H' : Hp} {b j : Nat} {l : List (Option AV)} (h : stores H b j l = some H') {x x' : Blk} (hx : H.get b = some x) (hx' : H'.get b = some x') : x'.sibs = x.sibs := by
  unfold stores at h
  split at h
  · cases h; rw [hx] at hx'; cases hx'; rfl
  · split at h
    · rename_i hb
      rw [hx] at hb; cases hb
      obtain ⟨_, rfl⟩ := cond_some h
      rw [Hp.get_set, if_pos rfl] at hx'; cases hx'; rfl
    · rename_i hb
      rw [hx] at hb; cases hb
      obtain ⟨_, rfl⟩ := cond_some h
      rw [Hp.get_set, if_pos rfl] at hx'; cases hx'; rfl
    · cases h
theorem store_stores {P : Program} {t : TypeId} {c j : Nat} {v : AV} {H H' : Hp} (h : store P t (.ptr c j) v H = some H') : stores H c j (v.cells.map some) = some H' := by
  have h : (oo (tAgg P t) none fun g => ob (Nat.beq v.cells.length g.2) none (stores H c j (v.cells.map some))) = some H' := h
  obtain ⟨_, _, h2⟩ := oo_eq h
  exact (ob_eq h2).2
theorem Cx.grps (hC : Cx P cf rf ops g r h n0 d D) {a : Gp} (ha : a ∈ d.grp) : ∃ o t ax xx j v x0 h1, a.i < ops.size ∧ ops[a.i]? = some o ∧ 3 ≤ cls P o.op ∧ a.m = mkA ops a.i ∧ Nat.ble g a.i = true ∧ inChain (mkA ops a.i) (D a.i).s (D a.i).pn = true ∧ o.op = .store t ax xx ∧ opnd (D a.i).r ax = some (.ptr a.b j) ∧ opnd (D a.i).r xx = some v ∧
    (D a.i).s.h.get a.b = some x0 ∧ noKill j (D a.i).s.h x0.sibs = true ∧ grpFree a.b x0.sibs (D a.i).grp = true ∧ store P t (.ptr a.b j) v (D a.i).s.h = some h1 ∧ h1.get a.b = some a.x :=
  hC.gStep _ (Nat.le_refl _) a (by rw [hC.tr.last]; exact ha)
theorem Cx.g_free (hC : Cx P cf rf ops g r h n0 d D) {a b : Gp} (ha : a ∈ d.grp) (hb : b ∈ d.grp) (hi : a.i < b.i) : a.b ≠ b.b ∧ (∀ s ∈ b.x.sibs, s ≠ a.b) ∧ ∀ s ∈ a.x.sibs, s ≠ b.b := by
  obtain ⟨o, t, ax, xx, j, v, x0, h1, k1, k2, k3, k4, k5, k6, k7, k8, k9, k10, k11, k12, k13, k14⟩ := hC.grps hb
  have hm := hC.tr.grpm (i := b.i) (k := ops.size) (by omega) (Nat.le_refl _)
  rw [hC.tr.last] at hm
  have ha' : a ∈ (D b.i).grp := (hm.2 a ha).resolve_right (by omega)
  have := List.all_eq_true.1 k12 a ha'
  simp only [Bool.and_eq_true, Bool.not_eq_true', List.all_eq_true] at this
  have nb : ∀ x y : Nat, Nat.beq x y = false → x ≠ y := fun x y e e' => by subst e'; simp at e
  obtain ⟨⟨q1, q2⟩, q3⟩ := this
  refine ⟨nb _ _ q1, fun s hs => ?_, fun s hs => nb _ _ (q3 s hs)⟩
  rw [stores_sib (store_stores k13) k10 k14] at hs
  exact nb _ _ (q2 s hs)
theorem Cx.g_idx (hC : Cx P cf rf ops g r h n0 d D) {a b : Gp} (ha : a ∈ d.grp) (hb : b ∈ d.grp) (hi : a.i = b.i) : a = b := by
  obtain ⟨o, t, ax, xx, j, v, x0, h1, k1, k2, k3, k4, k5, k6, k7, k8, k9, k10, k11, k12, k13, k14⟩ := hC.grps ha
  obtain ⟨o', t', ax', xx', j', v', x0', h1', k1', k2', k3', k4', k5', k6', k7', k8', k9', k10', k11', k12', k13', k14'⟩ := hC.grps hb
  obtain ⟨i, m, b0, x⟩ := a
  obtain ⟨i', m', b0', x'⟩ := b
  simp only at *
  subst hi
  rw [k2] at k2'; cases k2'
  rw [k7] at k7'; cases k7'
  rw [k8] at k8'; cases k8'
  rw [k9] at k9'; cases k9'
  rw [k13] at k13'; cases k13'
  rw [k14] at k14'; cases k14'
  rw [k4, k4']
theorem Cx.g_uniq (hC : Cx P cf rf ops g r h n0 d D) {a b : Gp} (ha : a ∈ d.grp) (hb : b ∈ d.grp) (he : a.b = b.b) : a = b := by
  rcases Nat.lt_trichotomy a.i b.i with k | k | k
  · exact absurd he (hC.g_free ha hb k).1
  · exact hC.g_idx ha hb k
  · exact absurd he.symm (hC.g_free hb ha k).1
theorem Cx.gok (hC : Cx P cf rf ops g r h n0 d D) {a : Gp} (ha : a ∈ d.grp) : (∀ t ∈ d.tks, tb a.m t.i = true) ∧ ∀ al ∈ d.als, ∀ s ∈ a.x.sibs, s ≠ al.b := by
  have := List.all_eq_true.1 hC.grp a ha
  rw [Bool.and_eq_true, List.all_eq_true, List.all_eq_true] at this
  refine ⟨this.1, fun al hal s hs e => ?_⟩
  have h2 := List.all_eq_true.1 (this.2 al hal) s hs
  subst e
  simp at h2
end
end Go.Proofs.YtmoejaloachlkaaGreatDoor.Ev
