/- The evaluator's soundness, 22: drawn regions: what holds between operations. -/
import Derived.Test.YtmoejaloachlkaaGreatDoorFp
namespace Go.Proofs.YtmoejaloachlkaaGreatDoor.Ev
open Go Go.RowKit

section
variable {B : Nat} {π0 π π' : Pi} {h H HA HB Hin H' : Hp} {w0 w w' : World}
/-- A block of the region is made. -/
theorem Step.addBlock (hs : Step B π0 h w0 π H w) {b z : Nat} {x : Blk} {o : Obj} (hb : π b = none) (hlo : h.nx ≤ b) (hhi : b < H.nx) (hx : ∀ w', BR π w' x z o) (hn : H'.nx = H.nx)
    (hH : ∀ c y, H'.get c = some y → (c = b ∧ y = x) ∨ (c ≠ b ∧ H.get c = some y)) : Step B π0 h w0 (piNew π b w.heap.size z) H' (w.alloc o) := by
  have he := piNew_ext' hb w.heap.size z
  have hheap : ∀ c, c < w.heap.size → (w.alloc o).heap[c]? = w.heap[c]? := fun c hc => Below.heap_alloc _ _ _ hc
  have hevo : ∀ c, c < w.heap.size → Evo w.heap[c]? (w.alloc o).heap[c]? := fun c hc => Evo.of_eq (hheap c hc)
  have hB := hs.rel.low
  have h := hs.rel
  have hdm : ∀ b p, π b = some p → p.1 < w.heap.size := fun b p hp => (h.dom b p hp).2
  refine ⟨hs.ext.trans he, ⟨by simp; omega, fun g hg => let ⟨z, hz⟩ := h.glob g hg; ⟨z, he _ _ hz⟩, ?_, ?_, ?_⟩, ?_, ?_, by rw [hn]; exact hs.nx, ?_, ?_, hs.out, fun c hc => (hs.evo c hc).trans (hevo c (Nat.lt_of_lt_of_le hc hs.size))⟩
  · intro c y hy
    rcases hH c y hy with ⟨rfl, rfl⟩ | ⟨hne, hy⟩
    · exact ⟨w.heap.size, z, o, by simp [piNew], heap_alloc_new w o, (hx w).on he hevo hdm, fun _ => hB⟩
    · obtain ⟨c', z1, o1, h1, h2, h3, h4⟩ := h.blk c y hy
      exact ⟨c', z1, o1, he _ _ h1, (hheap c' (h.dom _ _ h1).2).trans h2, h3.on he hevo hdm, h4⟩
  · intro c p hp
    rw [hn]
    unfold piNew at hp
    split at hp
    · rename_i e; subst e; cases hp; exact ⟨hhi, by simp⟩
    · have := h.dom c p hp; exact ⟨this.1, by simp; omega⟩
  · intro b1 y b2 y' c z1 z2 hy hy' hp hp' hne
    unfold piNew at hp hp'
    rcases hH b1 y hy with ⟨e, _⟩ | ⟨e, hyo⟩
    · rw [if_pos e] at hp; cases hp
      rw [if_neg (fun k => hne (by rw [e, k]))] at hp'
      have := (h.dom _ _ hp').2
      simp at this
    · rw [if_neg e] at hp
      rcases hH b2 y' hy' with ⟨e', _⟩ | ⟨e', hyo'⟩
      · rw [if_pos e'] at hp'; cases hp'
        have := (h.dom _ _ hp).2
        simp at this
      · rw [if_neg e'] at hp'
        exact h.sep b1 y b2 y' c z1 z2 hyo hyo' hp hp' hne
  · intro c hc hno
    rw [hheap c (Nat.lt_of_lt_of_le hc hs.size)]
    exact hs.fr c hc hno
  · have := hs.size; simp; omega
  · intro c p hp hnone
    unfold piNew at hp
    split at hp
    · rename_i e; subst e; cases hp; exact ⟨hlo, .inl hs.size⟩
    · exact hs.new c p hp hnone
  · intro c y hy
    rcases hH c y hy with ⟨rfl, rfl⟩ | ⟨hne, hyo⟩
    · exact .inr hlo
    · exact hs.old c y hyo
/-- What a run over a part of the heap does not turn stays. -/
theorem Step.merge (h0 : HRel π0 B h w0) (hs : Step B π0 h w0 π HA w) (hle : Hle Hin HA) (hnx : Hin.nx = HA.nx) (he : Step B π Hin w π' H' w') (hnB : HB.nx = H'.nx)
    (hB : ∀ c y, HB.get c = some y → H'.get c = some y ∨ (HA.get c = some y ∧ Hin.get c = none ∧ y.wr = true ∧ y.sib = [])) : Step B π0 h w0 π' HB w' := by
  have hs' : Step B π0 h w0 π Hin w := hs.less hle (by omega)
  have ht := Step.trans h0 hs' he
  refine ⟨ht.ext, ⟨he.rel.low, he.rel.glob, ?_, fun b p hp => by rw [hnB]; exact he.rel.dom b p hp, ?_⟩, ht.fr, ht.size, by rw [hnB]; exact ht.nx, ht.new, ?_, ht.out, ht.evo⟩
  · intro b x hx
    rcases hB b x hx with hx | ⟨hx, hn, hw, hsb⟩
    · exact he.rel.blk b x hx
    · obtain ⟨c, z, o, k1, k2, k3, k4⟩ := hs.rel.blk b x hx
      refine ⟨c, z, o, he.ext _ _ k1, ?_, k3.on he.ext he.evo (fun b p hp => (hs.rel.dom b p hp).2), k4⟩
      rw [he.fr c (hs.rel.dom _ _ k1).2 ?_]
      · exact k2
      · intro b2 x2 z2 hx2 hw2 hp2
        have hne : b ≠ b2 := by intro e; subst e; rw [hn] at hx2; cases hx2
        have := ((hs.rel.sep b x b2 x2 c z z2 hx (hle _ _ hx2) k1 hp2 hne).2 hw).1
        rw [hsb] at this; cases this
  · have none_of : ∀ b x b' x' c z z', (HA.get b = some x ∧ Hin.get b = none ∧ x.wr = true ∧ x.sib = []) → H'.get b' = some x' → π' b = some (c, z) → π' b' = some (c, z') → False := by
      intro b x b' x' c z z' ⟨hx, hn, hw, hsb⟩ hx' hp hp'
      obtain ⟨c1, z1, o1, k1, _⟩ := hs.rel.blk b x hx
      have := he.ext _ _ k1
      rw [hp] at this; cases this
      cases hb' : π b' with
      | none =>
        have k2 := (hs.rel.dom _ _ k1).2
        rcases (he.new b' _ hp' hb').2 with q | ⟨b0, x0, z0, q1, q2, q3⟩
        · simp at *; omega
        · have hne : b ≠ b0 := by intro e; subst e; rw [hn] at q1; cases q1
          have := ((hs.rel.sep b x b0 x0 c z z0 hx (hle _ _ q1) k1 q3 hne).2 hw).1
          rw [hsb] at this; cases this
      | some p =>
        have := he.ext _ _ hb'
        rw [hp'] at this; cases this
        rcases he.old b' x' hx' with ⟨y, hy, _⟩ | hge
        · have hne : b ≠ b' := by intro e; subst e; rw [hn] at hy; cases hy
          have := ((hs.rel.sep b x b' y c z z' hx (hle _ _ hy) k1 hb' hne).2 hw).1
          rw [hsb] at this; cases this
        · have := (hs.rel.dom _ _ hb').1
          omega
    intro b x b' x' c z z' hx hx' hp hp' hne
    rcases hB b x hx with k | k
    · rcases hB b' x' hx' with k' | k'
      · exact he.rel.sep b x b' x' c z z' k k' hp hp' hne
      · exact (none_of b' x' b x c z' z k' k hp' hp).elim
    · rcases hB b' x' hx' with k' | k'
      · exact (none_of b x b' x' c z z' k k' hp hp').elim
      · obtain ⟨hx, hn, hw, hsb⟩ := k
        obtain ⟨c1, z1, o1, k1, _⟩ := hs.rel.blk b x hx
        obtain ⟨c2, z2, o2, k2, _⟩ := hs.rel.blk b' x' k'.1
        have e1 := he.ext _ _ k1
        have e2 := he.ext _ _ k2
        rw [hp] at e1; cases e1
        rw [hp'] at e2; cases e2
        have := ((hs.rel.sep b x b' x' c z z' hx k'.1 k1 k2 hne).2 hw).1
        rw [hsb] at this; cases this
  · intro b x hx
    rcases hB b x hx with hx | ⟨hx, _⟩
    · exact ht.old b x hx
    · exact hs.old b x hx
end

/-! ### What holds between operations -/
def lst (l : Array Bool) (j : Nat) : Bool := l.getD j false
theorem lst_set {l : Array Bool} {i : Nat} (hi : i < l.size) (j : Nat) : lst (l.setIfInBounds i true) j = if j = i then true else lst l j := by
  unfold lst
  by_cases h : j = i
  · subst h; simp [hi]
  · rw [if_neg h]; simp [Array.getElem?_setIfInBounds_ne (fun e => h e.symm)]
noncomputable def selL (l : Array Bool) (cm j : Nat) : Bool := ob (tb cm j) (lst l j) false
theorem selL_iff {l : Array Bool} {cm j : Nat} : selL l cm j = true ↔ lst l j = true ∧ tb cm j = false := by
  unfold selL
  cases tb cm j with
  | false => rw [ob_false]; simp
  | true => rw [ob_true]; simp
theorem selM_iff {m cm j : Nat} : selM m cm j = true ↔ tb m j = true ∧ tb cm j = false := by
  unfold selM
  cases tb m j with
  | false => rw [ob_false]; simp
  | true =>
    rw [ob_true]
    cases tb cm j with
    | false => rw [ob_false]; simp
    | true => rw [ob_true]; simp
/-- What is known when the operations l have run; the last effects' stage S. -/
noncomputable def HL (d : DS) (l : Array Bool) (S : Stg) : Hp := laygS (lst l) d.grp (lay (selL l S.cm) d.als S.h)
structure SInv (ops : Array Oper) (r : T AV) (h : Hp) (n0 : Nat) (d : DS) (D : Nat → DS) (B : Nat) (π0 : Pi) (w0 : World) (q : Q) (l : Array Bool) (a : Act) (w : World) (π : Pi) (i0 : Nat) : Prop where
  ln : l.size = ops.size
  hi0 : i0 ≤ ops.size
  eff : ∀ j, j < ops.size → IsEff D j → (lst l j = true ↔ j < i0)
  st : Step B π0 h w0 π (HL d l (D i0).s) w
  reg : ∀ t v, ((∃ (j : Nat) (o : Oper), ops[j]? = some o ∧ o.dst = some t ∧ lst l j = true) ∧ d.r.get (Pos.of t) = some v) ∨ ((∀ (j : Nat) (o : Oper), ops[j]? = some o → o.dst = some t → lst l j = false) ∧ r.get (Pos.of t) = some v) → ∃ cv, a.tmps[t]? = some cv ∧ VR π v cv
  asz : a.tmps.size = q.sz
  adf : DRs π q.df a.defers
  cm : ∀ j, tb (D i0).s.cm j = true → lst l j = true
  fresh : ∀ al ∈ d.als, lst l al.i = false → π al.b = none
  freshS : ∀ al ∈ d.als, tb (D i0).s.cm al.i = false → (D i0).s.h.get al.b = none
  nx : n0 ≤ (D i0).s.h.nx
  pn : ∀ p, d.pn = some p → lst l p.2.2 = false
  down : Down ops (lst l)
  alx : ∀ al ∈ d.als, lst l al.i = true → al.x.wr = true ∧ al.x.sib = []
section
variable {P : Program} {cf : CallF} {rf : RndF} {ops : Array Oper} {g : Nat} {r : T AV} {h : Hp} {n0 : Nat} {d : DS} {D : Nat → DS} {B : Nat} {π0 π : Pi} {w0 w : World} {q : Q} {l : Array Bool} {a : Act} {i0 i : Nat} {o : Oper} {S : Stg}
theorem HL_nx : (HL d l S).nx = S.h.nx := by unfold HL; rw [layg_nx, lay_nx]
theorem HL_inv {b : Nat} {x : Blk} (e : (HL d l S).get b = some x) : (∃ g ∈ d.grp, lst l g.i = true ∧ g.b = b ∧ g.x = x) ∨ ((∀ g ∈ d.grp, lst l g.i = true → g.b ≠ b) ∧
    ((∃ al ∈ d.als, lst l al.i = true ∧ tb S.cm al.i = false ∧ al.b = b ∧ al.x = x) ∨ ((∀ al ∈ d.als, lst l al.i = true → tb S.cm al.i = false → al.b ≠ b) ∧ S.h.get b = some x))) := by
  rcases layg_inv e with h1 | ⟨h1, h2⟩
  · exact .inl h1
  · refine .inr ⟨h1, ?_⟩
    rcases lay_inv h2 with ⟨al, k1, k2, k3⟩ | ⟨k1, k2⟩
    · have := selL_iff.1 k2
      exact .inl ⟨al, k1, this.1, this.2, k3⟩
    · exact .inr ⟨fun al hal h1 h2 => k1 al hal (selL_iff.2 ⟨h1, h2⟩), k2⟩
theorem HL_g (hC : Cx P cf rf ops g r h n0 d D) {x : Gp} (hx : x ∈ d.grp) (hl : lst l x.i = true) : (HL d l S).get x.b = some x.x := layg_in (fun a h1 a' h2 => hC.g_uniq h1 h2) x hx hl
theorem HL_al (hC : Cx P cf rf ops g r h n0 d D) {al : Al} (ha : al ∈ d.als) (hl : lst l al.i = true) (hc : tb S.cm al.i = false) (hg : ∀ g ∈ d.grp, lst l g.i = true → g.b ≠ al.b) : (HL d l S).get al.b = some al.x := by
  unfold HL
  rw [layg_out hg]
  exact lay_in (fun a h1 a' h2 => hC.al_uniq h1 h2) al ha (selL_iff.2 ⟨hl, hc⟩)
theorem HL_s {b : Nat} (hg : ∀ g ∈ d.grp, lst l g.i = true → g.b ≠ b) (ha : ∀ al ∈ d.als, lst l al.i = true → tb S.cm al.i = false → al.b ≠ b) : (HL d l S).get b = S.h.get b := by
  unfold HL
  rw [layg_out hg]
  exact lay_out fun al hal hs => ha al hal (selL_iff.1 hs).1 (selL_iff.1 hs).2
/-- Registers that an operation looks at. -/
noncomputable def restr (r : T AV) : List Nat → T AV
  | [] => .e
  | t :: ts => (restr r ts).put (r.get (Pos.of t)) (Pos.of t)
theorem restr_get (r : T AV) : ∀ (ts : List Nat) (t : Nat), (restr r ts).get (Pos.of t) = if t ∈ ts then r.get (Pos.of t) else none
  | [], t => by simp [restr, T.get_e]
  | s :: ts, t => by
    unfold restr
    rw [T.get_putN, restr_get r ts t]
    by_cases e : t = s
    · subst e; simp
    · simp [e]
theorem SInv.look (hC : Cx P cf rf ops g r h n0 d D) (hI : SInv ops r h n0 d D B π0 w0 q l a w π i0) (ho : ops[i]? = some o) (hLi : lst l i = false) (hrdy : ∀ j, tb (mkA ops i) j = true → lst l j = true) :
    RR π (restr (D i).r (o.looksAt ops)) a.tmps := by
  intro t v hv
  rw [restr_get] at hv
  split at hv
  · rename_i ht
    have hi := Cx.lt_of ho
    refine hI.reg t v ?_
    by_cases hex : ∃ (j : Nat) (oj : Oper), ops[j]? = some oj ∧ oj.dst = some t ∧ lst l j = true
    · refine .inl ⟨hex, ?_⟩
      obtain ⟨j, oj, h1, h2, h3⟩ := hex
      have hj := Cx.lt_of h1
      have hji : tb (mkA ops i) j = true := by
        rcases hC.st.names i o ho t ht j oj h1 h2 with e | e | e
        · subst e; rw [hLi] at h3; cases h3
        · exact e
        · have := hI.down j h3 i e; rw [hLi] at this; cases this
      have hlt := mk_lt hC.st.back i j hji
      rw [← hC.tr.last, hC.tr.reg (i := i) (k := ops.size) (by omega) (Nat.le_refl _) ?_]
      · exact hv
      · intro k ok h4 h5 h6 h7
        have := hC.st.uniq k j ok oj t h6 h1 h7 h2
        omega
    · refine .inr ⟨fun j oj h1 h2 => ?_, ?_⟩
      · cases hl : lst l j with
        | false => rfl
        | true => exact absurd ⟨j, oj, h1, h2, hl⟩ hex
      · rw [hC.tr.reg (i := 0) (k := i) (by omega) (by omega) ?_, hC.tr.first] at hv
        · exact hv
        · intro k ok h4 h5 h6 h7
          rcases hC.st.names i o ho t ht k ok h6 h7 with e | e | e
          · omega
          · exact hex ⟨k, ok, h6, h7, hrdy k e⟩
          · have := mk_lt hC.st.back k i e; omega
  · cases hv
theorem restr_agree (r : T AV) (o : Oper) : OAgree r (restr r (o.looksAt ops)) o := by
  intro t ht
  rw [restr_get, if_pos]
  unfold Oper.looksAt
  exact List.mem_append_left _ (List.mem_filterMap.2 ⟨.tmp t, by simpa using ht, rfl⟩)
theorem wantA_restr (r : T AV) (o : Oper) : wantA ops (restr r (o.looksAt ops)) o = wantA ops r o := by
  unfold wantA
  cases hg : o.guard with
  | none => rfl
  | some gd =>
    show grdA ops _ gd = grdA ops _ gd
    unfold grdA
    cases hd : grdD ops gd with
    | none => rfl
    | some dd =>
      show oo ((restr r (o.looksAt ops)).get (Pos.of dd)) _ _ = oo (r.get (Pos.of dd)) _ _
      rw [restr_get, if_pos]
      unfold Oper.looksAt
      refine List.mem_append_right _ ?_
      rw [hg]
      unfold grdD at hd
      cases hx : ops[gd.1]? with
      | none => rw [hx] at hd; cases hd
      | some y =>
        rw [hx] at hd
        have hd : y.dst = some dd := hd
        simp [hx, hd]
/-- One operation more. -/
theorem SInv.adv (hC : Cx P cf rf ops g r h n0 d D) (hI : SInv ops r h n0 d D B π0 w0 q l a w π i0) (hdst : dstOk q.sz ops.toList = true) (ho : ops[i]? = some o) (hrdy : ∀ j, tb (mkA ops i) j = true → lst l j = true) {π' : Pi} {w' : World} {cv : Value} {v : AV}
    (hr : (D (i + 1)).r = putD o.dst v (D i).r) (hv : VR π' v cv) (hE : PExt π π') (i0' : Nat) (h1 : i0' ≤ ops.size) (h2 : ∀ j, j < ops.size → IsEff D j → (lst (l.setIfInBounds i true) j = true ↔ j < i0'))
    (h3 : Step B π0 h w0 π' (HL d (l.setIfInBounds i true) (D i0').s) w') (h4 : ∀ j, tb (D i0').s.cm j = true → lst (l.setIfInBounds i true) j = true) (h5 : ∀ al ∈ d.als, lst l al.i = false → al.i ≠ i → π' al.b = none)
    (h6 : ∀ al ∈ d.als, tb (D i0').s.cm al.i = false → (D i0').s.h.get al.b = none) (h7 : n0 ≤ (D i0').s.h.nx) (h8 : ∀ p, d.pn = some p → p.2.2 ≠ i) (h9 : ∀ al ∈ d.als, al.i = i → al.x.wr = true ∧ al.x.sib = []) : SInv ops r h n0 d D B π0 w0 q (l.setIfInBounds i true) (a.put o.dst cv) w' π' i0' := by
  have hi := Cx.lt_of ho
  have hil : i < l.size := by rw [hI.ln]; exact hi
  have hLs := lst_set (l := l) hil
  refine ⟨by simp [hI.ln], h1, h2, h3, ?_, by rw [put_size]; exact hI.asz, by rw [put_defers]; exact hI.adf.mono hE, h4, ?_, h6, h7, ?_, ?_, ?_⟩
  · intro t u hu
    by_cases ht : o.dst = some t
    · have hu' : u = v := by
        rcases hu with ⟨_, hu⟩ | ⟨hu, _⟩
        · rw [← hC.tr.last, hC.tr.reg (i := i + 1) (k := ops.size) (by omega) (Nat.le_refl _) ?_, hr, putD_same ht] at hu
          · simpa using hu.symm
          · intro k ok k1 k2 k3 k4
            have := hC.st.uniq k i ok o t k3 ho k4 ht
            omega
        · have := hu i o ho ht
          rw [hLs, if_pos rfl] at this; cases this
      subst hu'
      refine ⟨cv, ?_, hv⟩
      have hlt : t < a.tmps.size := by rw [hI.asz]; exact dstOk_mem hdst (List.mem_of_getElem? (by rw [Array.getElem?_toList]; exact ho)) ht
      rw [ht]
      show (a.tmps.setIfInBounds t cv)[t]? = some cv
      simp [hlt]
    · obtain ⟨cu, k1, k2⟩ := hI.reg t u (hu.imp (fun ⟨⟨j, oj, a1, a2, a3⟩, b⟩ => ⟨⟨j, oj, a1, a2, by
          rw [hLs] at a3
          split at a3
          · rename_i e; subst e; rw [ho] at a1; cases a1; exact absurd a2 ht
          · exact a3⟩, b⟩) (fun ⟨k1, b⟩ => ⟨fun j oj a1 a2 => by
          have := k1 j oj a1 a2
          rw [hLs] at this
          split at this
          · cases this
          · exact this, b⟩))
      refine ⟨cu, ?_, k2.mono hE⟩
      cases hd : o.dst with
      | none => exact k1
      | some dd =>
        show (a.tmps.setIfInBounds dd cv)[t]? = some cu
        rw [Array.getElem?_setIfInBounds_ne (fun e => ht (by rw [hd, e]))]; exact k1
  · intro al hal hl
    rw [hLs] at hl
    split at hl
    · cases hl
    · rename_i hne; exact h5 al hal hl hne
  · intro p hp
    rw [hLs, if_neg (h8 p hp)]; exact hI.pn p hp
  · intro k hk j hj
    rw [hLs] at hk ⊢
    split
    · rfl
    · split at hk
      · rename_i e; subst e; exact hrdy j hj
      · exact hI.down k hk j hj
  · intro al hal hl
    rw [hLs] at hl
    split at hl
    · rename_i e; exact h9 al hal e
    · exact hI.alx al hal hl
end
end Go.Proofs.YtmoejaloachlkaaGreatDoor.Ev
