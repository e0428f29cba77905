/- The evaluator's soundness, 24: drawn regions: whatever the order. -/
import Derived.Test.YtmoejaloachlkaaGreatDoorFr
import Derived.OrdersIn
namespace Go.Proofs.YtmoejaloachlkaaGreatDoor.Ev
open Go Go.RowKit

section
variable {P : Program} {cf : CallF} {rf : RndF} {ops : Array Oper} {g : Nat} {r : T AV} {h : Hp} {n0 : Nat} {d : DS} {D : Nat → DS} {B : Nat} {π0 π : Pi} {w0 w : World} {q : Q} {l : Array Bool} {a : Act} {i0 i : Nat} {o : Oper} {ro : Option Nat} {m : Nat} {K : Act → World → Prop} {Q' : Exit → Act → World → Prop}
theorem tkOk_spec (hC : Cx P cf rf ops g r h n0 d D) {t : Tk} {i0 : Nat} (h1 : ∀ j, j < ops.size → IsEff D j → i0 ≤ j → tb t.m j = false) (h2 : ∀ j, j < ops.size → IsEff D j → j < i0 → tb (mkA ops j) t.i = false) :
    ∀ k, i0 ≤ k → k ≤ ops.size → tkOk P (mkA ops) d.als t (D k).s (D k).st = true → tkAt P d.als t (D i0).s = true := by
  intro k
  induction k with
  | zero =>
    intro hk _ e
    have : i0 = 0 := by omega
    subst this
    rw [hC.tr.first] at e ⊢
    exact e
  | succ k ih =>
    intro hk hkn e
    have ho : ops[k]? = some ops[k] := Array.getElem?_eq_getElem (by omega)
    rcases (hC.tr.step k _ ho).stg with ⟨e1, e2⟩ | ⟨e1, e2⟩
    · by_cases hik : i0 = k + 1
      · -- the stage of i0 = k + 1 is k's own
        rw [hik, e1]
        rw [e1, e2] at e
        -- its last effect is behind i0
        cases hst : (D k).st with
        | nil => rw [hst] at e; exact e
        | cons s' l' =>
          rw [hst] at e
          unfold tkOk at e
          split at e
          · rename_i ef hef
            obtain ⟨f1, f2, f3⟩ := hC.tr.elt rfl k (by omega) ef hef
            obtain ⟨g1, _⟩ := beq_and e
            rw [h2 ef (by omega) f2 (by omega)] at g1
            simpa using g1
          · cases e
      · exact ih (by omega) (by omega) (by rw [← e1, ← e2]; exact e)
    · rw [e2] at e
      unfold tkOk at e
      rw [e1] at e
      simp only at e
      obtain ⟨g1, g2⟩ := beq_and e
      by_cases hik : i0 = k + 1
      · rw [hik]
        rw [h2 k (by omega) e1 (by omega)] at g1
        simpa using g1
      · rw [h1 k (by omega) e1 (by omega)] at g2
        exact ih (by omega) (by omega) (by simpa using g2)
/-- A read tells what it told. -/
theorem SInv.read_at (hC : Cx P cf rf ops g r h n0 d D) (hI : SInv ops r h n0 d D B π0 w0 q l a w π i0) (ho : ops[i]? = some o) (hLi : lst l i = false) (hrdy : ∀ j, tb (mkA ops i) j = true → lst l j = true) (hc : cls P o.op = 1) {v : AV} {h' : Hp}
    (e : opA P (D i).r o (lay (selM (mkA ops i) (D i).s.cm) (D i).als (D i).s.h) = .val v h') (ht : (⟨i, mkA ops i, o, (D i).r, v⟩ : Tk) ∈ d.tks) : ∃ h2, opA P (D i).r o (lay (selM (mkA ops i) (D i0).s.cm) d.als (D i0).s.h) = .val v h2 := by
  have hi := Cx.lt_of ho
  have hbk : ∀ j, i ≤ j → ∀ cm, selM (mkA ops i) cm j = false := by
    intro j hj cm
    cases hs : selM (mkA ops i) cm j with
    | false => rfl
    | true => have := mk_lt hC.st.back i j (selM_iff.1 hs).1; omega
  rcases hC.rds with hs | hs
  · obtain ⟨_, _, s3, s4⟩ := seqOk_spec hs
    have hst : (D i0).s = (D i).s := by
      refine hI.stage hC hi ?_ ?_
      · intro j hj he
        obtain ⟨oj, _, _, hoj, hcj, _⟩ := hC.effStep (by omega) he
        have := s4 j i (oj, mkA ops j) (o, mkA ops i) hj (by rw [plan_get, hoj]; rfl) (by rw [plan_get, ho]; rfl) hcj hc
        rw [Nat.zero_add] at this
        exact hrdy j this
      · intro j hj hjn he
        obtain ⟨oj, _, _, hoj, hcj, _⟩ := hC.effStep hjn he
        cases hl : lst l j with
        | false => rfl
        | true =>
          have hne : j ≠ i := by intro e; subst e; rw [ho] at hoj; cases hoj; omega
          have := s3 i j (o, mkA ops i) (oj, mkA ops j) (by omega) (by rw [plan_get, ho]; rfl) (by rw [plan_get, hoj]; rfl) hc hcj
          rw [Nat.zero_add] at this
          rw [hI.down j hl i this] at hLi; cases hLi
    rw [hst]
    refine ⟨_, ((cls1 (r := (D i).r) hc) _ v h' e).2 _ ?_⟩
    intro b x hb
    rw [← hC.lay_eq (by omega) (fun j hj => hbk j hj _)]
    exact hb
  · have hall := List.all_eq_true.1 hs _ ht
    have hat := tkOk_spec hC (t := ⟨i, mkA ops i, o, (D i).r, v⟩) (i0 := i0) ?_ ?_ ops.size hI.hi0 (Nat.le_refl _) (by rw [hC.tr.last]; exact hall)
    · unfold tkAt at hat
      simp only at hat
      split at hat
      · rename_i v' h2 he
        exact ⟨h2, by rw [← AV.beq_eq _ _ hat]; exact he⟩
      · cases hat
    · intro j hj he hij
      cases ht : tb (mkA ops i) j with
      | false => rfl
      | true => have := (hI.eff j hj he).1 (hrdy j ht); omega
    · intro j hj he hij
      cases ht : tb (mkA ops j) i with
      | false => rfl
      | true => rw [hI.down j ((hI.eff j hj he).2 hij) i ht] at hLi; cases hLi
theorem step_sound (hO : OpsOk P) (hcf : CfOk P cf) (hrf : RfOk P rf) (hC : Cx P cf rf ops g r h n0 d D) (hI : SInv ops r h n0 d D B π0 w0 q l a w π i0) (h0 : HRel π0 B h w0) (hdst : dstOk q.sz ops.toList = true) (hrd : i ∈ Region.ready .any ops l)
    (hK : ∀ a' w' π' i0', SInv ops r h n0 d D B π0 w0 q (l.setIfInBounds i true) a' w' π' i0' → K a' w')
    (hQ : ∀ p chain w' π', d.pn = some p → PRs π' p.1 chain → PExt π π' → Step B π0 h w0 π' p.2.1 w' → Q' (.panic chain) a w') : wpOpIn (Fw ro) m P ops Q' i K a w := by
  obtain ⟨hun, o, ho, hall⟩ := mem_ready.1 hrd
  have hi := Cx.lt_of ho
  have hil : i < l.size := by rw [hI.ln]; exact hi
  have hLi : lst l i = false := by unfold lst; rw [Array.getD_eq_getD_getElem?] at hun ⊢; simpa [Array.getElem?_eq_getElem hil] using hun
  have hrdy : ∀ j, tb (mkA ops i) j = true → lst l j = true := ready_all hC.st.back hI.down ho fun e he hb => hall e (by simpa using he) hb
  have hlook := hI.look hC ho hLi hrdy
  have hcg : ∀ H, opA P (restr (D i).r (o.looksAt ops)) o H = opA P (D i).r o H := fun H => (opA_congr (restr_agree _ _)).symm
  have hwant : ∀ b, wantA ops (D i).r o = some b → Region.wanted o (yielded ops a.tmps) = b := fun b hb => wantA_sound hlook (by rw [wantA_restr]; exact hb)
  -- an operation that comes to a value over a part of the heap
  have goV : ∀ (Hin : Hp) (v : AV) (H' : Hp), HRel π B Hin w → opE cf rf (opA P (D i).r o Hin) = .val v H' → (∀ π' cv w', VR π' v cv → Step B π Hin w π' H' w' → K (a.put o.dst cv) w') → o.wpIn (Fw ro) m P a w K Q' := by
    intro Hin v H' hR he hk
    refine opE_wp hO hcf hrf hR hlook (fun dd hd => by rw [hcg, he] at hd; cases hd) ?_
    rw [hcg, he]
    exact hk
  unfold wpOpIn
  simp only [ho]
  have hS := hC.tr.step i o ho
  generalize hs' : D (i + 1) = s' at hS
  generalize hs0 : D i = s at hS
  have noskip : behindPan s.pn (mkA ops i) ≠ true := by
    intro e
    unfold behindPan at e
    cases hp : s.pn with
    | none => rw [hp] at e; cases e
    | some p =>
      rw [hp] at e
      have e : tb (mkA ops i) p.2.2 = true := e
      have h1 := hC.tr.pnm (i := i) (k := ops.size) (by omega) (Nat.le_refl _) p (by rw [hs0, hp])
      rw [hC.tr.last] at h1
      have := hrdy _ e
      rw [hI.pn p h1] at this; cases this
  cases hS with
  | skip e => exact absurd e noskip
  | unw hw =>
    rw [hwant false (by rw [hs0]; exact hw), if_neg (by simp)]
    refine ⟨about_Fw, hK _ _ π i0 (hI.same hC h0 hdst ho hLi hrdy (v := undA) (cv := undef) ?_ ?_ ?_ ?_ ?_ undA_R (.refl hI.st.rel))⟩ <;> simp only [hs', hs0]
  | pure hw hc v h' e =>
    rw [hwant true (by rw [hs0]; exact hw), if_pos rfl]
    have e2 : opA P s.r o (HL d l (D i0).s) = .val v (HL d l (D i0).s) := (cls0 hc _ v h' e).2 _
    refine goV (HL d l (D i0).s) v (HL d l (D i0).s) hI.st.rel (by rw [hs0, e2]; rfl) ?_
    intro π' cv w' hv hst
    refine hK _ _ π' i0 (hI.same hC h0 hdst ho hLi hrdy (v := v) ?_ ?_ ?_ ?_ ?_ hv hst) <;> simp only [hs', hs0]
  | read hw hc v h' e =>
    rw [hwant true (by rw [hs0]; exact hw), if_pos rfl]
    have htk : (⟨i, mkA ops i, o, (D i).r, v⟩ : Tk) ∈ d.tks := by
      rw [← hC.tr.last]
      refine hC.tr.tksm (i := i + 1) (by omega) (Nat.le_refl _) _ ?_
      rw [hs', hs0]; simp
    obtain ⟨h2, e2⟩ := hI.read_at hC ho hLi hrdy hc (by rw [hs0]; exact e) htk
    have hng : ∀ x ∈ d.grp, lst l x.i = false := by
      intro x hx
      cases hl : lst l x.i with
      | false => rfl
      | true =>
        have := (hC.gok hx).1 _ htk
        obtain ⟨_, _, _, _, _, _, _, _, _, _, _, hm, _⟩ := hC.grps hx
        rw [hm] at this
        rw [hI.down _ hl _ this] at hLi; cases hLi
    have e3 : opA P (D i).r o (HL d l (D i0).s) = .val v (HL d l (D i0).s) := ((cls1 (r := (D i).r) hc) _ v h2 e2).2 _ (hI.part hC hrdy hng)
    refine goV (HL d l (D i0).s) v (HL d l (D i0).s) hI.st.rel (by rw [e3]; rfl) ?_
    intro π' cv w' hv hst
    refine hK _ _ π' i0 (hI.same hC h0 hdst ho hLi hrdy (v := v) ?_ ?_ ?_ ?_ ?_ hv hst) <;> simp only [hs', hs0]
  | alloc hw hc v h' x e hx =>
    rw [hwant true (by rw [hs0]; exact hw), if_pos rfl]
    have hal : (⟨i, s.b, x⟩ : Al) ∈ d.als := by
      rw [← hC.tr.last]
      refine (hC.tr.alsm (i := i + 1) (by omega) (Nat.le_refl _)).1 _ ?_
      rw [hs']; simp
    rw [← hs0] at e
    rw [← hcg] at e
    obtain ⟨x', sm, k1, k2, k3⟩ := cls2 hc hI.st.rel hlook e
    rw [hs0] at k1 k3
    have hxx : x' = x := by
      rw [k1, Hp.get_new, if_pos rfl] at hx
      simpa using hx
    subst hxx
    obtain ⟨ob, z, cv, r1, r2, r3, r4, r5⟩ := k3
    have hfr := hI.fresh _ hal hLi
    have hlt := hC.al_lt hal
    have hdf : ∀ c, o.op ≠ .defer c := by intro c hcc; rw [hcc] at hc; exact absurd (show (3 : Nat) = 2 from hc) (by decide)
    refine ⟨about_Fw, ?_⟩
    show o.uponIn (Fw ro) m P a K Q' ((o.semAt ro a.eval).run P w)
    rw [Oper.semAt_eq ro _ o hdf, k2, Sem.run_bind, r1, Result.andThen_ok]
    show K (a.put o.dst cv) (w.alloc ob)
    have ngr := hC.noGrp hi (by rw [hs', hs0])
    have hst := (D i0).s
    refine hK _ _ (piNew π s.b w.heap.size z) i0 (hI.adv hC hdst ho hrdy (v := v) (by rw [hs', hs0]) (r5 _ (piNew_ext' hfr _ _) (by simp [piNew])) (piNew_ext' hfr _ _) i0 hI.hi0 ?_ ?_ ?_ ?_ hI.freshS hI.nx (hC.noPn (by rw [hs', hs0])) ?_)
    · intro j hj he
      have hne : j ≠ i := fun e => hC.noEff hi (by rw [hs', hs0]) (e ▸ he)
      rw [lst_set hil, if_neg hne]; exact hI.eff j hj he
    · refine hI.st.addBlock hfr hlt.2 (by rw [HL_nx]; exact Nat.lt_of_lt_of_le hlt.1 hI.nx) r2 (by rw [HL_nx, HL_nx]) ?_
      have hL : ∀ j, j ≠ i → lst (l.setIfInBounds i true) j = lst l j := fun j hj => by rw [lst_set hil, if_neg hj]
      have hLt : lst (l.setIfInBounds i true) i = true := by rw [lst_set hil, if_pos rfl]
      have hcmi : tb (D i0).s.cm i = false := by
        cases ht : tb (D i0).s.cm i with
        | false => rfl
        | true => rw [hI.cm i ht] at hLi; cases hLi
      intro c y hy
      rcases HL_inv hy with ⟨y1, k1, k2, rfl, rfl⟩ | ⟨k0, ⟨al, k1, k2, k3, rfl, rfl⟩ | ⟨k1, k2⟩⟩
      · have hl1 : lst l y1.i = true := by rw [← hL _ (ngr y1 k1)]; exact k2
        refine .inr ⟨?_, HL_g hC k1 hl1⟩
        intro ebb
        obtain ⟨_, _, _, _, _, _, x0, _, _, _, _, _, _, _, _, _, _, q0, _⟩ := hC.grps k1
        rw [← hI.gstage hC k1 (fun j hj => hI.down _ hl1 j hj), ebb] at q0
        rw [hI.freshS _ hal hcmi] at q0; cases q0
      · by_cases e : al.i = i
        · have := hC.al_idx k1 hal e
          subst this
          exact .inl ⟨rfl, rfl⟩
        · refine .inr ⟨fun eb => e (by rw [hC.al_uniq k1 hal eb]), HL_al hC k1 (by rw [← hL _ e]; exact k2) k3 (fun y hy hl => k0 y hy (by rw [hL _ (ngr y hy)]; exact hl))⟩
      · refine .inr ⟨fun eb => k1 _ hal hLt hcmi eb.symm, ?_⟩
        rw [HL_s (fun y hy hl => k0 y hy (by rw [hL _ (ngr y hy)]; exact hl)) (fun al hal' h1 h2 => k1 al hal' (by rw [lst_set hil]; split; rfl; exact h1) h2)]
        exact k2
    · intro j hj
      rw [lst_set hil]; split
      · rfl
      · exact hI.cm j hj
    · intro al hal' hl hne
      have hb : al.b ≠ s.b := fun eb => hne (by rw [hC.al_uniq hal' hal eb])
      unfold piNew
      rw [if_neg hb]; exact hI.fresh al hal' hl
    · intro al hal' hia
      have := hC.al_idx hal' hal hia
      subst this
      exact ⟨r3, r4⟩
  | eff hw hc hg hch v h' e =>
    rw [hwant true (by rw [hs0]; exact hw), if_pos rfl]
    have hie : IsEff D i := by unfold IsEff; rw [hs']
    have behind : ∀ j, i < j → j < ops.size → IsEff D j → lst l j = false := by
      intro j hj hjn he
      cases hl : lst l j with
      | false => rfl
      | true =>
        obtain ⟨_, _, _, _, _, _, hch', _⟩ := hC.effStep hjn he
        rw [hI.down j hl i (hC.ahead hjn hch' hj hie)] at hLi; cases hLi
    have hst : (D i0).s = (D i).s := by
      refine hI.stage hC hi (fun j hj he => hrdy j (hC.ahead hi (by rw [hs0]; exact hch) hj he)) ?_
      intro j hj hjn he
      by_cases hji : j = i
      · subst hji; exact hLi
      · exact behind j (by omega) hjn he
    have hng : ∀ x ∈ d.grp, lst l x.i = false := by
      intro x hx
      cases hl : lst l x.i with
      | false => rfl
      | true =>
        obtain ⟨_, _, _, _, _, _, _, _, q1, _, _, _, q5, q6, _⟩ := hC.grps hx
        have hlt : i < x.i := by
          rcases Nat.lt_or_ge i x.i with k | k
          · exact k
          · have a1 := Nat.le_of_ble_eq_true q5
            have a2 : Nat.ble g i = true := by rw [Nat.ble_eq]; omega
            rw [hg] at a2; cases a2
        rw [hI.down _ hl i (hC.ahead q1 q6 hlt hie)] at hLi; cases hLi
    have hbk : ∀ j, i ≤ j → ∀ cm, selM (mkA ops i) cm j = false := by
      intro j hj cm
      cases hs : selM (mkA ops i) cm j with
      | false => rfl
      | true => have := mk_lt hC.st.back i j (selM_iff.1 hs).1; omega
    have hpart := hI.part hC hrdy hng
    rw [hst, hs0] at hpart
    have hle : Hle (lay (selM (mkA ops i) s.s.cm) s.als s.s.h) (HL d l (D i0).s) := by
      rw [hst, hs0]
      intro b x hb
      refine hpart b x ?_
      rw [← hC.lay_eq (by omega) (fun j hj => hbk j hj _), hs0]
      exact hb
    have hnx : (lay (selM (mkA ops i) s.s.cm) s.als s.s.h).nx = (HL d l (D i0).s).nx := by rw [HL_nx, lay_nx, hst, hs0]
    have hRin := hI.st.rel.less hle (by rw [hnx]; exact Nat.le_refl _)
    refine goV _ v h' hRin (by rw [hs0]; exact e) ?_
    intro π' cv w' hv hstep
    have hst' : (D (i + 1)).s = ⟨some i, Nat.lor s.s.cm (mkA ops i), h'⟩ := by rw [hs']
    have nal := hC.noAl (i := i) (by rw [hs', hs0])
    have ngr := hC.noGrp hi (by rw [hs', hs0])
    have hL : ∀ j, j ≠ i → lst (l.setIfInBounds i true) j = lst l j := fun j hj => by rw [lst_set hil, if_neg hj]
    have hn0 : n0 ≤ (lay (selM (mkA ops i) s.s.cm) s.als s.s.h).nx := by rw [lay_nx]; have := hI.nx; rw [hst, hs0] at this; exact this
    have hcmS : (D i0).s.cm = s.s.cm := by rw [hst, hs0]
    -- a block that is not ahead of i is not known to it
    have notin : ∀ al ∈ d.als, tb s.s.cm al.i = false → tb (mkA ops i) al.i = false → (lay (selM (mkA ops i) s.s.cm) s.als s.s.h).get al.b = none := by
      intro al hal hc1 hc2
      rw [lay_out, ← hs0, ← hst]
      · exact hI.freshS al hal (by rw [hcmS]; exact hc1)
      · intro b hb hsel eb
        have hbd : b ∈ d.als := by
          rw [← hC.tr.last]
          exact (hC.tr.alsm (i := i) (by omega) (Nat.le_refl _)).1 _ (by rw [hs0]; exact hb)
        have := hC.al_uniq hbd hal eb
        subst this
        rw [(selM_iff.1 hsel).1] at hc2; cases hc2
    refine hK _ _ π' (i + 1) (hI.adv hC hdst ho hrdy (v := v) (by rw [hs', hs0]) hv hstep.ext (i + 1) (by omega) ?_ ?_ ?_ ?_ ?_ ?_ (hC.noPn (by rw [hs', hs0])) (fun al hal e => absurd e (nal al hal)))
    · intro j hj he
      rw [lst_set hil]
      by_cases hji : j = i
      · subst hji; simp
      · rw [if_neg hji]
        rcases Nat.lt_or_ge j i with k | k
        · have := hrdy j (hC.ahead hi (by rw [hs0]; exact hch) k he)
          rw [this]; simp; omega
        · rw [behind j (by omega) hj he]; simp; omega
    · refine Step.merge h0 hI.st hle hnx hstep (by rw [HL_nx, hst']) ?_
      intro c y hy
      rw [hst'] at hy
      rcases HL_inv hy with ⟨y1, k1, k2, rfl, rfl⟩ | ⟨k0, ⟨al, k1, k2, k3, rfl, rfl⟩ | ⟨k1, k2⟩⟩
      · rw [hL _ (ngr y1 k1), hng y1 k1] at k2; cases k2
      · right
        have k3 : tb (Nat.lor s.s.cm (mkA ops i)) al.i = false := k3
        rw [tb_lor, Bool.or_eq_false_iff] at k3
        have hl1 : lst l al.i = true := by rw [← hL _ (nal al k1)]; exact k2
        have hx := hI.alx al k1 hl1
        exact ⟨HL_al hC k1 hl1 (by rw [hcmS]; exact k3.1) (fun y hy hl => by rw [hng y hy] at hl; cases hl), notin al k1 k3.1 k3.2, hx.1, hx.2⟩
      · exact .inl k2
    · intro j hj
      rw [hst'] at hj
      have hj : tb (Nat.lor s.s.cm (mkA ops i)) j = true := hj
      rw [tb_lor, Bool.or_eq_true] at hj
      rw [lst_set hil]
      split
      · rfl
      · rcases hj with hj | hj
        · exact hI.cm j (by rw [hcmS]; exact hj)
        · exact hrdy j hj
    · intro al hal hl hne
      cases hp' : π' al.b with
      | none => rfl
      | some p =>
        have := (hstep.new al.b p hp' (hI.fresh al hal hl)).1
        have := (hC.al_lt hal).1
        omega
    · intro al hal hcm
      rw [hst'] at hcm ⊢
      have hcm : tb (Nat.lor s.s.cm (mkA ops i)) al.i = false := hcm
      rw [tb_lor, Bool.or_eq_false_iff] at hcm
      show h'.get al.b = none
      cases hg' : h'.get al.b with
      | none => rfl
      | some y =>
        rcases hstep.old al.b y hg' with ⟨y', hy', _⟩ | hge
        · rw [notin al hal hcm.1 hcm.2] at hy'; cases hy'
        · have := (hC.al_lt hal).1
          omega
    · rw [hst']
      exact Nat.le_trans hn0 hstep.nx
  | pan hw hc hg hch ch h' e =>
    rw [hwant true (by rw [hs0]; exact hw), if_pos rfl]
    have hdp : d.pn = some (ch, h', i) := by
      rw [← hC.tr.last]
      exact hC.tr.pnm (i := i + 1) (by omega) (Nat.le_refl _) _ (by rw [hs'])
    have nopn : ∀ j, i < j → j ≤ ops.size → (D j).pn = some (ch, h', i) := fun j h1 h2 => hC.tr.pnm (i := i + 1) (by omega) h2 _ (by rw [hs'])
    have hst : (D i0).s = (D i).s := by
      refine hI.stage hC hi (fun j hj he => hrdy j (hC.ahead hi (by rw [hs0]; exact hch) hj he)) ?_
      intro j hj hjn he
      exfalso
      by_cases hji : j = i
      · subst hji; exact hC.noEff hi (by rw [hs', hs0]) he
      · obtain ⟨_, _, _, _, _, _, hch', _⟩ := hC.effStep hjn he
        unfold inChain at hch'
        rw [nopn j (by omega) (by omega), both_eq, Bool.and_eq_true] at hch'
        cases hch'.2
    have hng : ∀ x ∈ d.grp, lst l x.i = false := by
      intro x hx
      exfalso
      obtain ⟨_, _, _, _, _, _, _, _, q1, _, _, _, q5, q6, _⟩ := hC.grps hx
      have hlt : i < x.i := by
        rcases Nat.lt_or_ge i x.i with k | k
        · exact k
        · have a1 := Nat.le_of_ble_eq_true q5
          have a2 : Nat.ble g i = true := by rw [Nat.ble_eq]; omega
          rw [hg] at a2; cases a2
      unfold inChain at q6
      rw [nopn x.i hlt (by omega), both_eq, Bool.and_eq_true] at q6
      cases q6.2
    have hbk : ∀ j, i ≤ j → ∀ cm, selM (mkA ops i) cm j = false := by
      intro j hj cm
      cases hs : selM (mkA ops i) cm j with
      | false => rfl
      | true => have := mk_lt hC.st.back i j (selM_iff.1 hs).1; omega
    have hpart := hI.part hC hrdy hng
    rw [hst, hs0] at hpart
    have hle : Hle (lay (selM (mkA ops i) s.s.cm) s.als s.s.h) (HL d l (D i0).s) := by
      rw [hst, hs0]
      intro b x hb
      refine hpart b x ?_
      rw [← hC.lay_eq (by omega) (fun j hj => hbk j hj _), hs0]
      exact hb
    have hnx : (lay (selM (mkA ops i) s.s.cm) s.als s.s.h).nx = (HL d l (D i0).s).nx := by rw [HL_nx, lay_nx, hst, hs0]
    have hsl := hI.st.less hle (by rw [hnx]; exact Nat.le_refl _)
    refine opE_wp hO hcf hrf hsl.rel hlook (fun dd hd => by rw [hcg, hs0, e] at hd; cases hd) ?_
    rw [hcg, hs0, e]
    intro π' chain w' hv hstep
    exact hQ _ chain w' π' hdp hv hstep.ext (Step.trans h0 hsl hstep)
  | flt hw hc hg hch t ax xx c j v x0 x1 h1 hop ea ex e0 hk hf es e1 =>
    rw [hwant true (by rw [hs0]; exact hw), if_pos rfl]
    have hgm : (⟨i, mkA ops i, c, x1⟩ : Gp) ∈ d.grp := by
      rw [← hC.tr.last]
      refine (hC.tr.grpm (i := i + 1) (by omega) (Nat.le_refl _)).1 _ ?_
      rw [hs']; simp
    have hst : (D i0).s = (D i).s := hI.gstage hC hgm hrdy
    have hL : ∀ j, j ≠ i → lst (l.setIfInBounds i true) j = lst l j := fun j hj => by rw [lst_set hil, if_neg hj]
    have hLt : lst (l.setIfInBounds i true) i = true := by rw [lst_set hil, if_pos rfl]
    have hSc : (D i0).s.h.get c = some x0 := by rw [hst, hs0]; exact e0
    have hcg' : ∀ y ∈ d.grp, lst l y.i = true → y.b ≠ c := by
      intro y hy hl eb
      have := hC.g_uniq hy hgm eb
      subst this
      rw [hLi] at hl; cases hl
    have hca : ∀ al ∈ d.als, tb (D i0).s.cm al.i = false → al.b ≠ c := by
      intro al hal hcm eb
      rw [← eb, hI.freshS al hal hcm] at hSc; cases hSc
    have hHc : (HL d l (D i0).s).get c = some x0 := by
      rw [HL_s hcg' (fun al hal _ h2 => hca al hal h2)]
      exact hSc
    have hsib := stores_sib (store_stores es) e0 e1
    have hk2 : noKill j (HL d l (D i0).s) x0.sibs = true := by
      refine noKill_of (h := s.s.h) ?_ hk
      intro sb hsb y hy
      rw [← hsib] at hsb
      rcases HL_inv hy with ⟨y1, k1, k2, k3, k4⟩ | ⟨k0, ⟨al, k1, k2, k3, k4, k5⟩ | ⟨k1, k2⟩⟩
      · exfalso
        rcases Nat.lt_trichotomy y1.i i with k | k | k
        · exact (hC.g_free k1 hgm k).2.1 sb hsb k3.symm
        · rw [k, hLi] at k2; cases k2
        · exact (hC.g_free hgm k1 k).2.2 sb hsb k3.symm
      · exact absurd k4.symm ((hC.gok hgm).2 al k1 sb hsb)
      · rw [hst, hs0] at k2; exact k2
    obtain ⟨H2, f1, f2, f3⟩ := store_at es e0 hk e1 hHc hk2
    have hopA : opA P (D i).r o (HL d l (D i0).s) = .val undA H2 := by
      have hA : ∀ op', o.op = op' → opA P (D i).r o (HL d l (D i0).s) = opA P (D i).r { o with op := op' } (HL d l (D i0).s) := fun op' e => by subst e; rfl
      rw [hA _ hop]
      show opStore t ax xx P (D i).r (HL d l (D i0).s) = _
      unfold opStore
      rw [hs0, ea, oo_some, ex, oo_some, f1, oo_some]
    refine goV (HL d l (D i0).s) undA H2 hI.st.rel (by rw [hopA]; rfl) ?_
    intro π' cv w' hv hstep
    have nal := hC.noAl (i := i) (by rw [hs', hs0])
    refine hK _ _ π' i0 (hI.adv hC hdst ho hrdy (v := undA) (by rw [hs', hs0]) hv hstep.ext i0 hI.hi0 ?_ ((Step.trans h0 hI.st hstep).less ?_ (by rw [f2, HL_nx, HL_nx]; exact Nat.le_refl _)) ?_ ?_ hI.freshS hI.nx (hC.noPn (by rw [hs', hs0])) (fun al hal e => absurd e (nal al hal)))
    · intro k hk' he
      have hne : k ≠ i := fun e => hC.noEff hi (by rw [hs', hs0]) (e ▸ he)
      rw [lst_set hil, if_neg hne]; exact hI.eff k hk' he
    · intro b y hy
      rw [f3]
      rcases HL_inv hy with ⟨y1, k1, k2, rfl, rfl⟩ | ⟨k0, ⟨al, k1, k2, k3, rfl, rfl⟩ | ⟨k1, k2⟩⟩
      · by_cases e : y1.i = i
        · have := hC.g_idx k1 hgm e
          subst this
          rw [if_pos rfl]
        · have hl1 : lst l y1.i = true := by rw [← hL _ e]; exact k2
          rw [if_neg (hcg' y1 k1 hl1)]
          exact HL_g hC k1 hl1
      · rw [if_neg (hca al k1 k3)]
        exact HL_al hC k1 (by rw [← hL _ (nal al k1)]; exact k2) k3 (fun y hy hl => k0 y hy (by rw [lst_set hil]; split; rfl; exact hl))
      · rw [if_neg (fun eb => k0 _ hgm hLt eb.symm)]
        rw [HL_s (fun y hy hl => k0 y hy (by rw [lst_set hil]; split; rfl; exact hl)) (fun al hal' h1 h2 => k1 al hal' (by rw [lst_set hil]; split; rfl; exact h1) h2)]
        exact k2
    · intro k hk'
      rw [lst_set hil]; split
      · rfl
      · exact hI.cm k hk'
    · intro al hal hl hne
      cases hp' : π' al.b with
      | none => rfl
      | some p =>
        have := (hstep.new al.b p hp' (hI.fresh al hal hl)).1
        rw [HL_nx] at this
        have := hI.nx
        have := (hC.al_lt hal).1
        omega
end
end Go.Proofs.YtmoejaloachlkaaGreatDoor.Ev
