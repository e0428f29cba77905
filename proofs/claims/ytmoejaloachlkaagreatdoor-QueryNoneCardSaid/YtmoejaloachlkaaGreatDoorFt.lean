/- The evaluator's soundness, 25: drawn regions, whole; all code. -/
import Derived.Test.YtmoejaloachlkaaGreatDoorFs
namespace Go.Proofs.YtmoejaloachlkaaGreatDoor.Ev
open Go Go.RowKit

section
variable {P : Program} {cf : CallF} {rf : RndF} {ops : Array Oper} {g : Nat} {r : T AV} {h : Hp} {n0 : Nat} {d : DS} {D : Nat → DS} {B : Nat} {π0 π : Pi} {w0 w : World} {q : Q} {l : Array Bool} {a : Act} {i0 i : Nat} {o : Oper} {ro : Option Nat} {m : Nat} {K : Act → World → Prop} {Q' : Exit → Act → World → Prop}
theorem selF_iff {cm j : Nat} : selF cm j = true ↔ tb cm j = false := by
  unfold selF
  cases tb cm j with
  | false => rw [ob_false]; simp
  | true => rw [ob_true]; simp
theorem SInv.done (hC : Cx P cf rf ops g r h n0 d D) (hI : SInv ops r h n0 d D B π0 w0 q l a w π i0) (hall : ∀ j, j < ops.size → lst l j = true) :
    d.pn = none ∧ St π q d.r a ∧ Step B π0 h w0 π (layG d.grp (lay (selF d.s.cm) d.als d.s.h)) w := by
  have hs : d.s = (D i0).s := by
    rw [← hC.tr.last]
    exact (hC.tr.stage rfl hI.hi0 (Nat.le_refl _) (fun j h1 h2 he => by have := (hI.eff j h2 he).1 (hall j h2); omega)).1
  refine ⟨?_, ⟨?_, hI.asz, hI.adf⟩, hI.st.less ?_ ?_⟩
  · cases hp : d.pn with
    | none => rfl
    | some p =>
      obtain ⟨h1, _⟩ := hC.pnStep ops.size (Nat.le_refl _) p (by rw [hC.tr.last]; exact hp)
      have := hI.pn p hp
      rw [hall _ h1] at this; cases this
  · intro t v hv
    refine hI.reg t v ?_
    by_cases hex : ∃ (j : Nat) (oj : Oper), ops[j]? = some oj ∧ oj.dst = some t
    · obtain ⟨j, oj, h1, h2⟩ := hex
      exact .inl ⟨⟨j, oj, h1, h2, hall j (Cx.lt_of h1)⟩, hv⟩
    · refine .inr ⟨fun j oj h1 h2 => absurd ⟨j, oj, h1, h2⟩ hex, ?_⟩
      rw [← hC.tr.last, hC.tr.reg (Nat.zero_le _) (Nat.le_refl _) (fun j oj _ _ h1 h2 => hex ⟨j, oj, h1, h2⟩), hC.tr.first] at hv
      exact hv
  · intro b x e
    rw [layG_eq] at e
    rcases layg_inv e with ⟨y, k1, k2, rfl, rfl⟩ | ⟨k0, k1⟩
    · obtain ⟨_, _, _, _, _, _, _, _, k3, _⟩ := hC.grps k1
      exact HL_g hC k1 (hall _ k3)
    · have hg : ∀ (b' : Nat), b' = b → ∀ y ∈ d.grp, lst l y.i = true → y.b ≠ b' := fun b' e y hy _ => by rw [e]; exact k0 y hy rfl
      rcases lay_inv k1 with ⟨al, k2, k3, k4, rfl⟩ | ⟨k2, k3⟩
      · obtain ⟨_, _, _, k5, _⟩ := hC.als k2
        rw [← k4]
        exact HL_al hC k2 (hall _ k5) (by rw [← hs]; exact selF_iff.1 k3) (hg _ k4)
      · rw [HL_s (hg b rfl) (fun al hal _ h2 => k2 al hal (selF_iff.2 (by rw [hs]; exact h2))), ← hs]
        exact k3
  · rw [HL_nx, layG_eq, layg_nx, lay_nx, hs]; exact Nat.le_refl _
theorem cnt_set {n i : Nat} {p p' : Nat → Bool} (hi : i < n) (h1 : p i = true) (h2 : p' i = false) (h3 : ∀ j, j ≠ i → p' j = p j) : (List.range n).countP p' < (List.range n).countP p := by
  induction n with
  | zero => omega
  | succ n ih =>
    rw [List.range_succ, List.countP_append, List.countP_append]
    by_cases he : i = n
    · subst he
      have : (List.range i).countP p' = (List.range i).countP p := by
        refine List.countP_congr fun j hj => ?_
        rw [h3 j (by simp at hj; omega)]
      rw [this]
      simp [h1, h2]
    · have := ih (by omega)
      have e : p' n = p n := h3 n (fun e => he e.symm)
      simp [e]; omega
theorem any_sound (hO : OpsOk P) (hcf : CfOk P cf) (hrf : RfOk P rf) (hC : Cx P cf rf ops g r h n0 d D) (h0 : HRel π0 B h w0) (hdst : dstOk q.sz ops.toList = true)
    (hN : ∀ a' w' π', d.pn = none → St π' q d.r a' → Step B π0 h w0 π' (layG d.grp (lay (selF d.s.cm) d.als d.s.h)) w' → Q' .normal a' w')
    (hQ : ∀ p chain a' w' π' π'', d.pn = some p → PRs π' p.1 chain → Step B π0 h w0 π' p.2.1 w' → PExt π'' π' → (∀ t v, (∀ (j : Nat) (o : Oper), ops[j]? = some o → o.dst ≠ some t) → r.get (Pos.of t) = some v → ∃ cv, a'.tmps[t]? = some cv ∧ VR π'' v cv) → a'.tmps.size = q.sz → DRs π'' q.df a'.defers → Q' (.panic chain) a' w') :
    ∀ (fuel : Nat) (l : Array Bool) (a : Act) (w : World) (π : Pi) (i0 : Nat), (List.range ops.size).countP (fun j => !lst l j) ≤ fuel → SInv ops r h n0 d D B π0 w0 q l a w π i0 → wpAnyIn (Fw ro) m P .any ops Q' fuel l a w := by
  have fin : ∀ (l : Array Bool) (a : Act) (w : World) (π : Pi) (i0 : Nat), SInv ops r h n0 d D B π0 w0 q l a w π i0 → (∀ j, j < ops.size → lst l j = true) → Q' .normal a w := by
    intro l a w π i0 hI hall
    obtain ⟨h1, h2, h3⟩ := hI.done hC hall
    exact hN a w π h1 h2 h3
  have nil_all : ∀ (l : Array Bool) (a : Act) (w : World) (π : Pi) (i0 : Nat), SInv ops r h n0 d D B π0 w0 q l a w π i0 → Region.ready .any ops l = [] → ∀ j, j < ops.size → lst l j = true := by
    intro l a w π i0 hI hnil j
    induction j using Nat.strongRecOn with
    | _ j ih =>
      intro hj
      cases hl : lst l j with
      | true => rfl
      | false =>
        exfalso
        have ho : ops[j]? = some ops[j] := Array.getElem?_eq_getElem hj
        have hmem : j ∈ Region.ready .any ops l := by
          refine mem_ready.2 ⟨?_, ops[j], ho, fun e he hb => ?_⟩
          · have hjl : j < l.size := by rw [hI.ln]; exact hj
            unfold lst at hl
            rw [Array.getD_eq_getD_getElem?] at hl ⊢
            simpa [Array.getElem?_eq_getElem hjl] using hl
          · have := edge_lt hC.st.back ho (by simpa using he) hb
            exact ih e.on this (by omega)
        rw [hnil] at hmem; cases hmem
  intro fuel
  induction fuel with
  | zero =>
    intro l a w π i0 hf hI
    have hall : ∀ j, j < ops.size → lst l j = true := by
      intro j hj
      cases hl : lst l j with
      | true => rfl
      | false =>
        have : 0 < (List.range ops.size).countP (fun j => !lst l j) := List.countP_pos_iff.2 ⟨j, by simpa using hj, by simp [hl]⟩
        omega
    refine ⟨?_, fin l a w π i0 hI hall⟩
    cases hr : Region.ready .any ops l with
    | nil => rfl
    | cons i rest =>
      obtain ⟨hun, o, ho, _⟩ := mem_ready.1 (show i ∈ Region.ready .any ops l by rw [hr]; simp)
      have hi := Cx.lt_of ho
      have hil : i < l.size := by rw [hI.ln]; exact hi
      have := hall i hi
      unfold lst at this
      rw [Array.getD_eq_getD_getElem?] at hun this
      simp [Array.getElem?_eq_getElem hil] at hun this
      rw [hun] at this; cases this
  | succ fuel ih =>
    intro l a w π i0 hf hI
    refine ⟨fun hnil => fin l a w π i0 hI (nil_all l a w π i0 hI hnil), fun i hrd => ?_⟩
    obtain ⟨hun, o, ho, _⟩ := mem_ready.1 hrd
    have hi := Cx.lt_of ho
    have hil : i < l.size := by rw [hI.ln]; exact hi
    have hLi : lst l i = false := by unfold lst; rw [Array.getD_eq_getD_getElem?] at hun ⊢; simpa [Array.getElem?_eq_getElem hil] using hun
    refine step_sound hO hcf hrf hC hI h0 hdst hrd ?_ ?_
    · intro a' w' π' i0' hI'
      refine ih _ a' w' π' i0' ?_ hI'
      have := cnt_set (p := fun j => !lst l j) (p' := fun j => !lst (l.setIfInBounds i true) j) hi (by simp [hLi]) (by simp [lst_set hil]) (fun j hj => by simp [lst_set hil, hj])
      omega
    · intro p chain w' π' hp hpr hext hst
      exact hQ p chain a w' π' π hp hpr hst hext (fun t v hn hv => hI.reg t v (.inr ⟨fun j o h1 h2 => absurd h2 (hn j o h1), hv⟩)) hI.asz hI.adf
theorem forget_get : ∀ (l : List Nat) (r : T AV) (t : Nat), (forget l r).get (Pos.of t) = if t ∈ l then none else r.get (Pos.of t)
  | [], r, t => by simp [forget]
  | d :: l, r, t => by
    unfold forget
    rw [forget_get l, T.get_putN]
    by_cases h1 : t ∈ l
    · simp [h1]
    · by_cases h2 : t = d
      · subst h2; simp
      · simp [h1, h2]
theorem SS.drawn (hm : P.follows .mixedOrders = true) (hO : OpsOk P) (hcf : CfOk P cf) (hrf : RfOk P rf) {id : Nat} : SS P (.region id ops true) (drawnS P cf rf ops) := by
  intro r h q k hok hd hrc B π a w ro m hH hS hro
  unfold drawnS at hok ⊢
  cases hrk : rOk ops with
  | false => rw [hrk] at hok; exact hok.elim
  | true =>
    rw [hrk] at hok
    have hok : (drawnK P cf rf ops r h q k).ok := hok
    show (Code.region id ops true).wpIn (Fw ro) m P (Post B π h w q (drawnK P cf rf ops r h q k) k) a w
    unfold drawnK at hok ⊢
    rw [fN_eq] at hok ⊢
    cases hop : opsD P cf rf ops (grpAt P none (plan ops) 0) (plan ops) 0 ⟨r, ⟨none, 0, ⟨h.t, Nat.add h.nx (cntAl P ops.toList)⟩⟩, [], [], h.nx, none, [], []⟩ with
    | bad w => rw [hop] at hok; exact hok.elim
    | ok d =>
      rw [hop] at hok
      have hok : (endD P ops r q k d).ok := hok
      show (Code.region id ops true).wpIn (Fw ro) m P (Post B π h w q (endD P ops r q k d) k) a w
      obtain ⟨D, hT⟩ := trace_of hop
      unfold endD at hok
      cases hg : grpOk d with
      | false => rw [hg] at hok; exact hok.elim
      | true =>
        rw [hg, ob_true] at hok
        cases hrd : ob (seqOk P (plan ops) 0 []) (tksOk P (fun i => (msks ops.toList []).getD i 0) d) true with
        | false => rw [hrd] at hok; exact hok.elim
        | true =>
          rw [hrd, ob_true] at hok
          have hC : Cx P cf rf ops (grpAt P none (plan ops) 0) r h (Nat.add h.nx (cntAl P ops.toList)) d D := by
            refine ⟨hT, static_of hrk, rfl, hg, ?_⟩
            cases hsq : seqOk P (plan ops) 0 [] with
            | true => exact .inl rfl
            | false => rw [hsq] at hrd; exact .inr hrd
          have hend : endD P ops r q k d = oo d.pn (tick (k .nrm d.r (layG d.grp (lay (selF d.s.cm) d.als d.s.h)) q)) fun p => k (.pan p.1) (forget (dsts ops.toList) r) p.2.1 q := by
            unfold endD
            rw [hg, ob_true, hrd, ob_true]
          have hdr : HRel π B h { w with drawn := w.drawn + 1 } := hH.same rfl
          have hst0 : Step B π h w π h { w with drawn := w.drawn + 1 } := Step.same hH rfl ⟨rfl, rfl, rfl⟩
          refine wpIn_region_any hm ?_
          refine any_sound hO hcf hrf hC hH hd ?_ ?_ ops.size (Array.replicate ops.size false) a { w with drawn := w.drawn + 1 } π 0 ?_ ?_
          · intro a' w' π' hpn hS' hst
            rw [hend, hpn]
            exact ⟨.nrm, d.r, _, q, π', trivial, hS', .refl q, hst, .refl _⟩
          · intro p chain a' w' π' π'' hpn hpr hst hext hreg hsz hdf
            rw [hend, hpn]
            refine ⟨.pan p.1, _, p.2.1, q, π', hpr, ⟨?_, hsz, hdf.mono hext⟩, .refl q, hst, .refl _⟩
            intro t v hv
            rw [forget_get] at hv
            split at hv
            · cases hv
            · rename_i hnm
              obtain ⟨cv, h1, h2⟩ := hreg t v (fun j o ho hd' => hnm (dsts_mem.2 ⟨o, List.mem_of_getElem? (by rw [Array.getElem?_toList]; exact ho), hd'⟩)) hv
              exact ⟨cv, h1, h2.mono hext⟩
          · refine Nat.le_trans (List.countP_le_length) ?_
            simp
          · have hl0 : ∀ j, lst (Array.replicate ops.size false) j = false := by
              intro j
              unfold lst
              rw [Array.getD_eq_getD_getElem?]
              rcases Nat.lt_or_ge j ops.size with hj | hj
              · simp [hj]
              · rw [Array.getElem?_eq_none (by simpa using hj)]; rfl
            have hD0 : D 0 = ⟨r, ⟨none, 0, ⟨h.t, Nat.add h.nx (cntAl P ops.toList)⟩⟩, [], [], h.nx, none, [], []⟩ := hT.first
            have hhl : ∀ b x, (HL d (Array.replicate ops.size false) (D 0).s).get b = some x → h.get b = some x := by
              intro b x e
              rw [HL_s (fun y _ hl => by rw [hl0] at hl; cases hl) (fun al _ hl => by rw [hl0] at hl; cases hl), hD0] at e
              exact e
            refine ⟨by simp, Nat.zero_le _, ?_, hst0.less hhl ?_, ?_, hS.sz, hS.df, ?_, ?_, ?_, ?_, fun p _ => hl0 _, ?_, ?_⟩
            · intro j hj he; rw [hl0]; simp
            · rw [HL_nx, hD0]; exact Nat.le_add_right _ _
            · intro t v hv
              rcases hv with ⟨⟨j, o, _, _, h3⟩, _⟩ | ⟨_, hv⟩
              · rw [hl0] at h3; cases h3
              · exact hS.rr t v hv
            · intro j hj; rw [hD0, tb_zero] at hj; cases hj
            · intro al hal _
              cases hp : π al.b with
              | none => rfl
              | some p => have := (hH.dom _ _ hp).1; have := (hC.al_lt hal).2; omega
            · intro al hal _
              rw [hD0]
              show h.get al.b = none
              cases hgb : h.get al.b with
              | none => rfl
              | some x =>
                obtain ⟨c, z, o, k1, _⟩ := hH.blk _ _ hgb
                have := (hH.dom _ _ k1).1; have := (hC.al_lt hal).2; omega
            · rw [hD0]; exact Nat.le_refl _
            · intro i hi; rw [hl0] at hi; cases hi
            · intro al _ hl; rw [hl0] at hl; cases hl

/-! ### All code -/
variable {ev : CodeF}
theorem codeC_loop (b : Code) : codeC P cf rf ev (.loop b) = fun r h q k => loopS (codeC P cf rf ev b) k 100000000 r h q := rfl
theorem codeC_scope (b : Code) : codeC P cf rf ev (.scope b) = fun r h q k => scopeS ev b k 100000000 b r h q := rfl
theorem codeC_sound (hm : P.follows .mixedOrders = true) (hO : OpsOk P) (hcf : CfOk P cf) (hrf : RfOk P rf) (hev : EvOk P ev) : ∀ c, SS P c (codeC P cf rf ev c)
  | .skip => SS.skip
  | .region id ops false => SS.region hO hcf hrf
  | .region id ops true => SS.drawn hm hO hcf hrf
  | .seq a b => SS.seq (codeC_sound hm hO hcf hrf hev a) (codeC_sound hm hO hcf hrf hev b)
  | .cond c a b => SS.cond (codeC_sound hm hO hcf hrf hev a) (codeC_sound hm hO hcf hrf hev b)
  | .block id b => SS.block (codeC_sound hm hO hcf hrf hev b)
  | .loop b => by rw [codeC_loop]; exact SS.loop _ (codeC_sound hm hO hcf hrf hev b)
  | .rangeFunc f ps asg b => SS.rangeFunc hcf hev
  | .exit id => SS.exit
  | .scope b => by rw [codeC_scope]; exact SS.scope hev _
  | .label l => SS.label
  | .goto l => SS.goto
  | .ret => SS.ret
  | .refuse s => SS.refuse
/-- Calls that are answered otherwise. -/
def KnOk (P : Program) (kn : CallF → CallF) : Prop := ∀ cf, CfOk P cf → CfOk P (kn cf)
theorem codeN_sound (hm : P.follows .mixedOrders = true) (hO : OpsOk P) {kn : CallF → CallF} (hk : KnOk P kn) : ∀ n, EvOk P (codeN P kn n)
  | 0 => fun c r h q k hok => hok.elim
  | n + 1 => fun c => codeC_sound hm hO (hk _ (callB_sound hO (codeN_sound hm hO hk n))) (rndB_sound (codeN_sound hm hO hk n)) (codeN_sound hm hO hk n) c
theorem call_sound (hm : P.follows .mixedOrders = true) (hO : OpsOk P) {kn : CallF → CallF} (hk : KnOk P kn) (n : Nat) : CfOk P (callB P (codeN P kn n)) := callB_sound hO (codeN_sound hm hO hk n)
end
end Go.Proofs.YtmoejaloachlkaaGreatDoor.Ev
