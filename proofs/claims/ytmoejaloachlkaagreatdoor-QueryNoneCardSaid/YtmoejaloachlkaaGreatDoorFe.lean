/- The evaluator's soundness, 10: states; regions that draw nothing; code but for drawn regions and ranges over functions. -/
import Derived.Test.YtmoejaloachlkaaGreatDoorFd
namespace Go.Proofs.YtmoejaloachlkaaGreatDoor.Ev
open Go Go.RowKit

/-! ### States -/
structure St (π : Pi) (q : Q) (r : T AV) (a : Act) : Prop where
  rr : RR π r a.tmps
  sz : a.tmps.size = q.sz
  df : DRs π q.df a.defers
def XR (π : Pi) : X → Exit → Prop
  | .nrm, .normal => True
  | .ext i, .exit j => i = j
  | .gto l, .goto m => l = m
  | .ret, .ret => True
  | .pan ch, .panic c => PRs π ch c
  | _, _ => False
structure QSame (q q' : Q) : Prop where
  sz : q'.sz = q.sz
  rc : q'.rc = q.rc
  rd : q'.rd = q.rd
theorem QSame.refl (q : Q) : QSame q q := ⟨rfl, rfl, rfl⟩
theorem QSame.trans {a b c : Q} (h : QSame a b) (k : QSame b c) : QSame a c := ⟨k.sz.trans h.sz, k.rc.trans h.rc, k.rd.trans h.rd⟩
def Post (B : Nat) (π : Pi) (h : Hp) (w : World) (q : Q) (res : CR) (k : XK) : Exit → Act → World → Prop := fun e a' w' =>
  ∃ x r' h' q' π', XR π' x e ∧ St π' q' r' a' ∧ QSame q q' ∧ Step B π h w π' h' w' ∧ Le res (k x r' h' q')
theorem Post.step {B : Nat} {π π1 : Pi} {h h1 : Hp} {w w1 : World} {q q1 : Q} {res res1 : CR} {k : XK} (hH : HRel π B h w) (hs : Step B π h w π1 h1 w1) (hq : QSame q q1) (hl : Le res res1) {e : Exit} {a' : Act} {w' : World} (hp : Post B π1 h1 w1 q1 res1 k e a' w') : Post B π h w q res k e a' w' := by
  obtain ⟨x, r', h', q', π', a1, a2, a3, a4, a5⟩ := hp
  exact ⟨x, r', h', q', π', a1, a2, hq.trans a3, Step.trans hH hs a4, hl.trans a5⟩
/-- What a piece of code is to do. -/
def SS (P : Program) (c : Code) (f : SF) : Prop := ∀ (r : T AV) (h : Hp) (q : Q) (k : XK), (f r h q k).ok → codeOk q.sz c = true → q.rc = .no → ∀ (B : Nat) (π : Pi) (a : Act) (w : World) (ro : Option Nat) (m : Nat), HRel π B h w → St π q r a → RO π q.rd ro →
  c.wpIn (Fw ro) m P (Post B π h w q (f r h q k) k) a w
section
variable {π : Pi} {q : Q} {r : T AV} {a : Act} {B : Nat} {H : Hp} {w : World}
theorem put_size (a : Act) (d : Option Nat) (v : Value) : (a.put d v).tmps.size = a.tmps.size := by cases d <;> simp [Act.put]
theorem put_defers (a : Act) (d : Option Nat) (v : Value) : (a.put d v).defers = a.defers := by cases d <;> rfl
theorem RR.put (hR : RR π r a.tmps) {d : Option Nat} {v : AV} {cv : Value} (hd : ∀ t, d = some t → t < a.tmps.size) (hv : VR π v cv) : RR π (putD d v r) (a.put d cv).tmps := by
  cases d with
  | none => exact hR
  | some t =>
    intro s u hu
    have hu : (r.put (some v) (Pos.of t)).get (Pos.of s) = some u := hu
    rw [T.get_putN] at hu
    show ∃ cv', (a.tmps.setIfInBounds t cv)[s]? = some cv' ∧ _
    by_cases hs : s = t
    · subst hs
      rw [if_pos rfl] at hu; cases hu
      exact ⟨cv, by simp [hd _ rfl], hv⟩
    · rw [if_neg hs] at hu
      obtain ⟨cu, h1, h2⟩ := hR s u hu
      exact ⟨cu, by rw [Array.getElem?_setIfInBounds_ne (fun e => hs e.symm)]; exact h1, h2⟩
theorem St.put {π' : Pi} (hE : PExt π π') (hS : St π q r a) {d : Option Nat} {v : AV} {cv : Value} (hd : ∀ t, d = some t → t < q.sz) (hv : VR π' v cv) : St π' q (putD d v r) (a.put d cv) :=
  ⟨RR.put (hS.rr.mono hE) (fun t ht => by rw [hS.sz]; exact hd t ht) hv, by rw [put_size]; exact hS.sz, by rw [put_defers]; exact hS.df.mono hE⟩
theorem undA_R : VR π undA undef := .tup _ _ .nil
/-- A guard. -/
theorem grdA_sound {ops : Array Oper} {o : Oper} {g : Nat × Bool} (hg : o.guard = some g) (hR : RR π r a.tmps) {b : Bool} (h : grdA ops r g = some b) : Region.wanted o (yielded ops a.tmps) = b := by
  obtain ⟨d, h1, h2⟩ := oo_eq h
  obtain ⟨v, h3, h4⟩ := oo_eq h2
  obtain ⟨cv, h5, h6⟩ := hR d v h3
  have hy : ((ops[g.1]?).bind (·.dst)).bind (a.tmps[·]?) = some cv := by
    unfold grdD at h1
    cases ho : ops[g.1]? with
    | none => rw [ho] at h1; cases h1
    | some q =>
      rw [ho] at h1
      have h1 : q.dst = some d := h1
      simp [h1, h5]
  unfold Region.wanted
  rw [hg]
  show (yielded ops a.tmps g.1 == some g.2) = b
  unfold yielded
  rw [hy]
  cases h6 with
  | bool x =>
    have h4 : some (ob x (!g.2) g.2) = some b := h4
    cases h4
    cases x <;> cases g.2 <;> rfl
  | tup l l' hl =>
    have h4 : (match AV.tup l with | .tup [] => some false | _ => none) = some b := h4
    cases l with
    | nil => cases h4; rfl
    | cons => cases h4
  | _ => cases h4
theorem wantA_sound {ops : Array Oper} {o : Oper} (hR : RR π r a.tmps) {b : Bool} (h : wantA ops r o = some b) : Region.wanted o (yielded ops a.tmps) = b := by
  cases hg : o.guard with
  | none => unfold wantA at h; rw [hg] at h; cases h; unfold Region.wanted; rw [hg]
  | some g => unfold wantA at h; rw [hg] at h; exact grdA_sound hg hR h
end

/-! ### Monotony -/
section
variable {F : Fence} {n : Nat} {P : Program}
theorem Oper.wpIn_mono2 {o : Oper} {a : Act} {w : World} {K K' : Act → World → Prop} {Q Q' : Exit → Act → World → Prop} (h : ∀ a w, K a w → K' a w) (hq : ∀ e a w, Q e a w → Q' e a w)
    (hh : o.wpIn F n P a w K Q) : o.wpIn F n P a w K' Q' := by
  unfold Oper.wpIn at *
  refine ⟨hh.1, ?_⟩
  have hh := hh.2
  have hl : LetsOut Q → LetsOut Q' := fun ⟨a, w, k⟩ => ⟨a, w, hq _ _ _ k⟩
  generalize (o.semAt F.round a.eval).run P w = r at *
  cases r with
  | ok x w' =>
    cases x <;> simp only [Oper.uponIn] at hh ⊢ <;>
      first
        | exact h _ _ hh
        | exact ⟨hh.1, CallsIn.mono hh.2 (fun e w'' he => by cases e <;> first | exact h _ _ he | exact hq _ _ _ he | exact hl he)⟩
        | exact ⟨hh.1, RowsIn.mono hh.2 (fun _ _ he => h _ _ he)⟩
        | exact ⟨hh.1, RoundIn.mono hh.2 (fun e w'' he => by cases e <;> first | exact h _ _ he | exact hq _ _ _ he | exact hl he)⟩
  | halt x w' => cases x <;> simp only [Oper.uponIn] at hh ⊢ <;> first | exact hh | exact hq _ _ _ hh
theorem wpOpsIn_mono {ops : Array Oper} {Q Q' : Exit → Act → World → Prop} (hq : ∀ e a w, Q e a w → Q' e a w) : ∀ (l : List Nat) (a : Act) (w : World), wpOpsIn F n P ops Q l a w → wpOpsIn F n P ops Q' l a w
  | [], a, w, h => hq _ _ _ h
  | i :: rest, a, w, h => by
    unfold wpOpsIn at h ⊢
    cases ho : ops[i]? with
    | none => rw [ho] at h; exact wpOpsIn_mono hq rest a w h
    | some o =>
      rw [ho] at h
      simp only at h ⊢
      split
      · rename_i hw; rw [if_pos hw] at h; exact Oper.wpIn_mono2 (fun a w => wpOpsIn_mono hq rest a w) hq h
      · rename_i hw; rw [if_neg hw] at h; exact ⟨h.1, wpOpsIn_mono hq rest _ w h.2⟩
end

/-! ### Operations with continuations -/
noncomputable def onE (e : ER) (o : Oper) (ih : SF) (r : T AV) (h : Hp) (q : Q) (k : XK) : CR :=
  match e with
  | .bad w => .bad w
  | .val v h' => ih (putD o.dst v r) h' q k
  | .pan ch h' => k (.pan ch) r h' q
  | .dfr d => oo q.rd (ih (putD o.dst undA r) h ⟨q.sz, d :: q.df, q.rc, q.rd⟩ k) fun _ => .bad "defer in a round"
  | .rcv => .bad "recover"
theorem opS_eq (P : Program) (cf : CallF) (rf : RndF) (o : Oper) (ih : SF) (r : T AV) (h : Hp) (q : Q) (k : XK) (hna : ∀ l, opA P r o h ≠ .alts l) : opS P cf rf o ih r h q k = onE (opE cf rf (opA P r o h)) o ih r h q k := by
  unfold opS
  cases hA : opA P r o h with
  | call f args h' => show onCR (cf f args h') o ih r q k = onE (cER (cf f args h')) o ih r h q k; cases cf f args h' <;> rfl
  | rnd f args h' => show onCR (rf f args h') o ih r q k = onE (cER (rf f args h')) o ih r h q k; cases rf f args h' <;> rfl
  | alts l => exact absurd hA (hna l)
  | _ => rfl
theorem opS_alts (P : Program) (cf : CallF) (rf : RndF) (o : Oper) (ih : SF) (r : T AV) (h : Hp) (q : Q) (k : XK) {l : List (AV × Hp)} (ha : opA P r o h = .alts l) : opS P cf rf o ih r h q k = joinL (l.map fun p => ih (putD o.dst p.1 r) p.2 q k) := by
  unfold opS
  rw [ha]; rfl
section
variable {P : Program} {cf : CallF} {rf : RndF}
theorem dstOk_mem {n : Nat} {ops : List Oper} (h : dstOk n ops = true) {o : Oper} (ho : o ∈ ops) {t : Nat} (ht : o.dst = some t) : t < n := by
  have := List.all_eq_true.1 h o ho
  simp only [ht] at this
  simpa [Nat.blt_eq] using this
theorem opsS_cons (ops : Array Oper) (o : Oper) (l : List Oper) : opsS P cf rf ops (o :: l) = opsStep P cf rf ops o (opsS P cf rf ops l) := rfl
theorem opsS_sound (hO : OpsOk P) (hc : CfOk P cf) (hr : RfOk P rf) (ops : Array Oper) (B : Nat) (ro : Option Nat) (m : Nat) : ∀ (l : List Oper) (i : Nat), (∀ j, l[j]? = ops[i + j]?) → ∀ (r : T AV) (h : Hp) (q : Q) (k : XK), (opsS P cf rf ops l r h q k).ok → dstOk q.sz l = true → ∀ (π : Pi) (a : Act) (w : World), HRel π B h w → St π q r a → RO π q.rd ro →
    wpOpsIn (Fw ro) m P ops (Post B π h w q (opsS P cf rf ops l r h q k) k) (List.range' i l.length) a w := by
  intro l
  induction l with
  | nil =>
    intro i _ r h q k hok _ π a w hH hS _
    exact ⟨.nrm, r, h, q, π, trivial, hS, .refl q, .refl hH, .refl _⟩
  | cons o l ih =>
    intro i hl r h q k hok hd π a w hH hS hro
    have ho : ops[i]? = some o := by have := hl 0; simpa using this.symm
    have hl' : ∀ j, l[j]? = ops[i + 1 + j]? := fun j => by have := hl (j + 1); simpa [Nat.add_assoc, Nat.add_comm 1 j] using this
    have hdo : ∀ t, o.dst = some t → t < q.sz := fun t ht => dstOk_mem hd (by simp) ht
    have hdl : dstOk q.sz l = true := by unfold dstOk at hd ⊢; rw [List.all_cons, Bool.and_eq_true] at hd; exact hd.2
    rw [List.length_cons, List.range'_succ]
    unfold wpOpsIn
    simp only [ho]
    rw [opsS_cons] at hok ⊢
    have go : ∀ (res : CR), res.ok → res = opS P cf rf o (opsS P cf rf ops l) r h q k → o.wpIn (Fw ro) m P a w (wpOpsIn (Fw ro) m P ops (Post B π h w q res k) (List.range' (i + 1) l.length)) (Post B π h w q res k) := by
      intro res hres he
      by_cases hal : ∃ la, opA P r o h = .alts la
      · obtain ⟨la, hal⟩ := hal
        rw [opS_alts _ _ _ _ _ _ _ _ _ hal] at he
        have hs := hO r o B π h w a hH hS.rr
        rw [hal] at hs
        obtain ⟨p, hp, π', w', cv, nx, r1, r2, r3, r4⟩ := hs
        have hle : Le res (opsS P cf rf ops l (putD o.dst p.1 r) p.2 q k) := by rw [he]; exact joinL_le (List.mem_map.2 ⟨p, hp, rfl⟩)
        have hdf : ∀ c, o.op ≠ .defer c := by
          intro c hcc
          unfold opA at hal
          rw [hcc] at hal
          have hal : opDefer c P r h = .alts la := hal
          unfold opDefer at hal
          split at hal
          · split at hal
            · split at hal
              · rw [Bool.cond_eq_ite] at hal
                split at hal <;> cases hal
              · cases hal
            · cases hal
          · cases hal
        refine ⟨about_Fw, ?_⟩
        show o.uponIn (Fw ro) m P a _ _ ((o.semAt ro a.eval).run P w)
        rw [Oper.semAt_eq ro _ o hdf, r1]
        have := ih (i + 1) hl' _ p.2 q k (hle hres).1 hdl π' (a.put o.dst cv) w' r4.rel (hS.put r4.ext hdo r3) (hro.mono r4.ext)
        have go : wpOpsIn (Fw ro) m P ops (Post B π h w q res k) (List.range' (i + 1) l.length) (a.put o.dst cv) w' := by
          refine wpOpsIn_mono ?_ _ _ _ this
          intro e a' w'' hp
          exact hp.step hH r4 (.refl q) hle
        rcases r2 with rfl | ⟨rfl, rfl⟩
        · exact go
        · exact go
      have hna : ∀ la, opA P r o h ≠ .alts la := fun la e => hal ⟨la, e⟩
      rw [opS_eq _ _ _ _ _ _ _ _ _ hna] at he
      refine opE_wp hO hc hr hH hS.rr ?_ ?_
      · intro d hd'
        rw [hd'] at he
        have he : res = oo q.rd (opsS P cf rf ops l (putD o.dst undA r) h ⟨q.sz, d :: q.df, q.rc, q.rd⟩ k) fun _ => .bad "defer in a round" := he
        cases hq : q.rd with
        | none => rw [hq] at hro; cases ro with | none => rfl | some _ => exact hro.elim
        | some l' => rw [hq] at he; rw [he] at hres; exact hres.elim
      · cases hE : opE cf rf (opA P r o h) with
        | bad w => rw [hE] at he; rw [he] at hres; exact hres.elim
        | rcv => rw [hE] at he; rw [he] at hres; exact hres.elim
        | val v h' =>
          rw [hE] at he
          have he : res = opsS P cf rf ops l (putD o.dst v r) h' q k := he
          intro π' cv w' hv hs
          subst he
          have := ih (i + 1) hl' _ h' q k hres hdl π' (a.put o.dst cv) w' hs.rel (hS.put hs.ext hdo hv) (hro.mono hs.ext)
          refine wpOpsIn_mono ?_ _ _ _ this
          intro e a' w'' hp
          exact hp.step hH hs (.refl q) (.refl _)
        | pan ch h' =>
          rw [hE] at he
          have he : res = k (.pan ch) r h' q := he
          intro π' chain w' hv hs
          exact ⟨.pan ch, r, h', q, π', hv, ⟨hS.rr.mono hs.ext, hS.sz, hS.df.mono hs.ext⟩, .refl q, hs, .ofEq he⟩
        | dfr d =>
          rw [hE] at he
          have he : res = oo q.rd (opsS P cf rf ops l (putD o.dst undA r) h ⟨q.sz, d :: q.df, q.rc, q.rd⟩ k) fun _ => .bad "defer in a round" := he
          cases hq : q.rd with
          | some l' => rw [hq] at he; rw [he] at hres; exact hres.elim
          | none =>
            rw [hq] at he
            have he : res = opsS P cf rf ops l (putD o.dst undA r) h ⟨q.sz, d :: q.df, q.rc, none⟩ k := he
            intro d' hd'
            subst he
            have h1 : St π ⟨q.sz, d :: q.df, q.rc, none⟩ r { a with defers := d' :: a.defers } := ⟨hS.rr, hS.sz, .cons _ _ _ _ hd' hS.df⟩
            have := ih (i + 1) hl' (putD o.dst undA r) h ⟨q.sz, d :: q.df, q.rc, none⟩ k hres hdl π ({ a with defers := d' :: a.defers }.put o.dst undef) w hH (h1.put (.refl π) hdo undA_R) (by rw [hq] at hro; exact hro)
            refine wpOpsIn_mono ?_ _ _ _ this
            intro e a' w'' hp
            exact Post.step (q := q) (q1 := ⟨q.sz, d :: q.df, q.rc, none⟩) hH (.refl hH) ⟨rfl, rfl, hq.symm⟩ (.refl _) hp
    cases hg : o.guard with
    | none =>
      have e1 : opsStep P cf rf ops o (opsS P cf rf ops l) = opS P cf rf o (opsS P cf rf ops l) := by unfold opsStep; rw [hg]; rfl
      have hw : Region.wanted o (yielded ops a.tmps) = true := by unfold Region.wanted; rw [hg]
      rw [if_pos hw]
      rw [e1] at hok ⊢
      exact go _ hok rfl
    | some g =>
      have e1 : opsStep P cf rf ops o (opsS P cf rf ops l) = opsG P cf rf ops o (opsS P cf rf ops l) g := by unfold opsStep; rw [hg]; rfl
      rw [e1] at hok ⊢
      unfold opsG at hok ⊢
      cases hga : grdA ops r g with
      | none => rw [hga] at hok; exact hok.elim
      | some b =>
        rw [hga] at hok
        have hw := grdA_sound hg hS.rr hga
        rw [hw]
        cases b with
        | true =>
          rw [if_pos rfl]
          exact go _ hok rfl
        | false =>
          rw [if_neg (by simp)]
          refine ⟨about_Fw, ?_⟩
          exact ih (i + 1) hl' (putD o.dst undA r) h q k hok hdl π (a.put o.dst undef) w hH (hS.put (.refl π) hdo undA_R) hro

/-! ### Code -/
theorem SS.skip : SS P .skip (sX .nrm) := fun r h q k _ _ _ _ _ _ _ _ _ hH hS _ => wpIn_skip ⟨.nrm, r, h, q, _, trivial, hS, .refl q, .refl hH, .refl _⟩
theorem SS.label {l : Nat} : SS P (.label l) (sX .nrm) := fun r h q k _ _ _ _ _ _ _ _ _ hH hS _ => wpIn_label ⟨.nrm, r, h, q, _, trivial, hS, .refl q, .refl hH, .refl _⟩
theorem SS.exit {id : Nat} : SS P (.exit id) (sX (.ext id)) := fun r h q k _ _ _ _ _ _ _ _ _ hH hS _ => wpIn_exit ⟨.ext id, r, h, q, _, rfl, hS, .refl q, .refl hH, .refl _⟩
theorem SS.goto {l : Nat} : SS P (.goto l) (sX (.gto l)) := fun r h q k _ _ _ _ _ _ _ _ _ hH hS _ => wpIn_goto ⟨.gto l, r, h, q, _, rfl, hS, .refl q, .refl hH, .refl _⟩
theorem SS.ret : SS P .ret (sX .ret) := fun r h q k _ _ _ _ _ _ _ _ _ hH hS _ => wpIn_ret ⟨.ret, r, h, q, _, trivial, hS, .refl q, .refl hH, .refl _⟩
theorem SS.refuse {s : String} : SS P (.refuse s) (fun _ _ _ _ => .bad s) := fun r h q k hok => hok.elim
theorem SS.region (hO : OpsOk P) (hc : CfOk P cf) (hr : RfOk P rf) {id : Nat} {ops : Array Oper} : SS P (.region id ops false) (opsS P cf rf ops ops.toList) := by
  intro r h q k hok hd _ B π a w ro m hH hS hro
  refine wpIn_region ?_
  have := opsS_sound hO hc hr ops B ro m ops.toList 0 (fun j => by simp) r h q k hok hd π a w hH hS hro
  rwa [Array.length_toList, ← List.range_eq_range'] at this
theorem XR.normal {π : Pi} {x : X} (h : XR π x .normal) : x = .nrm := by cases x <;> first | rfl | exact h.elim
theorem SS.seq {x y : Code} {f g : SF} (hf : SS P x f) (hg : SS P y g) : SS P (.seq x y) (fun r h q k => f r h q (seqK g k)) := by
  intro r h q k hok hd hrc B π a w ro m hH hS hro
  have hd : (codeOk q.sz x && codeOk q.sz y) = true := hd
  rw [Bool.and_eq_true] at hd
  refine wpIn_seq (wpIn_mono (hf r h q (seqK g k) hok hd.1 hrc B π a w ro m hH hS hro) ?_)
  intro e a' w' hp
  obtain ⟨x1, r', h', q', π', a1, a2, a3, a4, a5⟩ := hp
  cases e with
  | normal =>
    have := a1.normal; subst this
    have a5 : Le (f r h q (seqK g k)) (g r' h' q' k) := a5
    have hk := (a5 hok).1
    refine wpIn_mono (hg r' h' q' k hk (by rw [a3.sz]; exact hd.2) (a3.rc.trans hrc) B π' a' w' ro m a4.rel a2 (by rw [a3.rd]; exact hro.mono a4.ext)) ?_
    intro e a2 w2 hp
    exact Post.step hH a4 a3 a5 hp
  | outgrown => cases x1 <;> exact a1.elim
  | exit i => cases x1 <;> first | exact a1.elim | exact ⟨_, r', h', q', π', a1, a2, a3, a4, a5⟩
  | goto i => cases x1 <;> first | exact a1.elim | exact ⟨_, r', h', q', π', a1, a2, a3, a4, a5⟩
  | ret => cases x1 <;> first | exact a1.elim | exact ⟨_, r', h', q', π', a1, a2, a3, a4, a5⟩
  | panic i => cases x1 <;> first | exact a1.elim | exact ⟨_, r', h', q', π', a1, a2, a3, a4, a5⟩
theorem oo_ok {α : Type} {x : Option α} {s : String} {k : α → CR} (h : (oo x (.bad s) k).ok) : ∃ a, x = some a ∧ (k a).ok := oo_inv (p := CR.ok) h (fun h => h)
theorem SS.cond {c : Operand} {x y : Code} {f g : SF} (hf : SS P x f) (hg : SS P y g) : SS P (.cond c x y) (condS c f g) := by
  intro r h q k hok hd hrc B π a w ro m hH hS hro
  have hd : (codeOk q.sz x && codeOk q.sz y) = true := hd
  rw [Bool.and_eq_true] at hd
  obtain ⟨v, h1, h2⟩ := oo_ok hok
  obtain ⟨b, rfl, h3⟩ := avBool_some (p := CR.ok) h2 (fun h => h)
  have hv := opnd_sound hH hS.rr h1
  have hb : a.eval c = .bool b := by generalize a.eval c = cv at hv; cases hv; rfl
  have e : condS c f g r h q k = (ob b g f) r h q k := by unfold condS; rw [h1]; cases b <;> rfl
  rw [e] at hok ⊢
  cases b with
  | true => exact wpIn_cond_true hb (hf r h q k hok hd.1 hrc B π a w ro m hH hS hro)
  | false => exact wpIn_cond_false hb (hg r h q k hok hd.2 hrc B π a w ro m hH hS hro)
theorem SS.block {id : Nat} {x : Code} {f : SF} (hf : SS P x f) : SS P (.block id x) (fun r h q k => f r h q (blockK id k)) := by
  intro r h q k hok hd hrc B π a w ro m hH hS hro
  refine wpIn_block (wpIn_mono (hf r h q (blockK id k) hok hd hrc B π a w ro m hH hS hro) ?_)
  intro e a' w' hp
  obtain ⟨x1, r', h', q', π', a1, a2, a3, a4, a5⟩ := hp
  cases e with
  | normal => have := a1.normal; subst this; exact ⟨.nrm, r', h', q', π', trivial, a2, a3, a4, a5⟩
  | outgrown => cases x1 <;> exact a1.elim
  | exit i =>
    cases x1 <;> first | exact a1.elim | skip
    rename_i j
    have a1 : j = i := a1
    subst a1
    have a5 : Le (f r h q (blockK id k)) (ob (Nat.beq j id) (k (.ext j) r' h' q') (k .nrm r' h' q')) := a5
    by_cases hj : j = id
    · subst hj
      simp only [Exit.inBlock, if_true]
      rw [Nat.beq_refl] at a5
      exact ⟨.nrm, r', h', q', π', trivial, a2, a3, a4, a5⟩
    · simp only [Exit.inBlock, if_neg hj]
      have hb : Nat.beq j id = false := by
        cases hb : Nat.beq j id with
        | true => exact absurd (Nat.eq_of_beq_eq_true hb) hj
        | false => rfl
      rw [hb] at a5
      exact ⟨.ext j, r', h', q', π', rfl, a2, a3, a4, a5⟩
  | goto i => cases x1 <;> first | exact a1.elim | exact ⟨_, r', h', q', π', a1, a2, a3, a4, a5⟩
  | ret => cases x1 <;> first | exact a1.elim | exact ⟨_, r', h', q', π', a1, a2, a3, a4, a5⟩
  | panic i => cases x1 <;> first | exact a1.elim | exact ⟨_, r', h', q', π', a1, a2, a3, a4, a5⟩
theorem least {p : Nat → Prop} (h : ∃ n, p n) : ∃ n, p n ∧ ∀ m, p m → n ≤ m := by
  obtain ⟨n, hn⟩ := h
  induction n using Nat.strongRecOn with
  | _ n ih =>
    by_cases hm : ∃ m, m < n ∧ p m
    · obtain ⟨m, h1, h2⟩ := hm; exact ih m h1 h2
    · exact ⟨n, hn, fun m hp => Nat.le_of_not_lt fun hlt => hm ⟨m, hlt, hp⟩⟩
/-- A loop, with its rounds counted by the invariant. -/
theorem wpIn_loopN {F : Fence} {m : Nat} {c : Code} {Q : Exit → Act → World → Prop} {a : Act} {w : World} (I : Nat → Act → World → Prop) (n0 : Nat) (h0 : I n0 a w)
    (round : ∀ n a w, I n a w → c.wpIn F m P (Exit.then (fun a' w' => ∃ n', n' < n ∧ I n' a' w') Q) a w) : (Code.loop c).wpIn F m P Q a w := by
  classical
  refine wpIn_loop (fun a w => ∃ n, I n a w) (fun a w => if h : ∃ n, I n a w then Classical.choose (least h) else 0) ⟨n0, h0⟩ ?_
  intro a w h
  have hs := Classical.choose_spec (least h)
  refine wpIn_mono (round (Classical.choose (least h)) a w hs.1) ?_
  intro e a' w' hq
  cases e with
  | normal =>
    obtain ⟨n', h1, h2⟩ := hq
    refine ⟨⟨n', h2⟩, ?_⟩
    have h3 : ∃ n, I n a' w' := ⟨n', h2⟩
    rw [dif_pos h3, dif_pos h]
    exact Nat.lt_of_le_of_lt ((Classical.choose_spec (least h3)).2 _ h2) h1
  | _ => exact hq
theorem loopS_succ (body : SF) (k : XK) (n : Nat) (r : T AV) (h : Hp) (q : Q) : loopS body k (n + 1) r h q = body r h q (loopK k (loopS body k n)) := rfl
theorem SS.loop {x : Code} {f : SF} (n : Nat) (hf : SS P x f) : SS P (.loop x) (fun r h q k => loopS f k n r h q) := by
  intro r h q k hok hd hrc B π a w ro m hH hS hro
  refine wpIn_loopN (fun n' a' w' => ∃ r' h' q' π', St π' q' r' a' ∧ QSame q q' ∧ Step B π h w π' h' w' ∧ Le (loopS f k n r h q) (loopS f k n' r' h' q')) n ⟨r, h, q, π, hS, .refl q, .refl hH, .refl _⟩ ?_
  rintro n' a' w' ⟨r', h', q', π', b1, b2, b3, b4⟩
  have hk := (b4 hok).1
  cases n' with
  | zero => exact hk.elim
  | succ n' =>
    rw [loopS_succ] at hk b4
    refine wpIn_mono (hf r' h' q' (loopK k (loopS f k n')) hk (by rw [b2.sz]; exact hd) (b2.rc.trans hrc) B π' a' w' ro m b3.rel b1 (by rw [b2.rd]; exact hro.mono b3.ext)) ?_
    intro e a2 w2 hp
    obtain ⟨x1, r2, h2, q2, π2, a1, a2, a3, a4, a5⟩ := hp
    cases e with
    | normal =>
      have := a1.normal; subst this
      exact ⟨n', Nat.lt_succ_self _, r2, h2, q2, π2, a2, b2.trans a3, Step.trans hH b3 a4, b4.trans a5⟩
    | outgrown => cases x1 <;> exact a1.elim
    | exit i => cases x1 <;> first | exact a1.elim | exact ⟨_, r2, h2, q2, π2, a1, a2, b2.trans a3, Step.trans hH b3 a4, b4.trans a5⟩
    | goto i => cases x1 <;> first | exact a1.elim | exact ⟨_, r2, h2, q2, π2, a1, a2, b2.trans a3, Step.trans hH b3 a4, b4.trans a5⟩
    | ret => cases x1 <;> first | exact a1.elim | exact ⟨_, r2, h2, q2, π2, a1, a2, b2.trans a3, Step.trans hH b3 a4, b4.trans a5⟩
    | panic i => cases x1 <;> first | exact a1.elim | exact ⟨_, r2, h2, q2, π2, a1, a2, b2.trans a3, Step.trans hH b3 a4, b4.trans a5⟩
end
end Go.Proofs.YtmoejaloachlkaaGreatDoor.Ev
