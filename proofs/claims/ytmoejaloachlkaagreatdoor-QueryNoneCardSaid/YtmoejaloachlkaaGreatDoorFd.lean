/- The evaluator's soundness, 9: what an operation is to do; states; regions that draw nothing. -/
import Derived.Test.YtmoejaloachlkaaGreatDoorFc
namespace Go.Proofs.YtmoejaloachlkaaGreatDoor.Ev
open Go Go.RowKit

/-! ### One of several ways -/
theorem eqT_eq : ∀ (t u : T AV), eqT t u = true → t = u := by
  intro t
  induction t with
  | e => intro u h; cases u <;> first | rfl | cases h
  | n v l r ihl ihr =>
    intro u h
    cases u with
    | e => cases h
    | n v' l' r' =>
      have h : ob (oo v (oo v' true fun _ => false) fun a => oo v' false fun b => AV.beq a b) false (ob (eqT l l') false (eqT r r')) = true := h
      obtain ⟨h1, h2⟩ := ob_inv (p := (· = true)) h (by simp)
      obtain ⟨h3, h4⟩ := ob_inv (p := (· = true)) h2 (by simp)
      rw [ihl _ h3, ihr _ h4]
      cases v with
      | none => cases v' with
        | none => rfl
        | some b => cases h1
      | some a => cases v' with
        | none => cases h1
        | some b => rw [AV.beq_eq a b h1]
theorem eqNs_eq : ∀ (l m : List Nat), eqNs l m = true → l = m
  | [], [], _ => rfl
  | a :: l, b :: m, h => by
    unfold eqNs at h
    obtain ⟨h1, h2⟩ := beq_and h
    rw [Nat.eq_of_beq_eq_true h1, eqNs_eq l m h2]
  | [], _ :: _, h => by cases h
  | _ :: _, [], h => by cases h
theorem optB_eq (a b : Option AV) (h : optB a b = true) : a = b := by
  cases a <;> cases b <;> first | rfl | (cases h; done) | (rw [AV.beq_eq _ _ h])
theorem takeE_perm {e : AV × AV} : ∀ {l m : List (AV × AV)}, takeE e l = some m → l.Perm (e :: m)
  | [], m, h => by cases h
  | e' :: l, m, h => by
    unfold takeE at h
    cases hb : AV.beq e.1 e'.1 && AV.beq e.2 e'.2 with
    | true =>
      rw [hb, cond_true] at h; cases h
      obtain ⟨h1, h2⟩ := beq_and hb
      obtain ⟨a, b⟩ := e
      obtain ⟨a', b'⟩ := e'
      have e1 := AV.beq_eq _ _ h1
      have e2 := AV.beq_eq _ _ h2
      simp only at e1 e2
      rw [e1, e2]
    | false =>
      rw [hb, cond_false] at h
      simp only [Option.map_eq_some_iff] at h
      obtain ⟨m', h1, rfl⟩ := h
      exact ((takeE_perm h1).cons e').trans (List.Perm.swap e e' m')
theorem permE_perm : ∀ {l m : List (AV × AV)}, permE l m = true → l.Perm m
  | [], [], _ => .nil
  | e :: l, m, h => by
    unfold permE at h
    cases ht : takeE e m with
    | none => rw [ht] at h; cases h
    | some m' =>
      rw [ht] at h
      exact ((permE_perm h).cons e).trans (takeE_perm ht).symm
  | [], _ :: _, h => by cases h
theorem AV.beqs_eq : ∀ (l m : List AV), AV.beqs l m = true → l = m
  | [], [], _ => rfl
  | a :: l, b :: m, h => by
    rw [AV.beqs] at h
    obtain ⟨h1, h2⟩ := beq_and h
    rw [AV.beq_eq a b h1, AV.beqs_eq l m h2]
  | [], _ :: _, h => by simp [AV.beqs] at h
  | _ :: _, [], h => by simp [AV.beqs] at h
theorem eqBlk_spec {x y : Blk} (h : eqBlk x y = true) : x = y ∨ ∃ es es' c, x = .map es c ∧ y = .map es' c ∧ es.Perm es' := by
  unfold eqBlk at h
  split at h
  · obtain ⟨h, h8⟩ := beq_and h
    obtain ⟨h, h7⟩ := beq_and h
    obtain ⟨h, h6⟩ := beq_and h
    obtain ⟨h, h5⟩ := beq_and h
    obtain ⟨h, h4⟩ := beq_and h
    obtain ⟨h, h3⟩ := beq_and h
    obtain ⟨h1, h2⟩ := beq_and h
    rw [eqT_eq _ _ h8, optB_eq _ _ h7, eqNs_eq _ _ h6, eq_of_beq h5, Nat.eq_of_beq_eq_true h4, Nat.eq_of_beq_eq_true h3, Nat.eq_of_beq_eq_true h2, Nat.eq_of_beq_eq_true h1]
    exact .inl rfl
  · obtain ⟨h1, h2⟩ := beq_and h
    rw [Nat.eq_of_beq_eq_true h1]
    exact .inr ⟨_, _, _, rfl, rfl, permE_perm h2⟩
  · obtain ⟨h, h3⟩ := beq_and h
    obtain ⟨h1, h2⟩ := beq_and h
    rw [Nat.eq_of_beq_eq_true h1, Nat.eq_of_beq_eq_true h2, AV.beqs_eq _ _ h3]
    exact .inl rfl
  · exact .inl rfl
  · exact .inl rfl
  · cases h
theorem tJoin_get : ∀ (t u : T Blk) (p : Pos) (x : Blk), (tJoin t u).get p = some x → t.get p = some x ∧ ∃ y, u.get p = some y ∧ eqBlk x y = true := by
  intro t
  induction t with
  | e => intro u p x h; have h : (T.e : T Blk).get p = some x := h; rw [T.get_e] at h; cases h
  | n v l r ihl ihr =>
    intro u p x h
    cases u with
    | e => have h : (T.e : T Blk).get p = some x := h; rw [T.get_e] at h; cases h
    | n v' l' r' =>
      have h : (T.n (oo v none fun a => oo v' none fun b => ob (eqBlk a b) none (some a)) (tJoin l l') (tJoin r r')).get p = some x := h
      cases p with
      | h =>
        rw [T.get_nh] at h
        obtain ⟨a, rfl, h1⟩ := oo_eq h
        obtain ⟨b, rfl, h2⟩ := oo_eq h1
        obtain ⟨h3, h4⟩ := ob_eq h2
        cases h4
        exact ⟨rfl, b, rfl, h3⟩
      | o p => rw [T.get_no] at h; exact ihl _ _ _ h
      | i p => rw [T.get_ni] at h; exact ihr _ _ _ h
theorem joinH_nx (h h' : Hp) : h.nx ≤ (joinH h h').nx ∧ h'.nx ≤ (joinH h h').nx := by
  unfold joinH
  simp only
  cases hb : Nat.ble h.nx h'.nx with
  | true => rw [cond_true]; exact ⟨Nat.le_of_ble_eq_true hb, Nat.le_refl _⟩
  | false =>
    rw [cond_false]
    refine ⟨Nat.le_refl _, ?_⟩
    rcases Nat.le_total h.nx h'.nx with k | k
    · have : Nat.ble h.nx h'.nx = true := by rw [Nat.ble_eq]; exact k
      rw [this] at hb; cases hb
    · exact k
theorem eqPE_eq : ∀ (l m : List PE), eqPE l m = true → l = m
  | [], [], _ => rfl
  | ⟨a, ra⟩ :: l, ⟨b, rb⟩ :: m, h => by
    unfold eqPE at h
    obtain ⟨h, h3⟩ := beq_and h
    obtain ⟨h1, h2⟩ := beq_and h
    rw [eqPE_eq l m h3]
    have e1 := AV.beq_eq a b h1
    have e2 : ra = rb := eq_of_beq h2
    rw [e1, e2]
  | [], _ :: _, h => by cases h
  | _ :: _, [], h => by cases h
theorem joinC_le (a b : CR) : Le (joinC a b) a ∧ Le (joinC a b) b := by
  have key1 : ∀ (h h' : Hp) {B : Nat} {π π' : Pi} {H : Hp} {w w' : World}, Step B π H w π' h w' → Step B π H w π' (joinH h h') w' := fun h h' _ _ _ _ _ _ hs =>
    hs.less (fun b x hx => (tJoin_get _ _ _ _ hx).1) (joinH_nx h h').1
  have key2 : ∀ (h h' : Hp) {B : Nat} {π π' : Pi} {H : Hp} {w w' : World}, Step B π H w π' h' w' → Step B π H w π' (joinH h h') w' := fun h h' _ _ _ _ _ _ hs =>
    hs.alike (fun b x hx => by
      obtain ⟨_, y, h1, h2⟩ := tJoin_get _ _ _ _ hx
      rcases eqBlk_spec h2 with rfl | ⟨es, es', c, rfl, rfl, hp⟩
      · exact .inl h1
      · exact .inr ⟨es, es', c, rfl, h1, hp⟩) (joinH_nx h h').2
  cases a with
  | bad w => exact ⟨.bad _ _, .bad _ _⟩
  | ret v h =>
    cases b with
    | bad w => exact ⟨.bad _ _, .bad _ _⟩
    | pan c h' => exact ⟨.bad _ _, .bad _ _⟩
    | ret v' h' =>
      have e : joinC (.ret v h) (.ret v' h') = bif AV.beq v v' then .ret v (joinH h h') else .bad "orders: values" := rfl
      rw [e]
      cases hb : AV.beq v v' with
      | false => exact ⟨.bad _ _, .bad _ _⟩
      | true =>
        rw [cond_true]
        have := AV.beq_eq _ _ hb
        subst this
        exact ⟨fun _ => ⟨trivial, fun B π H w e w' ⟨π', cv, h1, h2, h3⟩ => ⟨π', cv, h1, h2, key1 h h' h3⟩⟩, fun _ => ⟨trivial, fun B π H w e w' ⟨π', cv, h1, h2, h3⟩ => ⟨π', cv, h1, h2, key2 h h' h3⟩⟩⟩
  | pan c h =>
    cases b with
    | bad w => exact ⟨.bad _ _, .bad _ _⟩
    | ret v' h' => exact ⟨.bad _ _, .bad _ _⟩
    | pan c' h' =>
      have e : joinC (.pan c h) (.pan c' h') = bif eqPE c c' then .pan c (joinH h h') else .bad "orders: panics" := rfl
      rw [e]
      cases hb : eqPE c c' with
      | false => exact ⟨.bad _ _, .bad _ _⟩
      | true =>
        rw [cond_true]
        have := eqPE_eq _ _ hb
        subst this
        exact ⟨fun _ => ⟨trivial, fun B π H w e w' ⟨π', cv, h1, h2, h3⟩ => ⟨π', cv, h1, h2, key1 h h' h3⟩⟩, fun _ => ⟨trivial, fun B π H w e w' ⟨π', cv, h1, h2, h3⟩ => ⟨π', cv, h1, h2, key2 h h' h3⟩⟩⟩
theorem joinL_le : ∀ {l : List CR} {c : CR}, c ∈ l → Le (joinL l) c
  | [], c, h => by cases h
  | [a], c, h => by
    have := List.mem_singleton.1 h
    subst this
    exact .refl _
  | a :: b :: l, c, h => by
    show Le (joinC a (joinL (b :: l))) c
    rcases List.mem_cons.1 h with rfl | h
    · exact (joinC_le _ _).1
    · exact (joinC_le _ _).2.trans (joinL_le h)

/-! ### What an operation is to do -/
/-- The outcome of an operation and what the model makes of it. -/
def ORun (P : Program) (B : Nat) (π : Pi) (H : Hp) (w : World) (s : Sem Next) : OR → Prop
  | .bad _ => True
  | .val v H' => OVal P s B π H w v H'
  | .pan v H' => ∃ π' cv w', s.run P w = .halt (.panic cv) w' ∧ VR π' v cv ∧ Step B π H w π' H' w'
  | .dfr d => ∃ d', s.run P w = .ok (.defer d') w ∧ DR π d d'
  | .rcv => s.run P w = .ok .recover w
  | .call f args H' => ∃ π' cargs w', s.run P w = .ok (.enter f cargs) w' ∧ VRs π' args cargs.toList ∧ Step B π H w π' H' w'
  | .rnd l args H' => H' = H ∧ ∃ c z cargs, π l = some (c, z) ∧ s.run P w = (Instr.yield c cargs).run P w ∧ VRs π args cargs.toList
  | .alts l => ∃ p ∈ l, OVal P s B π H w p.1 p.2
/-- Operations whose outcome is their operands' alone. -/
def OpsOk (P : Program) : Prop := ∀ (r : T AV) (o : Oper) (B : Nat) (π : Pi) (H : Hp) (w : World) (a : Act), HRel π B H w → RR π r a.tmps → ORun P B π H w (execOp a.eval o) (opA P r o H)
/-- A call's function. -/
def CfOk (P : Program) (cf : CallF) : Prop := ∀ (B : Nat) (π : Pi) (H : Hp) (w : World) (f : Nat) (args : List AV) (cargs : Array Value), HRel π B H w → VRs π args cargs.toList → (cf f args H).ok → Calls P f cargs w (COut B π H w (cf f args H))
/-- A fence around nothing, in a round or not. -/
def Fw (ro : Option Nat) : Fence := { Fence.wide with round := ro }
theorem Fw_fenced (P : Program) (ro : Option Nat) : Machine.fenced P (Fw ro) = Machine.fenced P Fence.wide := rfl
theorem Fw_room (ro : Option Nat) (n : Nat) : (Fw ro).room n := room_wide n
theorem callsIn_Fw {P : Program} {ro : Option Nat} {n : Nat} {f : FuncId} {args : Array Value} {w : World} {R : Ending → World → Prop} : CallsIn (Fw ro) n P f args w R ↔ Calls P f args w R :=
  ⟨fun h cs => let ⟨e, w', fr, r, s, x⟩ := h.2 cs (room_wide _); ⟨e, w', fr, r, comesIn_wide.1 s, x⟩,
   fun h => ⟨trivial, fun cs _ => let ⟨e, w', fr, r, s, x⟩ := h cs; ⟨e, w', fr, r, comesIn_wide.2 s, x⟩⟩⟩
/-- A round's function. -/
def RfOk (P : Program) (rf : RndF) : Prop := ∀ (B : Nat) (π : Pi) (H : Hp) (w : World) (l : Nat) (args : List AV) (cargs : Array Value) (c z : Nat) (ro : Option Nat) (n : Nat), HRel π B H w → π l = some (c, z) → VRs π args cargs.toList → (rf l args H).ok →
  ∃ l' f tmps asg body w', (Instr.yield c cargs).run P w = .ok (.round l' f tmps asg body) w' ∧ RoundIn (Fw ro) n P l' f tmps asg body w' (COut B π H w (rf l args H))
/-- What the enclosing round is. -/
def RO (π : Pi) : Option Nat → Option Nat → Prop
  | none, none => True
  | some l, some c => ∃ z, π l = some (c, z)
  | _, _ => False
theorem RO.mono {π π' : Pi} (hE : PExt π π') {a b : Option Nat} (h : RO π a b) : RO π' a b := by
  cases a <;> cases b <;> first | trivial | exact h.elim | (obtain ⟨z, hz⟩ := h; exact ⟨z, hE _ _ hz⟩)

section
variable {P : Program} {cf : CallF} {rf : RndF} {B : Nat} {π : Pi} {H H' : Hp} {w : World} {r : T AV} {a : Act} {o : Oper} {ro : Option Nat} {n : Nat} {next : Act → World → Prop} {Q : Exit → Act → World → Prop}
theorem about_Fw : ∀ f, o.about P w a.eval = some f → (Fw ro).fn f := fun _ _ => trivial
theorem opA_defer {c : Call} (h : o.op = .defer c) {v : AV} : opA P r o H ≠ .val v H' := by
  unfold opA; rw [h]
  show opDefer c P r H ≠ _
  unfold opDefer
  split
  · split
    · split
      · cases hb : (_ : Func).body.isSome && !((_ : Func).name == "runtime.NumGoroutine") <;> simp [hb]
      · simp
    · simp
  · simp
/-- What an operation with its call comes to, as the kit's logic says it. -/
def EPost (P : Program) (B : Nat) (π : Pi) (H : Hp) (w : World) (o : Oper) (a : Act) (next : Act → World → Prop) (Q : Exit → Act → World → Prop) : ER → Prop
  | .bad _ => False
  | .val v H' => ∀ π' cv w', VR π' v cv → Step B π H w π' H' w' → next (a.put o.dst cv) w'
  | .pan ch H' => ∀ π' chain w', PRs π' ch chain → Step B π H w π' H' w' → Q (.panic chain) a w'
  | .dfr d => ∀ d', DR π d d' → next ({ a with defers := d' :: a.defers }.put o.dst undef) w
  | .rcv => False
theorem opE_wp (hO : OpsOk P) (hc : CfOk P cf) (hr : RfOk P rf) (hH : HRel π B H w) (hR : RR π r a.tmps) (hd : ∀ d, opE cf rf (opA P r o H) = .dfr d → ro = none)
    (h : EPost P B π H w o a next Q (opE cf rf (opA P r o H))) : o.wpIn (Fw ro) n P a w next Q := by
  refine ⟨about_Fw, ?_⟩
  show o.uponIn (Fw ro) n P a next Q ((o.semAt ro a.eval).run P w)
  have hs := hO r o B π H w a hH hR
  have sem : (∀ d, opA P r o H ≠ .dfr d) → (o.semAt ro a.eval).run P w = (execOp a.eval o).run P w ∨ (∃ c, o.op = .defer c) := by
    intro _
    by_cases hx : ∃ c, o.op = .defer c
    · exact .inr hx
    · exact .inl (by rw [Oper.semAt_eq ro _ o (fun c hc => hx ⟨c, hc⟩)])
  have nodef : ∀ c, o.op = .defer c → ∃ x, opA P r o H = .dfr x ∨ ∃ y, opA P r o H = .bad y := by
    intro c hc
    unfold opA; rw [hc]
    show ∃ x, opDefer c P r H = .dfr x ∨ ∃ y, opDefer c P r H = .bad y
    unfold opDefer
    split
    · split
      · split
        · rename_i fn _
          cases hb : (fn.body.isSome && !(fn.name == "runtime.NumGoroutine")) with
          | true => exact ⟨_, .inl rfl⟩
          | false => exact ⟨.coll 0, .inr ⟨_, rfl⟩⟩
        · exact ⟨.coll 0, .inr ⟨_, rfl⟩⟩
      · exact ⟨.coll 0, .inr ⟨_, rfl⟩⟩
    · exact ⟨.coll 0, .inr ⟨_, rfl⟩⟩
  have semE : (∀ d, opA P r o H ≠ .dfr d) → (∀ y, opA P r o H ≠ .bad y) → (o.semAt ro a.eval).run P w = (execOp a.eval o).run P w := by
    intro h1 h2
    rcases sem h1 with h | ⟨c, hc⟩
    · exact h
    · obtain ⟨x, hx | ⟨y, hy⟩⟩ := nodef c hc
      · exact absurd hx (h1 x)
      · exact absurd hy (h2 y)
  cases ho : opA P r o H with
  | bad w => rw [ho] at h; exact h.elim
  | val v H' =>
    rw [ho] at h hs
    obtain ⟨π', w', cv, nx, h1, h2, h3, h4⟩ := hs
    rw [semE (by simp [ho]) (by simp [ho]), h1]
    rcases h2 with rfl | ⟨rfl, rfl⟩
    · exact h π' cv w' h3 h4
    · exact h π' undef w' h3 h4
  | pan v H' =>
    rw [ho] at h hs
    obtain ⟨π', cv, w', h1, h2, h3⟩ := hs
    rw [semE (by simp [ho]) (by simp [ho]), h1]
    exact h π' _ w' (.cons _ _ _ _ _ h2 .nil) h3
  | dfr d =>
    have hro := hd d (by rw [ho]; rfl)
    subst hro
    rw [ho] at h hs
    obtain ⟨d', h1, h2⟩ := hs
    rw [Oper.semAt_none, h1]
    exact h d' h2
  | rcv => rw [ho] at h; exact h.elim
  | alts l => rw [ho] at h; exact h.elim
  | call f args H' =>
    rw [ho] at h hs
    obtain ⟨π', cargs, w', h1, h2, h3⟩ := hs
    rw [semE (by simp [ho]) (by simp [ho]), h1]
    have h : EPost P B π H w o a next Q (cER (cf f args H')) := h
    refine ⟨fun hx => by simp [Fw, Fence.wide] at hx, callsIn_Fw.2 ?_⟩
    cases hcf : cf f args H' with
    | bad w => rw [hcf] at h; exact h.elim
    | ret v H2 =>
      rw [hcf] at h
      refine (hc B π' H' w' f args cargs h3.rel h2 (by rw [hcf]; trivial)).mono ?_
      intro e w2 he
      rw [hcf] at he
      obtain ⟨π2, cv, rfl, k1, k2⟩ := he
      exact h π2 cv w2 k1 (Step.trans hH h3 k2)
    | pan ch H2 =>
      rw [hcf] at h
      refine (hc B π' H' w' f args cargs h3.rel h2 (by rw [hcf]; trivial)).mono ?_
      intro e w2 he
      rw [hcf] at he
      obtain ⟨π2, chain, rfl, k1, k2⟩ := he
      exact h π2 chain w2 k1 (Step.trans hH h3 k2)
  | rnd l args H' =>
    rw [ho] at h hs
    obtain ⟨rfl, c, z, cargs, h1, h2, h3⟩ := hs
    rw [semE (by simp [ho]) (by simp [ho]), h2]
    have h : EPost P B π H' w o a next Q (cER (rf l args H')) := h
    have hok : (rf l args H').ok := by
      cases hrf : rf l args H' with
      | bad w => rw [hrf] at h; exact h.elim
      | ret => trivial
      | pan => trivial
    obtain ⟨l', f, tmps, asg, body, w', k1, k2⟩ := hr B π H' w l args cargs c z ro (n - 1) hH h1 h3 hok
    rw [k1]
    refine ⟨fun hx => by simp [Fw, Fence.wide] at hx, RoundIn.mono k2 ?_⟩
    intro e w2 he
    cases hrf : rf l args H' with
    | bad w => rw [hrf] at h; exact h.elim
    | ret v H2 =>
      rw [hrf] at h he
      obtain ⟨π2, cv, rfl, k1, k2⟩ := he
      exact h π2 cv w2 k1 k2
    | pan ch H2 =>
      rw [hrf] at h he
      obtain ⟨π2, chain, rfl, k1, k2⟩ := he
      exact h π2 chain w2 k1 k2
end
end Go.Proofs.YtmoejaloachlkaaGreatDoor.Ev
