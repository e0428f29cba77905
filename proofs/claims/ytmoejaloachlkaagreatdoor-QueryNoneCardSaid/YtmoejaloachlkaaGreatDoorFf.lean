/- The evaluator's soundness, 11: scopes; a function's call. -/
import Derived.Test.YtmoejaloachlkaaGreatDoorFe
import Derived.RangeFuncLeaves
import Derived.RecoverIn
namespace Go.Proofs.YtmoejaloachlkaaGreatDoor.Ev
open Go Go.RowKit

/-! ### Scopes -/
section
variable {F : Fence} {n : Nat} {P : Program} {Q : Exit → Act → World → Prop}
theorem stepR_scope {b : Frame} {a : Act} {k : List Item} {cs : List Frame} {w : World} {c : Code} : step P (lone (b.atR a (.code (.scope c) :: k)) cs w) = .next (lone (b.atR a (.code c :: .inScope c :: k)) cs w) :=
  step_lone_go (by simp [stepG, stepG.exec, Frame.atR])
theorem stepR_inScope {b : Frame} {a : Act} {k : List Item} {cs : List Frame} {w : World} {c : Code} : step P (lone (b.atR a (.inScope c :: k)) cs w) = .next (lone (b.atR a k) cs w) :=
  step_lone_go (by simp [stepG, stepG.exec, Frame.atR])
/-- An exit of a scope's code. -/
def jumpQ (body : Code) (J : Code → Act → World → Prop) (Q : Exit → Act → World → Prop) : Exit → Act → World → Prop
  | .goto l, a, w => match findLabel body l with
    | some x => J x a w
    | none => Q (.goto l) a w
  | e, a, w => Q e a w
theorem wpIn_scopeN {body : Code} {a : Act} {w : World} (I : Nat → Code → Act → World → Prop) (n0 : Nat) (h0 : I n0 body a w)
    (round : ∀ m x a w, I m x a w → x.wpIn F n P (jumpQ body (fun x' a' w' => ∃ m', m' < m ∧ I m' x' a' w') Q) a w) : (Code.scope body).wpIn F n P Q a w := by
  intro b k cs hro hb hr
  have key : ∀ m x a w, I m x a w → ∃ e a' w', Q e a' w' ∧ ArrivesIn (Machine.fenced P F) P (lone (b.atR a (.code x :: .inScope body :: k)) cs w) b k cs e a' w' := by
    intro m
    induction m using Nat.strongRecOn with
    | _ m ih =>
      intro x a w hI
      obtain ⟨e, a₁, w₁, hq, harr⟩ := round m x a w hI b (.inScope body :: k) cs hro hb hr
      cases e with
      | normal => exact ⟨.normal, a₁, w₁, hq, StepsIn.trans harr (.one (fenced_calm hb hr rfl) stepR_inScope)⟩
      | exit id => exact ⟨.exit id, a₁, w₁, hq, fun k' hk => harr.1 k' (by simp [exitTo, hk]), fun hro hk => harr.2 hro (by simp [exitTo, hk])⟩
      | goto l =>
        cases hf : findLabel body l with
        | some x' =>
          have hq : ∃ m', m' < m ∧ I m' x' a₁ w₁ := by simpa [jumpQ, hf] using hq
          obtain ⟨m', hm, hI'⟩ := hq
          obtain ⟨e₂, a₂, w₂, hq₂, harr₂⟩ := ih m' hm x' a₁ w₁ hI'
          exact ⟨e₂, a₂, w₂, hq₂, .of_steps (harr.1 _ (by simp [gotoIn, hf])) harr₂⟩
        | none =>
          have hq : Q (.goto l) a₁ w₁ := by simpa [jumpQ, hf] using hq
          have hg : gotoIn l (.inScope body :: k) = gotoIn l k := by simp [gotoIn, hf]
          exact ⟨.goto l, a₁, w₁, hq, fun k' hk => harr.1 k' (by rw [hg]; exact hk), fun hro hk => harr.2 hro (by rw [hg]; exact hk)⟩
      | ret => exact ⟨_, a₁, w₁, hq, harr⟩
      | panic ch => exact ⟨_, a₁, w₁, hq, harr⟩
      | outgrown => exact ⟨_, a₁, w₁, hq, harr⟩
  obtain ⟨e, a', w', hq, harr⟩ := key n0 body a w h0
  exact ⟨e, a', w', hq, .of_steps (.one (fenced_calm hb hr rfl) stepR_scope) harr⟩
end
theorem findLabel_ok {n : Nat} {l : Nat} : ∀ {c x : Code}, codeOk n c = true → findLabel c l = some x → codeOk n x = true
  | .seq a b, x, hc, h => by
    have hc : (codeOk n a && codeOk n b) = true := hc
    rw [Bool.and_eq_true] at hc
    unfold findLabel at h
    cases h1 : findLabel a l with
    | some y =>
      rw [h1] at h; cases h
      show (codeOk n y && codeOk n b) = true
      rw [findLabel_ok hc.1 h1, hc.2]; rfl
    | none => rw [h1] at h; exact findLabel_ok hc.2 h
  | .label l', x, _, h => by
    unfold findLabel at h
    split at h
    · cases h; rfl
    · cases h
  | .skip, x, _, h => by cases h
  | .region .., x, _, h => by cases h
  | .cond .., x, _, h => by cases h
  | .block .., x, _, h => by cases h
  | .loop .., x, _, h => by cases h
  | .rangeFunc .., x, _, h => by cases h
  | .exit .., x, _, h => by cases h
  | .scope .., x, _, h => by cases h
  | .goto .., x, _, h => by cases h
  | .ret, x, _, h => by cases h
  | .refuse .., x, _, h => by cases h
/-- Code, by an evaluator of less fuel. -/
def EvOk (P : Program) (ev : CodeF) : Prop := ∀ c, SS P c (ev c)
theorem SS.scope {P : Program} {ev : CodeF} (hev : EvOk P ev) {x : Code} (n : Nat) : SS P (.scope x) (fun r h q k => scopeS ev x k n x r h q) := by
  intro r h q k hok hd hrc B π a w ro m hH hS hro
  have hd : codeOk q.sz x = true := hd
  refine wpIn_scopeN (fun n' c a' w' => codeOk q.sz c = true ∧ ∃ r' h' q' π', St π' q' r' a' ∧ QSame q q' ∧ Step B π h w π' h' w' ∧ Le (scopeS ev x k n x r h q) (scopeS ev x k n' c r' h' q')) n ⟨hd, r, h, q, π, hS, .refl q, .refl hH, .refl _⟩ ?_
  rintro n' c a' w' ⟨hc, r', h', q', π', b1, b2, b3, b4⟩
  have hk := (b4 hok).1
  cases n' with
  | zero => exact hk.elim
  | succ n' =>
    unfold scopeS at hk
    have b4' : Le (scopeS ev x k n x r h q) (ev c r' h' q' fun x1 r h q => match x1 with
      | .gto l => match findLabel x l with
        | some c' => tick (scopeS ev x k n' c' r h q)
        | none => k (.gto l) r h q
      | x1 => k x1 r h q) := by
      have := b4
      conv at this => rhs; unfold scopeS
      exact this
    refine wpIn_mono (hev c r' h' q' _ hk (by rw [b2.sz]; exact hc) (b2.rc.trans hrc) B π' a' w' ro m b3.rel b1 (by rw [b2.rd]; exact hro.mono b3.ext)) ?_
    intro e a2 w2 hp
    obtain ⟨x1, r2, h2, q2, π2, a1, a2, a3, a4, a5⟩ := hp
    replace a5 := b4'.trans a5
    cases e with
    | normal =>
      have := a1.normal; subst this
      exact ⟨.nrm, r2, h2, q2, π2, trivial, a2, b2.trans a3, Step.trans hH b3 a4, a5⟩
    | outgrown => cases x1 <;> exact a1.elim
    | exit i => cases x1 <;> first | exact a1.elim | exact ⟨_, r2, h2, q2, π2, a1, a2, b2.trans a3, Step.trans hH b3 a4, a5⟩
    | ret => cases x1 <;> first | exact a1.elim | exact ⟨_, r2, h2, q2, π2, a1, a2, b2.trans a3, Step.trans hH b3 a4, a5⟩
    | panic i => cases x1 <;> first | exact a1.elim | exact ⟨_, r2, h2, q2, π2, a1, a2, b2.trans a3, Step.trans hH b3 a4, a5⟩
    | goto i =>
      cases x1 <;> first | exact a1.elim | skip
      rename_i l
      have a1 : l = i := a1
      subst a1
      show match findLabel x l with
        | some x' => _
        | none => _
      cases hf : findLabel x l with
      | some c' =>
        simp only [hf] at a5
        exact ⟨n', Nat.lt_succ_self _, findLabel_ok hd hf, r2, h2, q2, π2, a2, b2.trans a3, Step.trans hH b3 a4, a5⟩
      | none =>
        simp only [hf] at a5
        exact ⟨.gto l, r2, h2, q2, π2, rfl, a2, b2.trans a3, Step.trans hH b3 a4, a5⟩
end Go.Proofs.YtmoejaloachlkaaGreatDoor.Ev
