/- An index behind one bucket's turn, said of its buckets as lists. No program in sight. -/
import Derived.Test.YtgpekeemmambkaaIX
import Derived.Test.YtgpekeemmambkaaSums
namespace Go.Proofs.Ytgpekeemmambkaa
open Go.RowKit Go.ChangeMaps Go.MapKept

def idsOf : Option BR → List Int
  | none => []
  | some r => r.ids

section
variable {P : Program} {IT BT XT KT : TypeId} {w w' : World} {xb mb : Nat} {F : Lit → Option BR} {nk nk' : Nat} {cnt cnt' : Int} {N N' : Nat} {S : Nat → Prop} {M : Lit → List Int}

theorem Ix.of_turned (hM : ∀ k, M k = idsOf (F k)) (hS : ∀ i, S i ↔ (i = xb ∨ i = mb ∨ ∃ k r, F k = some r ∧ r.fp i)) (kl : Lit) (r' : Option BR)
    (h' : IxIn P IT BT XT KT w' xb mb (updL F kl r') nk' cnt' N')
    (hfp : ∀ r, r' = some r → ∀ i, r.fp i → (∃ r0, F kl = some r0 ∧ r0.fp i) ∨ w.heap.size ≤ i) :
    ∃ S', Ix P IT BT XT KT w' xb S' (updL M kl (idsOf r')) nk' cnt' N' ∧ ∀ i, S' i → S i ∨ w.heap.size ≤ i := by
  refine ⟨fun i => i = xb ∨ i = mb ∨ ∃ k r, updL F kl r' k = some r ∧ r.fp i, ⟨mb, updL F kl r', h', fun k => ?_, fun i => Iff.rfl⟩, ?_⟩
  · refine (?_ : updL M kl (idsOf r') k = idsOf (updL F kl r' k)).trans (by cases updL F kl r' k <;> rfl)
    by_cases hk : k = kl
    · subst hk; rw [updL_same, updL_same]
    · rw [updL_ne _ _ hk, updL_ne _ _ hk]; exact hM k
  · rintro i (rfl | rfl | ⟨k, r, hr, hi⟩)
    · exact .inl ((hS _).2 (.inl rfl))
    · exact .inl ((hS _).2 (.inr (.inl rfl)))
    · by_cases hk : k = kl
      · subst hk
        rw [updL_same] at hr
        rcases hfp r hr i hi with ⟨r0, h0, hi0⟩ | hlt
        · exact .inl ((hS i).2 (.inr (.inr ⟨k, r0, h0, hi0⟩)))
        · exact .inr hlt
      · rw [updL_ne _ _ hk] at hr
        exact .inl ((hS i).2 (.inr (.inr ⟨k, r, hr, hi⟩)))
theorem Ix.open_ (h : Ix P IT BT XT KT w xb S M nk cnt N) : ∃ mb F, IxIn P IT BT XT KT w xb mb F nk cnt N ∧ (∀ k, M k = idsOf (F k)) ∧ ∀ i, S i ↔ (i = xb ∨ i = mb ∨ ∃ k r, F k = some r ∧ r.fp i) := by
  obtain ⟨mb, F, h1, h2, h3⟩ := h
  refine ⟨mb, F, h1, fun k => ?_, h3⟩
  rw [h2]
  cases F k <;> rfl
/-- A key's bucket is there just when it has a number. -/
theorem IxIn.none_iff (h : IxIn P IT BT XT KT w xb mb F nk cnt N) (k : Lit) : idsOf (F k) = [] ↔ F k = none := by
  cases hF : F k with
  | none => simp [idsOf]
  | some r => simp only [idsOf]; exact ⟨fun e => absurd e (h.bks k r hF).2.1, fun e => by simp at e⟩

/-- What add leaves: the buckets, how many keys, how many numbers. -/
noncomputable def addM (M : Lit → List Int) (k : Lit) (id : Int) : Lit → List Int := if id ∈ M k then M else updL M k (M k ++ [id])
def addK (M : Lit → List Int) (k : Lit) (nk : Nat) : Nat := if M k = [] then nk + 1 else nk
noncomputable def remM (M : Lit → List Int) (k : Lit) (id : Int) : Lit → List Int := updL M k ((M k).erase id)
def remK (M : Lit → List Int) (k : Lit) (id : Int) (nk : Nat) : Nat := if (M k).erase id = [] then nk - 1 else nk
def hasB (M : Lit → List Int) (k : Lit) (id : Int) : Bool := decide (id ∈ M k)
theorem hasB_true {M : Lit → List Int} {k : Lit} {id : Int} (h : id ∈ M k) : hasB M k id = true := by simp [hasB, h]
theorem hasB_false {M : Lit → List Int} {k : Lit} {id : Int} (h : id ∉ M k) : hasB M k id = false := by simp [hasB, h]
end
end Go.Proofs.Ytgpekeemmambkaa
