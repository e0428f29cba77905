/- Plain laws for IndexSums: as many numbers as all buckets of the short keys together. No world and no program in sight. -/
import Derived.Test.YtgpekeemmambkaaIB
namespace Go.Proofs.Ytgpekeemmambkaa
open Go.RowKit

/-- How many numbers the buckets of the keys below n hold. -/
def sumTo (M : Lit → List Int) : Nat → Nat
  | 0 => 0
  | n + 1 => sumTo M n + (M (.int .i64 n)).length
theorem sumTo_upd (M : Lit → List Int) (k : Nat) (l : List Int) : ∀ n, sumTo (updL M (.int .i64 k) l) n + (if k < n then (M (.int .i64 k)).length else 0) = sumTo M n + (if k < n then l.length else 0)
  | 0 => by simp [sumTo]
  | n + 1 => by
    have ih := sumTo_upd M k l n
    simp only [sumTo]
    by_cases h : n = k
    · subst h
      rw [updL_same]
      simp only [Nat.lt_irrefl, if_false, Nat.lt_succ_self, if_true] at ih ⊢
      omega
    · rw [updL_ne M l (by simp; omega)]
      by_cases h2 : k < n
      · rw [if_pos h2] at ih; rw [if_pos h2] at ih; rw [if_pos (by omega), if_pos (by omega)]; omega
      · rw [if_neg h2] at ih; rw [if_neg h2] at ih; rw [if_neg (by omega), if_neg (by omega)]; omega
theorem sumTo_add (M : Lit → List Int) (k n : Nat) (id : Int) (h : k < n) : sumTo (updL M (.int .i64 k) (M (.int .i64 k) ++ [id])) n = sumTo M n + 1 := by
  have := sumTo_upd M k (M (.int .i64 k) ++ [id]) n
  rw [if_pos h, if_pos h] at this
  simp at this; omega
theorem erase_snoc (l : List Int) (id : Int) (h : id ∉ l) : (l ++ [id]).erase id = l := by
  rw [List.erase_append_right _ h]; simp
theorem updL_updL {β : Type} (f : Lit → β) (i : Lit) (x y : β) : updL (updL f i x) i y = updL f i y := by
  funext k
  by_cases h : k = i
  · subst h; rw [updL_same, updL_same]
  · rw [updL_ne _ _ h, updL_ne _ _ h, updL_ne _ _ h]
theorem updL_self {β : Type} (f : Lit → β) (i : Lit) : updL f i (f i) = f := by
  funext k
  by_cases h : k = i
  · subst h; rw [updL_same]
  · rw [updL_ne _ _ h]
end Go.Proofs.Ytgpekeemmambkaa
