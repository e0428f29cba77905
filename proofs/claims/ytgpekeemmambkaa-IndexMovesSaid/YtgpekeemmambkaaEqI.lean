/- proctorref0.EqInts: whether two slices of integers hold the same. -/
import Derived.Test.YtgpekeemmambkaaProg
import Derived.WalkKit
import Derived.WalkSpells
import Derived.WalkLawsBesides
import Derived.Deep.QuietTactic
import Derived.BigQuiet
import Derived.BigRegion
import Derived.Deep.Draws
import Derived.Lib.Hide
namespace Go.Proofs.Ytgpekeemmambkaa
open Go.RowKit

/-- The slice with address ao holds xs. -/
def IntsAt (w : World) (ao : Option Addr) (xs : List Int) : Prop :=
  0 < xs.length → ∃ g o, ao = some ⟨g, o, none⟩ ∧ ∀ j, j < xs.length → w.cell? ⟨g, o + j, none⟩ = some (.int .i64 (xs.getD j 0))
def eqB (xs ys : List Int) : Bool := decide (xs = ys)
theorem drewN_add (w : World) (a b : Nat) : (w.drewN a).drewN b = w.drewN (a + b) := by unfold World.drewN; simp [Nat.add_assoc]
theorem eqB_true {xs ys : List Int} (h : xs = ys) : eqB xs ys = true := by simp [eqB, h]
theorem eqB_false {xs ys : List Int} (h : xs ≠ ys) : eqB xs ys = false := by simp [eqB, h]
theorem eq_of_getD {xs ys : List Int} (hl : xs.length = ys.length) (h : ∀ j, j < xs.length → xs.getD j 0 = ys.getD j 0) : xs = ys := by
  refine List.ext_getElem hl fun j h1 h2 => ?_
  have := h j h1
  simpa [List.getD_eq_getElem?_getD, h1, h2] using this

set_option maxHeartbeats 800000 in
theorem eqints_any {w : World} {ao bo : Option Addr} {ca cb : Nat} {xs ys : List Int} (ha : IntsAt w ao xs) (hb : IntsAt w bo ys) (hx : xs.length ≤ 9223372036854775807) (hy : ys.length ≤ 9223372036854775807) :
    Calls Try.prog 15 #[.slice ao xs.length ca, .slice bo ys.length cb] w fun e w' => e = .returned (.bool (eqB xs ys)) ∧ ∃ q, w' = w.drewN q := by
  by_cases hl : xs.length = ys.length
  · obtain ⟨n, hn⟩ : ∃ n, xs.length = n := ⟨_, rfl⟩
    have hm : ys.length = n := by omega
    have HA := Lib.hid ha
    have HB := Lib.hid hb
    have HN := Lib.hid hn
    have HM := Lib.hid hm
    rw [hn, hm]
    rw [hn] at hx
    clear ha hb hl hy hn hm
    go_enter Try.func15, Try.ntmps15
    go_wp2
    go_loopw [5] (fun i wr => ∃ k q : Nat, k ≤ n ∧ i = .int .i64 k ∧ wr = w.drewN q ∧ Hid (∀ j, j < k → xs.getD j 0 = ys.getD j 0)) (fun i _ => n - (intOf i).toNat)
    case atStart => exact ⟨0, 0, Nat.zero_le _, rfl, rfl, fun j hj => absurd hj (Nat.not_lt_zero _)⟩
    case round =>
      obtain ⟨k, q, hk, rfl, rfl, HE⟩ := hrel
      by_cases hlt : k < n
      · obtain ⟨g1, o1, h1, h2⟩ := HA.out (by rw [HN.out]; omega)
        obtain ⟨g2, o2, h3, h4⟩ := HB.out (by rw [HM.out]; omega)
        have c1 := h2 k (by rw [HN.out]; exact hlt)
        have c2 := h4 k (by rw [HM.out]; exact hlt)
        obtain ⟨x, hxx⟩ : ∃ x, xs.getD k 0 = x := ⟨_, rfl⟩
        obtain ⟨y, hyy⟩ : ∃ y, ys.getD k 0 = y := ⟨_, rfl⟩
        rw [hxx] at c1
        rw [hyy] at c2
        have HX := Lib.hid hxx
        have HY := Lib.hid hyy
        clear h2 h4 hxx hyy
        subst h1
        subst h3
        by_cases hxy : x = y
        · have t1 : (x == y) = true := by simpa using hxy
          have t2 : (x != y) = false := by simpa using hxy
          have HXY := Lib.hid hxy
          clear hxy
          go_wp2
          go_quiet (fail)
          go_wp2
          go_roundw
          case rel =>
            refine ⟨k + 1, _, by omega, by go_num, rfl, ?_⟩
            intro j hj
            by_cases e : j = k
            · subst e; rw [HX.out, HY.out]; exact HXY.out
            · exact HE.out j (by omega)
          case measure => simp [intOf]; omega
        · have t1 : (x == y) = false := by simpa using hxy
          have t2 : (x != y) = true := by simpa using hxy
          have HXY := Lib.hid hxy
          clear hxy
          go_wp2
          go_quiet (fail)
          go_wp2
          go_ret
          have hne : xs ≠ ys := fun e => HXY.out (by rw [← HX.out, ← HY.out, e])
          refine ⟨by rw [eqB_false hne]; rfl, _, drewN_add _ _ _⟩
      · obtain rfl : k = n := by omega
        go_wp2
        go_ret
        have heq : xs = ys := eq_of_getD (by rw [HN.out, HM.out]) (by rw [HN.out]; exact HE.out)
        refine ⟨by rw [eqB_true heq]; rfl, _, rfl⟩
  · have hli : (xs.length : Int) ≠ (ys.length : Int) := by omega
    have t1 : ((xs.length : Int) == (ys.length : Int)) = false := by simpa only [beq_eq_false_iff_ne] using hli
    have t2 : ((xs.length : Int) != (ys.length : Int)) = true := by simpa only [bne_iff_ne] using hli
    have HL := Lib.hid hl
    clear ha hb hl hli
    go_enter Try.func15, Try.ntmps15
    go_wp2
    go_ret
    have hne : xs ≠ ys := fun e => HL.out (by rw [e])
    refine ⟨?_, 0, rfl⟩
    rw [eqB_false hne]
    rfl
end Go.Proofs.Ytgpekeemmambkaa
