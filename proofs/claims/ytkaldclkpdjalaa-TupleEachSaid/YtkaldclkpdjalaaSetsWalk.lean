/- The walk of proctorlaw12.TupleSets: it returns true for every Script. -/
import Derived.Test.YtkaldclkpdjalaaTI
import Derived.Test.YtkaldclkpdjalaaWakes
import Derived.Test.YtkaldclkpdjalaaOpen
namespace Go.Proofs.Ytkaldclkpdjalaa
open Go.RowKit

/-- What the first loop has put. -/
def upto (k : Nat) : Nat → Option Int := fun m => if m < k then some (m : Int) else none
theorem upto_zero : upto 0 = fun _ => none := by funext m; simp [upto]
theorem upto_succ (k : Nat) : ui (upto k) ((k : Int) + 1) (some k) = upto (k + 1) := by
  funext m
  unfold ui upto
  rw [show ((k : Int) + 1 - 1).toNat = k by omega]
  by_cases h : m = k
  · subst h; simp
  · by_cases h2 : m < k
    · rw [if_neg h, if_pos h2, if_pos (by omega)]
    · rw [if_neg h, if_neg h2, if_neg (by omega)]

theorem and31 (x : Int) : 0 ≤ bits BinOp.and IntKind.i64 x 31 ∧ bits BinOp.and IntKind.i64 x 31 ≤ 31 := by
  have h : (BitVec.ofInt 64 x &&& BitVec.ofInt 64 31).toNat ≤ 31 := by
    rw [BitVec.toNat_and]; exact Nat.and_le_right
  show 0 ≤ IntKind.i64.wrap ((BitVec.ofInt 64 x &&& BitVec.ofInt 64 31).toNat : Int) ∧ IntKind.i64.wrap ((BitVec.ofInt 64 x &&& BitVec.ofInt 64 31).toNat : Int) ≤ 31
  generalize (BitVec.ofInt 64 x &&& BitVec.ofInt 64 31).toNat = n at *
  rw [IntKind.wrap_i64]
  omega

/-- A box or an argument's cell, behind calls that leave it alone. -/
theorem TF.cell_old {base : Nat} {ts : List TypeId} {w w' : World} (h : TF base ts w w') {b o : Nat} (hb : b < base) (hlt : b < w.heap.size) : w'.cell? ⟨b, o, none⟩ = w.cell? ⟨b, o, none⟩ :=
  World.cell?_of_block (w := w) (by
    have := h.blk b w.heap[b] (by rw [Array.getElem?_eq_getElem hlt]) (.inl hb)
    rw [this, Array.getElem?_eq_getElem hlt])

/-- The law's frame: the box, the arena's calls, wakes. -/
theorem sets_end {ts us : List TypeId} {w w0 w1 w2 : World} {o : Obj} (h0 : TF (w.heap.size + 1) ts (w.alloc o) w0) (h1 : TF (w.heap.size + 1) us w0 w1) (h2 : Below w1.heap.size w1 w2) : Below w.heap.size w w2 := by
  have a1 : Below w.heap.size w (w.alloc o) := (Below.refl _ _).alloc (Nat.le_refl _) _
  have a2 : Below w.heap.size (w.alloc o) w0 := (h0.below (by simp)).mono (by omega)
  have s0 := h0.size
  have s1 := h1.size
  simp at s0
  have a3 : Below w.heap.size w0 w1 := (h1.below (by omega)).mono (by omega)
  exact ((a1.trans a2).trans a3).trans (h2.mono (by omega))

set_option maxRecDepth 100000 in
set_option maxHeartbeats 1600000 in
theorem sets_walk (w : World) (v : Value) (La : Option Addr) (ln lc : Nat) (Aa : Option Addr) (an ac : Nat) (D I : Nat → Int) (S : Nat → ByteArray) (Q : Nat → Int) (hs : ScriptAt w v La ln lc Aa an ac D I S Q) :
    Calls Try.prog 4 #[v] w fun e w' => e = .returned (.bool true) ∧ Below w.heap.size w w' := by
  have HS := Lib.hid hs
  have hv := hs.shape
  have hlm := hs.lmax
  clear hs
  subst hv
  go_enter Try.func4, Try.ntmps4
  go_wp2_with fail
  refine (new_i _ (w.heap.size + 1) (by simp)).mono ?_
  rintro e w1 ⟨rfl, ha1, hf1⟩
  have es : (w.alloc (.cells #[.slice La ln lc, .slice Aa an ac] 25)).heap.size = w.heap.size + 1 := by simp
  rw [es] at ha1
  have HF1 := Lib.hid hf1
  have HA1 := Lib.hid ha1
  clear es ha1 hf1
  go_wp2_with fail
  go_loopw [4] (fun i wr => ∃ k : Nat, k ≤ 20 ∧ i = .int .i64 k ∧ Hid (TI wr (w.heap.size + 1) (w.heap.size + 1) k k (upto k)) ∧ Hid (TF (w.heap.size + 1) AI.tags (w.alloc (.cells #[.slice La ln lc, .slice Aa an ac] 25)) wr)) (fun i _ => 20 - (intOf i).toNat)
  case atStart => exact ⟨0, by omega, rfl, by rw [upto_zero]; exact HA1.out, HF1⟩
  case round =>
    obtain ⟨k, hk, rfl, hak, hfk⟩ := hrel
    by_cases hlt : k < 20
    · go_wp2_with fail
      refine (put_i hak.out (k : Int) (by omega) (by omega) (by omega) (by have := hfk.out.size; simpa using this)).mono ?_
      rintro e w2 ⟨rfl, ha2, hf2⟩
      rw [upto_succ] at ha2
      have HA2 := Lib.hid ha2
      have HF2 := Lib.hid (hfk.out.trans hf2)
      clear ha2 hf2
      go_wp2_with fail
      go_roundw
      case rel => exact ⟨k + 1, by omega, by go_num, HA2, HF2⟩
      case measure => simp [intOf]; omega
    · obtain rfl : k = 20 := by omega
      rw [show ((20 : Nat) : Int) = 20 from rfl]
      go_wp2_with fail
      have hold0 : ∀ b o, b < w.heap.size → wr.cell? ⟨b, o, none⟩ = w.cell? ⟨b, o, none⟩ := fun b o hb => by
        rw [hfk.out.cell_old (by omega) (by simp; omega)]; exact World.cell?_alloc_past _ _ _ hb
      have hbox0 : wr.cell? ⟨w.heap.size, 0, none⟩ = some (.slice La ln lc) := by
        rw [hfk.out.cell_old (by omega) (by simp)]; exact World.cell?_alloc_at _ _ _ _ rfl
      have HF0 := hfk
      have HOLD0 := Lib.hid hold0
      have HBOX0 := Lib.hid hbox0
      clear hold0 hbox0 hfk
      obtain ⟨wo, rfl⟩ : ∃ wo : World, wo = wr := ⟨_, rfl⟩
      go_loopw [5] (fun i wr => ∃ (k : Nat) (vi : Nat → Option Int) (count : Int), k ≤ ln ∧ k ≤ 100 ∧ i = .int .i64 k ∧ 20 - k ≤ count ∧ count ≤ 20 ∧ Hid (TI wr (w.heap.size + 1) (w.heap.size + 1) 20 count vi) ∧ Hid (TF (w.heap.size + 1) AI.tags wo wr)) (fun i _ => 100 - (intOf i).toNat)
      case atStart => exact ⟨0, upto 20, 20, by omega, by omega, rfl, by omega, by omega, hak, TF.refl _ _ _⟩
      case round =>
        obtain ⟨k, vi, count, hk1, hk2, rfl, hc1, hc2, hak2, hfk2⟩ := hrel
        have hbox : wr.cell? ⟨w.heap.size, 0, none⟩ = some (.slice La ln lc) := by
          rw [hfk2.out.cell_old (by omega) (by have := HF0.out.size; simp at this; omega)]; exact HBOX0.out
        have hold : ∀ b o, b < w.heap.size → wr.cell? ⟨b, o, none⟩ = w.cell? ⟨b, o, none⟩ := fun b o hb => by
          rw [hfk2.out.cell_old (by omega) (by have := HF0.out.size; simp at this; omega)]; exact HOLD0.out b o hb
        have HOLD := Lib.hid hold
        clear hold
        by_cases hlt : k < ln
        · by_cases hlt2 : k < 100
          · obtain ⟨bL, oL, hLa, hbL, hcells⟩ := HS.out.ops (by omega)
            obtain ⟨c0, c1, c2⟩ := hcells k hlt
            rw [← HOLD.out _ _ hbL] at c0 c1 c2
            subst hLa
            clear hcells
            clear c2
            have h31 := and31 (I k)
            have hbs : w.heap.size + 1 ≤ wr.heap.size := by have h1 := HF0.out.size; have h2 := hfk2.out.size; simp at h1; omega
            go_wp2_with fail
            generalize bits BinOp.and IntKind.i64 (I k) 31 = id at *
            refine (get_i hak2.out id (by omega)).mono ?_
            rintro e w2 ⟨rfl, rfl⟩
            go_wp2_with fail
            refine (get_i hak2.out (id + 1) (by omega)).mono ?_
            rintro e w2 ⟨rfl, rfl⟩
            cases hg : gi vi id with
            | none =>
              obtain ⟨nx, hnx⟩ : ∃ nx, gi vi (id + 1) = nx := ⟨_, rfl⟩
              rw [hnx]
              have hnx2 := hnx
              have hgs := hg
              have hgd := hg
              have hnxd := hnx
              have HG := Lib.hid hg
              have HNX2 := Lib.hid hnx2
              have HGS := Lib.hid hgs
              have HGD := Lib.hid hgd
              have HNXD := Lib.hid hnxd
              clear hnx hnx2 hgs hgd hnxd hg
              go_wp2_with fail
              refine (set_i hak2.out id _ (by omega)).mono ?_
              rintro e w2 ⟨rfl, ha2, hf2⟩
              rw [HG.out] at ha2 ⊢
              have hold_w2 : ∀ b o, b < w.heap.size + 1 → w2.cell? ⟨b, o, none⟩ = wr.cell? ⟨b, o, none⟩ := fun b o hb => hf2.cell_old hb (by omega)
              rw [← hold_w2 _ _ (by omega)] at hbox c0 c1
              have hb_w2 : w.heap.size + 1 ≤ w2.heap.size := by have := hf2.size; omega
              clear hold_w2
              have HA2 : Hid (TI w2 (w.heap.size + 1) (w.heap.size + 1) 20 count vi) := ha2
              have HF2 := Lib.hid (hfk2.out.trans hf2)
              clear ha2 hf2
              go_wp2_with fail
              refine (get_i HA2.out id (by omega)).mono ?_
              rintro e w3 ⟨rfl, rfl⟩
              rw [HGS.out]
              by_cases hd : (D k == 2) = true
              · go_wp2_with fail
                refine (drop_i HA2.out id (by omega) (by omega) (by omega)).mono ?_
                rintro e w3 ⟨rfl, ha3, hf3⟩
                rw [HGS.out] at ha3 ⊢
                have hold_w3 : ∀ b o, b < w.heap.size + 1 → w3.cell? ⟨b, o, none⟩ = w2.cell? ⟨b, o, none⟩ := fun b o hb => hf3.cell_old hb (by omega)
                rw [← hold_w3 _ _ (by omega)] at hbox c0 c1
                have hb_w3 : w.heap.size + 1 ≤ w3.heap.size := by have := hf3.size; omega
                clear hold_w3
                have HA3 : Hid (TI w3 (w.heap.size + 1) (w.heap.size + 1) 20 count vi) := ha3
                have HF3 := Lib.hid (HF2.out.trans hf3)
                clear ha3 hf3
                go_wp2_with fail
                refine (get_i HA3.out id (by omega)).mono ?_
                rintro e w4 ⟨rfl, rfl⟩
                rw [HGD.out]
                go_wp2_with fail
                refine (set_i HA3.out id _ (by omega)).mono ?_
                rintro e w4 ⟨rfl, ha4, hf4⟩
                rw [HGD.out] at ha4 ⊢
                have hold_w4 : ∀ b o, b < w.heap.size + 1 → w4.cell? ⟨b, o, none⟩ = w3.cell? ⟨b, o, none⟩ := fun b o hb => hf4.cell_old hb (by omega)
                rw [← hold_w4 _ _ (by omega)] at hbox c0 c1
                have hb_w4 : w.heap.size + 1 ≤ w4.heap.size := by have := hf4.size; omega
                clear hold_w4
                have HA4 : Hid (TI w4 (w.heap.size + 1) (w.heap.size + 1) 20 count vi) := ha4
                have HF4 := Lib.hid (HF3.out.trans hf4)
                clear ha4 hf4
                go_wp2_with fail
                refine (get_i HA4.out (id + 1) (by omega)).mono ?_
                rintro e w5 ⟨rfl, rfl⟩
                rw [HNXD.out]
                go_wp2_with fail
                go_roundw
                case rel => exact ⟨k + 1, vi, count, by omega, by omega, by go_num, by omega, by omega, HA4, HF4⟩
                case measure => simp [intOf]; omega
              · have hd' : (D k == 2) = false := by simpa using hd
                go_wp2_with fail
                refine (get_i HA2.out (id + 1) (by omega)).mono ?_
                rintro e w5 ⟨rfl, rfl⟩
                rw [HNX2.out]
                go_wp2_with fail
                go_roundw
                case rel => exact ⟨k + 1, vi, count, by omega, by omega, by go_num, by omega, by omega, HA2, HF2⟩
                case measure => simp [intOf]; omega
            | some x =>
              have hid1 : 1 ≤ id := gi_pos hg
              obtain ⟨nx, hnx⟩ : ∃ nx, gi vi (id + 1) = nx := ⟨_, rfl⟩
              rw [hnx]
              have hnx2 : gi (ui vi id (some (1000 + (k : Int)))) (id + 1) = nx := by rw [gi_ui_other _ _ _ _ (by omega) hid1]; exact hnx
              have hgs : gi (ui vi id (some (1000 + (k : Int)))) id = some (1000 + (k : Int)) := gi_ui_self _ _ _ hid1
              have hgd : gi (ui (ui vi id (some (1000 + (k : Int)))) id none) id = none := gi_ui_self _ _ _ hid1
              have hnxd : gi (ui (ui vi id (some (1000 + (k : Int)))) id none) (id + 1) = nx := by rw [gi_ui_other _ _ _ _ (by omega) hid1]; exact hnx2
              have HG := Lib.hid hg
              have HNX2 := Lib.hid hnx2
              have HGS := Lib.hid hgs
              have HGD := Lib.hid hgd
              have HNXD := Lib.hid hnxd
              clear hnx hnx2 hgs hgd hnxd hg
              go_wp2_with fail
              refine (set_i hak2.out id _ (by omega)).mono ?_
              rintro e w2 ⟨rfl, ha2, hf2⟩
              rw [HG.out] at ha2 ⊢
              have hold_w2 : ∀ b o, b < w.heap.size + 1 → w2.cell? ⟨b, o, none⟩ = wr.cell? ⟨b, o, none⟩ := fun b o hb => hf2.cell_old hb (by omega)
              rw [← hold_w2 _ _ (by omega)] at hbox c0 c1
              have hb_w2 : w.heap.size + 1 ≤ w2.heap.size := by have := hf2.size; omega
              clear hold_w2
              have HA2 : Hid (TI w2 (w.heap.size + 1) (w.heap.size + 1) 20 count (ui vi id (some (1000 + (k : Int))))) := ha2
              have HF2 := Lib.hid (hfk2.out.trans hf2)
              clear ha2 hf2
              go_wp2_with fail
              refine (get_i HA2.out id (by omega)).mono ?_
              rintro e w3 ⟨rfl, rfl⟩
              rw [HGS.out]
              by_cases hd : (D k == 2) = true
              · go_wp2_with fail
                refine (drop_i HA2.out id (by omega) (by omega) (by omega)).mono ?_
                rintro e w3 ⟨rfl, ha3, hf3⟩
                rw [HGS.out] at ha3 ⊢
                have hold_w3 : ∀ b o, b < w.heap.size + 1 → w3.cell? ⟨b, o, none⟩ = w2.cell? ⟨b, o, none⟩ := fun b o hb => hf3.cell_old hb (by omega)
                rw [← hold_w3 _ _ (by omega)] at hbox c0 c1
                have hb_w3 : w.heap.size + 1 ≤ w3.heap.size := by have := hf3.size; omega
                clear hold_w3
                have HA3 : Hid (TI w3 (w.heap.size + 1) (w.heap.size + 1) 20 (count - 1) (ui (ui vi id (some (1000 + (k : Int)))) id none)) := ha3
                have HF3 := Lib.hid (HF2.out.trans hf3)
                clear ha3 hf3
                go_wp2_with fail
                refine (get_i HA3.out id (by omega)).mono ?_
                rintro e w4 ⟨rfl, rfl⟩
                rw [HGD.out]
                go_wp2_with fail
                refine (set_i HA3.out id _ (by omega)).mono ?_
                rintro e w4 ⟨rfl, ha4, hf4⟩
                rw [HGD.out] at ha4 ⊢
                have hold_w4 : ∀ b o, b < w.heap.size + 1 → w4.cell? ⟨b, o, none⟩ = w3.cell? ⟨b, o, none⟩ := fun b o hb => hf4.cell_old hb (by omega)
                rw [← hold_w4 _ _ (by omega)] at hbox c0 c1
                have hb_w4 : w.heap.size + 1 ≤ w4.heap.size := by have := hf4.size; omega
                clear hold_w4
                have HA4 : Hid (TI w4 (w.heap.size + 1) (w.heap.size + 1) 20 (count - 1) (ui (ui vi id (some (1000 + (k : Int)))) id none)) := ha4
                have HF4 := Lib.hid (HF3.out.trans hf4)
                clear ha4 hf4
                go_wp2_with fail
                refine (get_i HA4.out (id + 1) (by omega)).mono ?_
                rintro e w5 ⟨rfl, rfl⟩
                rw [HNXD.out]
                go_wp2_with fail
                go_roundw
                case rel => exact ⟨k + 1, (ui (ui vi id (some (1000 + (k : Int)))) id none), (count - 1), by omega, by omega, by go_num, by omega, by omega, HA4, HF4⟩
                case measure => simp [intOf]; omega
              · have hd' : (D k == 2) = false := by simpa using hd
                go_wp2_with fail
                refine (get_i HA2.out (id + 1) (by omega)).mono ?_
                rintro e w5 ⟨rfl, rfl⟩
                rw [HNX2.out]
                go_wp2_with fail
                go_roundw
                case rel => exact ⟨k + 1, (ui vi id (some (1000 + (k : Int)))), count, by omega, by omega, by go_num, by omega, by omega, HA2, HF2⟩
                case measure => simp [intOf]; omega
          · go_wp2_with fail
            refine (wakes_any _).mono ?_
            rintro e w2 ⟨rfl, hb⟩
            go_wp2_with fail
            go_ret
            exact ⟨rfl, sets_end HF0.out hfk2.out hb⟩
        · go_wp2_with fail
          refine (wakes_any _).mono ?_
          rintro e w2 ⟨rfl, hb⟩
          go_wp2_with fail
          go_ret
          exact ⟨rfl, sets_end HF0.out hfk2.out hb⟩
end Go.Proofs.Ytkaldclkpdjalaa
