/- The lexer's small functions, walked. Conditions: each theorem's own. -/
import Derived.Test.YtnpkdiffpgcbhaaGreatDoorProg
import Derived.Test.YtnpkdiffpgcbhaaGreatDoorS06
import Derived.WalkSpells
import Derived.WalkLawsBesides
import Derived.Deep.QuietTactic
import Derived.BigQuiet
import Derived.BigRegion
import Derived.StillTailTactics
import Derived.Outline
set_option maxHeartbeats 1600000
namespace Go.Proofs.YtnpkdiffpgcbhaaGreatDoor
open Go.RowKit
structure LxAt (w : World) (xb : Nat) (s : ByteArray) (a : Nat) (bad : Bool) : Prop where
 blk : w.heap[xb]? = some (.cells #[.string s, .int .i64 a, .bool bad] 158 (0,0))
 le : a ≤ s.size
 sz : s.size ≤ 1099511627776
def peekB (l : Bs) (k : Nat) : UInt8 := l.getD k 0
theorem peekB_lt {s : ByteArray} {k : Nat} (h : k < s.size) : peekB s.data.toList k = s[k] := by
 unfold peekB
 rw [List.getD_eq_getElem?_getD, List.getElem?_eq_getElem (by simpa using h)]; rfl
section
variable {w : World} {xb a : Nat} {s : ByteArray} {bad : Bool}
theorem LxAt.same {w' : World} (h : LxAt w xb s a bad) (hs : w'.heap = w.heap) : LxAt w' xb s a bad := ⟨by rw [hs]; exact h.blk, h.le, h.sz⟩
theorem LxAt.lt (h : LxAt w xb s a bad) : xb < w.heap.size := lt_blk h.blk
theorem peek_any (h : LxAt w xb s a bad) (n : Nat) (hn : n ≤ 1099511627776) :
  Calls Tryz.prog 151 #[.pointer (some ⟨xb, 0, none⟩), .int .i64 n] w fun e w' => e = .returned (.int .u8 ((peekB s.data.toList (a + n)).toNat : Int)) ∧ ∃ q, w' = w.drewN q := by
 have c0 : w.cell? ⟨xb, 0, none⟩ = some (.string s) := cell_blk h.blk
 have c1 : w.cell? ⟨xb, 1, none⟩ = some (.int .i64 a) := cell_blk h.blk
 have hle := h.le
 have hsz := h.sz
 have hw : IntKind.i64.wrap ((a : Int) + (n : Int)) = (a : Int) + (n : Int) := IntWalk.i64_in _ (by omega)
 clear h
 by_cases hlt : a + n < s.size
 ·have hd : decide ((s.size : Int) ≤ (a : Int) + (n : Int)) = false := by simp; omega
  have hi0 : (0 : Int) ≤ (a : Int) + (n : Int) := by omega
  have hi1 : (a : Int) + (n : Int) < (s.size : Int) := by omega
  have hi2 : ((a : Int) + (n : Int)).toNat = a + n := by omega
  go_enter Tryz.func151, Tryz.ntmps151
  go_wp2
  go_quiet (fail)
  go_wp2
  go_quiet (fail)
  go_wp2
  go_ret
  refine ⟨?_, _, drewN_add _ _ _⟩
  rw [peekB_lt hlt]; rfl
 ·have hd : decide ((s.size : Int) ≤ (a : Int) + (n : Int)) = true := by simp; omega
  go_enter Tryz.func151, Tryz.ntmps151
  go_wp2
  go_quiet (fail)
  go_wp2
  go_ret
  refine ⟨?_, nq, rfl⟩
  have hp : peekB s.data.toList (a + n) = 0 := by
   unfold peekB
   rw [List.getD_eq_getElem?_getD, List.getElem?_eq_none (by simp; exact Nat.le_of_not_lt hlt)]; rfl
  rw [hp]; rfl
end
theorem letterB_nat (c : UInt8) : letterB c = ((decide (97 ≤ (c.toNat : Int)) && decide ((c.toNat : Int) ≤ 122)) || (decide (65 ≤ (c.toNat : Int)) && decide ((c.toNat : Int) ≤ 90))) := by
 unfold letterB
 rw [Bool.eq_iff_iff]
 simp [UInt8.le_iff_toNat_le]
 omega
theorem digitB_nat (c : UInt8) : digitB c = (decide (48 ≤ (c.toNat : Int)) && decide ((c.toNat : Int) ≤ 57)) := by
 unfold digitB
 rw [Bool.eq_iff_iff]
 simp [UInt8.le_iff_toNat_le]
 omega
theorem letter_any (c : UInt8) (w : World) : Calls Tryz.prog 153 #[.int .u8 (c.toNat : Int)] w fun e w' => e = .returned (.bool (letterB c)) ∧ w = w' := by
 have hl := letterB_nat c
 obtain ⟨x, hx⟩ : ∃ x : Int, (c.toNat : Int) = x := ⟨_, rfl⟩
 rw [hx] at hl ⊢
 obtain ⟨b1, h1⟩ : ∃ b, decide (97 ≤ x) = b := ⟨_, rfl⟩
 obtain ⟨b2, h2⟩ : ∃ b, decide (x ≤ 122) = b := ⟨_, rfl⟩
 obtain ⟨b3, h3⟩ : ∃ b, decide (65 ≤ x) = b := ⟨_, rfl⟩
 obtain ⟨b4, h4⟩ : ∃ b, decide (x ≤ 90) = b := ⟨_, rfl⟩
 rw [h1, h2, h3, h4] at hl
 rw [hl]
 clear hl hx
 cases b1 <;> cases b2 <;> cases b3 <;> cases b4
 all_goals
  go_enter Tryz.func153, Tryz.ntmps153
  go_wp2
  go_ret
  exact ⟨rfl, rfl⟩
theorem digit_any (c : UInt8) (w : World) : Calls Tryz.prog 155 #[.int .u8 (c.toNat : Int)] w fun e w' => e = .returned (.bool (digitB c)) ∧ w = w' := by
 have hl := digitB_nat c
 obtain ⟨x, hx⟩ : ∃ x : Int, (c.toNat : Int) = x := ⟨_, rfl⟩
 rw [hx] at hl ⊢
 obtain ⟨b1, h1⟩ : ∃ b, decide (48 ≤ x) = b := ⟨_, rfl⟩
 obtain ⟨b2, h2⟩ : ∃ b, decide (x ≤ 57) = b := ⟨_, rfl⟩
 rw [h1, h2] at hl
 rw [hl]
 clear hl hx
 cases b1 <;> cases b2
 all_goals
  go_enter Tryz.func155, Tryz.ntmps155
  go_wp2
  go_ret
  exact ⟨rfl, rfl⟩
theorem wordc_any (c : UInt8) (w : World) : Calls Tryz.prog 168 #[.int .u8 (c.toNat : Int)] w fun e w' => e = .returned (.bool (wordB c)) ∧ w = w' := by
 have hl : wordB c = (letterB c || digitB c || ((c.toNat : Int) == 95)) := by
  unfold wordB
  congr 1
  rw [Bool.eq_iff_iff]
  simp [← UInt8.toNat_inj]
  omega
 obtain ⟨b1, h1⟩ : ∃ b, letterB c = b := ⟨_, rfl⟩
 obtain ⟨b2, h2⟩ : ∃ b, digitB c = b := ⟨_, rfl⟩
 obtain ⟨b3, h3⟩ : ∃ b, ((c.toNat : Int) == 95) = b := ⟨_, rfl⟩
 have k1 := letter_any c w
 have k2 := digit_any c w
 rw [h1] at k1
 rw [h2] at k2
 rw [h1, h2, h3] at hl
 rw [hl]
 have K1 := Lib.hid k1
 have K2 := Lib.hid k2
 clear hl h1 h2 k1 k2
 cases b1 <;> cases b2 <;> cases b3
 all_goals
  go_enter Tryz.func168, Tryz.ntmps168
  go_wp2_with (first | (go_at_call 153; refine K1.out.mono ?_; rintro e w' ⟨rfl, rfl⟩) | (go_at_call 155; refine K2.out.mono ?_; rintro e w' ⟨rfl, rfl⟩))
  go_ret
  exact ⟨rfl, rfl⟩
end Go.Proofs.YtnpkdiffpgcbhaaGreatDoor
namespace Go.Proofs.YtnpkdiffpgcbhaaGreatDoor
open Go.RowKit
theorem takeWhile_len (p : UInt8 → Bool) : ∀ (l : Bs) (k : Nat), k ≤ l.length → (∀ j, j < k → p (l.getD j 0) = true) → (k = l.length ∨ p (l.getD k 0) = false) → (l.takeWhile p).length = k
 | [], k, hk, _, _ => by simp at hk; subst hk; rfl
 | c :: l, 0, _, _, he => by
  rcases he with he | he
  ·simp at he
  ·simp at he; simp [he]
 | c :: l, k + 1, hk, ha, he => by
  have h0 := ha 0 (by omega)
  simp at h0
  rw [List.takeWhile_cons_of_pos h0, List.length_cons, takeWhile_len p l k (by simpa using hk) (fun j hj => by simpa using ha (j + 1) (by omega)) (by simpa using he)]
def runB (p : UInt8 → Bool) (l : Bs) (k : Nat) : Nat := ((l.drop k).takeWhile p).length
theorem runB_at {p : UInt8 → Bool} {l : Bs} {m k : Nat} (hk : m + k ≤ l.length) (ha : ∀ j, j < k → p (peekB l (m + j)) = true) (he : m + k = l.length ∨ p (peekB l (m + k)) = false) : runB p l m = k := by
 unfold runB
 have hg : ∀ j, (l.drop m).getD j 0 = peekB l (m + j) := fun j => by unfold peekB; simp [List.getD_eq_getElem?_getD]
 refine takeWhile_len p _ k (by simp; omega) (fun j hj => by rw [hg]; exact ha j hj) ?_
 rcases he with he | he
 ·exact .inl (by simp; omega)
 ·exact .inr (by rw [hg]; exact he)
section
variable {w : World} {xb a : Nat} {s : ByteArray} {bad : Bool}
theorem run_word (h : LxAt w xb s a bad) (n : Nat) (hn : a + n ≤ s.size) :
    Calls Tryz.prog 156 #[.pointer (some ⟨xb, 0, none⟩), .int .i64 n, .func (.func 168) #[] #[]] w fun e w' => e = .returned (.int .i64 (runB wordB s.data.toList (a + n) : Nat)) ∧ ∃ q, w' = w.drewN q := by
  have c0 : w.cell? ⟨xb, 0, none⟩ = some (.string s) := cell_blk h.blk
  have c1 : w.cell? ⟨xb, 1, none⟩ = some (.int .i64 a) := cell_blk h.blk
  have hle := h.le
  have hsz := h.sz
  have hls : s.data.toList.length = s.size := rfl
  have HLS := Lib.hid hls
  clear h hls
  go_enter Tryz.func156, Tryz.ntmps156
  go_wp2
  go_loopw [7] (fun i wl => ∃ k q : Nat, a + n + k ≤ s.size ∧ i = .int .i64 k ∧ wl = w.drewN q ∧ Hid (∀ j, j < k → wordB (peekB s.data.toList (a + n + j)) = true)) (fun i _ => s.size - (intOf i).toNat)
  case atStart => exact ⟨0, 0, by omega, rfl, rfl, fun j hj => absurd hj (Nat.not_lt_zero _)⟩
  case round =>
    obtain ⟨k, q, hk, rfl, hwq, HJ⟩ := hrel
    have d0 : wr.cell? ⟨xb, 0, none⟩ = some (.string s) := by rw [hwq]; exact c0
    have d1 : wr.cell? ⟨xb, 1, none⟩ = some (.int .i64 a) := by rw [hwq]; exact c1
    have HWQ := Lib.hid hwq
    clear hwq
    have hw1 : IntKind.i64.wrap ((a : Int) + (n : Int)) = (a : Int) + (n : Int) := IntWalk.i64_in _ (by omega)
    have hw2 : IntKind.i64.wrap ((a : Int) + (n : Int) + (k : Int)) = (a : Int) + (n : Int) + (k : Int) := IntWalk.i64_in _ (by omega)
    by_cases hlt : a + n + k < s.size
    · have hd : decide ((a : Int) + (n : Int) + (k : Int) < (s.size : Int)) = true := by simp; omega
      have hi0 : (0 : Int) ≤ (a : Int) + (n : Int) + (k : Int) := by omega
      have hi1 : (a : Int) + (n : Int) + (k : Int) < (s.size : Int) := by omega
      have hi2 : ((a : Int) + (n : Int) + (k : Int)).toNat = a + n + k := by omega
      have hp := peekB_lt hlt
      have HP := Lib.hid hp
      have hcall := fun w => (wordc_any s[a + n + k] w).mono fun _ _ (h : _ ∧ _) => (⟨h.1, h.2.symm⟩ : _ ∧ _)
      obtain ⟨b, hb⟩ : ∃ b, wordB s[a + n + k] = b := ⟨_, rfl⟩
      rw [hb] at hcall
      have HB := Lib.hid hb
      have HC := Lib.hid hcall
      clear hp hb hcall
      cases b
      all_goals
        go_wp2
        refine wp_region_quiet_lit (by kernel_rfl) (by kernel_rfl) ?_
        repeat (go_big_quiet_step (fail))
        quiet_step ((go_at_call 168; exact Calls.quiet_of_same (HC.out _)))
        repeat (go_big_quiet_step (fail))
        refine wpQuiet_nil ?_
        intro _ hw'
        obtain ⟨nq, hw''⟩ := hw'
        subst hw''
        clear hw1 hw2
        go_wp2
        first
          | (go_roundw
             case rel =>
               refine ⟨k + 1, _, by omega, by go_num, by rw [HWQ.out]; exact drewN_add _ _ _, Lib.hid fun j hj => ?_⟩
               by_cases e : j = k
               · rw [e, HP.out]; exact HB.out
               · exact HJ.out j (by omega)
             case measure => simp [intOf]; omega)
          | (go_ret
             refine ⟨?_, _, by rw [HWQ.out]; exact drewN_add _ _ _⟩
             rw [runB_at (by rw [HLS.out]; omega) HJ.out (.inr (by rw [HP.out]; exact HB.out))]; rfl)
    · have hd : decide ((a : Int) + (n : Int) + (k : Int) < (s.size : Int)) = false := by simp; omega
      go_wp2
      go_quiet (fail)
      clear hw1 hw2
      go_wp2
      go_ret
      refine ⟨?_, _, by rw [HWQ.out]; exact drewN_add _ _ _⟩
      rw [runB_at (by rw [HLS.out]; omega) HJ.out (.inl (by rw [HLS.out]; omega))]; rfl
theorem run_digit (h : LxAt w xb s a bad) (n : Nat) (hn : a + n ≤ s.size) :
    Calls Tryz.prog 156 #[.pointer (some ⟨xb, 0, none⟩), .int .i64 n, .func (.func 155) #[] #[]] w fun e w' => e = .returned (.int .i64 (runB digitB s.data.toList (a + n) : Nat)) ∧ ∃ q, w' = w.drewN q := by
  have c0 : w.cell? ⟨xb, 0, none⟩ = some (.string s) := cell_blk h.blk
  have c1 : w.cell? ⟨xb, 1, none⟩ = some (.int .i64 a) := cell_blk h.blk
  have hle := h.le
  have hsz := h.sz
  have hls : s.data.toList.length = s.size := rfl
  have HLS := Lib.hid hls
  clear h hls
  go_enter Tryz.func156, Tryz.ntmps156
  go_wp2
  go_loopw [7] (fun i wl => ∃ k q : Nat, a + n + k ≤ s.size ∧ i = .int .i64 k ∧ wl = w.drewN q ∧ Hid (∀ j, j < k → digitB (peekB s.data.toList (a + n + j)) = true)) (fun i _ => s.size - (intOf i).toNat)
  case atStart => exact ⟨0, 0, by omega, rfl, rfl, fun j hj => absurd hj (Nat.not_lt_zero _)⟩
  case round =>
    obtain ⟨k, q, hk, rfl, hwq, HJ⟩ := hrel
    have d0 : wr.cell? ⟨xb, 0, none⟩ = some (.string s) := by rw [hwq]; exact c0
    have d1 : wr.cell? ⟨xb, 1, none⟩ = some (.int .i64 a) := by rw [hwq]; exact c1
    have HWQ := Lib.hid hwq
    clear hwq
    have hw1 : IntKind.i64.wrap ((a : Int) + (n : Int)) = (a : Int) + (n : Int) := IntWalk.i64_in _ (by omega)
    have hw2 : IntKind.i64.wrap ((a : Int) + (n : Int) + (k : Int)) = (a : Int) + (n : Int) + (k : Int) := IntWalk.i64_in _ (by omega)
    by_cases hlt : a + n + k < s.size
    · have hd : decide ((a : Int) + (n : Int) + (k : Int) < (s.size : Int)) = true := by simp; omega
      have hi0 : (0 : Int) ≤ (a : Int) + (n : Int) + (k : Int) := by omega
      have hi1 : (a : Int) + (n : Int) + (k : Int) < (s.size : Int) := by omega
      have hi2 : ((a : Int) + (n : Int) + (k : Int)).toNat = a + n + k := by omega
      have hp := peekB_lt hlt
      have HP := Lib.hid hp
      have hcall := fun w => (digit_any s[a + n + k] w).mono fun _ _ (h : _ ∧ _) => (⟨h.1, h.2.symm⟩ : _ ∧ _)
      obtain ⟨b, hb⟩ : ∃ b, digitB s[a + n + k] = b := ⟨_, rfl⟩
      rw [hb] at hcall
      have HB := Lib.hid hb
      have HC := Lib.hid hcall
      clear hp hb hcall
      cases b
      all_goals
        go_wp2
        refine wp_region_quiet_lit (by kernel_rfl) (by kernel_rfl) ?_
        repeat (go_big_quiet_step (fail))
        quiet_step ((go_at_call 155; exact Calls.quiet_of_same (HC.out _)))
        repeat (go_big_quiet_step (fail))
        refine wpQuiet_nil ?_
        intro _ hw'
        obtain ⟨nq, hw''⟩ := hw'
        subst hw''
        clear hw1 hw2
        go_wp2
        first
          | (go_roundw
             case rel =>
               refine ⟨k + 1, _, by omega, by go_num, by rw [HWQ.out]; exact drewN_add _ _ _, Lib.hid fun j hj => ?_⟩
               by_cases e : j = k
               · rw [e, HP.out]; exact HB.out
               · exact HJ.out j (by omega)
             case measure => simp [intOf]; omega)
          | (go_ret
             refine ⟨?_, _, by rw [HWQ.out]; exact drewN_add _ _ _⟩
             rw [runB_at (by rw [HLS.out]; omega) HJ.out (.inr (by rw [HP.out]; exact HB.out))]; rfl)
    · have hd : decide ((a : Int) + (n : Int) + (k : Int) < (s.size : Int)) = false := by simp; omega
      go_wp2
      go_quiet (fail)
      clear hw1 hw2
      go_wp2
      go_ret
      refine ⟨?_, _, by rw [HWQ.out]; exact drewN_add _ _ _⟩
      rw [runB_at (by rw [HLS.out]; omega) HJ.out (.inl (by rw [HLS.out]; omega))]; rfl
theorem letterB_zero : letterB 0 = false := by decide
theorem peekB_ge {s : ByteArray} {k : Nat} (h : s.size ≤ k) : peekB s.data.toList k = 0 := by
 unfold peekB
 rw [List.getD_eq_getElem?_getD, List.getElem?_eq_none (by simp; exact h)]; rfl
def wordLen (l : Bs) (k : Nat) : Nat := if letterB (peekB l k) then runB wordB l k else 0
theorem word_any (h : LxAt w xb s a bad) (n : Nat) (hn : n ≤ 1099511627776) :
  Calls Tryz.prog 154 #[.pointer (some ⟨xb, 0, none⟩), .int .i64 n] w fun e w' => e = .returned (.int .i64 (wordLen s.data.toList (a + n) : Nat)) ∧ ∃ q, w' = w.drewN q := by
 have k1 := peek_any h n hn
 obtain ⟨c, hc⟩ : ∃ c, peekB s.data.toList (a + n) = c := ⟨_, rfl⟩
 rw [hc] at k1
 obtain ⟨b, hb⟩ : ∃ b, letterB c = b := ⟨_, rfl⟩
 have k2 := fun w => letter_any c w
 rw [hb] at k2
 have hl : wordLen s.data.toList (a + n) = if b then runB wordB s.data.toList (a + n) else 0 := by unfold wordLen; rw [hc, hb]
 have HL := Lib.hid hl
 have K1 := Lib.hid k1
 have K2 := Lib.hid k2
 cases b with
 | false =>
  clear hc hb hl k1 k2 h
  go_enter Tryz.func154, Tryz.ntmps154
  go_wp2_with fail
  refine K1.out.mono ?_
  rintro e w1 ⟨rfl, q, hq⟩
  have HQ := Lib.hid hq
  clear hq
  go_wp2_with (go_at_call 153; refine (K2.out _).mono ?_; rintro e w' ⟨rfl, rfl⟩)
  go_ret
  exact ⟨by rw [HL.out]; rfl, q, HQ.out⟩
 | true =>
  have hlt : a + n < s.size := by
   rcases Nat.lt_or_ge (a + n) s.size with q | q
   ·exact q
   ·rw [← hc, peekB_ge q, letterB_zero] at hb; simp at hb
  have k3 := fun w' hs => run_word (w := w') (h.same hs) n (by omega)
  have K3 := Lib.hid k3
  clear hc hb hl k1 k2 h k3
  go_enter Tryz.func154, Tryz.ntmps154
  go_wp2_with fail
  refine K1.out.mono ?_
  rintro e w1 ⟨rfl, q, hq⟩
  have HQ := Lib.hid hq
  clear hq
  go_wp2_with (go_at_call 153; refine (K2.out _).mono ?_; rintro e w' ⟨rfl, rfl⟩)
  refine (K3.out w1 (by rw [HQ.out]; rfl)).mono ?_
  rintro e w2 ⟨rfl, q2, hq2⟩
  have HQ2 := Lib.hid hq2
  clear hq2
  go_wp2
  go_ret
  exact ⟨by rw [HL.out]; rfl, q + q2, by rw [HQ2.out, HQ.out, drewN_add]⟩
end
end Go.Proofs.YtnpkdiffpgcbhaaGreatDoor
