/- The lexer, walked (LexE). Conditions: each theorem's own. -/
import Derived.Test.YtnpkdiffpgcbhaaGreatDoorS11
import Derived.Lib.IndexAny
set_option maxRecDepth 100000
set_option maxHeartbeats 1600000
namespace Go.Proofs.YtnpkdiffpgcbhaaGreatDoor
open Go.RowKit
def mk2 : Nat → ByteArray
 | 0 => ⟨#[61, 61]⟩
 | 1 => ⟨#[33, 61]⟩
 | 2 => ⟨#[60, 61]⟩
 | 3 => ⟨#[62, 61]⟩
 | 4 => ⟨#[38, 38]⟩
 | _ => ⟨#[124, 124]⟩
def markLen (l : Bs) : Nat :=
 if marks2.contains (l.take 2) then 2 else match l with | [] => 0 | c :: _ => if marks1.contains c then 1 else 0
theorem prefix2 (l : Bs) (x y : UInt8) : Lib.hasPrefix l [x, y] = (l.take 2 == [x, y]) := by
 unfold Lib.hasPrefix
 rw [Bool.eq_iff_iff]
 match l with
 | [] => simp [List.isPrefixOf]
 | [a] => simp [List.isPrefixOf]
 | a :: b :: r => simp [List.isPrefixOf]; exact ⟨fun h => ⟨h.1.symm, h.2.symm⟩, fun h => ⟨h.1.symm, h.2.symm⟩⟩
theorem marks_six {l : Bs} (h : ∀ k, k < 6 → Lib.hasPrefix l (mk2 k).data.toList = false) : marks2.contains (l.take 2) = false := by
 have h0 := h 0 (by omega); have h1 := h 1 (by omega); have h2 := h 2 (by omega); have h3 := h 3 (by omega); have h4 := h 4 (by omega); have h5 := h 5 (by omega)
 simp only [mk2] at h0 h1 h2 h3 h4 h5
 rw [prefix2] at h0
 rw [prefix2] at h1
 rw [prefix2] at h2
 rw [prefix2] at h3
 rw [prefix2] at h4
 rw [prefix2] at h5
 simp only [marks2, List.contains_cons, h0, h1, h2, h3, h4, h5, List.contains_nil, Bool.or_false]
theorem marks_one {l : Bs} {k : Nat} (hk : k < 6) (h : Lib.hasPrefix l (mk2 k).data.toList = true) : marks2.contains (l.take 2) = true := by
 obtain rfl | rfl | rfl | rfl | rfl | rfl : k = 0 ∨ k = 1 ∨ k = 2 ∨ k = 3 ∨ k = 4 ∨ k = 5 := by omega
 all_goals
  simp only [mk2] at h
  have h' := (prefix2 l _ _).symm.trans h
  simp only [marks2, List.contains_cons, h', Bool.or_true, Bool.true_or]
section
variable {w : World} {xb a : Nat} {s : ByteArray} {bad : Bool}
abbrev markBox : Obj := .cells #[.string ⟨#[61, 61]⟩, .string ⟨#[33, 61]⟩, .string ⟨#[60, 61]⟩, .string ⟨#[62, 61]⟩, .string ⟨#[38, 38]⟩, .string ⟨#[124, 124]⟩] 9
theorem mark_cell (w : World) {k : Nat} (hk : k < 6) : (w.alloc markBox).cell? ⟨w.heap.size, k, none⟩ = some (.string (mk2 k)) := by
 rw [cell_blk (heap_new_at rfl _)]
 obtain rfl | rfl | rfl | rfl | rfl | rfl : k = 0 ∨ k = 1 ∨ k = 2 ∨ k = 3 ∨ k = 4 ∨ k = 5 := by omega
 all_goals rfl
theorem mark_any (h : LxAt w xb s a bad) (ha : a < s.size) : Calls Tryz.prog 158 #[.pointer (some ⟨xb, 0, none⟩)] w fun e w' => e = .returned (.int .i64 (markLen (restB s a) : Nat)) ∧ Below w.heap.size w w' := by
 have hsz := h.sz
 have hxl := h.lt
 have c0 : (w.alloc markBox).cell? ⟨xb, 0, none⟩ = some (.string s) := by rw [World.cell?_of_block (w := w) (Below.heap_alloc _ _ _ hxl)]; exact cell_blk h.blk
 have c1 : (w.alloc markBox).cell? ⟨xb, 1, none⟩ = some (.int .i64 a) := by rw [World.cell?_of_block (w := w) (Below.heap_alloc _ _ _ hxl)]; exact cell_blk h.blk
 have C0 := Lib.hid c0
 have C1 := Lib.hid c1
 have HBEL : Hid (Below w.heap.size w (w.alloc markBox)) := Lib.hid ((Below.refl _ _).alloc (Nat.le_refl _) _)
 have HCELL : Hid (∀ k, k < 6 → (w.alloc markBox).cell? ⟨w.heap.size, k, none⟩ = some (.string (mk2 k))) := Lib.hid (fun k hk => mark_cell w hk)
 clear h c0 c1
 go_enter Tryz.func158, Tryz.ntmps158
 go_wp2_with fail
 obtain ⟨B, hB⟩ : ∃ B, w.heap.size = B := ⟨_, rfl⟩
 obtain ⟨wm, hwm⟩ : ∃ wm, w.alloc markBox = wm := ⟨_, rfl⟩
 rw [hwm] at C0 C1 HBEL HCELL
 rw [hB] at HCELL
 change Code.wp _ _ _ _ (w.alloc markBox)
 rw [hwm, hB]
 clear hwm hB hxl
 have K169 : Hid (∀ (k : Nat) (w : World), Calls Tryz.prog 169 #[.string (s.extract a s.size), .string (mk2 k)] w fun e w' => e = .returned (.bool (Lib.hasPrefix (restB s a) (mk2 k).data.toList)) ∧ w' = w) := Lib.hid fun k w => by
  have := Tryz.strings_HasPrefix (s.extract a s.size) (mk2 k) w
  rw [Lib.extract_to_end] at this
  exact this
 go_loopw [7] (fun i wl => ∃ k q : Nat, k ≤ 6 ∧ i = .int .i64 k ∧ wl = wm.drewN q ∧ Hid (∀ j, j < k → Lib.hasPrefix (restB s a) (mk2 j).data.toList = false)) (fun i _ => 6 - (intOf i).toNat)
 case atStart => exact ⟨0, 0, Nat.zero_le _, rfl, rfl, fun j hj => absurd hj (Nat.not_lt_zero _)⟩
 case round =>
  obtain ⟨k, q, hk, rfl, hwr, HJ⟩ := hrel
  have c0 : wr.cell? ⟨xb, 0, none⟩ = some (.string s) := by rw [hwr]; exact C0.out
  have c1 : wr.cell? ⟨xb, 1, none⟩ = some (.int .i64 a) := by rw [hwr]; exact C1.out
  have HWR := Lib.hid hwr
  have hi0 : (0 : Int) ≤ (a : Int) := by omega
  have hi1 : (a : Int) ≤ (s.size : Int) := by omega
  have hi3 : (a : Int) < (s.size : Int) := by omega
  by_cases hlt : k < 6
  ·have c2 : wr.cell? ⟨B, k, none⟩ = some (.string (mk2 k)) := by rw [hwr]; exact HCELL.out k hlt
   have hcall := K169.out k
   obtain ⟨b, hb⟩ : ∃ b, Lib.hasPrefix (restB s a) (mk2 k).data.toList = b := ⟨_, rfl⟩
   rw [hb] at hcall
   have HCALL := Lib.hid hcall
   have HB := Lib.hid hb
   obtain ⟨m, hm⟩ : ∃ m, mk2 k = m := ⟨_, rfl⟩
   rw [hm] at c2 HCALL
   clear hwr hcall hb hm
   cases b with
   | true =>
    go_wp2_with fail
    go_quiet ((go_at_call 169; exact Calls.quiet_of_same (HCALL.out _)))
    go_wp2_with fail
    go_ret
    refine ⟨?_, ?_⟩
    ·unfold markLen
     rw [marks_one hlt HB.out]; rfl
    ·have := HWR.out
     rw [this]
     exact ⟨HBEL.out.os, HBEL.out.tape, HBEL.out.output, HBEL.out.size, HBEL.out.block⟩
   | false =>
    go_wp2_with fail
    go_quiet ((go_at_call 169; exact Calls.quiet_of_same (HCALL.out _)))
    go_wp2_with fail
    go_roundw
    case rel =>
     refine ⟨k + 1, _, by omega, by go_num, by rw [HWR.out]; exact drewN_add _ _ _, Lib.hid fun j hj => ?_⟩
     by_cases e : j = k
     ·rw [e]; exact HB.out
     ·exact HJ.out j (by omega)
    case measure => simp [intOf]; omega
  ·obtain rfl : k = 6 := by omega
   have hp := peekB_lt ha
   have hml : markLen (restB s a) = if marks1.contains s[a] then 1 else 0 := by
    unfold markLen
    rw [marks_six HJ.out, restB_cons ha, hp]; rfl
   have hk67 : ∀ w, Calls Tryz.prog 67 #[.string ⟨#[40, 41, 91, 93, 123, 125, 44, 46, 58, 59, 63, 60, 62, 61, 43, 45, 42, 47, 37, 33]⟩, .int .u8 (s[a].toNat : Int)] w fun e w' => e = .returned (.int .i64 (Lib.indexByte marks1 s[a])) ∧ w' = w := fun w => by
    have := Tryz.strings_IndexByte ⟨#[40, 41, 91, 93, 123, 125, 44, 46, 58, 59, 63, 60, 62, 61, 43, 45, 42, 47, 37, 33]⟩ (s[a].toNat : Int) w
    rw [Int.toNat_natCast, show s[a].toNat.toUInt8 = s[a] from UInt8.toNat_inj.1 (by simp)] at this
    exact this
   have hci := Lib.contains_iff_indexByte marks1 s[a]
   obtain ⟨n, hn⟩ : ∃ n, Lib.indexByte marks1 s[a] = n := ⟨_, rfl⟩
   have hk67' : ∀ w, Calls Tryz.prog 67 #[.string ⟨#[40, 41, 91, 93, 123, 125, 44, 46, 58, 59, 63, 60, 62, 61, 43, 45, 42, 47, 37, 33]⟩, .int .u8 (s[a].toNat : Int)] w fun e w' => e = .returned (.int .i64 n) ∧ w' = w := fun w => by rw [← hn]; exact hk67 w
   rw [hn] at hci
   rw [hci] at hml
   obtain ⟨b, hb⟩ : ∃ b, decide (0 ≤ n) = b := ⟨_, rfl⟩
   rw [hb] at hml
   have HML := Lib.hid hml
   have K67 := Lib.hid hk67'
   have hi2 : ((a : Int)).toNat = a := by omega
   clear hwr hp hml hk67 hk67' hci hn
   cases b
   all_goals
    go_wp2_with fail
    go_quiet ((go_at_call 67; exact Calls.quiet_of_same (K67.out _)))
    go_wp2_with fail
    go_ret
    refine ⟨by rw [HML.out]; rfl, ?_⟩
    have := HWR.out
    rw [this]
    exact ⟨HBEL.out.os, HBEL.out.tape, HBEL.out.output, HBEL.out.size, HBEL.out.block⟩
end
end Go.Proofs.YtnpkdiffpgcbhaaGreatDoor
