/- Parse and lines, walked. Conditions: each theorem's own. -/
import Derived.Test.YtnpkdiffpgcbhaaGreatDoorS45
import Derived.Test.YtnpkdiffpgcbhaaGreatDoorS07
set_option maxRecDepth 100000
set_option maxHeartbeats 1600000
namespace Go.Proofs.YtnpkdiffpgcbhaaGreatDoor
open Go.RowKit
def ParsePost (w : World) (s : ByteArray) (e : Ending) (w' : World) : Prop :=
 FP nob w w' ∧ match parseA s.data.toList with
  | .ok ops => ∃ v xs, e = .returned (.tuple #[v, .int .i64 0, .int .i64 0]) ∧ w'.ownsRow w.heap.size 58 8 v ops.length xs ∧ RdRow (RdOp w' (fun b => w.heap.size ≤ b ∧ v.ownBlock ≠ some b)) xs ops
  | .error (j, c) => e = .returned (.tuple #[.slice none 0 0, .int .i64 (j : Nat), .int .i64 c])
theorem parse_long {w : World} {s : ByteArray} (hs : 65536 < s.size) : Calls Tryz.prog 14 #[.string s] w (ParsePost w s) := by
 have hlt : (65536 : Int) < (s.size : Int) := by omega
 have hR : parseA s.data.toList = .error (0, 21) := by
  unfold parseA
  rw [if_pos (by rw [show s.data.toList.length = s.size from rfl]; exact hs)]
 have HR := Lib.hid hR
 clear hR
 go_enter Tryz.func14, Tryz.ntmps14
 go_wp2_with fail
 refine bodyPost_end (v := .tuple #[.slice none 0 0, .int .i64 0, .int .i64 21]) (by simp [results, Tryz.results14]) rfl ⟨FP.refl _ w, ?_⟩
 rw [HR.out]
 rfl
theorem parse_short {w : World} {s : ByteArray} (hs : s.size ≤ 65536) (hlib : LibOk w) : Calls Tryz.prog 14 #[.string s] w (ParsePost w s) := by
 have HP := Lib.hid (parsed_any (w := w) hs hlib)
 clear hlib
 have hlt : (s.size : Int) ≤ 65536 := by omega
 have hA : parseA s.data.toList = match parseS s.data.toList with
  | .error j => .error (j, 41)
  | .ok l => if 65536 < l.length then .error (0, 21) else .ok l := by
  unfold parseA
  rw [if_neg (by rw [show s.data.toList.length = s.size from rfl]; omega)]
  cases parseS s.data.toList <;> rfl
 have HA := Lib.hid hA
 clear hA
 go_enter Tryz.func14, Tryz.ntmps14
 go_wp2_with fail
 refine HP.out.mono ?_
 rintro e w1 ⟨hf, h5⟩
 obtain ⟨R, hR⟩ : ∃ R, parseS s.data.toList = R := ⟨_, rfl⟩
 rw [hR] at h5
 have hA := HA.out
 rw [hR] at hA
 have HR := Lib.hid hA
 have HF := Lib.hid hf
 clear hR hf hA
 cases R with
 | error j =>
  have h5 := h5
  subst h5
  go_wp2_with fail
  refine bodyPost_end (v := .tuple #[.slice none 0 0, .int .i64 (j : Nat), .int .i64 41]) (by simp [results, Tryz.results14]) rfl ⟨HF.out, ?_⟩
  rw [HR.out]
 | ok ops =>
  obtain ⟨v, xs, rfl, hrow, hrd⟩ := h5
  obtain ⟨ao, cap, rfl⟩ := own_shape1 hrow
  have HROW := Lib.hid hrow
  have HRD := Lib.hid hrd
  obtain ⟨m, hm⟩ : ∃ m, ops.length = m := ⟨_, rfl⟩
  rw [hm]
  have HM := Lib.hid hm
  clear hrow hrd hm
  by_cases hl : 65536 < m
  ·have hl' : (65536 : Int) < (m : Int) := by omega
   go_wp2_with fail
   refine bodyPost_end (v := .tuple #[.slice none 0 0, .int .i64 0, .int .i64 21]) (by simp [results, Tryz.results14]) rfl ⟨HF.out, ?_⟩
   rw [HR.out]
   rw [if_pos (by rw [HM.out]; exact hl)]
   rfl
  ·have hl' : ¬ (65536 : Int) < (m : Int) := by omega
   go_wp2_with fail
   refine bodyPost_end (v := .tuple #[.slice ao m cap, .int .i64 0, .int .i64 0]) (by simp [results, Tryz.results14]) rfl ⟨HF.out, ?_⟩
   rw [HR.out]
   rw [if_neg (by rw [HM.out]; exact hl)]
   have hrow := HROW.out
   have hrd := HRD.out
   rw [HM.out] at hrow hrd
   exact ⟨_, xs, rfl, by rw [HM.out]; exact hrow, hrd⟩
theorem parse_any {w : World} {s : ByteArray} (hlib : LibOk w) : Calls Tryz.prog 14 #[.string s] w (ParsePost w s) := by
 by_cases hs : s.size ≤ 65536
 ·exact parse_short hs hlib
 ·exact parse_long (by omega)
end Go.Proofs.YtnpkdiffpgcbhaaGreatDoor
namespace Go.Proofs.YtnpkdiffpgcbhaaGreatDoor
open Go.RowKit
theorem count_step {s : ByteArray} {k : Nat} (h : k < s.size) {b : Bool} (hb : (((s[k]'h).toNat : Int) == 10) = b) : (s.data.toList.take (k + 1)).count 10 = (s.data.toList.take k).count 10 + (if b then 1 else 0) := by
 have hl : k < s.data.toList.length := h
 have he : s.data.toList[k]'hl = s[k]'h := rfl
 rw [List.take_succ_eq_append_getElem hl, List.count_append, he, List.count_singleton]
 congr 1
 have : (s[k]'h == (10 : UInt8)) = b := by
  rw [← hb, Bool.eq_iff_iff, beq_iff_eq, beq_iff_eq, ← UInt8.toNat_inj]
  show _ ↔ (((s[k]'h).toNat : Int) = 10)
  have : (10 : UInt8).toNat = 10 := rfl
  omega
 rw [this]
theorem linesn_any {w : World} {s : ByteArray} (hs : s.size ≤ 1099511627776) : Calls Tryz.prog 16 #[.string s] w fun e w' => e = .returned (.int .i64 (linesN s.data.toList : Nat)) ∧ w' = w := by
 go_enter Tryz.func16, Tryz.ntmps16
 go_wp2_with fail
 go_loopg [4, 3] (s.size + 1) (fun m i c wr => ∃ k q : Nat, i = .int .i64 (k : Nat) ∧ k ≤ s.size ∧ s.size - k < m ∧ c = .int .i64 (q : Nat) ∧ Hid (q = (s.data.toList.take k).count 10 + 1) ∧ q ≤ k + 1 ∧ wr = w)
 case atStart => exact ⟨0, 1, rfl, Nat.zero_le _, by omega, rfl, Lib.hid (by simp), by omega, rfl⟩
 case round =>
  obtain ⟨k, q, rfl, hk, hm, rfl, hq, hqk, rfl⟩ := hrel
  by_cases hlt : k < s.size
  ·have hi0 : (0 : Int) ≤ (k : Int) := by omega
   have hi1 : (k : Int) < (s.size : Int) := by omega
   have hw1 : IntKind.i64.wrap ((k : Int) + 1) = (k : Int) + 1 := IntWalk.i64_in _ (by omega)
   have hw2 : IntKind.i64.wrap ((q : Int) + 1) = (q : Int) + 1 := IntWalk.i64_in _ (by omega)
   obtain ⟨b, hb⟩ : ∃ b, (((s[k]'hlt).toNat : Int) == 10) = b := ⟨_, rfl⟩
   have hc := count_step hlt hb
   have HC := Lib.hid hc
   clear hc
   cases b
   ·go_wp2_with fail
    go_roundg (s.size - (k + 1) + 1)
    case measure => omega
    case rel => exact ⟨k + 1, q, rfl, by omega, by omega, rfl, Lib.hid (by rw [HC.out, hq.out]; simp), by omega, rfl⟩
   ·go_wp2_with fail
    go_roundg (s.size - (k + 1) + 1)
    case measure => omega
    case rel => exact ⟨k + 1, q + 1, rfl, by omega, by omega, rfl, Lib.hid (by rw [HC.out, hq.out]; simp), by omega, rfl⟩
  ·have hi1 : ¬ (k : Int) < (s.size : Int) := by omega
   go_wp2_with fail
   refine bodyPost_ret (v := .int .i64 (q : Nat)) (by simp [results, Tryz.results16]) rfl (And.intro ?_ rfl)
   have hks : k = s.data.toList.length := by have : s.data.toList.length = s.size := rfl; omega
   rw [hq.out, hks, List.take_length]
   rfl
end Go.Proofs.YtnpkdiffpgcbhaaGreatDoor
