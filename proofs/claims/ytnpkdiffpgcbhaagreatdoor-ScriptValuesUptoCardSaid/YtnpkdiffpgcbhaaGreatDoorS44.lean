/- Lines, walked. Conditions: each theorem's own. -/
import Derived.Test.YtnpkdiffpgcbhaaGreatDoorS43
import Derived.Test.YtnpkdiffpgcbhaaGreatDoorS07
set_option maxRecDepth 100000
set_option maxHeartbeats 1600000
namespace Go.Proofs.YtnpkdiffpgcbhaaGreatDoor
open Go.RowKit
attribute [local go_sem] Oper.semAt_some
def partsB (s : ByteArray) : List ByteArray := Lib.splitB ⟨#[10]⟩ 0 (Lib.countB s ⟨#[10]⟩) s
theorem partsB_data (s : ByteArray) : (partsB s).map (·.data.toList) = splitNL s.data.toList := splitB_nl s
theorem partsB_len (s : ByteArray) : (partsB s).length = Lib.countB s ⟨#[10]⟩ + 1 := by
 have h := congrArg List.length (partsB_data s)
 rw [List.length_map] at h
 rw [h]
 exact (count_nl s.data.toList).symm
def LinesPost (w : World) (s : ByteArray) (e : Ending) (w' : World) : Prop :=
 ∃ n cap, e = .returned (.slice (some ⟨w.heap.size, 0, none⟩) n cap) ∧ n ≤ cap ∧ n ≤ (partsB s).length ∧ ((partsB s).take n).map (·.data.toList) = linesOf s.data.toList ∧ Same (w.alloc (.cells ((partsB s).map Value.string).toArray 9)) w'
theorem lines_any {w : World} {s : ByteArray} (hs : s.size ≤ 65536 * 4) (hlib : LibOk w) : Calls Tryz.prog 69 #[.string s] w (LinesPost w s) := by
 obtain ⟨mx, hmx⟩ := hlib.maxlen
 have hSp := Tryz.strings_Split s ⟨#[10]⟩ mx w (by omega) hmx (by decide)
 have hlen := partsB_len s
 have hdat := partsB_data s
 obtain ⟨pre, last, hpl⟩ : ∃ pre last, partsB s = pre ++ [last] := by
  refine ⟨(partsB s).dropLast, (partsB s).getLast (fun e => by rw [e] at hlen; simp at hlen), ?_⟩
  exact (List.dropLast_concat_getLast _).symm
 obtain ⟨N, hN⟩ : ∃ N, pre.length = N := ⟨_, rfl⟩
 have hcN : Lib.countB s ⟨#[10]⟩ = N := by rw [hpl] at hlen; simp at hlen; omega
 have hcl : Lib.countB s ⟨#[10]⟩ ≤ s.size := Lib.countB_le ⟨#[10]⟩ (by decide) s.size s (Nat.le_refl _)
 change Calls _ _ _ _ (fun e w' => e = .returned (.slice (some ⟨w.heap.size, 0, none⟩) (Lib.countB s ⟨#[10]⟩ + 1) (Lib.countB s ⟨#[10]⟩ + 1)) ∧ w' = w.alloc (.cells ((partsB s).map Value.string).toArray 9)) at hSp
 have hcell : (w.alloc (.cells ((partsB s).map Value.string).toArray 9)).cell? ⟨w.heap.size, N, none⟩ = some (.string last) := by
  refine (cell_blk (heap_new_at rfl _)).trans ?_
  rw [hpl, ← hN]
  simp
 rw [hcN] at hSp hcl
 have HSP := Lib.hid hSp
 have HPL := Lib.hid hpl
 have HDAT := Lib.hid hdat
 have HNN := Lib.hid hN
 have hw1 : IntKind.i64.wrap ((N : Int) + 1 - 1) = (N : Int) := by rw [show (N : Int) + 1 - 1 = (N : Int) by omega]; exact IntWalk.i64_in _ (by omega)
 have hw2 : IntKind.i64.wrap (N : Int) = (N : Int) := IntWalk.i64_in _ (by omega)
 have hi0 : (0 : Int) ≤ (N : Int) := by omega
 have hi1 : (N : Int) < (N : Int) + 1 := by omega
 have hi2 : (N : Int) ≤ (N : Int) + 1 := by omega
 have hlo : linesOf s.data.toList = if last.data.toList = [] then pre.map (·.data.toList) else (pre ++ [last]).map (·.data.toList) := by
  unfold linesOf
  rw [← hdat, hpl]
  simp
 have HLO := Lib.hid hlo
 clear hSp hlen hdat hpl hN hcN hlib hmx hlo
 obtain ⟨w1, hw⟩ : ∃ w1, w.alloc (.cells ((partsB s).map Value.string).toArray 9) = w1 := ⟨_, rfl⟩
 rw [hw] at HSP hcell
 have HW := Lib.hid hw
 clear hw
 by_cases hl : last.data.toList = []
 ·have hle := bytes_of hl
  subst hle
  go_enter Tryz.func69, Tryz.ntmps69
  go_wp2_with fail
  refine HSP.out.mono ?_
  rintro e w2 ⟨rfl, rfl⟩
  go_wp2_with fail
  refine bodyPost_ret (v := .slice (some ⟨w.heap.size, 0, none⟩) N (N + 1)) (by simp [results, Tryz.results69]) rfl ⟨N, N + 1, rfl, Nat.le_succ N, ?_, ?_, ?_⟩
  ·rw [HPL.out, List.length_append, HNN.out]; exact Nat.le_succ N
  ·rw [HLO.out, if_pos trivial, HPL.out, ← HNN.out]
   simp
  ·rw [HW.out]; exact ⟨rfl, rfl, rfl, rfl⟩
 ·have he : (last.toList == []) = false := by rw [Lib.toList_data]; simpa using hl
  go_enter Tryz.func69, Tryz.ntmps69
  go_wp2_with fail
  refine HSP.out.mono ?_
  rintro e w2 ⟨rfl, rfl⟩
  go_wp2_with fail
  refine bodyPost_ret (v := .slice (some ⟨w.heap.size, 0, none⟩) (N + 1) (N + 1)) (by simp [results, Tryz.results69]) rfl ⟨N + 1, N + 1, rfl, Nat.le_refl _, ?_, ?_, ?_⟩
  ·rw [HPL.out, List.length_append, HNN.out]; exact Nat.le_refl _
  ·rw [HLO.out, if_neg hl, HPL.out, List.take_of_length_le (by rw [List.length_append, HNN.out]; exact Nat.le_refl _)]
  ·rw [HW.out]; exact ⟨rfl, rfl, rfl, rfl⟩
end Go.Proofs.YtnpkdiffpgcbhaaGreatDoor
