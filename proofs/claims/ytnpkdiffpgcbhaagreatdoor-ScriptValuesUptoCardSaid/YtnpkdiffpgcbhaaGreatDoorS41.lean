/- The parser, walked (ParY, ParZ). Conditions: each theorem's own. -/
import Derived.Test.YtnpkdiffpgcbhaaGreatDoorS40
import Derived.Defers
import Derived.Recover
set_option maxRecDepth 100000
set_option maxHeartbeats 1600000
namespace Go.Proofs.YtnpkdiffpgcbhaaGreatDoor
open Go.RowKit
attribute [local go_sem] Oper.semAt_some
theorem catch_idle (p q : Addr) (w : World) :
  CallsD Tryz.prog 71 #[.pointer (some p), .pointer (some q)] .returning w fun e u' w' => e = .returned (.tuple #[]) ∧ u' = .returning ∧ w' = w := by
 refine callsD_of_wpS Tryz.func71 rfl fun c₀ cs hu => ?_
 apply wpS_seq
 apply wpS_region
 simp [wpOpsS, go_sem, recoverD, hu, Tryz.ntmps71, Exit.thenS]
 refine wpS_of_wp ?_
 go_wp2_with fail
 cases c₀
 simp_all [bodyPostS, results, Tryz.results71]
theorem assert_none (w : World) : (Instr.typeAssert (.iface 132 (.agg #[])) 20 132 true).run Tryz.prog w = .ok (.tuple #[.agg #[], .bool true]) w := by kernel_rfl
theorem catch_panicking (a b : Nat) (w : World) (hx : w.heap[a]? = some (.cells #[.bool false] 4 (0,0))) (hy : w.heap[b]? = some (.cells #[.bool false] 4 (0,0))) (hab : a ≠ b) :
  CallsD Tryz.prog 71 #[.pointer (some ⟨a, 0, none⟩), .pointer (some ⟨b, 0, none⟩)] (.panicking ({ v := .iface 132 (.agg #[]), recovered := false } :: [])) w fun e u' w' =>
   e = .returned (.tuple #[]) ∧ u' = .panicking ({ v := .iface 132 (.agg #[]), recovered := true } :: []) ∧ FP (fun i => i = a ∨ i = b) w w' ∧ w'.heap[a]? = some (.cells #[.bool true] 4 (0,0)) ∧ w'.heap[b]? = some (.cells #[.bool false] 4 (0,0)) := by
 refine callsD_of_wpS Tryz.func71 rfl fun c₀ cs hu => ?_
 apply wpS_seq
 apply wpS_region
 simp [wpOpsS, go_sem, recoverD, hu, Tryz.ntmps71, Exit.thenS]
 have a0 : w.cell? ⟨a, 0, none⟩ = some (.bool false) := cell_blk hx
 have a1 : w.frozen? ⟨a, 0, none⟩ = false := frz_blk hx
 have b0 : w.cell? ⟨b, 0, none⟩ = some (.bool false) := cell_blk hy
 have b1 : w.frozen? ⟨b, 0, none⟩ = false := frz_blk hy
 have hta := assert_none
 have ha := lt_blk hx
 have hb := lt_blk hy
 have HX := Lib.hid hx
 have HY := Lib.hid hy
 clear hx hy
 refine wpS_of_wp ?_
 go_wp2_with fail
 refine ⟨rfl, _, rfl, .tuple #[], by simp [results, Tryz.results71], rfl, rfl, ?_, ?_, ?_⟩
 ·exact (((FP.refl (fun i => i = a ∨ i = b) w).set (p := ⟨a, 0, none⟩) (.bool true) (.inl (.inl rfl))).set (p := ⟨b, 0, none⟩) (.bool false) (.inl (.inr rfl))).alloc _
 ·have h0 : (w.setCell ⟨a, 0, none⟩ (.bool true)).heap[a]? = some (.cells #[.bool true] 4 (0,0)) := (heap_set HX.out _ _).trans (if_pos rfl)
  have h1 : ((w.setCell ⟨a, 0, none⟩ (.bool true)).setCell ⟨b, 0, none⟩ (.bool false)).heap[a]? = some (.cells #[.bool true] 4 (0,0)) := (heap_set_ne (a := ⟨b, 0, none⟩) (by show a ≠ b; exact hab)).trans h0
  exact (heap_alloc_ne (by rw [size_set, size_set]; omega)).trans h1
 ·have h0 : (w.setCell ⟨a, 0, none⟩ (.bool true)).heap[b]? = some (.cells #[.bool false] 4 (0,0)) := (heap_set_ne (a := ⟨a, 0, none⟩) (by show b ≠ a; omega)).trans HY.out
  have h1 : ((w.setCell ⟨a, 0, none⟩ (.bool true)).setCell ⟨b, 0, none⟩ (.bool false)).heap[b]? = some (.cells #[.bool false] 4 (0,0)) := (heap_set h0 _ _).trans (if_pos rfl)
  exact (heap_alloc_ne (by rw [size_set, size_set]; omega)).trans h1
end Go.Proofs.YtnpkdiffpgcbhaaGreatDoor
namespace Go.Proofs.YtnpkdiffpgcbhaaGreatDoor
open Go.RowKit
attribute [local go_sem] Oper.semAt_some
theorem two_set {w w1 : World} {S : Nat → Prop} {u v : Value} (h0 : w1.heap[w.heap.size]? = some (.cells #[u] 4 (0,0))) (h1 : w1.heap[w.heap.size + 1]? = some (.cells #[v] 4 (0,0))) (hf : FP S w w1) (a b : Value) :
  ((w1.setCell ⟨w.heap.size, 0, none⟩ a).setCell ⟨w.heap.size + 1, 0, none⟩ b).heap[w.heap.size]? = some (.cells #[a] 4 (0,0)) ∧ ((w1.setCell ⟨w.heap.size, 0, none⟩ a).setCell ⟨w.heap.size + 1, 0, none⟩ b).heap[w.heap.size + 1]? = some (.cells #[b] 4 (0,0)) ∧
   FP S w ((w1.setCell ⟨w.heap.size, 0, none⟩ a).setCell ⟨w.heap.size + 1, 0, none⟩ b) := by
 have k0 : (w1.setCell ⟨w.heap.size, 0, none⟩ a).heap[w.heap.size]? = some (.cells #[a] 4 (0,0)) := (heap_set h0 _ _).trans (if_pos rfl)
 have k1 : (w1.setCell ⟨w.heap.size, 0, none⟩ a).heap[w.heap.size + 1]? = some (.cells #[v] 4 (0,0)) := (heap_set_ne (by show w.heap.size + 1 ≠ w.heap.size; omega)).trans h1
 exact ⟨(heap_set_ne (by show w.heap.size ≠ w.heap.size + 1; omega)).trans k0, (heap_set k1 _ _).trans (if_pos rfl), (hf.set a (.inr (Nat.le_refl _))).set b (.inr (Nat.le_succ _))⟩
theorem caught_lexless {w : World} {s : ByteArray} {dv : Value} (hs : s.size ≤ 1099511627776) (hl : lexS s.data.toList = none) :
  Calls Tryz.prog 46 #[.string s, dv] w fun e w' => e = .returned (.tuple #[.bool true, .bool false]) ∧ FP nob w w' := by
 have HL := Lib.hid (long_any s ((w.alloc (.cells #[.bool false] 4)).alloc (.cells #[.bool false] 4)) hs)
 have HN := Lib.hid hl
 have hmf : ∀ (fn : Fn) (first cap : Array Value) (w : World), (Instr.makeFunc fn first cap).run Tryz.prog w = .ok (.func fn first cap) w := fun _ _ _ _ => rfl
 clear hl hs
 go_enter_defers Tryz.func46, Tryz.ntmps46
 go_wp2_with fail
 refine HL.out.mono ?_
 rintro e w1 ⟨hb, hm⟩
 rw [HN.out] at hm
 obtain ⟨n, rfl⟩ := hm
 have h0 : ((w.alloc (.cells #[.bool false] 4)).alloc (.cells #[.bool false] 4)).heap[w.heap.size]? = some (.cells #[.bool false] 4 (0,0)) := (heap_alloc_ne (by simp)).trans (heap_new_at rfl _)
 have h1 : ((w.alloc (.cells #[.bool false] 4)).alloc (.cells #[.bool false] 4)).heap[w.heap.size + 1]? = some (.cells #[.bool false] 4 (0,0)) := heap_new_at (by simp) _
 have q0 := (hb.block _ (lt_blk h0)).trans h0
 have q1 := (hb.block _ (lt_blk h1)).trans h1
 have a0 : w1.cell? ⟨w.heap.size, 0, none⟩ = some (.bool false) := cell_blk q0
 have a1 : w1.frozen? ⟨w.heap.size, 0, none⟩ = false := frz_blk q0
 have b0 : w1.cell? ⟨w.heap.size + 1, 0, none⟩ = some (.bool false) := cell_blk q1
 have b1 : w1.frozen? ⟨w.heap.size + 1, 0, none⟩ = false := frz_blk q1
 have HQ0 := Lib.hid q0
 have HQ1 := Lib.hid q1
 have HF : Hid (FP nob w w1) := Lib.hid ((((FP.refl _ w).alloc _).alloc _).trans (FP.ofBelow (S := nob) hb) (fun _ h => h.elim))
 clear hb h0 h1 q0 q1
 go_wp2_with fail
 obtain ⟨z0, z1, z2⟩ := two_set HQ0.out HQ1.out HF.out (.bool true) (.bool false)
 generalize (w1.setCell ⟨w.heap.size, 0, none⟩ (.bool true)).setCell ⟨w.heap.size + 1, 0, none⟩ (.bool false) = wf at z0 z1 z2 ⊢
 have r0 : wf.cell? ⟨w.heap.size, 0, none⟩ = some (.bool true) := cell_blk z0
 have r1 : wf.cell? ⟨w.heap.size + 1, 0, none⟩ = some (.bool false) := cell_blk z1
 simp [bodyPostD, Leaves, results, Tryz.results46, go_sem, r0, r1]
 exact z2
theorem caught_empty {w : World} {s : ByteArray} {dv : Value} (hs : s.size ≤ 1099511627776) (hl : lexS s.data.toList = some []) :
  Calls Tryz.prog 46 #[.string s, dv] w fun e w' => e = .returned (.tuple #[.bool false, .bool true]) ∧ FP nob w w' := by
 have HL := Lib.hid (long_any s ((w.alloc (.cells #[.bool false] 4)).alloc (.cells #[.bool false] 4)) hs)
 have HN := Lib.hid hl
 have hmf : ∀ (fn : Fn) (first cap : Array Value) (w : World), (Instr.makeFunc fn first cap).run Tryz.prog w = .ok (.func fn first cap) w := fun _ _ _ _ => rfl
 clear hl hs
 go_enter_defers Tryz.func46, Tryz.ntmps46
 go_wp2_with fail
 refine HL.out.mono ?_
 rintro e w1 ⟨hb, hm⟩
 rw [HN.out] at hm
 obtain ⟨v, xs, rfl, hown, _⟩ := hm
 obtain ⟨ao, cap, rfl⟩ := own_shape1 hown
 simp only [List.length_nil] at *
 clear hown
 have h0 : ((w.alloc (.cells #[.bool false] 4)).alloc (.cells #[.bool false] 4)).heap[w.heap.size]? = some (.cells #[.bool false] 4 (0,0)) := (heap_alloc_ne (by simp)).trans (heap_new_at rfl _)
 have h1 : ((w.alloc (.cells #[.bool false] 4)).alloc (.cells #[.bool false] 4)).heap[w.heap.size + 1]? = some (.cells #[.bool false] 4 (0,0)) := heap_new_at (by simp) _
 have q0 := (hb.block _ (lt_blk h0)).trans h0
 have q1 := (hb.block _ (lt_blk h1)).trans h1
 have a0 : w1.cell? ⟨w.heap.size, 0, none⟩ = some (.bool false) := cell_blk q0
 have a1 : w1.frozen? ⟨w.heap.size, 0, none⟩ = false := frz_blk q0
 have b0 : w1.cell? ⟨w.heap.size + 1, 0, none⟩ = some (.bool false) := cell_blk q1
 have b1 : w1.frozen? ⟨w.heap.size + 1, 0, none⟩ = false := frz_blk q1
 have HQ0 := Lib.hid q0
 have HQ1 := Lib.hid q1
 have HF : Hid (FP nob w w1) := Lib.hid ((((FP.refl _ w).alloc _).alloc _).trans (FP.ofBelow (S := nob) hb) (fun _ h => h.elim))
 clear hb h0 h1 q0 q1
 go_wp2_with fail
 obtain ⟨z0, z1, z2⟩ := two_set HQ0.out HQ1.out HF.out (.bool false) (.bool true)
 generalize (w1.setCell ⟨w.heap.size, 0, none⟩ (.bool false)).setCell ⟨w.heap.size + 1, 0, none⟩ (.bool true) = wf at z0 z1 z2 ⊢
 have r0 : wf.cell? ⟨w.heap.size, 0, none⟩ = some (.bool false) := cell_blk z0
 have r1 : wf.cell? ⟨w.heap.size + 1, 0, none⟩ = some (.bool true) := cell_blk z1
 simp [bodyPostD, Leaves, results, Tryz.results46, go_sem, r0, r1]
 exact z2
end Go.Proofs.YtnpkdiffpgcbhaaGreatDoor
