/- Line, walked. Conditions: each theorem's own. -/
import Derived.Test.YtnpkdiffpgcbhaaGreatDoorS42
set_option maxRecDepth 100000
set_option maxHeartbeats 1600000
namespace Go.Proofs.YtnpkdiffpgcbhaaGreatDoor
open Go.RowKit
attribute [local go_sem] Oper.semAt_some
def LinePost (w : World) (res : Option (Option OpV)) (e : Ending) (w' : World) : Prop :=
 FP nob w w' ∧ match res with
  | some (some op) => ∃ c : List Value, e = .returned (.tuple #[.agg c.toArray, .bool true, .bool true]) ∧ RdOp w' (fun b => w.heap.size ≤ b) c op
  | some none => e = .returned (.tuple #[.agg #[.int .i64 0, .string ⟨#[]⟩, .slice none 0 0, .int .i64 0, .string ⟨#[]⟩, .bool false, .int .i64 0, .slice none 0 0], .bool false, .bool true])
  | none => e = .returned (.tuple #[.agg #[.int .i64 0, .string ⟨#[]⟩, .slice none 0 0, .int .i64 0, .string ⟨#[]⟩, .bool false, .int .i64 0, .slice none 0 0], .bool true, .bool false])
theorem line_lexless {w : World} {s : ByteArray} (hs : s.size ≤ 1099511627776) (hlib : LibOk w) (hl : lexS s.data.toList = none) : Calls Tryz.prog 25 #[.string s] w (LinePost w (none)) := by
 have hrb : (w.alloc (.cells #[.int .i64 0, .string ⟨#[]⟩, .slice none 0 0, .int .i64 0, .string ⟨#[]⟩, .bool false, .int .i64 0, .slice none 0 0] 58)).heap[w.heap.size]? = some (.cells #[.int .i64 0, .string ⟨#[]⟩, .slice none 0 0, .int .i64 0, .string ⟨#[]⟩, .bool false, .int .i64 0, .slice none 0 0] 58 (0,0)) := heap_new_at rfl _
 have hlib1 : LibOk (w.alloc (.cells #[.int .i64 0, .string ⟨#[]⟩, .slice none 0 0, .int .i64 0, .string ⟨#[]⟩, .bool false, .int .i64 0, .slice none 0 0] 58)) := hlib.fp (S := nob) ((FP.refl _ w).alloc _) (fun _ h => h.elim)
 have hC := caught_lexless (dv := .func (.func 54) #[] #[.pointer (some ⟨w.heap.size, 0, none⟩)]) (w := w.alloc (.cells #[.int .i64 0, .string ⟨#[]⟩, .slice none 0 0, .int .i64 0, .string ⟨#[]⟩, .bool false, .int .i64 0, .slice none 0 0] 58)) hs hl
 have HC := Lib.hid hC
 have HRB := Lib.hid hrb
 have hmf : ∀ (fn : Fn) (first cap : Array Value) (w : World), (Instr.makeFunc fn first cap).run Tryz.prog w = .ok (.func fn first cap) w := fun _ _ _ _ => rfl
 clear hC hrb hlib hlib1 hs hl
 go_enter Tryz.func25, Tryz.ntmps25
 go_wp2_with fail
 refine HC.out.mono ?_
 rintro e w1 ⟨rfl, hf⟩
 have hb : w1.heap[w.heap.size]? = some (.cells #[.int .i64 0, .string ⟨#[]⟩, .slice none 0 0, .int .i64 0, .string ⟨#[]⟩, .bool false, .int .i64 0, .slice none 0 0] 58 (0,0)) := (hf.blk _ (lt_blk HRB.out) (fun h => h.elim)).trans HRB.out
 have hf2 : FP nob w w1 := ((FP.refl _ w).alloc _).trans hf (fun _ h => h.elim)
 have c0 : w1.cell? ⟨w.heap.size, 0, none⟩ = some (.int .i64 0) := cell_blk hb
 have f0 : w1.frozen? ⟨w.heap.size, 0, none⟩ = false := frz_blk hb
 have c1 : w1.cell? ⟨w.heap.size, 1, none⟩ = some (.string ⟨#[]⟩) := cell_blk hb
 have f1 : w1.frozen? ⟨w.heap.size, 1, none⟩ = false := frz_blk hb
 have c2 : w1.cell? ⟨w.heap.size, 2, none⟩ = some (.slice none 0 0) := cell_blk hb
 have f2 : w1.frozen? ⟨w.heap.size, 2, none⟩ = false := frz_blk hb
 have c3 : w1.cell? ⟨w.heap.size, 3, none⟩ = some (.int .i64 0) := cell_blk hb
 have f3 : w1.frozen? ⟨w.heap.size, 3, none⟩ = false := frz_blk hb
 have c4 : w1.cell? ⟨w.heap.size, 4, none⟩ = some (.string ⟨#[]⟩) := cell_blk hb
 have f4 : w1.frozen? ⟨w.heap.size, 4, none⟩ = false := frz_blk hb
 have c5 : w1.cell? ⟨w.heap.size, 5, none⟩ = some (.bool false) := cell_blk hb
 have f5 : w1.frozen? ⟨w.heap.size, 5, none⟩ = false := frz_blk hb
 have c6 : w1.cell? ⟨w.heap.size, 6, none⟩ = some (.int .i64 0) := cell_blk hb
 have f6 : w1.frozen? ⟨w.heap.size, 6, none⟩ = false := frz_blk hb
 have c7 : w1.cell? ⟨w.heap.size, 7, none⟩ = some (.slice none 0 0) := cell_blk hb
 have f7 : w1.frozen? ⟨w.heap.size, 7, none⟩ = false := frz_blk hb
 have HB := Lib.hid hb
 have HF2 := Lib.hid hf2
 clear hb hf hf2
 go_wp2_with fail
 have z0 : (put8 (put8 w1 w.heap.size (.int .i64 0) (.string ⟨#[]⟩) (.slice none 0 0) (.int .i64 0) (.string ⟨#[]⟩) (.bool false) (.int .i64 0) (.slice none 0 0)) w.heap.size (.int .i64 0) (.string ⟨#[]⟩) (.slice none 0 0) (.int .i64 0) (.string ⟨#[]⟩) (.bool false) (.int .i64 0) (.slice none 0 0)).heap[w.heap.size]? = some (.cells #[.int .i64 0, .string ⟨#[]⟩, .slice none 0 0, .int .i64 0, .string ⟨#[]⟩, .bool false, .int .i64 0, .slice none 0 0] 58 (0,0)) := put8_at (put8_at HB.out (.int .i64 0) (.string ⟨#[]⟩) (.slice none 0 0) (.int .i64 0) (.string ⟨#[]⟩) (.bool false) (.int .i64 0) (.slice none 0 0)) (.int .i64 0) (.string ⟨#[]⟩) (.slice none 0 0) (.int .i64 0) (.string ⟨#[]⟩) (.bool false) (.int .i64 0) (.slice none 0 0)
 have z1 : FP nob w (put8 (put8 w1 w.heap.size (.int .i64 0) (.string ⟨#[]⟩) (.slice none 0 0) (.int .i64 0) (.string ⟨#[]⟩) (.bool false) (.int .i64 0) (.slice none 0 0)) w.heap.size (.int .i64 0) (.string ⟨#[]⟩) (.slice none 0 0) (.int .i64 0) (.string ⟨#[]⟩) (.bool false) (.int .i64 0) (.slice none 0 0)) := (HF2.out.trans (put8_fp (S := fun i => i = w.heap.size) w1 _ (.int .i64 0) (.string ⟨#[]⟩) (.slice none 0 0) (.int .i64 0) (.string ⟨#[]⟩) (.bool false) (.int .i64 0) (.slice none 0 0) rfl) (fun i hi => .inr (by omega))).trans (put8_fp (S := fun i => i = w.heap.size) _ _ (.int .i64 0) (.string ⟨#[]⟩) (.slice none 0 0) (.int .i64 0) (.string ⟨#[]⟩) (.bool false) (.int .i64 0) (.slice none 0 0) rfl) (fun i hi => .inr (by omega))
 change bodyPost _ _ _ _ _ (put8 (put8 w1 w.heap.size (.int .i64 0) (.string ⟨#[]⟩) (.slice none 0 0) (.int .i64 0) (.string ⟨#[]⟩) (.bool false) (.int .i64 0) (.slice none 0 0)) w.heap.size (.int .i64 0) (.string ⟨#[]⟩) (.slice none 0 0) (.int .i64 0) (.string ⟨#[]⟩) (.bool false) (.int .i64 0) (.slice none 0 0))
 generalize put8 (put8 w1 w.heap.size (.int .i64 0) (.string ⟨#[]⟩) (.slice none 0 0) (.int .i64 0) (.string ⟨#[]⟩) (.bool false) (.int .i64 0) (.slice none 0 0)) w.heap.size (.int .i64 0) (.string ⟨#[]⟩) (.slice none 0 0) (.int .i64 0) (.string ⟨#[]⟩) (.bool false) (.int .i64 0) (.slice none 0 0) = wf at z0 z1 ⊢
 have r0 : wf.cell? ⟨w.heap.size, 0, none⟩ = some (.int .i64 0) := cell_blk z0
 have r1 : wf.cell? ⟨w.heap.size, 1, none⟩ = some (.string ⟨#[]⟩) := cell_blk z0
 have r2 : wf.cell? ⟨w.heap.size, 2, none⟩ = some (.slice none 0 0) := cell_blk z0
 have r3 : wf.cell? ⟨w.heap.size, 3, none⟩ = some (.int .i64 0) := cell_blk z0
 have r4 : wf.cell? ⟨w.heap.size, 4, none⟩ = some (.string ⟨#[]⟩) := cell_blk z0
 have r5 : wf.cell? ⟨w.heap.size, 5, none⟩ = some (.bool false) := cell_blk z0
 have r6 : wf.cell? ⟨w.heap.size, 6, none⟩ = some (.int .i64 0) := cell_blk z0
 have r7 : wf.cell? ⟨w.heap.size, 7, none⟩ = some (.slice none 0 0) := cell_blk z0
 refine bodyPost_ret (v := .tuple #[.agg #[.int .i64 0, .string ⟨#[]⟩, .slice none 0 0, .int .i64 0, .string ⟨#[]⟩, .bool false, .int .i64 0, .slice none 0 0], .bool true, .bool false]) (by simp [results, Tryz.results25, go_sem, r0, r1, r2, r3, r4, r5, r6, r7]) rfl ?_
 exact ⟨z1, rfl⟩
theorem line_empty {w : World} {s : ByteArray} (hs : s.size ≤ 1099511627776) (hlib : LibOk w) (hl : lexS s.data.toList = some []) : Calls Tryz.prog 25 #[.string s] w (LinePost w (some none)) := by
 have hrb : (w.alloc (.cells #[.int .i64 0, .string ⟨#[]⟩, .slice none 0 0, .int .i64 0, .string ⟨#[]⟩, .bool false, .int .i64 0, .slice none 0 0] 58)).heap[w.heap.size]? = some (.cells #[.int .i64 0, .string ⟨#[]⟩, .slice none 0 0, .int .i64 0, .string ⟨#[]⟩, .bool false, .int .i64 0, .slice none 0 0] 58 (0,0)) := heap_new_at rfl _
 have hlib1 : LibOk (w.alloc (.cells #[.int .i64 0, .string ⟨#[]⟩, .slice none 0 0, .int .i64 0, .string ⟨#[]⟩, .bool false, .int .i64 0, .slice none 0 0] 58)) := hlib.fp (S := nob) ((FP.refl _ w).alloc _) (fun _ h => h.elim)
 have hC := caught_empty (dv := .func (.func 54) #[] #[.pointer (some ⟨w.heap.size, 0, none⟩)]) (w := w.alloc (.cells #[.int .i64 0, .string ⟨#[]⟩, .slice none 0 0, .int .i64 0, .string ⟨#[]⟩, .bool false, .int .i64 0, .slice none 0 0] 58)) hs hl
 have HC := Lib.hid hC
 have HRB := Lib.hid hrb
 have hmf : ∀ (fn : Fn) (first cap : Array Value) (w : World), (Instr.makeFunc fn first cap).run Tryz.prog w = .ok (.func fn first cap) w := fun _ _ _ _ => rfl
 clear hC hrb hlib hlib1 hs hl
 go_enter Tryz.func25, Tryz.ntmps25
 go_wp2_with fail
 refine HC.out.mono ?_
 rintro e w1 ⟨rfl, hf⟩
 have hb : w1.heap[w.heap.size]? = some (.cells #[.int .i64 0, .string ⟨#[]⟩, .slice none 0 0, .int .i64 0, .string ⟨#[]⟩, .bool false, .int .i64 0, .slice none 0 0] 58 (0,0)) := (hf.blk _ (lt_blk HRB.out) (fun h => h.elim)).trans HRB.out
 have hf2 : FP nob w w1 := ((FP.refl _ w).alloc _).trans hf (fun _ h => h.elim)
 have c0 : w1.cell? ⟨w.heap.size, 0, none⟩ = some (.int .i64 0) := cell_blk hb
 have f0 : w1.frozen? ⟨w.heap.size, 0, none⟩ = false := frz_blk hb
 have c1 : w1.cell? ⟨w.heap.size, 1, none⟩ = some (.string ⟨#[]⟩) := cell_blk hb
 have f1 : w1.frozen? ⟨w.heap.size, 1, none⟩ = false := frz_blk hb
 have c2 : w1.cell? ⟨w.heap.size, 2, none⟩ = some (.slice none 0 0) := cell_blk hb
 have f2 : w1.frozen? ⟨w.heap.size, 2, none⟩ = false := frz_blk hb
 have c3 : w1.cell? ⟨w.heap.size, 3, none⟩ = some (.int .i64 0) := cell_blk hb
 have f3 : w1.frozen? ⟨w.heap.size, 3, none⟩ = false := frz_blk hb
 have c4 : w1.cell? ⟨w.heap.size, 4, none⟩ = some (.string ⟨#[]⟩) := cell_blk hb
 have f4 : w1.frozen? ⟨w.heap.size, 4, none⟩ = false := frz_blk hb
 have c5 : w1.cell? ⟨w.heap.size, 5, none⟩ = some (.bool false) := cell_blk hb
 have f5 : w1.frozen? ⟨w.heap.size, 5, none⟩ = false := frz_blk hb
 have c6 : w1.cell? ⟨w.heap.size, 6, none⟩ = some (.int .i64 0) := cell_blk hb
 have f6 : w1.frozen? ⟨w.heap.size, 6, none⟩ = false := frz_blk hb
 have c7 : w1.cell? ⟨w.heap.size, 7, none⟩ = some (.slice none 0 0) := cell_blk hb
 have f7 : w1.frozen? ⟨w.heap.size, 7, none⟩ = false := frz_blk hb
 have HB := Lib.hid hb
 have HF2 := Lib.hid hf2
 clear hb hf hf2
 go_wp2_with fail
 have z0 : (put8 w1 w.heap.size (.int .i64 0) (.string ⟨#[]⟩) (.slice none 0 0) (.int .i64 0) (.string ⟨#[]⟩) (.bool false) (.int .i64 0) (.slice none 0 0)).heap[w.heap.size]? = some (.cells #[.int .i64 0, .string ⟨#[]⟩, .slice none 0 0, .int .i64 0, .string ⟨#[]⟩, .bool false, .int .i64 0, .slice none 0 0] 58 (0,0)) := put8_at HB.out (.int .i64 0) (.string ⟨#[]⟩) (.slice none 0 0) (.int .i64 0) (.string ⟨#[]⟩) (.bool false) (.int .i64 0) (.slice none 0 0)
 have z1 : FP nob w (put8 w1 w.heap.size (.int .i64 0) (.string ⟨#[]⟩) (.slice none 0 0) (.int .i64 0) (.string ⟨#[]⟩) (.bool false) (.int .i64 0) (.slice none 0 0)) := HF2.out.trans (put8_fp (S := fun i => i = w.heap.size) w1 _ (.int .i64 0) (.string ⟨#[]⟩) (.slice none 0 0) (.int .i64 0) (.string ⟨#[]⟩) (.bool false) (.int .i64 0) (.slice none 0 0) rfl) (fun i hi => .inr (by omega))
 change bodyPost _ _ _ _ _ (put8 w1 w.heap.size (.int .i64 0) (.string ⟨#[]⟩) (.slice none 0 0) (.int .i64 0) (.string ⟨#[]⟩) (.bool false) (.int .i64 0) (.slice none 0 0))
 generalize put8 w1 w.heap.size (.int .i64 0) (.string ⟨#[]⟩) (.slice none 0 0) (.int .i64 0) (.string ⟨#[]⟩) (.bool false) (.int .i64 0) (.slice none 0 0) = wf at z0 z1 ⊢
 have r0 : wf.cell? ⟨w.heap.size, 0, none⟩ = some (.int .i64 0) := cell_blk z0
 have r1 : wf.cell? ⟨w.heap.size, 1, none⟩ = some (.string ⟨#[]⟩) := cell_blk z0
 have r2 : wf.cell? ⟨w.heap.size, 2, none⟩ = some (.slice none 0 0) := cell_blk z0
 have r3 : wf.cell? ⟨w.heap.size, 3, none⟩ = some (.int .i64 0) := cell_blk z0
 have r4 : wf.cell? ⟨w.heap.size, 4, none⟩ = some (.string ⟨#[]⟩) := cell_blk z0
 have r5 : wf.cell? ⟨w.heap.size, 5, none⟩ = some (.bool false) := cell_blk z0
 have r6 : wf.cell? ⟨w.heap.size, 6, none⟩ = some (.int .i64 0) := cell_blk z0
 have r7 : wf.cell? ⟨w.heap.size, 7, none⟩ = some (.slice none 0 0) := cell_blk z0
 refine bodyPost_ret (v := .tuple #[.agg #[.int .i64 0, .string ⟨#[]⟩, .slice none 0 0, .int .i64 0, .string ⟨#[]⟩, .bool false, .int .i64 0, .slice none 0 0], .bool false, .bool true]) (by simp [results, Tryz.results25, go_sem, r0, r1, r2, r3, r4, r5, r6, r7]) rfl ?_
 exact ⟨z1, rfl⟩
theorem line_bad0 {w : World} {s : ByteArray} (hs : s.size ≤ 1099511627776) (hlib : LibOk w) {T : List Lx} (hl : lexS s.data.toList = some T) (hT : T ≠ []) (hop : pOp T = none) : Calls Tryz.prog 25 #[.string s] w (LinePost w (none)) := by
 have hrb : (w.alloc (.cells #[.int .i64 0, .string ⟨#[]⟩, .slice none 0 0, .int .i64 0, .string ⟨#[]⟩, .bool false, .int .i64 0, .slice none 0 0] 58)).heap[w.heap.size]? = some (.cells #[.int .i64 0, .string ⟨#[]⟩, .slice none 0 0, .int .i64 0, .string ⟨#[]⟩, .bool false, .int .i64 0, .slice none 0 0] 58 (0,0)) := heap_new_at rfl _
 have hlib1 : LibOk (w.alloc (.cells #[.int .i64 0, .string ⟨#[]⟩, .slice none 0 0, .int .i64 0, .string ⟨#[]⟩, .bool false, .int .i64 0, .slice none 0 0] 58)) := hlib.fp (S := nob) ((FP.refl _ w).alloc _) (fun _ h => h.elim)
 have hC := caught_bad0 (w := w.alloc (.cells #[.int .i64 0, .string ⟨#[]⟩, .slice none 0 0, .int .i64 0, .string ⟨#[]⟩, .bool false, .int .i64 0, .slice none 0 0] 58)) hs hlib1 hrb hl hT hop
 have HC := Lib.hid hC
 have HRB := Lib.hid hrb
 have hmf : ∀ (fn : Fn) (first cap : Array Value) (w : World), (Instr.makeFunc fn first cap).run Tryz.prog w = .ok (.func fn first cap) w := fun _ _ _ _ => rfl
 clear hC hrb hlib hlib1 hs hl
 go_enter Tryz.func25, Tryz.ntmps25
 go_wp2_with fail
 refine HC.out.mono ?_
 rintro e w1 ⟨rfl, hf⟩
 have hb : w1.heap[w.heap.size]? = some (.cells #[.int .i64 0, .string ⟨#[]⟩, .slice none 0 0, .int .i64 0, .string ⟨#[]⟩, .bool false, .int .i64 0, .slice none 0 0] 58 (0,0)) := (hf.blk _ (lt_blk HRB.out) (fun h => h.elim)).trans HRB.out
 have hf2 : FP nob w w1 := ((FP.refl _ w).alloc _).trans hf (fun _ h => h.elim)
 have c0 : w1.cell? ⟨w.heap.size, 0, none⟩ = some (.int .i64 0) := cell_blk hb
 have f0 : w1.frozen? ⟨w.heap.size, 0, none⟩ = false := frz_blk hb
 have c1 : w1.cell? ⟨w.heap.size, 1, none⟩ = some (.string ⟨#[]⟩) := cell_blk hb
 have f1 : w1.frozen? ⟨w.heap.size, 1, none⟩ = false := frz_blk hb
 have c2 : w1.cell? ⟨w.heap.size, 2, none⟩ = some (.slice none 0 0) := cell_blk hb
 have f2 : w1.frozen? ⟨w.heap.size, 2, none⟩ = false := frz_blk hb
 have c3 : w1.cell? ⟨w.heap.size, 3, none⟩ = some (.int .i64 0) := cell_blk hb
 have f3 : w1.frozen? ⟨w.heap.size, 3, none⟩ = false := frz_blk hb
 have c4 : w1.cell? ⟨w.heap.size, 4, none⟩ = some (.string ⟨#[]⟩) := cell_blk hb
 have f4 : w1.frozen? ⟨w.heap.size, 4, none⟩ = false := frz_blk hb
 have c5 : w1.cell? ⟨w.heap.size, 5, none⟩ = some (.bool false) := cell_blk hb
 have f5 : w1.frozen? ⟨w.heap.size, 5, none⟩ = false := frz_blk hb
 have c6 : w1.cell? ⟨w.heap.size, 6, none⟩ = some (.int .i64 0) := cell_blk hb
 have f6 : w1.frozen? ⟨w.heap.size, 6, none⟩ = false := frz_blk hb
 have c7 : w1.cell? ⟨w.heap.size, 7, none⟩ = some (.slice none 0 0) := cell_blk hb
 have f7 : w1.frozen? ⟨w.heap.size, 7, none⟩ = false := frz_blk hb
 have HB := Lib.hid hb
 have HF2 := Lib.hid hf2
 clear hb hf hf2
 go_wp2_with fail
 have z0 : (put8 (put8 w1 w.heap.size (.int .i64 0) (.string ⟨#[]⟩) (.slice none 0 0) (.int .i64 0) (.string ⟨#[]⟩) (.bool false) (.int .i64 0) (.slice none 0 0)) w.heap.size (.int .i64 0) (.string ⟨#[]⟩) (.slice none 0 0) (.int .i64 0) (.string ⟨#[]⟩) (.bool false) (.int .i64 0) (.slice none 0 0)).heap[w.heap.size]? = some (.cells #[.int .i64 0, .string ⟨#[]⟩, .slice none 0 0, .int .i64 0, .string ⟨#[]⟩, .bool false, .int .i64 0, .slice none 0 0] 58 (0,0)) := put8_at (put8_at HB.out (.int .i64 0) (.string ⟨#[]⟩) (.slice none 0 0) (.int .i64 0) (.string ⟨#[]⟩) (.bool false) (.int .i64 0) (.slice none 0 0)) (.int .i64 0) (.string ⟨#[]⟩) (.slice none 0 0) (.int .i64 0) (.string ⟨#[]⟩) (.bool false) (.int .i64 0) (.slice none 0 0)
 have z1 : FP nob w (put8 (put8 w1 w.heap.size (.int .i64 0) (.string ⟨#[]⟩) (.slice none 0 0) (.int .i64 0) (.string ⟨#[]⟩) (.bool false) (.int .i64 0) (.slice none 0 0)) w.heap.size (.int .i64 0) (.string ⟨#[]⟩) (.slice none 0 0) (.int .i64 0) (.string ⟨#[]⟩) (.bool false) (.int .i64 0) (.slice none 0 0)) := (HF2.out.trans (put8_fp (S := fun i => i = w.heap.size) w1 _ (.int .i64 0) (.string ⟨#[]⟩) (.slice none 0 0) (.int .i64 0) (.string ⟨#[]⟩) (.bool false) (.int .i64 0) (.slice none 0 0) rfl) (fun i hi => .inr (by omega))).trans (put8_fp (S := fun i => i = w.heap.size) _ _ (.int .i64 0) (.string ⟨#[]⟩) (.slice none 0 0) (.int .i64 0) (.string ⟨#[]⟩) (.bool false) (.int .i64 0) (.slice none 0 0) rfl) (fun i hi => .inr (by omega))
 change bodyPost _ _ _ _ _ (put8 (put8 w1 w.heap.size (.int .i64 0) (.string ⟨#[]⟩) (.slice none 0 0) (.int .i64 0) (.string ⟨#[]⟩) (.bool false) (.int .i64 0) (.slice none 0 0)) w.heap.size (.int .i64 0) (.string ⟨#[]⟩) (.slice none 0 0) (.int .i64 0) (.string ⟨#[]⟩) (.bool false) (.int .i64 0) (.slice none 0 0))
 generalize put8 (put8 w1 w.heap.size (.int .i64 0) (.string ⟨#[]⟩) (.slice none 0 0) (.int .i64 0) (.string ⟨#[]⟩) (.bool false) (.int .i64 0) (.slice none 0 0)) w.heap.size (.int .i64 0) (.string ⟨#[]⟩) (.slice none 0 0) (.int .i64 0) (.string ⟨#[]⟩) (.bool false) (.int .i64 0) (.slice none 0 0) = wf at z0 z1 ⊢
 have r0 : wf.cell? ⟨w.heap.size, 0, none⟩ = some (.int .i64 0) := cell_blk z0
 have r1 : wf.cell? ⟨w.heap.size, 1, none⟩ = some (.string ⟨#[]⟩) := cell_blk z0
 have r2 : wf.cell? ⟨w.heap.size, 2, none⟩ = some (.slice none 0 0) := cell_blk z0
 have r3 : wf.cell? ⟨w.heap.size, 3, none⟩ = some (.int .i64 0) := cell_blk z0
 have r4 : wf.cell? ⟨w.heap.size, 4, none⟩ = some (.string ⟨#[]⟩) := cell_blk z0
 have r5 : wf.cell? ⟨w.heap.size, 5, none⟩ = some (.bool false) := cell_blk z0
 have r6 : wf.cell? ⟨w.heap.size, 6, none⟩ = some (.int .i64 0) := cell_blk z0
 have r7 : wf.cell? ⟨w.heap.size, 7, none⟩ = some (.slice none 0 0) := cell_blk z0
 refine bodyPost_ret (v := .tuple #[.agg #[.int .i64 0, .string ⟨#[]⟩, .slice none 0 0, .int .i64 0, .string ⟨#[]⟩, .bool false, .int .i64 0, .slice none 0 0], .bool true, .bool false]) (by simp [results, Tryz.results25, go_sem, r0, r1, r2, r3, r4, r5, r6, r7]) rfl ?_
 exact ⟨z1, rfl⟩
theorem line_bad1 {w : World} {s : ByteArray} (hs : s.size ≤ 1099511627776) (hlib : LibOk w) {T : List Lx} (hl : lexS s.data.toList = some T) (hT : T ≠ []) {op : OpV} {x : Lx} {r : List Lx} (hop : pOp T = some (op, x :: r)) : Calls Tryz.prog 25 #[.string s] w (LinePost w (none)) := by
 have hrb : (w.alloc (.cells #[.int .i64 0, .string ⟨#[]⟩, .slice none 0 0, .int .i64 0, .string ⟨#[]⟩, .bool false, .int .i64 0, .slice none 0 0] 58)).heap[w.heap.size]? = some (.cells #[.int .i64 0, .string ⟨#[]⟩, .slice none 0 0, .int .i64 0, .string ⟨#[]⟩, .bool false, .int .i64 0, .slice none 0 0] 58 (0,0)) := heap_new_at rfl _
 have hlib1 : LibOk (w.alloc (.cells #[.int .i64 0, .string ⟨#[]⟩, .slice none 0 0, .int .i64 0, .string ⟨#[]⟩, .bool false, .int .i64 0, .slice none 0 0] 58)) := hlib.fp (S := nob) ((FP.refl _ w).alloc _) (fun _ h => h.elim)
 have hC := caught_bad1 (w := w.alloc (.cells #[.int .i64 0, .string ⟨#[]⟩, .slice none 0 0, .int .i64 0, .string ⟨#[]⟩, .bool false, .int .i64 0, .slice none 0 0] 58)) hs hlib1 hrb hl hT hop
 have HC := Lib.hid hC
 have HRB := Lib.hid hrb
 have hmf : ∀ (fn : Fn) (first cap : Array Value) (w : World), (Instr.makeFunc fn first cap).run Tryz.prog w = .ok (.func fn first cap) w := fun _ _ _ _ => rfl
 clear hC hrb hlib hlib1 hs hl
 go_enter Tryz.func25, Tryz.ntmps25
 go_wp2_with fail
 refine HC.out.mono ?_
 rintro e w1 ⟨rfl, hf, c, hb, hrd⟩
 obtain ⟨kk, cl, a0, n0, s0, hh, t, on, n, a1, n1, s1, rfl⟩ := rdop_shape hrd
 have hf2 : FP nob w w1 := ((FP.refl _ w).alloc _).trans hf (fun i hi => .inr (by omega))
 have HRD := Lib.hid hrd
 have c0 : w1.cell? ⟨w.heap.size, 0, none⟩ = some (.int .i64 kk) := cell_blk hb
 have f0 : w1.frozen? ⟨w.heap.size, 0, none⟩ = false := frz_blk hb
 have c1 : w1.cell? ⟨w.heap.size, 1, none⟩ = some (.string cl) := cell_blk hb
 have f1 : w1.frozen? ⟨w.heap.size, 1, none⟩ = false := frz_blk hb
 have c2 : w1.cell? ⟨w.heap.size, 2, none⟩ = some (.slice a0 n0 s0) := cell_blk hb
 have f2 : w1.frozen? ⟨w.heap.size, 2, none⟩ = false := frz_blk hb
 have c3 : w1.cell? ⟨w.heap.size, 3, none⟩ = some (.int .i64 hh) := cell_blk hb
 have f3 : w1.frozen? ⟨w.heap.size, 3, none⟩ = false := frz_blk hb
 have c4 : w1.cell? ⟨w.heap.size, 4, none⟩ = some (.string t) := cell_blk hb
 have f4 : w1.frozen? ⟨w.heap.size, 4, none⟩ = false := frz_blk hb
 have c5 : w1.cell? ⟨w.heap.size, 5, none⟩ = some (.bool on) := cell_blk hb
 have f5 : w1.frozen? ⟨w.heap.size, 5, none⟩ = false := frz_blk hb
 have c6 : w1.cell? ⟨w.heap.size, 6, none⟩ = some (.int .i64 n) := cell_blk hb
 have f6 : w1.frozen? ⟨w.heap.size, 6, none⟩ = false := frz_blk hb
 have c7 : w1.cell? ⟨w.heap.size, 7, none⟩ = some (.slice a1 n1 s1) := cell_blk hb
 have f7 : w1.frozen? ⟨w.heap.size, 7, none⟩ = false := frz_blk hb
 have HB := Lib.hid hb
 have HF2 := Lib.hid hf2
 clear hb hf hf2 hrd
 go_wp2_with fail
 have z0 : (put8 (put8 w1 w.heap.size (.int .i64 0) (.string ⟨#[]⟩) (.slice none 0 0) (.int .i64 0) (.string ⟨#[]⟩) (.bool false) (.int .i64 0) (.slice none 0 0)) w.heap.size (.int .i64 0) (.string ⟨#[]⟩) (.slice none 0 0) (.int .i64 0) (.string ⟨#[]⟩) (.bool false) (.int .i64 0) (.slice none 0 0)).heap[w.heap.size]? = some (.cells #[.int .i64 0, .string ⟨#[]⟩, .slice none 0 0, .int .i64 0, .string ⟨#[]⟩, .bool false, .int .i64 0, .slice none 0 0] 58 (0,0)) := put8_at (put8_at HB.out (.int .i64 0) (.string ⟨#[]⟩) (.slice none 0 0) (.int .i64 0) (.string ⟨#[]⟩) (.bool false) (.int .i64 0) (.slice none 0 0)) (.int .i64 0) (.string ⟨#[]⟩) (.slice none 0 0) (.int .i64 0) (.string ⟨#[]⟩) (.bool false) (.int .i64 0) (.slice none 0 0)
 have z1 : FP nob w (put8 (put8 w1 w.heap.size (.int .i64 0) (.string ⟨#[]⟩) (.slice none 0 0) (.int .i64 0) (.string ⟨#[]⟩) (.bool false) (.int .i64 0) (.slice none 0 0)) w.heap.size (.int .i64 0) (.string ⟨#[]⟩) (.slice none 0 0) (.int .i64 0) (.string ⟨#[]⟩) (.bool false) (.int .i64 0) (.slice none 0 0)) := (HF2.out.trans (put8_fp (S := fun i => i = w.heap.size) w1 _ (.int .i64 0) (.string ⟨#[]⟩) (.slice none 0 0) (.int .i64 0) (.string ⟨#[]⟩) (.bool false) (.int .i64 0) (.slice none 0 0) rfl) (fun i hi => .inr (by omega))).trans (put8_fp (S := fun i => i = w.heap.size) _ _ (.int .i64 0) (.string ⟨#[]⟩) (.slice none 0 0) (.int .i64 0) (.string ⟨#[]⟩) (.bool false) (.int .i64 0) (.slice none 0 0) rfl) (fun i hi => .inr (by omega))
 change bodyPost _ _ _ _ _ (put8 (put8 w1 w.heap.size (.int .i64 0) (.string ⟨#[]⟩) (.slice none 0 0) (.int .i64 0) (.string ⟨#[]⟩) (.bool false) (.int .i64 0) (.slice none 0 0)) w.heap.size (.int .i64 0) (.string ⟨#[]⟩) (.slice none 0 0) (.int .i64 0) (.string ⟨#[]⟩) (.bool false) (.int .i64 0) (.slice none 0 0))
 generalize put8 (put8 w1 w.heap.size (.int .i64 0) (.string ⟨#[]⟩) (.slice none 0 0) (.int .i64 0) (.string ⟨#[]⟩) (.bool false) (.int .i64 0) (.slice none 0 0)) w.heap.size (.int .i64 0) (.string ⟨#[]⟩) (.slice none 0 0) (.int .i64 0) (.string ⟨#[]⟩) (.bool false) (.int .i64 0) (.slice none 0 0) = wf at z0 z1 ⊢
 have r0 : wf.cell? ⟨w.heap.size, 0, none⟩ = some (.int .i64 0) := cell_blk z0
 have r1 : wf.cell? ⟨w.heap.size, 1, none⟩ = some (.string ⟨#[]⟩) := cell_blk z0
 have r2 : wf.cell? ⟨w.heap.size, 2, none⟩ = some (.slice none 0 0) := cell_blk z0
 have r3 : wf.cell? ⟨w.heap.size, 3, none⟩ = some (.int .i64 0) := cell_blk z0
 have r4 : wf.cell? ⟨w.heap.size, 4, none⟩ = some (.string ⟨#[]⟩) := cell_blk z0
 have r5 : wf.cell? ⟨w.heap.size, 5, none⟩ = some (.bool false) := cell_blk z0
 have r6 : wf.cell? ⟨w.heap.size, 6, none⟩ = some (.int .i64 0) := cell_blk z0
 have r7 : wf.cell? ⟨w.heap.size, 7, none⟩ = some (.slice none 0 0) := cell_blk z0
 refine bodyPost_ret (v := .tuple #[.agg #[.int .i64 0, .string ⟨#[]⟩, .slice none 0 0, .int .i64 0, .string ⟨#[]⟩, .bool false, .int .i64 0, .slice none 0 0], .bool true, .bool false]) (by simp [results, Tryz.results25, go_sem, r0, r1, r2, r3, r4, r5, r6, r7]) rfl ?_
 exact ⟨z1, rfl⟩
theorem line_good {w : World} {s : ByteArray} (hs : s.size ≤ 1099511627776) (hlib : LibOk w) {T : List Lx} (hl : lexS s.data.toList = some T) (hT : T ≠ []) {op : OpV} (hop : pOp T = some (op, [])) : Calls Tryz.prog 25 #[.string s] w (LinePost w (some (some op))) := by
 have hrb : (w.alloc (.cells #[.int .i64 0, .string ⟨#[]⟩, .slice none 0 0, .int .i64 0, .string ⟨#[]⟩, .bool false, .int .i64 0, .slice none 0 0] 58)).heap[w.heap.size]? = some (.cells #[.int .i64 0, .string ⟨#[]⟩, .slice none 0 0, .int .i64 0, .string ⟨#[]⟩, .bool false, .int .i64 0, .slice none 0 0] 58 (0,0)) := heap_new_at rfl _
 have hlib1 : LibOk (w.alloc (.cells #[.int .i64 0, .string ⟨#[]⟩, .slice none 0 0, .int .i64 0, .string ⟨#[]⟩, .bool false, .int .i64 0, .slice none 0 0] 58)) := hlib.fp (S := nob) ((FP.refl _ w).alloc _) (fun _ h => h.elim)
 have hC := caught_good (w := w.alloc (.cells #[.int .i64 0, .string ⟨#[]⟩, .slice none 0 0, .int .i64 0, .string ⟨#[]⟩, .bool false, .int .i64 0, .slice none 0 0] 58)) hs hlib1 hrb hl hT hop
 have HC := Lib.hid hC
 have HRB := Lib.hid hrb
 have hmf : ∀ (fn : Fn) (first cap : Array Value) (w : World), (Instr.makeFunc fn first cap).run Tryz.prog w = .ok (.func fn first cap) w := fun _ _ _ _ => rfl
 clear hC hrb hlib hlib1 hs hl
 go_enter Tryz.func25, Tryz.ntmps25
 go_wp2_with fail
 refine HC.out.mono ?_
 rintro e w1 ⟨rfl, hf, c, hb, hrd⟩
 obtain ⟨kk, cl, a0, n0, s0, hh, t, on, n, a1, n1, s1, rfl⟩ := rdop_shape hrd
 have hf2 : FP nob w w1 := ((FP.refl _ w).alloc _).trans hf (fun i hi => .inr (by omega))
 have HRD := Lib.hid hrd
 have c0 : w1.cell? ⟨w.heap.size, 0, none⟩ = some (.int .i64 kk) := cell_blk hb
 have f0 : w1.frozen? ⟨w.heap.size, 0, none⟩ = false := frz_blk hb
 have c1 : w1.cell? ⟨w.heap.size, 1, none⟩ = some (.string cl) := cell_blk hb
 have f1 : w1.frozen? ⟨w.heap.size, 1, none⟩ = false := frz_blk hb
 have c2 : w1.cell? ⟨w.heap.size, 2, none⟩ = some (.slice a0 n0 s0) := cell_blk hb
 have f2 : w1.frozen? ⟨w.heap.size, 2, none⟩ = false := frz_blk hb
 have c3 : w1.cell? ⟨w.heap.size, 3, none⟩ = some (.int .i64 hh) := cell_blk hb
 have f3 : w1.frozen? ⟨w.heap.size, 3, none⟩ = false := frz_blk hb
 have c4 : w1.cell? ⟨w.heap.size, 4, none⟩ = some (.string t) := cell_blk hb
 have f4 : w1.frozen? ⟨w.heap.size, 4, none⟩ = false := frz_blk hb
 have c5 : w1.cell? ⟨w.heap.size, 5, none⟩ = some (.bool on) := cell_blk hb
 have f5 : w1.frozen? ⟨w.heap.size, 5, none⟩ = false := frz_blk hb
 have c6 : w1.cell? ⟨w.heap.size, 6, none⟩ = some (.int .i64 n) := cell_blk hb
 have f6 : w1.frozen? ⟨w.heap.size, 6, none⟩ = false := frz_blk hb
 have c7 : w1.cell? ⟨w.heap.size, 7, none⟩ = some (.slice a1 n1 s1) := cell_blk hb
 have f7 : w1.frozen? ⟨w.heap.size, 7, none⟩ = false := frz_blk hb
 have HB := Lib.hid hb
 have HF2 := Lib.hid hf2
 clear hb hf hf2 hrd
 go_wp2_with fail
 have z0 : (put8 w1 w.heap.size (.int .i64 kk) (.string cl) (.slice a0 n0 s0) (.int .i64 hh) (.string t) (.bool on) (.int .i64 n) (.slice a1 n1 s1)).heap[w.heap.size]? = some (.cells #[.int .i64 kk, .string cl, .slice a0 n0 s0, .int .i64 hh, .string t, .bool on, .int .i64 n, .slice a1 n1 s1] 58 (0,0)) := put8_at HB.out (.int .i64 kk) (.string cl) (.slice a0 n0 s0) (.int .i64 hh) (.string t) (.bool on) (.int .i64 n) (.slice a1 n1 s1)
 have z1 : FP nob w (put8 w1 w.heap.size (.int .i64 kk) (.string cl) (.slice a0 n0 s0) (.int .i64 hh) (.string t) (.bool on) (.int .i64 n) (.slice a1 n1 s1)) := HF2.out.trans (put8_fp (S := fun i => i = w.heap.size) w1 _ (.int .i64 kk) (.string cl) (.slice a0 n0 s0) (.int .i64 hh) (.string t) (.bool on) (.int .i64 n) (.slice a1 n1 s1) rfl) (fun i hi => .inr (by omega))
 have z2 : RdOp (put8 w1 w.heap.size (.int .i64 kk) (.string cl) (.slice a0 n0 s0) (.int .i64 hh) (.string t) (.bool on) (.int .i64 n) (.slice a1 n1 s1)) (fun b => w.heap.size ≤ b) [.int .i64 kk, .string cl, .slice a0 n0 s0, .int .i64 hh, .string t, .bool on, .int .i64 n, .slice a1 n1 s1] op := RdOp.trans' (fun g hg _ => by have hg' : (w.alloc (.cells #[.int .i64 0, .string ⟨#[]⟩, .slice none 0 0, .int .i64 0, .string ⟨#[]⟩, .bool false, .int .i64 0, .slice none 0 0] 58)).heap.size ≤ g := hg; simp at hg'; exact ⟨put8_ne _ _ _ _ _ _ _ _ _ _ (by omega), by omega⟩) HRD.out
 change bodyPost _ _ _ _ _ (put8 w1 w.heap.size (.int .i64 kk) (.string cl) (.slice a0 n0 s0) (.int .i64 hh) (.string t) (.bool on) (.int .i64 n) (.slice a1 n1 s1))
 generalize put8 w1 w.heap.size (.int .i64 kk) (.string cl) (.slice a0 n0 s0) (.int .i64 hh) (.string t) (.bool on) (.int .i64 n) (.slice a1 n1 s1) = wf at z0 z1 z2 ⊢
 have r0 : wf.cell? ⟨w.heap.size, 0, none⟩ = some (.int .i64 kk) := cell_blk z0
 have r1 : wf.cell? ⟨w.heap.size, 1, none⟩ = some (.string cl) := cell_blk z0
 have r2 : wf.cell? ⟨w.heap.size, 2, none⟩ = some (.slice a0 n0 s0) := cell_blk z0
 have r3 : wf.cell? ⟨w.heap.size, 3, none⟩ = some (.int .i64 hh) := cell_blk z0
 have r4 : wf.cell? ⟨w.heap.size, 4, none⟩ = some (.string t) := cell_blk z0
 have r5 : wf.cell? ⟨w.heap.size, 5, none⟩ = some (.bool on) := cell_blk z0
 have r6 : wf.cell? ⟨w.heap.size, 6, none⟩ = some (.int .i64 n) := cell_blk z0
 have r7 : wf.cell? ⟨w.heap.size, 7, none⟩ = some (.slice a1 n1 s1) := cell_blk z0
 refine bodyPost_ret (v := .tuple #[.agg #[.int .i64 kk, .string cl, .slice a0 n0 s0, .int .i64 hh, .string t, .bool on, .int .i64 n, .slice a1 n1 s1], .bool true, .bool true]) (by simp [results, Tryz.results25, go_sem, r0, r1, r2, r3, r4, r5, r6, r7]) rfl ?_
 exact ⟨z1, _, rfl, z2⟩
theorem line_any {w : World} {s : ByteArray} (hs : s.size ≤ 1099511627776) (hlib : LibOk w) : Calls Tryz.prog 25 #[.string s] w (LinePost w (lineF s.data.toList)) := by
 unfold lineF
 rcases hl : lexS s.data.toList with _ | ⟨_ | ⟨x, l⟩⟩
 ·exact line_lexless hs hlib hl
 ·exact line_empty hs hlib hl
 ·simp only
  rcases hop : pOp (x :: l) with _ | ⟨op, _ | ⟨y, r⟩⟩
  ·exact line_bad0 hs hlib hl (by simp) hop
  ·exact line_good hs hlib hl (by simp) hop
  ·exact line_bad1 hs hlib hl (by simp) hop
end Go.Proofs.YtnpkdiffpgcbhaaGreatDoor
