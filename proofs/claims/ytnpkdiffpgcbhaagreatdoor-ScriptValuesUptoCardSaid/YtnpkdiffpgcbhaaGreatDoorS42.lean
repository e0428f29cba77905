/- The parser, walked (ParZb). Conditions: each theorem's own. -/
import Derived.Test.YtnpkdiffpgcbhaaGreatDoorS41
set_option maxRecDepth 100000
set_option maxHeartbeats 1600000
namespace Go.Proofs.YtnpkdiffpgcbhaaGreatDoor
open Go.RowKit
attribute [local go_sem] Oper.semAt_some
theorem caught_bad0 {w : World} {rb : Nat} {s : ByteArray} (hs : s.size ≤ 1099511627776) (hlib : LibOk w) (hrb : w.heap[rb]? = some (.cells #[.int .i64 0, .string ⟨#[]⟩, .slice none 0 0, .int .i64 0, .string ⟨#[]⟩, .bool false, .int .i64 0, .slice none 0 0] 58 (0,0))) {T : List Lx} (hl : lexS s.data.toList = some T) (hT : T ≠ []) (hop : pOp T = none) :
  Calls Tryz.prog 46 #[.string s, .func (.func 54) #[] #[.pointer (some ⟨rb, 0, none⟩)]] w fun e w' => e = .returned (.tuple #[.bool true, .bool false]) ∧ FP nob w w' := by
 have HL := Lib.hid (long_any s ((w.alloc (.cells #[.bool false] 4)).alloc (.cells #[.bool false] 4)) hs)
 have hgood := lexS_good hl (by have : s.data.toList.length = s.size := rfl; omega)
 have HG := Lib.hid hgood
 have HN := Lib.hid hl
 have HO := Lib.hid hop
 have HLB := Lib.hid hlib
 have HRB := Lib.hid hrb
 have hrw := lt_blk hrb
 have hTl : 0 < T.length := List.length_pos_iff.2 hT
 have hmf : ∀ (fn : Fn) (first cap : Array Value) (w : World), (Instr.makeFunc fn first cap).run Tryz.prog w = .ok (.func fn first cap) w := fun _ _ _ _ => rfl
 clear hl hs hgood hlib hrb hop hT
 go_enter_defers Tryz.func46, Tryz.ntmps46
 go_wp2_with fail
 refine HL.out.mono ?_
 rintro e w1 ⟨hb, hm⟩
 rw [HN.out] at hm
 obtain ⟨v, xs, rfl, hown, hrow⟩ := hm
 obtain ⟨ao, cap, rfl⟩ := own_shape1 hown
 have h0 : ((w.alloc (.cells #[.bool false] 4)).alloc (.cells #[.bool false] 4)).heap[w.heap.size]? = some (.cells #[.bool false] 4 (0,0)) := (heap_alloc_ne (by simp)).trans (heap_new_at rfl _)
 have h1 : ((w.alloc (.cells #[.bool false] 4)).alloc (.cells #[.bool false] 4)).heap[w.heap.size + 1]? = some (.cells #[.bool false] 4 (0,0)) := heap_new_at (by simp) _
 have q0 := (hb.block _ (lt_blk h0)).trans h0
 have q1 := (hb.block _ (lt_blk h1)).trans h1
 have hf : FP nob w w1 := (((FP.refl _ w).alloc _).alloc _).trans (FP.ofBelow (S := nob) hb) (fun _ h => h.elim)
 have hwl : w.heap.size + 1 < w1.heap.size := lt_blk q1
 obtain ⟨N, hN⟩ : ∃ N, T.length = N := ⟨_, rfl⟩
 have hp : PAt (w1.alloc (.cells #[.slice ao T.length cap, .int .i64 (0 : Nat)] 135)) w1.heap.size T 0 := by
  have hlb : LibOk w1 := HLB.out.fp hf (fun _ h => h.elim)
  have hsl : SliceAt w1 (fun b => ((w.alloc (.cells #[.bool false] 4)).alloc (.cells #[.bool false] 4)).heap.size ≤ b) (.slice ao T.length cap) T.length (T.length * 4) xs := SliceAt.own hown
  refine ⟨⟨_, xs, heap_new_at rfl _, ((hsl.wide (G := fun g => g < w1.heap.size) (fun g _ hgl => hgl)).frame (fun g hg hgl => heap_alloc_ne (by omega))), hrow⟩, Nat.zero_le _, HG.out, hlb.fp (S := nob) ((FP.refl _ w1).alloc _) (fun _ h => h.elim), hlb.size⟩
 have hrb1 : (w1.alloc (.cells #[.slice ao T.length cap, .int .i64 (0 : Nat)] 135)).heap[rb]? = some (.cells #[.int .i64 0, .string ⟨#[]⟩, .slice none 0 0, .int .i64 0, .string ⟨#[]⟩, .bool false, .int .i64 0, .slice none 0 0] 58 (0,0)) := (heap_alloc_ne (by omega)).trans ((hf.blk _ hrw (fun h => h.elim)).trans HRB.out)
 have hc := line1_any hp (by omega : rb < w1.heap.size) hrb1
 rw [List.drop_zero, HO.out] at hc
 rw [hN] at hc
 have HC := Lib.hid hc
 have hN4 : N ≤ 4096 := by rw [← hN]; exact HG.out.len
 have hTN : (N == 0) = false := by rw [beq_eq_false_iff_ne]; omega
 have hf2 : FP nob w (w1.alloc (.cells #[.slice ao N cap, .int .i64 (0 : Nat)] 135)) := hf.alloc _
 have k0 : (w1.alloc (.cells #[.slice ao N cap, .int .i64 (0 : Nat)] 135)).heap[w.heap.size]? = some (.cells #[.bool false] 4 (0,0)) := (heap_alloc_ne (by omega)).trans q0
 have k1 : (w1.alloc (.cells #[.slice ao N cap, .int .i64 (0 : Nat)] 135)).heap[w.heap.size + 1]? = some (.cells #[.bool false] 4 (0,0)) := (heap_alloc_ne (by omega)).trans q1
 have HF := Lib.hid hf2
 have HK0 := Lib.hid k0
 have HK1 := Lib.hid k1
 have HNN := Lib.hid hN
 rw [hN] at hTl ⊢
 have hN0 : ¬ (N = 0) := by omega
 clear hb h0 h1 q0 q1 hf hp hrb1 hc hf2 k0 k1 hN hown hrow
 go_wp2_with fail
 refine HC.out.mono ?_
 rintro e w2 ⟨rfl, hf⟩
 have hqa := (hf.blk _ (lt_blk HK0.out) (by omega)).trans HK0.out
 have hqb := (hf.blk _ (lt_blk HK1.out) (by omega)).trans HK1.out
 have QA := Lib.hid hqa
 have QB := Lib.hid hqb
 have HF2 : Hid (FP nob w w2) := Lib.hid (HF.out.trans hf (fun i hi => .inr (by omega)))
 clear hqa hqb hf
 refine leaves_cons (f := 71) (args := #[.pointer (some ⟨w.heap.size, 0, none⟩), .pointer (some ⟨w.heap.size + 1, 0, none⟩)]) (by simp) (by simp [go_sem]) ?_
 refine (catch_panicking w.heap.size (w.heap.size + 1) w2 QA.out QB.out (by omega)).mono ?_
 rintro e u' w9 ⟨rfl, rfl, hf9, z0, z1⟩
 have r0 : w9.cell? ⟨w.heap.size, 0, none⟩ = some (.bool true) := cell_blk z0
 have r1 : w9.cell? ⟨w.heap.size + 1, 0, none⟩ = some (.bool false) := cell_blk z1
 simp [Leaves, settle, results, Tryz.results46, go_sem, r0, r1]
 exact HF2.out.trans hf9 (fun i hi => .inr (by omega))
theorem caught_bad1 {w : World} {rb : Nat} {s : ByteArray} (hs : s.size ≤ 1099511627776) (hlib : LibOk w) (hrb : w.heap[rb]? = some (.cells #[.int .i64 0, .string ⟨#[]⟩, .slice none 0 0, .int .i64 0, .string ⟨#[]⟩, .bool false, .int .i64 0, .slice none 0 0] 58 (0,0))) {T : List Lx} (hl : lexS s.data.toList = some T) (hT : T ≠ []) {op : OpV} {x : Lx} {r : List Lx} (hop : pOp T = some (op, x :: r)) :
  Calls Tryz.prog 46 #[.string s, .func (.func 54) #[] #[.pointer (some ⟨rb, 0, none⟩)]] w fun e w' => e = .returned (.tuple #[.bool true, .bool false]) ∧ FP (fun i => i = rb) w w' ∧ ∃ c, w'.heap[rb]? = some (.cells (List.toArray c) 58 (0,0)) ∧ RdOp w' (fun b => w.heap.size ≤ b) c op := by
 have HL := Lib.hid (long_any s ((w.alloc (.cells #[.bool false] 4)).alloc (.cells #[.bool false] 4)) hs)
 have hgood := lexS_good hl (by have : s.data.toList.length = s.size := rfl; omega)
 have HG := Lib.hid hgood
 have HN := Lib.hid hl
 have HO := Lib.hid hop
 have HLB := Lib.hid hlib
 have HRB := Lib.hid hrb
 have hrw := lt_blk hrb
 have hTl : 0 < T.length := List.length_pos_iff.2 hT
 have hmf : ∀ (fn : Fn) (first cap : Array Value) (w : World), (Instr.makeFunc fn first cap).run Tryz.prog w = .ok (.func fn first cap) w := fun _ _ _ _ => rfl
 clear hl hs hgood hlib hrb hop hT
 go_enter_defers Tryz.func46, Tryz.ntmps46
 go_wp2_with fail
 refine HL.out.mono ?_
 rintro e w1 ⟨hb, hm⟩
 rw [HN.out] at hm
 obtain ⟨v, xs, rfl, hown, hrow⟩ := hm
 obtain ⟨ao, cap, rfl⟩ := own_shape1 hown
 have h0 : ((w.alloc (.cells #[.bool false] 4)).alloc (.cells #[.bool false] 4)).heap[w.heap.size]? = some (.cells #[.bool false] 4 (0,0)) := (heap_alloc_ne (by simp)).trans (heap_new_at rfl _)
 have h1 : ((w.alloc (.cells #[.bool false] 4)).alloc (.cells #[.bool false] 4)).heap[w.heap.size + 1]? = some (.cells #[.bool false] 4 (0,0)) := heap_new_at (by simp) _
 have q0 := (hb.block _ (lt_blk h0)).trans h0
 have q1 := (hb.block _ (lt_blk h1)).trans h1
 have hf : FP nob w w1 := (((FP.refl _ w).alloc _).alloc _).trans (FP.ofBelow (S := nob) hb) (fun _ h => h.elim)
 have hwl : w.heap.size + 1 < w1.heap.size := lt_blk q1
 obtain ⟨N, hN⟩ : ∃ N, T.length = N := ⟨_, rfl⟩
 have hp : PAt (w1.alloc (.cells #[.slice ao T.length cap, .int .i64 (0 : Nat)] 135)) w1.heap.size T 0 := by
  have hlb : LibOk w1 := HLB.out.fp hf (fun _ h => h.elim)
  have hsl : SliceAt w1 (fun b => ((w.alloc (.cells #[.bool false] 4)).alloc (.cells #[.bool false] 4)).heap.size ≤ b) (.slice ao T.length cap) T.length (T.length * 4) xs := SliceAt.own hown
  refine ⟨⟨_, xs, heap_new_at rfl _, ((hsl.wide (G := fun g => g < w1.heap.size) (fun g _ hgl => hgl)).frame (fun g hg hgl => heap_alloc_ne (by omega))), hrow⟩, Nat.zero_le _, HG.out, hlb.fp (S := nob) ((FP.refl _ w1).alloc _) (fun _ h => h.elim), hlb.size⟩
 have hrb1 : (w1.alloc (.cells #[.slice ao T.length cap, .int .i64 (0 : Nat)] 135)).heap[rb]? = some (.cells #[.int .i64 0, .string ⟨#[]⟩, .slice none 0 0, .int .i64 0, .string ⟨#[]⟩, .bool false, .int .i64 0, .slice none 0 0] 58 (0,0)) := (heap_alloc_ne (by omega)).trans ((hf.blk _ hrw (fun h => h.elim)).trans HRB.out)
 have hc := line1_any hp (by omega : rb < w1.heap.size) hrb1
 rw [List.drop_zero, HO.out] at hc
 rw [hN] at hc
 have HC := Lib.hid hc
 have hN4 : N ≤ 4096 := by rw [← hN]; exact HG.out.len
 have hTN : (N == 0) = false := by rw [beq_eq_false_iff_ne]; omega
 have hf2 : FP nob w (w1.alloc (.cells #[.slice ao N cap, .int .i64 (0 : Nat)] 135)) := hf.alloc _
 have k0 : (w1.alloc (.cells #[.slice ao N cap, .int .i64 (0 : Nat)] 135)).heap[w.heap.size]? = some (.cells #[.bool false] 4 (0,0)) := (heap_alloc_ne (by omega)).trans q0
 have k1 : (w1.alloc (.cells #[.slice ao N cap, .int .i64 (0 : Nat)] 135)).heap[w.heap.size + 1]? = some (.cells #[.bool false] 4 (0,0)) := (heap_alloc_ne (by omega)).trans q1
 have HF := Lib.hid hf2
 have HK0 := Lib.hid k0
 have HK1 := Lib.hid k1
 have HNN := Lib.hid hN
 rw [hN] at hTl ⊢
 have hN0 : ¬ (N = 0) := by omega
 clear hb h0 h1 q0 q1 hf hp hrb1 hc hf2 k0 k1 hN hown hrow
 go_wp2_with fail
 refine HC.out.mono ?_
 rintro e w2 ⟨rfl, k', c, hr, hk1, hk2, ⟨sl, hsl⟩, hf, hrb2, hrd⟩
 have hqa := (hf.blk _ (lt_blk HK0.out) (by omega)).trans HK0.out
 have hqb := (hf.blk _ (lt_blk HK1.out) (by omega)).trans HK1.out
 have QA := Lib.hid hqa
 have QB := Lib.hid hqb
 have HF2 : Hid (FP (fun i => i = rb) w w2) := Lib.hid ((HF.out.mono (fun _ h => h.elim)).trans hf (fun i hi => by rcases hi with h | h; exact .inr (by omega); exact .inl h))
 have HRB2 := Lib.hid hrb2
 have HRD : Hid (RdOp w2 (fun b => w1.heap.size < b) c op) := Lib.hid (RdOp.trans' (fun g hg _ => ⟨rfl, by have hg' : (w1.alloc (.cells #[.slice ao N cap, .int .i64 (0 : Nat)] 135)).heap.size ≤ g := hg; simp at hg'; omega⟩) hrd)
 have x1 : w2.cell? ⟨w1.heap.size, 1, none⟩ = some (.int .i64 k') := cell_blk hsl
 clear hqa hqb hf hrb2 hrd hsl hk1 hk2
 have hne : ¬ (k' = N) := by
  intro e0
  rw [e0, List.drop_eq_nil_of_le (by rw [HNN.out]; exact Nat.le_refl _)] at hr
  cases hr
 have hcmp : ((k' : Int) == (N : Int)) = false := by rw [beq_eq_false_iff_ne]; omega
 clear hr
 go_wp2_with (go_at_call 57; refine (need_false _).mono ?_; rintro e w9 ⟨rfl, rfl⟩)
 refine leaves_cons (f := 71) (args := #[.pointer (some ⟨w.heap.size, 0, none⟩), .pointer (some ⟨w.heap.size + 1, 0, none⟩)]) (by simp) (by simp [go_sem]) ?_
 refine (catch_panicking w.heap.size (w.heap.size + 1) w2 QA.out QB.out (by omega)).mono ?_
 rintro e u' w9 ⟨rfl, rfl, hf9, z0, z1⟩
 have r0 : w9.cell? ⟨w.heap.size, 0, none⟩ = some (.bool true) := cell_blk z0
 have r1 : w9.cell? ⟨w.heap.size + 1, 0, none⟩ = some (.bool false) := cell_blk z1
 simp [Leaves, settle, results, Tryz.results46, go_sem, r0, r1]
 exact ⟨HF2.out.trans hf9 (fun i hi => .inr (by omega)), c, (hf9.blk _ (lt_blk HRB2.out) (by omega)).trans HRB2.out, RdOp.trans' (fun g hg hgl => by have hg' : w1.heap.size < g := hg; exact ⟨hf9.blk _ hgl (by omega), by omega⟩) HRD.out⟩
theorem caught_good {w : World} {rb : Nat} {s : ByteArray} (hs : s.size ≤ 1099511627776) (hlib : LibOk w) (hrb : w.heap[rb]? = some (.cells #[.int .i64 0, .string ⟨#[]⟩, .slice none 0 0, .int .i64 0, .string ⟨#[]⟩, .bool false, .int .i64 0, .slice none 0 0] 58 (0,0))) {T : List Lx} (hl : lexS s.data.toList = some T) (hT : T ≠ []) {op : OpV} (hop : pOp T = some (op, [])) :
  Calls Tryz.prog 46 #[.string s, .func (.func 54) #[] #[.pointer (some ⟨rb, 0, none⟩)]] w fun e w' => e = .returned (.tuple #[.bool true, .bool true]) ∧ FP (fun i => i = rb) w w' ∧ ∃ c, w'.heap[rb]? = some (.cells (List.toArray c) 58 (0,0)) ∧ RdOp w' (fun b => w.heap.size ≤ b) c op := by
 have HL := Lib.hid (long_any s ((w.alloc (.cells #[.bool false] 4)).alloc (.cells #[.bool false] 4)) hs)
 have hgood := lexS_good hl (by have : s.data.toList.length = s.size := rfl; omega)
 have HG := Lib.hid hgood
 have HN := Lib.hid hl
 have HO := Lib.hid hop
 have HLB := Lib.hid hlib
 have HRB := Lib.hid hrb
 have hrw := lt_blk hrb
 have hTl : 0 < T.length := List.length_pos_iff.2 hT
 have hmf : ∀ (fn : Fn) (first cap : Array Value) (w : World), (Instr.makeFunc fn first cap).run Tryz.prog w = .ok (.func fn first cap) w := fun _ _ _ _ => rfl
 clear hl hs hgood hlib hrb hop hT
 go_enter_defers Tryz.func46, Tryz.ntmps46
 go_wp2_with fail
 refine HL.out.mono ?_
 rintro e w1 ⟨hb, hm⟩
 rw [HN.out] at hm
 obtain ⟨v, xs, rfl, hown, hrow⟩ := hm
 obtain ⟨ao, cap, rfl⟩ := own_shape1 hown
 have h0 : ((w.alloc (.cells #[.bool false] 4)).alloc (.cells #[.bool false] 4)).heap[w.heap.size]? = some (.cells #[.bool false] 4 (0,0)) := (heap_alloc_ne (by simp)).trans (heap_new_at rfl _)
 have h1 : ((w.alloc (.cells #[.bool false] 4)).alloc (.cells #[.bool false] 4)).heap[w.heap.size + 1]? = some (.cells #[.bool false] 4 (0,0)) := heap_new_at (by simp) _
 have q0 := (hb.block _ (lt_blk h0)).trans h0
 have q1 := (hb.block _ (lt_blk h1)).trans h1
 have hf : FP nob w w1 := (((FP.refl _ w).alloc _).alloc _).trans (FP.ofBelow (S := nob) hb) (fun _ h => h.elim)
 have hwl : w.heap.size + 1 < w1.heap.size := lt_blk q1
 obtain ⟨N, hN⟩ : ∃ N, T.length = N := ⟨_, rfl⟩
 have hp : PAt (w1.alloc (.cells #[.slice ao T.length cap, .int .i64 (0 : Nat)] 135)) w1.heap.size T 0 := by
  have hlb : LibOk w1 := HLB.out.fp hf (fun _ h => h.elim)
  have hsl : SliceAt w1 (fun b => ((w.alloc (.cells #[.bool false] 4)).alloc (.cells #[.bool false] 4)).heap.size ≤ b) (.slice ao T.length cap) T.length (T.length * 4) xs := SliceAt.own hown
  refine ⟨⟨_, xs, heap_new_at rfl _, ((hsl.wide (G := fun g => g < w1.heap.size) (fun g _ hgl => hgl)).frame (fun g hg hgl => heap_alloc_ne (by omega))), hrow⟩, Nat.zero_le _, HG.out, hlb.fp (S := nob) ((FP.refl _ w1).alloc _) (fun _ h => h.elim), hlb.size⟩
 have hrb1 : (w1.alloc (.cells #[.slice ao T.length cap, .int .i64 (0 : Nat)] 135)).heap[rb]? = some (.cells #[.int .i64 0, .string ⟨#[]⟩, .slice none 0 0, .int .i64 0, .string ⟨#[]⟩, .bool false, .int .i64 0, .slice none 0 0] 58 (0,0)) := (heap_alloc_ne (by omega)).trans ((hf.blk _ hrw (fun h => h.elim)).trans HRB.out)
 have hc := line1_any hp (by omega : rb < w1.heap.size) hrb1
 rw [List.drop_zero, HO.out] at hc
 rw [hN] at hc
 have HC := Lib.hid hc
 have hN4 : N ≤ 4096 := by rw [← hN]; exact HG.out.len
 have hTN : (N == 0) = false := by rw [beq_eq_false_iff_ne]; omega
 have hf2 : FP nob w (w1.alloc (.cells #[.slice ao N cap, .int .i64 (0 : Nat)] 135)) := hf.alloc _
 have k0 : (w1.alloc (.cells #[.slice ao N cap, .int .i64 (0 : Nat)] 135)).heap[w.heap.size]? = some (.cells #[.bool false] 4 (0,0)) := (heap_alloc_ne (by omega)).trans q0
 have k1 : (w1.alloc (.cells #[.slice ao N cap, .int .i64 (0 : Nat)] 135)).heap[w.heap.size + 1]? = some (.cells #[.bool false] 4 (0,0)) := (heap_alloc_ne (by omega)).trans q1
 have HF := Lib.hid hf2
 have HK0 := Lib.hid k0
 have HK1 := Lib.hid k1
 have HNN := Lib.hid hN
 rw [hN] at hTl ⊢
 have hN0 : ¬ (N = 0) := by omega
 clear hb h0 h1 q0 q1 hf hp hrb1 hc hf2 k0 k1 hN hown hrow
 go_wp2_with fail
 refine HC.out.mono ?_
 rintro e w2 ⟨rfl, k', c, hr, hk1, hk2, ⟨sl, hsl⟩, hf, hrb2, hrd⟩
 have hqa := (hf.blk _ (lt_blk HK0.out) (by omega)).trans HK0.out
 have hqb := (hf.blk _ (lt_blk HK1.out) (by omega)).trans HK1.out
 have QA := Lib.hid hqa
 have QB := Lib.hid hqb
 have HF2 : Hid (FP (fun i => i = rb) w w2) := Lib.hid ((HF.out.mono (fun _ h => h.elim)).trans hf (fun i hi => by rcases hi with h | h; exact .inr (by omega); exact .inl h))
 have HRB2 := Lib.hid hrb2
 have HRD : Hid (RdOp w2 (fun b => w1.heap.size < b) c op) := Lib.hid (RdOp.trans' (fun g hg _ => ⟨rfl, by have hg' : (w1.alloc (.cells #[.slice ao N cap, .int .i64 (0 : Nat)] 135)).heap.size ≤ g := hg; simp at hg'; omega⟩) hrd)
 have x1 : w2.cell? ⟨w1.heap.size, 1, none⟩ = some (.int .i64 k') := cell_blk hsl
 clear hqa hqb hf hrb2 hrd hsl
 have hkN : k' = N := by
  have h1 := congrArg List.length hr
  simp only [List.length_nil, List.length_drop] at h1
  rw [← HNN.out]; omega
 subst hkN
 have hcmp : ((k' : Int) == (k' : Int)) = true := by simp
 clear hr hk1 hk2
 have a0 : w2.cell? ⟨w.heap.size, 0, none⟩ = some (.bool false) := cell_blk QA.out
 have a1 : w2.frozen? ⟨w.heap.size, 0, none⟩ = false := frz_blk QA.out
 have b0 : w2.cell? ⟨w.heap.size + 1, 0, none⟩ = some (.bool false) := cell_blk QB.out
 have b1 : w2.frozen? ⟨w.heap.size + 1, 0, none⟩ = false := frz_blk QB.out
 go_wp2_with (go_at_call 57; refine (need_true _).mono ?_; rintro e w9 ⟨rfl, rfl⟩)
 obtain ⟨z0, z1, z2⟩ := two_set QA.out QB.out HF2.out (.bool true) (.bool true)
 have z3 : ((w2.setCell ⟨w.heap.size, 0, none⟩ (.bool true)).setCell ⟨w.heap.size + 1, 0, none⟩ (.bool true)).heap[rb]? = some (.cells (List.toArray c) 58 (0,0)) := (heap_set_ne (by show rb ≠ w.heap.size + 1; omega)).trans ((heap_set_ne (by show rb ≠ w.heap.size; omega)).trans HRB2.out)
 have z4 : RdOp ((w2.setCell ⟨w.heap.size, 0, none⟩ (.bool true)).setCell ⟨w.heap.size + 1, 0, none⟩ (.bool true)) (fun b => w.heap.size ≤ b) c op := RdOp.trans' (fun g hg _ => by have hg' : w1.heap.size < g := hg; exact ⟨(heap_set_ne (by show g ≠ w.heap.size + 1; omega)).trans (heap_set_ne (by show g ≠ w.heap.size; omega)), by omega⟩) HRD.out
 generalize (w2.setCell ⟨w.heap.size, 0, none⟩ (.bool true)).setCell ⟨w.heap.size + 1, 0, none⟩ (.bool true) = wf at z0 z1 z2 z3 z4 ⊢
 have r0 : wf.cell? ⟨w.heap.size, 0, none⟩ = some (.bool true) := cell_blk z0
 have r1 : wf.cell? ⟨w.heap.size + 1, 0, none⟩ = some (.bool true) := cell_blk z1
 refine leaves_cons (f := 71) (args := #[.pointer (some ⟨w.heap.size, 0, none⟩), .pointer (some ⟨w.heap.size + 1, 0, none⟩)]) (by simp) (by simp [go_sem]) ?_
 refine (catch_idle ⟨w.heap.size, 0, none⟩ ⟨w.heap.size + 1, 0, none⟩ _).mono ?_
 rintro e u' w9 ⟨rfl, rfl, rfl⟩
 simp [Leaves, settle, results, Tryz.results46, go_sem, r0, r1]
 exact ⟨z2, c, z3, z4⟩
end Go.Proofs.YtnpkdiffpgcbhaaGreatDoor
