/- The parser, walked (ParD, ParE). Conditions: each theorem's own. -/
import Derived.Test.YtnpkdiffpgcbhaaGreatDoorS17
import Derived.Test.YtnpkdiffpgcbhaaGreatDoorS20
import Derived.Deep.AppendLies
import Derived.Deep.RegionHeld3
namespace Go.Proofs.YtnpkdiffpgcbhaaGreatDoor
open Go.RowKit
theorem own_set {w : World} {base : Nat} {e : TypeId} {size n g cap : Nat} {xs : List Value} (h : w.ownsRow base e size (.slice (some ⟨g, 0, none⟩) n cap) n xs) {j : Nat} (_hj : j < xs.length) (u : Value) :
  (w.setCell ⟨g, j, none⟩ u).ownsRow base e size (.slice (some ⟨g, 0, none⟩) n cap) n (xs.set j u) := by
 refine ⟨by rw [List.length_set]; exact h.1, ?_⟩
 rcases h.2 with ⟨h1, _⟩ | ⟨g', cap', cur, hv, hb, hg, hn, hm, hs, ht⟩
 ·cases h1
 ·cases hv
  refine .inr ⟨g, cap, cur.setIfInBounds j u, rfl, hb, (heap_set hg _ _).trans (if_pos rfl), hn, hm, by simpa using hs, ?_⟩
  rw [Array.toList_setIfInBounds, List.take_set, ht]
theorem own_other {w : World} {base : Nat} {e : TypeId} {size n : Nat} {v : Value} {xs : List Value} (h : w.ownsRow base e size v n xs) {a : Addr} (ha : v.ownBlock ≠ some a.block) (u : Value) : (w.setCell a u).ownsRow base e size v n xs := by
 refine ⟨h.1, ?_⟩
 rcases h.2 with h1 | ⟨g', cap', cur, rfl, hb, hg, rest⟩
 ·exact .inl h1
 ·refine .inr ⟨g', cap', cur, rfl, hb, (heap_set_ne (fun e => ha (by rw [Value.ownBlock, e]))).trans hg, rest⟩
theorem set5 (xs : List Value) (z0 z1 z2 z3 z4 a b c d e : Value) {n : Nat} (hn : xs.length = n) :
  (((((xs ++ [z0, z1, z2, z3, z4]).set n a).set (n + 1) b).set (n + 1 + 1) c).set (n + 1 + 1 + 1) d).set (n + 1 + 1 + 1 + 1) e = xs ++ [a, b, c, d, e] := by
 have S : ∀ (l : List Value) (i : Nat) (u : Value), (xs ++ l).set (n + i) u = xs ++ l.set i u := fun l i u => by
  subst hn
  rw [List.set_append_right _ _ (by omega), show xs.length + i - xs.length = i by omega]
 rw [show n + 1 + 1 + 1 + 1 = n + 4 by omega, show n + 1 + 1 + 1 = n + 3 by omega, show n + 1 + 1 = n + 2 by omega, show (xs ++ [z0, z1, z2, z3, z4]).set n a = (xs ++ [z0, z1, z2, z3, z4]).set (n + 0) a from rfl, S, S, S, S, S]
 rfl
theorem own_shape1 {w : World} {base : Nat} {e : TypeId} {size : Nat} {v : Value} {n : Nat} {xs : List Value} (h : w.ownsRow base e size v n xs) : ∃ a c, v = .slice a n c := by
 rcases h.2 with ⟨rfl, h0⟩ | ⟨g, cap, cur, rfl, _⟩
 ·subst h0
  exact ⟨_, _, rfl⟩
 ·exact ⟨_, _, rfl⟩
def put5 (w : World) (g n : Nat) (a b c d e : Value) : World :=
 ((((w.setCell ⟨g, n, none⟩ a).setCell ⟨g, n + 1, none⟩ b).setCell ⟨g, n + 1 + 1, none⟩ c).setCell ⟨g, n + 1 + 1 + 1, none⟩ d).setCell ⟨g, n + 1 + 1 + 1 + 1, none⟩ e
theorem put5_ne (w : World) (g n : Nat) (a b c d e : Value) {k : Nat} (h : k ≠ g) : (put5 w g n a b c d e).heap[k]? = w.heap[k]? := by
 unfold put5
 rw [heap_set_ne (by simpa using h), heap_set_ne (by simpa using h), heap_set_ne (by simpa using h), heap_set_ne (by simpa using h), heap_set_ne (by simpa using h)]
theorem put5_own {w : World} {base : Nat} {e : TypeId} {size n g cap m : Nat} {xs : List Value} {z0 z1 z2 z3 z4 : Value} (h : w.ownsRow base e size (.slice (some ⟨g, 0, none⟩) n cap) n (xs ++ [z0, z1, z2, z3, z4])) (hm : xs.length = m) (a b c d f : Value) :
  (put5 w g m a b c d f).ownsRow base e size (.slice (some ⟨g, 0, none⟩) n cap) n (xs ++ [a, b, c, d, f]) := by
 have hl : (xs ++ [z0, z1, z2, z3, z4]).length = m + 5 := by rw [List.length_append, hm]; rfl
 have h1 := own_set h (j := m) (by omega) a
 have h2 := own_set h1 (j := m + 1) (by simp only [List.length_set]; omega) b
 have h3 := own_set h2 (j := m + 1 + 1) (by simp only [List.length_set]; omega) c
 have h4 := own_set h3 (j := m + 1 + 1 + 1) (by simp only [List.length_set]; omega) d
 have h5 := own_set h4 (j := m + 1 + 1 + 1 + 1) (by simp only [List.length_set]; omega) f
 rw [set5 xs _ _ _ _ _ _ _ _ _ _ hm] at h5
 exact h5
theorem put5_fp {S : Nat → Prop} (w : World) (g n : Nat) (a b c d e : Value) (h : S g) : FP S w (put5 w g n a b c d e) :=
 (((((FP.refl S w).set _ (.inl h)).set _ (.inl h)).set _ (.inl h)).set _ (.inl h)).set _ (.inl h)
theorem own_cell {w : World} {base : Nat} {e : TypeId} {size n g cap : Nat} {xs : List Value} (h : w.ownsRow base e size (.slice (some ⟨g, 0, none⟩) n cap) n xs) {j : Nat} {u : Value} (hj : xs[j]? = some u) : w.cell? ⟨g, j, none⟩ = some u := by
 have := h.cells (g := g) rfl j u hj
 rw [Addr.add_lit, Nat.zero_add] at this
 exact this
theorem own_frozen {w : World} {base : Nat} {e : TypeId} {size n g cap : Nat} {xs : List Value} (h : w.ownsRow base e size (.slice (some ⟨g, 0, none⟩) n cap) n xs) (j : Nat) : w.frozen? ⟨g, j, none⟩ = false := by
 rcases h.2 with ⟨h1, _⟩ | ⟨g', cap', cur, hv, hb, hg, _⟩
 ·cases h1
 ·cases hv
  exact frz_blk hg
end Go.Proofs.YtnpkdiffpgcbhaaGreatDoor
namespace Go.Proofs.YtnpkdiffpgcbhaaGreatDoor
open Go.RowKit
attribute [local go_sem] Oper.semAt_some
def ValEnd (w : World) (pb : Nat) (T : List Lx) (k : Nat) (res : Option (GV × List Lx)) (e : Ending) (w' : World) : Prop :=
 match res with
 | some (v, r) => ∃ kd b i t sl k', e = .returned (.agg #[.int .i64 kd, .bool b, .int .i64 i, .string t, sl]) ∧ RdV w' (fun b => w.heap.size ≤ b) [.int .i64 kd, .bool b, .int .i64 i, .string t, sl] v ∧ r = T.drop k' ∧ k < k' ∧ k' ≤ T.length ∧ PAt w' pb T k' ∧ FP (fun i => i = pb) w w'
 | none => e = .panicked [{ v := .iface 132 (.agg #[]), recovered := false }] ∧ FP (fun i => i = pb) w w'
structure VLI (w0 : World) (pb h vb : Nat) (T : List Lx) (d : Int) (acc : List GV) (k : Nat) (W : World) : Prop where
 p : PAt W pb T k
 x : W.heap[h]? = some (.cells #[.pointer (some ⟨pb, 0, none⟩)] 104 (0,0))
 dd : W.heap[h + 1]? = some (.cells #[.int .i64 d] 3 (0,0))
 row : ∃ v xs, W.heap[vb]? = some (.cells #[.int .i64 4, .bool false, .int .i64 0, .string ⟨#[]⟩, v] 52 (0,0)) ∧ W.ownsRow (vb + 1) 52 5 v acc.length xs ∧ RdVs W (fun b => vb < b ∧ v.ownBlock ≠ some b) xs acc
 cnt : acc.length ≤ k
 fp : FP (fun i => i = pb) w0 W
 size : w0.heap.size = h
 low : pb < h
 vb : h + 2 < vb
theorem VLI.go {w0 : World} {pb h vb : Nat} {T : List Lx} {d : Int} {acc : List GV} {k k' : Nat} {W W' : World} (hi : VLI w0 pb h vb T d acc k W) (hf : FP (fun i => i = pb) W W') (hp : PAt W' pb T k') (hk : k ≤ k') : VLI w0 pb h vb T d acc k' W' := by
 have keep : ∀ {b o}, W.heap[b]? = some o → b ≠ pb → W'.heap[b]? = some o := fun hb hne => (hf.blk _ (lt_blk hb) hne).trans hb
 have := hi.low
 have := hi.vb
 obtain ⟨v, xs, q1, q2, q3⟩ := hi.row
 refine ⟨hp, keep hi.x (by omega), keep hi.dd (by omega), ⟨v, xs, keep q1 (by omega), ?_, q3.frame (fun g hg hl => hf.blk g hl (by omega))⟩, by have := hi.cnt; omega, hi.fp.trans hf (fun i hi => .inl hi), hi.size, hi.low, hi.vb⟩
 refine q2.kept (row := some pb) ⟨hf.os, hf.tape, hf.output, hf.size, fun b hb hne => hf.blk b hb (fun e => hne (by rw [e]))⟩ (.inr fun e => ?_)
 have := (q2.lt _ e).1
 omega
theorem VLI.same {w0 : World} {pb h vb : Nat} {T : List Lx} {d : Int} {acc : List GV} {k : Nat} {W W' : World} (hi : VLI w0 pb h vb T d acc k W) (hs : Same W W') : VLI w0 pb h vb T d acc k W' :=
 hi.go (FP.ofSame hs) (hi.p.same (fun b _ => by rw [hs.1])) (Nat.le_refl _)
theorem VLI.new {w0 : World} {pb h vb : Nat} {T : List Lx} {d : Int} {acc : List GV} {k : Nat} {W : World} (hi : VLI w0 pb h vb T d acc k W) (o : Obj) : VLI w0 pb h vb T d acc k (W.alloc o) :=
 hi.go ((FP.refl _ _).alloc o) (hi.p.fp (S := nob) ((FP.refl _ _).alloc o) (fun _ h => h.elim)) (Nat.le_refl _)
structure VRow (vb : Nat) (acc : List GV) (v : Value) (xs : List Value) (W : World) : Prop where
 q1 : W.heap[vb]? = some (.cells #[.int .i64 4, .bool false, .int .i64 0, .string ⟨#[]⟩, v] 52 (0,0))
 q2 : W.ownsRow (vb + 1) 52 5 v acc.length xs
 q3 : RdVs W (fun b => vb < b ∧ v.ownBlock ≠ some b) xs acc
theorem VRow.go {pb vb : Nat} {acc : List GV} {v : Value} {xs : List Value} {W W' : World} (hr : VRow vb acc v xs W) (hf : FP (fun i => i = pb) W W') (hl : pb < vb) : VRow vb acc v xs W' := by
 refine ⟨(hf.blk _ (lt_blk hr.q1) (by omega)).trans hr.q1, ?_, hr.q3.frame (fun g hg hl => hf.blk g hl (by omega))⟩
 refine hr.q2.kept (row := some pb) ⟨hf.os, hf.tape, hf.output, hf.size, fun b hb hne => hf.blk b hb (fun e => hne (by rw [e]))⟩ (.inr fun e => ?_)
 have := (hr.q2.lt _ e).1
 omega
theorem VRow.same {vb : Nat} {acc : List GV} {v : Value} {xs : List Value} {W W' : World} (hr : VRow vb acc v xs W) (hs : Same W W') (hl : 0 < vb) : VRow vb acc v xs W' := hr.go (FP.ofSame hs) hl
theorem VRow.new {vb : Nat} {acc : List GV} {v : Value} {xs : List Value} {W : World} (hr : VRow vb acc v xs W) (hl : 0 < vb) (o : Obj) : VRow vb acc v xs (W.alloc o) := hr.go ((FP.refl _ W).alloc o) hl
theorem VRow.cell {vb : Nat} {acc : List GV} {v : Value} {xs : List Value} {W : World} (hr : VRow vb acc v xs W) : W.cell? ⟨vb, 4, none⟩ = some v ∧ W.frozen? ⟨vb, 4, none⟩ = false := ⟨cell_blk hr.q1, frz_blk hr.q1⟩
theorem VLI.grow {w0 : World} {pb h vb : Nat} {T : List Lx} {d : Int} {acc : List GV} {k : Nat} {W Wa W2 Wf : World} (hi : VLI w0 pb h vb T d acc k W) (hcnt : acc.length + 1 ≤ k) {v : Value} {xs : List Value} (q1 : W.heap[vb]? = some (.cells #[.int .i64 4, .bool false, .int .i64 0, .string ⟨#[]⟩, v] 52 (0,0))) (q2 : W.ownsRow (vb + 1) 52 5 v acc.length xs)
  (q3 : RdVs W (fun b => vb < b ∧ v.ownBlock ≠ some b) xs acc) {c : List Value} {gv : GV} {lo : Nat} (hc : RdV W (fun b => lo ≤ b) c gv) (hlo : vb < lo) (hown : ∀ b, v.ownBlock = some b → b < lo) (ha : FP nob W Wa) {g cap : Nat} (hgr : Wa.grownBy W2 v.ownBlock) (hat : v.ownBlock = some g ∨ g = Wa.heap.size)
  (hf : FP (fun i => i = vb ∨ i = g) W2 Wf) (f1 : Wf.heap[vb]? = some (.cells #[.int .i64 4, .bool false, .int .i64 0, .string ⟨#[]⟩, .slice (some ⟨g, 0, none⟩) (acc.length + 1) cap] 52 (0,0))) (f2 : Wf.ownsRow (vb + 1) 52 5 (.slice (some ⟨g, 0, none⟩) (acc.length + 1) cap) (acc.length + 1) (xs ++ c)) :
  VLI w0 pb h vb T d (acc ++ [gv]) k Wf := by
 have hvW := lt_blk q1
 have hgo := (f2.lt g rfl).1
 have hvb := hi.vb
 have hlw := hi.low
 have hfa : FP (fun i => some i = v.ownBlock) W W2 := ⟨hgr.os.trans ha.os, hgr.tape.trans ha.tape, hgr.output.trans ha.output, Nat.le_trans ha.size hgr.size, fun b hb hne => (hgr.block b (Nat.lt_of_lt_of_le hb ha.size) hne).trans (ha.blk b hb (fun h => h.elim))⟩
 have hall : ∀ b, b < W.heap.size → b ≠ vb → b ≠ g → some b ≠ v.ownBlock → Wf.heap[b]? = W.heap[b]? := fun b hb h1 h2 h3 => (hf.blk b (Nat.lt_of_lt_of_le hb hfa.size) (fun h => by rcases h with h | h; exact h1 h; exact h2 h)).trans (hfa.blk b hb h3)
 have hvo : ∀ b, some b = v.ownBlock → vb + 1 ≤ b := fun b hb => (q2.lt b hb.symm).1
 have keep : ∀ {b o}, W.heap[b]? = some o → b < vb → Wf.heap[b]? = some o := fun {b o} hb hne => (hall b (lt_blk hb) (by omega) (by omega) (fun e => by have := hvo b e; omega)).trans hb
 have hgn : ∀ b, b < W.heap.size → v.ownBlock ≠ some b → b ≠ g := by
  intro b hb hne e
  rcases hat with h1 | h1
  ·exact hne (by rw [h1, e])
  ·have := ha.size; omega
 refine ⟨hi.p.same (fun b hb => hall b (Nat.lt_of_le_of_lt hb hi.p.lt) (by omega) (by omega) (fun e => by have := hvo b e; omega)), keep hi.x (by omega), keep hi.dd (by omega), ⟨_, _, f1, by rw [List.length_append]; exact f2, ?_⟩, by rw [List.length_append]; exact hcnt, ?_, hi.size, hi.low, hi.vb⟩
 ·refine RdVs.snoc ?_ ?_
  ·refine (q3.imp (fun v hv c hc => RdV.trans' (fun b hb hl => ?_) v c hc))
   have h2 := hgn b hl hb.2
   exact ⟨hall b hl (by omega) h2 (fun e => hb.2 e.symm), hb.1, by simp only [Value.ownBlock]; intro e; exact h2 (Option.some.inj e).symm⟩
  ·refine RdV.trans' (fun b hb hl => ?_) _ _ hc
   have h3 : v.ownBlock ≠ some b := fun e => by have := hown b e; omega
   have h2 := hgn b hl h3
   exact ⟨hall b hl (by omega) h2 (fun e => h3 e.symm), by omega, by simp only [Value.ownBlock]; intro e; exact h2 (Option.some.inj e).symm⟩
 ·refine (hi.fp.trans hfa (T := fun i => some i = v.ownBlock) (fun i hi' => .inr ?_)).trans hf ?_
  ·have := hvo i hi'; have := hi.size; omega
  ·intro i hi'
   have := hi.size
   right; rcases hi' with h | h <;> omega
theorem infoV : (Tryz.prog.info? 52).map (fun i => (i.zero, i.size, i.bytes)) = some (some (.agg #[.int .i64 0, .bool false, .int .i64 0, .string ⟨#[]⟩, .slice none 0 0]), 5, 64) := by kernel_rfl
end Go.Proofs.YtnpkdiffpgcbhaaGreatDoor
