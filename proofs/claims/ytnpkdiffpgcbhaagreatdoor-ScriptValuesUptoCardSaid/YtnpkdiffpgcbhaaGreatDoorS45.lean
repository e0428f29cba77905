/- Parse's loop, walked. Conditions: each theorem's own. -/
import Derived.Test.YtnpkdiffpgcbhaaGreatDoorS44
import Derived.Deep.Onto
set_option maxRecDepth 100000
set_option maxHeartbeats 1600000
namespace Go.Proofs.YtnpkdiffpgcbhaaGreatDoor
open Go.RowKit
attribute [local go_sem] Oper.semAt_some
structure PSt (w : World) (lb : Nat) (lc : Array Value) (acc : List OpV) (v : Value) (xs : List Value) (W : World) : Prop where
 fp : FP nob w W
 ln : W.heap[lb]? = some (.cells lc 9 (0,0))
 row : W.ownsRow (lb + 1) 58 8 v acc.length xs
 old : RdRow (RdOp W (fun b => lb < b ∧ v.ownBlock ≠ some b)) xs acc
 lo : w.heap.size ≤ lb
section
variable {w W W' : World} {lb : Nat} {lc : Array Value} {acc : List OpV} {v : Value} {xs : List Value}
theorem PSt.far (h : PSt w lb lc acc v xs W) (hf : FP nob W W') : PSt w lb lc acc v xs W' := by
 have hb : ∀ b, b < W.heap.size → W'.heap[b]? = W.heap[b]? := fun b hl => hf.blk b hl (fun x => x.elim)
 refine ⟨h.fp.trans hf (fun _ x => x.elim), (hb _ (lt_blk h.ln)).trans h.ln, ?_, h.old.imp (fun c a _ hc => RdOp.trans' (fun g hg hl => ⟨hb g hl, hg⟩) hc), h.lo⟩
 exact h.row.kept (row := none) ⟨hf.os, hf.tape, hf.output, hf.size, fun b hl _ => hb b hl⟩ (by cases h0 : v.ownBlock <;> simp)
theorem PSt.append (h : PSt w lb lc acc v xs W) {c : List Value} {op : OpV} (hc : RdOp W (fun b => lb < b ∧ v.ownBlock ≠ some b) c op) {g cap m : Nat} (hg : W.grownBy W' v.ownBlock) (hat : v.ownBlock = some g ∨ g = W.heap.size) (hm : m = (acc ++ [op]).length)
  (hr : W'.ownsRow (lb + 1) 58 8 (.slice (some ⟨g, 0, none⟩) m cap) m (xs ++ c)) : PSt w lb lc (acc ++ [op]) (.slice (some ⟨g, 0, none⟩) m cap) (xs ++ c) W' := by
 have hrow : ∀ b, v.ownBlock = some b → lb + 1 ≤ b := fun b hb => (h.row.lt b hb).1
 have hb : ∀ b, b < W.heap.size → v.ownBlock ≠ some b → W'.heap[b]? = W.heap[b]? := fun b hl hne => hg.block b hl (fun e => hne e.symm)
 have mv : ∀ c a, RdOp W (fun b => lb < b ∧ v.ownBlock ≠ some b) c a → RdOp W' (fun b => lb < b ∧ (Value.slice (some ⟨g, 0, none⟩) m cap).ownBlock ≠ some b) c a := fun c a hc =>
  RdOp.trans' (fun b hq hl => ⟨hb b hl hq.2, hq.1, fun e => by
   simp only [Value.ownBlock, Option.some.injEq] at e
   rcases hat with h1 | h1
   ·exact hq.2 (by rw [h1, e])
   ·omega⟩) hc
 have hlo := h.lo
 refine ⟨h.fp.grown hg (fun b hq => .inr (by have := hrow b hq; omega)), (hb _ (lt_blk h.ln) (fun e => by have := hrow _ e; omega)).trans h.ln, ?_, (h.old.imp (fun c a _ hc => mv c a hc)).snoc (mv c op hc), h.lo⟩
 rw [← hm]; exact hr
end
def ParsedPost (w : World) (s : ByteArray) (e : Ending) (w' : World) : Prop :=
 FP nob w w' ∧ match parseS s.data.toList with
  | .ok ops => ∃ v xs, e = .returned (.tuple #[v, .int .i64 0, .bool true]) ∧ w'.ownsRow w.heap.size 58 8 v ops.length xs ∧ RdRow (RdOp w' (fun b => w.heap.size ≤ b ∧ v.ownBlock ≠ some b)) xs ops
  | .error j => e = .returned (.tuple #[.slice none 0 0, .int .i64 (j : Nat), .bool false])
theorem infoOp : (Tryz.prog.info? 58).map (fun i => (i.zero, i.size, i.bytes)) = some (some (.agg #[.int .i64 0, .string ⟨#[]⟩, .slice none 0 0, .int .i64 0, .string ⟨#[]⟩, .bool false, .int .i64 0, .slice none 0 0]), 8, 112) := by kernel_rfl
def PTie (s : List Bs) (R0 : Except Nat (List OpV)) (acc : List OpV) (i : Nat) : Prop := R0 = match parseLs i (s.drop i) with | .error j => .error j | .ok l => .ok (acc ++ l)
theorem PTie.done {s : List Bs} {R0 : Except Nat (List OpV)} {acc : List OpV} {i : Nat} (h : PTie s R0 acc i) (hi : s.length ≤ i) : R0 = .ok acc := by
 unfold PTie at h
 rw [List.drop_eq_nil_of_le hi] at h
 simpa [parseLs] using h
theorem PTie.bad {s : List Bs} {R0 : Except Nat (List OpV)} {acc : List OpV} {i : Nat} (h : PTie s R0 acc i) {l : Bs} (hi : s[i]? = some l) (hl : lineF l = none) : R0 = .error i := by
 unfold PTie at h
 obtain ⟨hlt, he⟩ := List.getElem?_eq_some_iff.1 hi
 rw [List.drop_eq_getElem_cons hlt, he, parseLs, hl] at h
 exact h
theorem PTie.step {s : List Bs} {R0 : Except Nat (List OpV)} {acc : List OpV} {i : Nat} (h : PTie s R0 acc i) {l : Bs} (hi : s[i]? = some l) {o : Option OpV} (hl : lineF l = some o) : PTie s R0 (acc ++ o.toList) (i + 1) := by
 unfold PTie at h ⊢
 obtain ⟨hlt, he⟩ := List.getElem?_eq_some_iff.1 hi
 rw [List.drop_eq_getElem_cons hlt, he, parseLs, hl] at h
 rw [h]
 simp only
 cases parseLs (i + 1) (s.drop (i + 1)) <;> simp
theorem splitNL_mem {s l : Bs} (h : l ∈ splitNL s) : l.length ≤ s.length := by
 induction s generalizing l with
 | nil => simp [splitNL] at h; simp [h]
 | cons c r ih =>
  simp only [splitNL] at h
  by_cases hc : (c == 10) = true
  ·rw [if_pos hc] at h
   rcases List.mem_cons.1 h with rfl | h
   ·simp
   ·have := ih h; simp; omega
  ·rw [if_neg hc] at h
   cases hs : splitNL r with
   | nil => exact absurd hs (splitNL_ne r)
   | cons x t =>
    rw [hs] at h ih
    rcases List.mem_cons.1 h with rfl | h
    ·have := ih (List.mem_cons_self ..); simp; omega
    ·have := ih (List.mem_cons_of_mem _ h); simp; omega
theorem part_size {s p : ByteArray} {k : Nat} (h : (partsB s)[k]? = some p) : p.size ≤ s.size := by
 have hm : p.data.toList ∈ splitNL s.data.toList := by
  rw [← partsB_data]
  exact List.mem_map_of_mem (List.mem_of_getElem? h)
 exact splitNL_mem hm
theorem part_at {s : ByteArray} {n k : Nat} (h : (((partsB s).take n).map (·.data.toList)) = linesOf s.data.toList) (hn : n ≤ (partsB s).length) (hk : k < n) : ∃ p, (partsB s)[k]? = some p ∧ (linesOf s.data.toList)[k]? = some p.data.toList := by
 refine ⟨(partsB s)[k]'(by omega), by simp, ?_⟩
 rw [← h, List.getElem?_map, List.getElem?_take, if_pos hk, List.getElem?_eq_getElem (by omega : k < (partsB s).length)]
 rfl
theorem parsed_any {w : World} {s : ByteArray} (hs : s.size ≤ 65536) (hlib : LibOk w) : Calls Tryz.prog 43 #[.string s] w (ParsedPost w s) := by
 have HL := Lib.hid (lines_any (w := w) (s := s) (by omega) hlib)
 have HLB := Lib.hid hlib
 clear hlib
 go_enter Tryz.func43, Tryz.ntmps43
 go_wp2_with fail
 refine HL.out.mono ?_
 rintro e w1 ⟨n, cap, rfl, hnc, hnp, hlin, hsame⟩
 have hln : w1.heap[w.heap.size]? = some (.cells ((partsB s).map Value.string).toArray 9 (0,0)) := by
  rw [hsame.1]; exact heap_new_at rfl _
 have hst : PSt w w.heap.size ((partsB s).map Value.string).toArray [] (.slice none 0 0) [] w1 := ⟨(((FP.refl _ w).alloc _).same hsame), hln, World.ownsRow_nil _ _ _ _, .nil, Nat.le_refl _⟩
 have HS0 := Lib.hid hst
 have HLIN := Lib.hid hlin
 have HNP := Lib.hid hnp
 have hT : PTie (linesOf s.data.toList) (parseS s.data.toList) [] 0 := by
  unfold PTie parseS
  rw [List.drop_zero]
  cases parseLs 0 (linesOf s.data.toList) <;> simp
 have HT := Lib.hid hT
 have hn : n = (linesOf s.data.toList).length := by rw [← hlin, List.length_map, List.length_take]; omega
 have hnl : n ≤ 65537 := by
  have := linesOf_len s.data.toList
  have e : s.data.toList.length = s.size := rfl
  rw [hn]; omega
 have HN := Lib.hid hn
 clear hsame hln hst hlin hnp hT hn
 go_wp2_with fail
 go_loopg [14, 5] (n + 1) (fun m i v wr => ∃ (acc : List OpV) (k : Nat) (xs : List Value), i = .int .i64 (k : Nat) ∧ k ≤ n ∧ n - k < m ∧ acc.length ≤ k ∧ Hid (PSt w w.heap.size ((partsB s).map Value.string).toArray acc v xs wr) ∧ Hid (PTie (linesOf s.data.toList) (parseS s.data.toList) acc k))
 case atStart => exact ⟨[], 0, [], rfl, Nat.zero_le _, by omega, Nat.le_refl _, HS0, HT⟩
 case round =>
  obtain ⟨acc, k, xs, rfl, hkn, hm, hac, hS, hT⟩ := hrel
  by_cases hlt : k < n
  ·have hi0 : (0 : Int) ≤ (k : Int) := by omega
   have hi1 : (k : Int) < (n : Int) := by omega
   obtain ⟨p, hp, hpl⟩ := part_at HLIN.out HNP.out hlt
   have hps := part_size hp
   have hcell : wr.cell? ⟨w.heap.size, k, none⟩ = some (.string p) := (cell_blk hS.out.ln).trans (by simp [hp])
   have hlib : LibOk wr := HLB.out.fp (S := nob) hS.out.fp (fun _ x => x.elim)
   have HC := Lib.hid (line_any (w := wr) (s := p) (by omega) hlib)
   have HPL := Lib.hid hpl
   clear hlib hps hpl hp
   have hk1 : IntKind.i64.wrap ((k : Int) + 1) = (k : Int) + 1 := IntWalk.i64_in _ (by omega)
   go_wp2_with fail
   refine HC.out.mono ?_
   rintro e w2 ⟨hf, h5⟩
   obtain ⟨ro, hro⟩ : ∃ ro, lineF p.data.toList = ro := ⟨_, rfl⟩
   rw [hro] at h5
   have HRO := Lib.hid hro
   have HF := Lib.hid hf
   clear hro hf hcell
   rcases ro with _ | _ | op
   ·have h5 := h5
    subst h5
    go_wp2_with fail
    refine bodyPost_end (v := .tuple #[.slice none 0 0, .int .i64 (k : Nat), .bool false]) (by simp [results, Tryz.results43]) rfl ⟨(hS.out.fp.trans HF.out (fun _ x => x.elim)).alloc _, ?_⟩
    rw [hT.out.bad HPL.out HRO.out]
   ·have h5 := h5
    subst h5
    have HS1 := Lib.hid (hS.out.far (HF.out.alloc (.cells #[.int .i64 0, .string ⟨#[]⟩, .slice none 0 0, .int .i64 0, .string ⟨#[]⟩, .bool false, .int .i64 0, .slice none 0 0] 58)))
    have HT1 := Lib.hid (hT.out.step HPL.out HRO.out)
    go_wp2_with fail
    go_roundg (n - (k + 1) + 1)
    case measure => omega
    case rel => exact ⟨acc, k + 1, xs, rfl, by omega, by omega, by omega, HS1, Lib.hid (by simpa using HT1.out)⟩
   ·obtain ⟨c, rfl, hrd⟩ := h5
    obtain ⟨kk, cl, a0, n0, s0, hh, t, on, nn, a1, n1, s1, rfl⟩ := rdop_shape hrd
    have HT1 := Lib.hid (hT.out.step HPL.out HRO.out)
    have hs := hS.out
    obtain ⟨ao, cap', rfl⟩ := own_shape1 hs.row
    obtain ⟨m, hm'⟩ : ∃ m, acc.length = m := ⟨_, rfl⟩
    have hwl : w.heap.size < wr.heap.size := lt_blk hs.ln
    have hof : ∀ b, (Value.slice ao acc.length cap').ownBlock = some b → b < wr.heap.size := fun b hb => (hs.row.lt b hb).2
    have hc1 : RdOp (w2.alloc (.cells #[.int .i64 kk, .string cl, .slice a0 n0 s0, .int .i64 hh, .string t, .bool on, .int .i64 nn, .slice a1 n1 s1] 58)) (fun b => w.heap.size < b ∧ (Value.slice ao acc.length cap').ownBlock ≠ some b) [.int .i64 kk, .string cl, .slice a0 n0 s0, .int .i64 hh, .string t, .bool on, .int .i64 nn, .slice a1 n1 s1] op := RdOp.trans' (fun g hg hgl => by
     have hg' : wr.heap.size ≤ g := hg
     exact ⟨((FP.refl nob w2).alloc (.cells #[.int .i64 kk, .string cl, .slice a0 n0 s0, .int .i64 hh, .string t, .bool on, .int .i64 nn, .slice a1 n1 s1] 58)).blk g hgl (fun x => x.elim), by omega, fun e => by have := hof g e; omega⟩) hrd
    have hs1 := hs.far (HF.out.alloc (.cells #[.int .i64 kk, .string cl, .slice a0 n0 s0, .int .i64 hh, .string t, .bool on, .int .i64 nn, .slice a1 n1 s1] 58))
    have hg : (w2.alloc (.cells #[.int .i64 kk, .string cl, .slice a0 n0 s0, .int .i64 hh, .string t, .bool on, .int .i64 nn, .slice a1 n1 s1] 58)).heap[w2.heap.size]? = some (.cells #[.int .i64 kk, .string cl, .slice a0 n0 s0, .int .i64 hh, .string t, .bool on, .int .i64 nn, .slice a1 n1 s1] 58 (0,0)) := heap_new_at rfl _
    rw [hm'] at hs1 hc1
    have HS1 := Lib.hid hs1
    have HC1 := Lib.hid hc1
    have HG := Lib.hid hg
    have HM : Hid (acc.length = m ∧ m ≤ k) := Lib.hid ⟨hm', by omega⟩
    rw [hm']
    clear hrd hs hs1 hc1 hg hof hm' hac
    go_upto_region 8 with fail
    generalize w2.alloc (.cells #[.int .i64 kk, .string cl, .slice a0 n0 s0, .int .i64 hh, .string t, .bool on, .int .i64 nn, .slice a1 n1 s1] 58) = w4 at HS1 HC1 HG ⊢
    have d0 : w4.cell? ⟨w2.heap.size, 0, none⟩ = some (.int .i64 kk) := cell_blk HG.out
    have d1 : w4.cell? ⟨w2.heap.size, 1, none⟩ = some (.string cl) := cell_blk HG.out
    have d2 : w4.cell? ⟨w2.heap.size, 2, none⟩ = some (.slice a0 n0 s0) := cell_blk HG.out
    have d3 : w4.cell? ⟨w2.heap.size, 3, none⟩ = some (.int .i64 hh) := cell_blk HG.out
    have d4 : w4.cell? ⟨w2.heap.size, 4, none⟩ = some (.string t) := cell_blk HG.out
    have d5 : w4.cell? ⟨w2.heap.size, 5, none⟩ = some (.bool on) := cell_blk HG.out
    have d6 : w4.cell? ⟨w2.heap.size, 6, none⟩ = some (.int .i64 nn) := cell_blk HG.out
    have d7 : w4.cell? ⟨w2.heap.size, 7, none⟩ = some (.slice a1 n1 s1) := cell_blk HG.out
    have HS5 := Lib.hid (HS1.out.far ((FP.refl nob w4).alloc (.cells #[.int .i64 kk, .string cl, .slice a0 n0 s0, .int .i64 hh, .string t, .bool on, .int .i64 nn, .slice a1 n1 s1] 58)))
    have hrow5 := HS5.out.row
    rw [HM.out.1] at hrow5
    have HC5 : Hid (RdOp (w4.alloc (.cells #[.int .i64 kk, .string cl, .slice a0 n0 s0, .int .i64 hh, .string t, .bool on, .int .i64 nn, .slice a1 n1 s1] 58)) (fun b => w.heap.size < b ∧ (Value.slice ao m cap').ownBlock ≠ some b) [.int .i64 kk, .string cl, .slice a0 n0 s0, .int .i64 hh, .string t, .bool on, .int .i64 nn, .slice a1 n1 s1] op) := Lib.hid (RdOp.trans' (fun g hg hgl => ⟨((FP.refl nob w4).alloc (.cells #[.int .i64 kk, .string cl, .slice a0 n0 s0, .int .i64 hh, .string t, .bool on, .int .i64 nn, .slice a1 n1 s1] 58)).blk g hgl (fun x => x.elim), hg⟩) HC1.out)
    have HR5 := Lib.hid hrow5
    clear hrow5
    have HONE : Hid (∀ u ∈ ([.int .i64 kk, .string cl, .slice a0 n0 s0, .int .i64 hh, .string t, .bool on, .int .i64 nn, .slice a1 n1 s1] : List Value), u.oneCell' = true) := Lib.hid (by
     intro u hu
     simp at hu
     rcases hu with rfl | rfl | rfl | rfl | rfl | rfl | rfl | rfl <;> rfl)
    have HAL : Hid (∀ (j : Nat) (u : Value), ([.int .i64 kk, .string cl, .slice a0 n0 s0, .int .i64 hh, .string t, .bool on, .int .i64 nn, .slice a1 n1 s1] : List Value)[j]? = some u → (w4.alloc (.cells #[.int .i64 kk, .string cl, .slice a0 n0 s0, .int .i64 hh, .string t, .bool on, .int .i64 nn, .slice a1 n1 s1] 58)).cell? ((⟨w4.heap.size, 0, none⟩ : Addr).add j) = some u) := Lib.hid alloc_cells6
    obtain ⟨ii, hi0', hz0, hz1, hz2⟩ := info_parts infoOp
    have hm4 : m ≤ 65537 := by have := HM.out.2; omega
    have hbs : w.heap.size + 1 ≤ (w4.alloc (.cells #[.int .i64 kk, .string cl, .slice a0 n0 s0, .int .i64 hh, .string t, .bool on, .int .i64 nn, .slice a1 n1 s1] 58)).heap.size := lt_blk HS5.out.ln
    go_wp2_with (at_builtin; refine wpList_append_lies _ rfl (.tmp 29) (.tmp 31) 22 rfl (w.heap.size + 1) 58 ii (.agg #[.int .i64 0, .string ⟨#[]⟩, .slice none 0 0, .int .i64 0, .string ⟨#[]⟩, .bool false, .int .i64 0, .slice none 0 0]) 8 112 Tryz.underlying22 hi0' hz0 hz1 hz2 rfl (by decide) (.slice ao m cap') m xs rfl HR5.out ⟨w4.heap.size, 0, none⟩ 1 1 [.int .i64 kk, .string cl, .slice a0 n0 s0, .int .i64 hh, .string t, .bool on, .int .i64 nn, .slice a1 n1 s1] rfl rfl HAL.out HONE.out (by decide) (by unfold maxLen; omega) (by omega) hbs _ rfl ?_)
    intro g cp w5 hr2 hg2 hat hgl
    have HS6 := Lib.hid (HS5.out.append HC5.out hg2 (by simpa using hat) (by rw [List.length_append, HM.out.1]; rfl) hr2)
    clear hr2 hg2 hat hgl d0 d1 d2 d3 d4 d5 d6 d7 hbs hi0' hz0 hz1 hz2
    go_wp2_with fail
    go_roundg (n - (k + 1) + 1)
    case measure => omega
    case rel => exact ⟨acc ++ [op], k + 1, _, rfl, by omega, by omega, by have := HM.out; rw [List.length_append]; simp; omega, HS6, HT1⟩
  ·have hi1 : ¬ (k : Int) < (n : Int) := by omega
   go_wp2_with fail
   have hn := HN.out
   have hok := hT.out.done (by omega)
   refine bodyPost_end (v := .tuple #[u5, .int .i64 0, .bool true]) (by simp [results, Tryz.results43]) rfl ⟨hS.out.fp, ?_⟩
   rw [hok]
   exact ⟨_, _, rfl, hS.out.row.mono (Nat.le_succ _), hS.out.old.imp (fun c a _ hc => RdOp.trans' (fun g hg _ => ⟨rfl, Nat.le_of_lt hg.1, hg.2⟩) hc)⟩
end Go.Proofs.YtnpkdiffpgcbhaaGreatDoor
