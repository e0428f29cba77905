/- The parser, walked (ParA). Conditions: each theorem's own. -/
import Derived.Test.YtnpkdiffpgcbhaaGreatDoorS16
import Derived.Test.YtnpkdiffpgcbhaaGreatDoorS17
import Derived.Test.YtnpkdiffpgcbhaaGreatDoorS06
set_option maxRecDepth 100000
set_option maxHeartbeats 1600000
namespace Go.Proofs.YtnpkdiffpgcbhaaGreatDoor
open Go.RowKit
theorem LexRow.len {T : List Lx} {xs : List Value} (h : LexRow T xs) : xs.length = T.length * 4 := by
 induction h with
 | nil => rfl
 | cons t i j ht _ ih => simp only [List.length_cons, ih]; omega
theorem LexRow.get {T : List Lx} {xs : List Value} (h : LexRow T xs) {k : Nat} {x : Lx} (hk : T[k]? = some x) : xs[k * 4]? = some (.int .i64 (x.kind : Int)) ∧ ∃ t : ByteArray, t.data.toList = x.text ∧ xs[k * 4 + 1]? = some (.string t) := by
 induction h generalizing k with
 | nil => simp at hk
 | cons t i j ht _ ih =>
  match k, hk with
  | 0, hk => simp at hk; subst hk; exact ⟨rfl, t, ht, rfl⟩
  | k + 1, hk =>
   obtain ⟨h1, t', h2, h3⟩ := ih (k := k) (by simpa using hk)
   refine ⟨?_, t', h2, ?_⟩
   ·rw [show (k + 1) * 4 = k * 4 + 1 + 1 + 1 + 1 by omega]; simpa using h1
   ·rw [show (k + 1) * 4 + 1 = k * 4 + 1 + 1 + 1 + 1 + 1 by omega]; simpa using h3
structure LibOk (w : World) : Prop where
 maxlen : ∃ m : Int, w.cell? ⟨0, 0, none⟩ = some (.int .i64 m)
 tab : Lib.TabIs Tryz.prog w "internal/strconv.uint64pow10" .u64 Lib.pow10Tab
 range : ∃ tp p, w.cell? ⟨3, 0, none⟩ = some (.iface tp p)
 size : 8 ≤ w.heap.size
theorem LibOk.keep {w w' : World} (h : LibOk w) (hb : ∀ b, b < 8 → w'.heap[b]? = w.heap[b]?) (hs : 8 ≤ w'.heap.size) : LibOk w' := by
 obtain ⟨m, hm⟩ := h.maxlen
 obtain ⟨tp, p, hr⟩ := h.range
 refine ⟨⟨m, ?_⟩, ?_, ⟨tp, p, ?_⟩, hs⟩
 ·rw [← hm]; exact World.cell?_of_block (hb 0 (by omega))
 ·have ht := h.tab
  have hg : Tryz.prog.globalNamed "internal/strconv.uint64pow10" = some 1 := by kernel_rfl
  have e : w'.var? Tryz.prog "internal/strconv.uint64pow10" = w.var? Tryz.prog "internal/strconv.uint64pow10" := by
   simp only [World.var?, hg, Option.bind_some, hb 1 (by omega)]
  unfold Lib.TabIs at ht ⊢
  rw [e]; exact ht
 ·rw [← hr]; exact World.cell?_of_block (hb 3 (by omega))
theorem LibOk.fp {S : Nat → Prop} {w w' : World} (h : LibOk w) (hf : FP S w w') (hS : ∀ i, S i → 8 ≤ i) : LibOk w' :=
 h.keep (fun b hb => hf.blk b (Nat.lt_of_lt_of_le hb h.size) (fun hs => by have := hS b hs; omega)) (Nat.le_trans h.size hf.size)
theorem FP.ofBelow {S : Nat → Prop} {w w' : World} (h : Below w.heap.size w w') : FP S w w' := ⟨h.os, h.tape, h.output, h.size, fun k hk _ => h.block k hk⟩
structure PAt (w : World) (pb : Nat) (T : List Lx) (k : Nat) : Prop where
 box : ∃ sl xs, w.heap[pb]? = some (.cells #[sl, .int .i64 k] 135 (0,0)) ∧ SliceAt w (· < pb) sl T.length (T.length * 4) xs ∧ LexRow T xs
 le : k ≤ T.length
 good : GoodRow T
 lib : LibOk w
 low : 8 ≤ pb
theorem PAt.lt {w : World} {pb k : Nat} {T : List Lx} (h : PAt w pb T k) : pb < w.heap.size := by
 obtain ⟨sl, xs, h1, _⟩ := h.box
 exact lt_blk h1
theorem PAt.same {w w' : World} {pb k : Nat} {T : List Lx} (h : PAt w pb T k) (hs : ∀ b, b ≤ pb → w'.heap[b]? = w.heap[b]?) : PAt w' pb T k := by
 obtain ⟨sl, xs, h1, h2, h3⟩ := h.box
 exact ⟨⟨sl, xs, (hs pb (Nat.le_refl _)).trans h1, h2.frame (fun g hg _ => hs g (Nat.le_of_lt hg)), h3⟩, h.le, h.good, h.lib.keep (fun b hb => hs b (by have := h.low; omega)) (by have := lt_blk ((hs pb (Nat.le_refl _)).trans h1); have := h.low; omega), h.low⟩
theorem need_true (w : World) : Calls Tryz.prog 57 #[.bool true] w fun e w' => e = .returned (.tuple #[]) ∧ w = w' := by
 go_enter Tryz.func57, Tryz.ntmps57
 go_wp2
 go_end0
 exact ⟨rfl, rfl⟩
theorem need_false (w : World) : Calls Tryz.prog 57 #[.bool false] w fun e w' => e = .panicked [{ v := .iface 132 (.agg #[]), recovered := false }] ∧ w = w' := by
 go_enter Tryz.func57, Tryz.ntmps57
 go_wp2
 exact ⟨rfl, rfl, rfl⟩
theorem is_end {w : World} {pb n k kd : Nat} {ao : Option Addr} {cap : Nat} {t : ByteArray} (hb : w.heap[pb]? = some (.cells #[.slice ao n cap, .int .i64 k] 135 (0,0))) (hk : ¬ k < n) (_hn : n ≤ 4096) :
  Calls Tryz.prog 72 #[.pointer (some ⟨pb, 0, none⟩), .int .i64 kd, .string t] w fun e w' => e = .returned (.bool false) ∧ ∃ q, w' = w.drewN q := by
 have c0 : w.cell? ⟨pb, 0, none⟩ = some (.slice ao n cap) := cell_blk hb
 have c1 : w.cell? ⟨pb, 1, none⟩ = some (.int .i64 k) := cell_blk hb
 have hk' : decide ((k : Int) < (n : Int)) = false := by simp; omega
 have hk2 : ¬ ((k : Int) < (n : Int)) := by omega
 clear hb
 go_enter Tryz.func72, Tryz.ntmps72
 go_wp2_with fail
 go_quiet (fail)
 go_wp2_with fail
 go_ret
 exact ⟨rfl, _, rfl⟩
theorem is_kind {w : World} {pb n k kd g off : Nat} {cap : Nat} {t : ByteArray} {x : Int} (hb : w.heap[pb]? = some (.cells #[.slice (some ⟨g, off, none⟩) n cap, .int .i64 k] 135 (0,0))) (hk : k < n) (_hn : n ≤ 4096) (_hnc : n ≤ cap)
  (hx : w.cell? ⟨g, off + k * 4, none⟩ = some (.int .i64 x)) (hkd : (x == (kd : Int)) = false) :
  Calls Tryz.prog 72 #[.pointer (some ⟨pb, 0, none⟩), .int .i64 kd, .string t] w fun e w' => e = .returned (.bool false) ∧ ∃ q, w' = w.drewN q := by
 have c0 : w.cell? ⟨pb, 0, none⟩ = some (.slice (some ⟨g, off, none⟩) n cap) := cell_blk hb
 have c1 : w.cell? ⟨pb, 1, none⟩ = some (.int .i64 k) := cell_blk hb
 have hk' : decide ((k : Int) < (n : Int)) = true := by simp; omega
 have hk2 : (k : Int) < (n : Int) := by omega
 have hk3 : (0 : Int) ≤ (k : Int) := by omega
 clear hb
 go_enter Tryz.func72, Tryz.ntmps72
 go_wp2_with fail
 go_quiet (fail)
 go_wp2_with fail
 go_ret
 exact ⟨rfl, _, rfl⟩
theorem is_empty {w : World} {pb n k kd g off : Nat} {cap : Nat} (hb : w.heap[pb]? = some (.cells #[.slice (some ⟨g, off, none⟩) n cap, .int .i64 k] 135 (0,0))) (hk : k < n) (_hn : n ≤ 4096) (_hnc : n ≤ cap)
  (hx : w.cell? ⟨g, off + k * 4, none⟩ = some (.int .i64 kd)) :
  Calls Tryz.prog 72 #[.pointer (some ⟨pb, 0, none⟩), .int .i64 kd, .string ⟨#[]⟩] w fun e w' => e = .returned (.bool true) ∧ ∃ q, w' = w.drewN q := by
 have c0 : w.cell? ⟨pb, 0, none⟩ = some (.slice (some ⟨g, off, none⟩) n cap) := cell_blk hb
 have c1 : w.cell? ⟨pb, 1, none⟩ = some (.int .i64 k) := cell_blk hb
 have hk' : decide ((k : Int) < (n : Int)) = true := by simp; omega
 have hk2 : (k : Int) < (n : Int) := by omega
 have hk3 : (0 : Int) ≤ (k : Int) := by omega
 have hkd : (((kd : Nat) : Int) == (kd : Int)) = true := by simp
 clear hb
 go_enter Tryz.func72, Tryz.ntmps72
 go_wp2_with fail
 go_quiet (fail)
 go_wp2_with fail
 go_ret
 exact ⟨rfl, _, rfl⟩
theorem is_text {w : World} {pb n k kd g off : Nat} {cap : Nat} {t x : ByteArray} (hb : w.heap[pb]? = some (.cells #[.slice (some ⟨g, off, none⟩) n cap, .int .i64 k] 135 (0,0))) (hk : k < n) (_hn : n ≤ 4096) (_hnc : n ≤ cap)
  (hx : w.cell? ⟨g, off + k * 4, none⟩ = some (.int .i64 kd)) (hy : w.cell? ⟨g, off + k * 4 + 1, none⟩ = some (.string x)) (ht : t.toList.isEmpty = false) (_hne : t.toList = [] ↔ False) :
  Calls Tryz.prog 72 #[.pointer (some ⟨pb, 0, none⟩), .int .i64 kd, .string t] w fun e w' => e = .returned (.bool (x.toList == t.toList)) ∧ ∃ q, w' = w.drewN q := by
 have c0 : w.cell? ⟨pb, 0, none⟩ = some (.slice (some ⟨g, off, none⟩) n cap) := cell_blk hb
 have c1 : w.cell? ⟨pb, 1, none⟩ = some (.int .i64 k) := cell_blk hb
 have hk' : decide ((k : Int) < (n : Int)) = true := by simp; omega
 have hk2 : (k : Int) < (n : Int) := by omega
 have hk3 : (0 : Int) ≤ (k : Int) := by omega
 have hkd : (((kd : Nat) : Int) == (kd : Int)) = true := by simp
 clear hb
 go_enter Tryz.func72, Tryz.ntmps72
 go_wp2_with fail
 go_quiet (fail)
 go_wp2_with fail
 go_ret
 exact ⟨rfl, _, rfl⟩
theorem drop_cons {T : List Lx} {k : Nat} (h : k < T.length) : T.drop k = T[k] :: T.drop (k + 1) := List.drop_eq_getElem_cons h
theorem PAt.next {w : World} {pb k : Nat} {T : List Lx} (h : PAt w pb T k) (hk : k < T.length) : ∃ g off cap x, w.heap[pb]? = some (.cells #[.slice (some ⟨g, off, none⟩) T.length cap, .int .i64 k] 135 (0,0)) ∧ g < pb ∧ T.length ≤ cap ∧
  w.cell? ⟨g, off + k * 4, none⟩ = some (.int .i64 ((T[k].kind : Nat) : Int)) ∧ w.cell? ⟨g, off + k * 4 + 1, none⟩ = some (.string x) ∧ x.data.toList = T[k].text := by
 obtain ⟨sl, xs, h1, h2, h3⟩ := h.box
 obtain ⟨g, off, cap, rfl, hc, hg, _, hcell⟩ := h2.cell (by omega)
 obtain ⟨q1, x, q2, q3⟩ := h3.get (List.getElem?_eq_getElem hk)
 exact ⟨g, off, cap, x, h1, hg, hc, hcell _ _ q1, by rw [Nat.add_assoc]; exact hcell _ _ q3, q2⟩
theorem toList_nil_iff (s : ByteArray) : s.toList = [] ↔ s.data.toList = [] := by rw [Lib.toList_data]
theorem bytes_nil {s : ByteArray} (h : s.data.toList = []) : s = ⟨#[]⟩ := by
 cases s with
 | mk d => simp at h; subst h; rfl
theorem is_any {w : World} {pb k : Nat} {T : List Lx} (h : PAt w pb T k) (kd : Nat) (s : ByteArray) :
  Calls Tryz.prog 72 #[.pointer (some ⟨pb, 0, none⟩), .int .i64 kd, .string s] w fun e w' => e = .returned (.bool (isL kd s.data.toList (T.drop k))) ∧ ∃ q, w' = w.drewN q := by
 by_cases hk : k < T.length
 ·obtain ⟨g, off, cap, x, h1, h2, h3, h4, h5, h6⟩ := h.next hk
  have hl := h.good.len
  rw [drop_cons hk]
  by_cases hkd : T[k].kind = kd
  ·rw [hkd] at h4
   by_cases hs : s.data.toList = []
   ·rw [bytes_nil hs]
    refine (is_empty h1 hk hl h3 h4).mono ?_
    rintro e w' ⟨rfl, hq⟩
    exact ⟨by simp [isL, hkd], hq⟩
   ·refine (is_text h1 hk hl h3 h4 h5 ?_ ?_).mono ?_
    ·rw [Lib.toList_data]; simpa using hs
    ·rw [toList_nil_iff]; simpa using hs
    ·rintro e w' ⟨rfl, hq⟩
     refine ⟨?_, hq⟩
     have : s.data.toList.isEmpty = false := by simpa using hs
     simp only [isL, hkd, this, Lib.toList_data, h6]
     simp
  ·refine (is_kind h1 hk hl h3 h4 ?_).mono ?_
   ·simp; omega
   ·rintro e w' ⟨rfl, hq⟩
    have : (T[k].kind == kd) = false := by simpa using hkd
    exact ⟨by simp [isL, this], hq⟩
 ·obtain ⟨sl, xs, h1, h2, h3⟩ := h.box
  obtain ⟨_, ao, cap, rfl, _⟩ := h2
  rw [List.drop_eq_nil_of_le (by omega)]
  exact is_end h1 hk h.good.len
theorem takeL_is {kd : Nat} {s : Bs} {l : List Lx} : (takeL kd s l).isSome = isL kd s l := by
 cases l with
 | nil => rfl
 | cons x r =>
  simp only [takeL, isL]
  cases h : (x.kind == kd && (s.isEmpty || x.text == s)) <;> simp
theorem takeL_drop {kd : Nat} {s t : Bs} {T r : List Lx} {k : Nat} (h : takeL kd s (T.drop k) = some (t, r)) : ∃ hk : k < T.length, t = T[k].text ∧ r = T.drop (k + 1) ∧ T[k].kind = kd := by
 by_cases hk : k < T.length
 ·rw [drop_cons hk] at h
  simp only [takeL] at h
  split at h
  ·rename_i hc
   simp at h
   simp at hc
   exact ⟨hk, h.1.symm, h.2.symm, hc.1⟩
  ·simp at h
 ·rw [List.drop_eq_nil_of_le (by omega)] at h
  simp [takeL] at h
theorem PAt.put {w : World} {pb k : Nat} {T : List Lx} (h : PAt w pb T k) {k' : Nat} (hk : k' ≤ T.length) : PAt (w.setCell ⟨pb, 1, none⟩ (.int .i64 k')) pb T k' := by
 obtain ⟨sl, xs, h1, h2, h3⟩ := h.box
 refine ⟨⟨sl, xs, ?_, h2.frame (fun g hg _ => heap_set_ne (by simp; omega)), h3⟩, hk, h.good, h.lib.keep (fun b hb => heap_set_ne (by have := h.low; simp; omega)) (by rw [size_set]; exact h.lib.size), h.low⟩
 exact (heap_set h1 _ _).trans (if_pos rfl)
end Go.Proofs.YtnpkdiffpgcbhaaGreatDoor
