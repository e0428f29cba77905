/- The lexer, walked (LexF). Conditions: each theorem's own. -/
import Derived.Test.YtnpkdiffpgcbhaaGreatDoorS12
set_option maxRecDepth 100000
set_option maxHeartbeats 3200000
namespace Go.Proofs.YtnpkdiffpgcbhaaGreatDoor
open Go.RowKit
section
variable {w : World} {xb pb a : Nat} {s : ByteArray} {bad : Bool}
theorem part_any (h : LxAt w xb s a bad) (hp : w.cell? ⟨pb, 0, none⟩ = some (.pointer (some ⟨xb, 0, none⟩))) (m n : Nat) (hn : a + m + n ≤ s.size) :
  Calls Tryz.prog 152 #[.int .i64 m, .int .i64 n, .pointer (some ⟨pb, 0, none⟩)] w fun e w' => e = .returned (.string (s.extract (a + m) (a + m + n))) ∧ ∃ q, w' = w.drewN q := by
 have c0 : w.cell? ⟨xb, 0, none⟩ = some (.string s) := cell_blk h.blk
 have c1 : w.cell? ⟨xb, 1, none⟩ = some (.int .i64 a) := cell_blk h.blk
 have hle := h.le
 have hsz := h.sz
 have hi0 : (0 : Int) ≤ (a : Int) + (m : Int) := by omega
 have hi1 : (a : Int) + (m : Int) ≤ (a : Int) + (m : Int) + (n : Int) := by omega
 have hi2 : (a : Int) + (m : Int) + (n : Int) ≤ (s.size : Int) := by omega
 have hi3 : ((a : Int) + (m : Int)).toNat = a + m := by omega
 have hi4 : ((a : Int) + (m : Int) + (n : Int)).toNat = a + m + n := by omega
 have hw1 : IntKind.i64.wrap ((a : Int) + (m : Int)) = (a : Int) + (m : Int) := IntWalk.i64_in _ (by omega)
 have hw2 : IntKind.i64.wrap ((a : Int) + (m : Int) + (n : Int)) = (a : Int) + (m : Int) + (n : Int) := IntWalk.i64_in _ (by omega)
 clear h
 go_enter Tryz.func152, Tryz.ntmps152
 go_wp2
 go_quiet (fail)
 go_wp2
 go_ret
 exact ⟨rfl, nq, rfl⟩
end
theorem take_run (p : UInt8 → Bool) (s : ByteArray) (k : Nat) : (restB s k).takeWhile p = (restB s k).take (runB p s.data.toList k) ∧ (restB s k).dropWhile p = restB s (k + runB p s.data.toList k) := by
 have key : ∀ l : Bs, l.takeWhile p = l.take (l.takeWhile p).length ∧ l.dropWhile p = l.drop (l.takeWhile p).length := by
  intro l
  induction l with
  | nil => simp
  | cons c l ih =>
   by_cases hc : p c = true
   ·rw [List.takeWhile_cons_of_pos hc, List.dropWhile_cons_of_pos hc]
    simp only [List.length_cons, List.take_succ_cons, List.drop_succ_cons]
    exact ⟨by rw [← ih.1], ih.2⟩
   ·rw [List.takeWhile_cons_of_neg hc, List.dropWhile_cons_of_neg hc]; simp
 obtain ⟨h1, h2⟩ := key (restB s k)
 refine ⟨h1, h2.trans ?_⟩
 unfold restB runB
 rw [List.drop_drop]
theorem runB_le (p : UInt8 → Bool) (s : ByteArray) {k : Nat} (hk : k ≤ s.size) : k + runB p s.data.toList k ≤ s.size := by
 unfold runB
 have h1 := (List.takeWhile_prefix p (l := s.data.toList.drop k)).length_le
 have h2 : (s.data.toList.drop k).length = s.size - k := by rw [List.length_drop]; rfl
 omega
theorem runB_pos (p : UInt8 → Bool) {s : ByteArray} {k : Nat} (hk : k < s.size) (h : p (peekB s.data.toList k) = true) : 0 < runB p s.data.toList k := by
 show 0 < ((restB s k).takeWhile p).length
 rw [restB_cons hk, List.takeWhile_cons_of_pos h]; simp
theorem extract_rest (s : ByteArray) (k n : Nat) : (s.extract k (k + n)).data.toList = (restB s k).take n := by
 rw [Lib.extract_data, show k + n - k = n by omega]
theorem lex1_cons (c : UInt8) (r : Bs) : lex1 (c :: r) =
  if letterB c then some (⟨0, (c :: r).takeWhile wordB⟩, (c :: r).dropWhile wordB)
  else if c == 36 then
   match r with
   | [] => none
   | d :: _ => if letterB d then some (⟨1, r.takeWhile wordB⟩, r.dropWhile wordB) else none
  else if digitB c then some (⟨2, (c :: r).takeWhile digitB⟩, (c :: r).dropWhile digitB)
  else if c == 34 then
   match quotedB r with
   | none => none
   | some (t, r2) => some (⟨3, t⟩, r2)
  else if marks2.contains ((c :: r).take 2) then some (⟨4, (c :: r).take 2⟩, (c :: r).drop 2)
  else if marks1.contains c then some (⟨4, [c]⟩, r)
  else none := rfl
theorem quotedB_suffix : ∀ (l t r : Bs), quotedB l = some (t, r) → r <:+ l
 | [], t, r, h => by simp [quotedB] at h
 | c :: l, t, r, h => by
  rw [quotedB.eq_def] at h
  simp only at h
  split at h
  ·simp at h; obtain ⟨_, rfl⟩ := h; exact List.suffix_cons _ _
  ·split at h
   ·match l, h with
    | [], h => simp at h
    | d :: l2, h =>
     simp only at h
     split at h
     ·simp at h
     ·split at h
      ·simp at h
      ·rename_i a2 b2 hq
       simp at h; obtain ⟨_, rfl⟩ := h
       exact ((quotedB_suffix l2 _ _ hq).trans (List.suffix_cons _ _)).trans (List.suffix_cons _ _)
   ·split at h
    ·simp at h
    ·split at h
     ·simp at h
     ·rename_i a2 b2 hq
      simp at h; obtain ⟨_, rfl⟩ := h
      exact (quotedB_suffix l _ _ hq).trans (List.suffix_cons _ _)
theorem rest_suffix {s : ByteArray} {k : Nat} {r : Bs} (h : r <:+ restB s k) : restB s (s.size - r.length) = r := by
 have h1 : r <:+ s.data.toList := h.trans (List.drop_suffix _ _)
 have h2 := List.suffix_iff_eq_drop.1 h1
 exact h2.symm
theorem markLen_le (l : Bs) : markLen l ≤ l.length := by
 unfold markLen
 split
 ·rename_i hc
  have : ∀ x ∈ marks2, x.length = 2 := by decide
  have h2 := this _ (by simpa using hc)
  rw [List.length_take] at h2
  omega
 ·match l with
  | [] => simp
  | c :: r => simp only; split <;> simp
def NextIs (s : ByteArray) (a : Nat) (k : Int) (t : ByteArray) (n : Nat) : Prop :=
 match lex1 (restB s a) with
 | none => n = 0
 | some (x, r) => k = (x.kind : Int) ∧ t.data.toList = x.text ∧ 0 < n ∧ a + n ≤ s.size ∧ restB s (a + n) = r
section
variable {s : ByteArray} {a : Nat}
theorem NextIs.word (ha : a < s.size) (hl : letterB (peekB s.data.toList a) = true) : NextIs s a 0 (s.extract (a + 0) (a + 0 + runB wordB s.data.toList a)) (runB wordB s.data.toList a) := by
 obtain ⟨h1, h2⟩ := take_run wordB s a
 have hx : lex1 (restB s a) = some (⟨0, (restB s a).takeWhile wordB⟩, (restB s a).dropWhile wordB) := by
  rw [restB_cons ha, lex1_cons, if_pos hl]
 unfold NextIs
 rw [hx]
 refine ⟨rfl, ?_, runB_pos _ ha (by unfold wordB; rw [hl]; rfl), runB_le _ _ (by omega), ?_⟩
 ·rw [Nat.add_zero, extract_rest, h1]
 ·rw [h2]
theorem NextIs.digits (ha : a < s.size) (h1 : letterB (peekB s.data.toList a) = false) (h2 : peekB s.data.toList a ≠ 36) (hd : digitB (peekB s.data.toList a) = true) : NextIs s a 2 (s.extract (a + 0) (a + 0 + runB digitB s.data.toList a)) (runB digitB s.data.toList a) := by
 obtain ⟨k1, k2⟩ := take_run digitB s a
 have hx : lex1 (restB s a) = some (⟨2, (restB s a).takeWhile digitB⟩, (restB s a).dropWhile digitB) := by
  rw [restB_cons ha, lex1_cons, if_neg (by rw [h1]; simp), if_neg (by simpa using h2), if_pos hd]
 unfold NextIs
 rw [hx]
 refine ⟨rfl, ?_, runB_pos _ ha hd, runB_le _ _ (by omega), ?_⟩
 ·rw [Nat.add_zero, extract_rest, k1]
 ·rw [k2]
theorem NextIs.var (ha : a < s.size) (h2 : peekB s.data.toList a = 36) {k : Int} {t : ByteArray} :
  (letterB (peekB s.data.toList (a + 1)) = true → NextIs s a 1 (s.extract (a + 1) (a + 1 + runB wordB s.data.toList (a + 1))) (runB wordB s.data.toList (a + 1) + 1)) ∧
  (letterB (peekB s.data.toList (a + 1)) = false → NextIs s a k t 0) := by
 have hc : letterB (peekB s.data.toList a) = false := by rw [h2]; decide
 constructor
 ·intro hl
  have ha1 : a + 1 < s.size := by
   rcases Nat.lt_or_ge (a + 1) s.size with q | q
   ·exact q
   ·rw [peekB_ge q, letterB_zero] at hl; simp at hl
  obtain ⟨k1, k2⟩ := take_run wordB s (a + 1)
  have hx : lex1 (restB s a) = some (⟨1, (restB s (a + 1)).takeWhile wordB⟩, (restB s (a + 1)).dropWhile wordB) := by
   rw [restB_cons ha, lex1_cons, if_neg (by rw [hc]; simp), if_pos (by rw [h2]; rfl)]
   rw [restB_cons ha1]
   simp only [hl, if_true]
  unfold NextIs
  rw [hx]
  have hle := runB_le wordB s (k := a + 1) (by omega)
  refine ⟨rfl, ?_, by omega, by omega, ?_⟩
  ·rw [extract_rest, k1]
  ·rw [k2, show a + (runB wordB s.data.toList (a + 1) + 1) = a + 1 + runB wordB s.data.toList (a + 1) by omega]
 ·intro hl
  have hx : lex1 (restB s a) = none := by
   rw [restB_cons ha, lex1_cons, if_neg (by rw [hc]; simp), if_pos (by rw [h2]; rfl)]
   rcases Nat.lt_or_ge (a + 1) s.size with q | q
   ·rw [restB_cons q]
    simp [hl]
   ·rw [restB_nil q]
  unfold NextIs
  rw [hx]
theorem NextIs.quoted (ha : a < s.size) (h34 : peekB s.data.toList a = 34) : NextIs s a 3 ⟨(quotedF s a).1.toArray⟩ (quotedF s a).2 := by
 have hc : letterB (peekB s.data.toList a) = false := by rw [h34]; decide
 have hd : digitB (peekB s.data.toList a) = false := by rw [h34]; decide
 have hx : lex1 (restB s a) = match quotedB (restB s (a + 1)) with | none => none | some (t, r2) => some (⟨3, t⟩, r2) := by
  rw [restB_cons ha, lex1_cons, if_neg (by rw [hc]; simp), if_neg (by rw [h34]; decide), if_neg (by rw [hd]; simp), if_pos (by rw [h34]; rfl)]
 unfold NextIs
 rw [hx]
 cases hq : quotedB (restB s (a + 1)) with
 | none => simp [quotedF, hq]
 | some p =>
  obtain ⟨t, r⟩ := p
  have hl := quotedB_length _ _ _ hq
  have hl2 : (restB s (a + 1)).length = s.size - (a + 1) := by unfold restB; rw [List.length_drop]; rfl
  simp only [quotedF, hq]
  refine ⟨rfl, by simp, by omega, by omega, ?_⟩
  have hsf := rest_suffix (quotedB_suffix _ _ _ hq)
  rw [show a + (s.size - a - r.length) = s.size - r.length by omega]
  exact hsf
theorem NextIs.mark (ha : a < s.size) (h1 : letterB (peekB s.data.toList a) = false) (h2 : peekB s.data.toList a ≠ 36) (h3 : digitB (peekB s.data.toList a) = false) (h4 : peekB s.data.toList a ≠ 34) :
  NextIs s a 4 (s.extract (a + 0) (a + 0 + markLen (restB s a))) (markLen (restB s a)) := by
 have hx : lex1 (restB s a) = if marks2.contains ((restB s a).take 2) then some (⟨4, (restB s a).take 2⟩, (restB s a).drop 2) else if marks1.contains (peekB s.data.toList a) then some (⟨4, [peekB s.data.toList a]⟩, restB s (a + 1)) else none := by
  rw [restB_cons ha, lex1_cons, if_neg (by rw [h1]; simp), if_neg (by simpa using h2), if_neg (by rw [h3]; simp), if_neg (by simpa using h4)]
 have hml : markLen (restB s a) = if marks2.contains ((restB s a).take 2) then 2 else if marks1.contains (peekB s.data.toList a) then 1 else 0 := by
  unfold markLen; rw [restB_cons ha]
 unfold NextIs
 rw [hx, hml]
 by_cases hc : marks2.contains ((restB s a).take 2) = true
 ·simp only [hc, if_true]
  have hlen : ((restB s a).take 2).length = 2 := by
   have : ∀ x ∈ marks2, x.length = 2 := by decide
   exact this _ (by simpa using hc)
  have hl2 : (restB s a).length = s.size - a := by unfold restB; rw [List.length_drop]; rfl
  rw [List.length_take, hl2] at hlen
  refine ⟨rfl, ?_, by omega, by omega, ?_⟩
  ·rw [Nat.add_zero, extract_rest]
  ·unfold restB; rw [List.drop_drop]
 ·have hc' : marks2.contains ((restB s a).take 2) = false := by simpa using hc
  simp only [hc', Bool.false_eq_true, if_false]
  by_cases hd : marks1.contains (peekB s.data.toList a) = true
  ·simp only [hd, if_true]
   refine ⟨rfl, ?_, by omega, by omega, by first | rfl | trivial⟩
   rw [Nat.add_zero, extract_rest, restB_cons ha]; rfl
  ·have hd' : marks1.contains (peekB s.data.toList a) = false := by simpa using hd
   simp only [hd', Bool.false_eq_true, if_false]
end
def NextPost (w : World) (s : ByteArray) (a : Nat) (e : Ending) (w' : World) : Prop :=
 ∃ (k : Int) (t : ByteArray) (n : Nat), e = .returned (.tuple #[.agg #[.int .i64 k, .string t, .int .i64 0, .int .i64 0], .int .i64 n]) ∧ NextIs s a k t n ∧ Below w.heap.size w w'
section
variable {w : World} {xb a : Nat} {s : ByteArray} {bad : Bool}
structure NAt (w wl : World) (pb xb : Nat) (s : ByteArray) (a : Nat) (bad : Bool) : Prop where
 lx : LxAt wl xb s a bad
 cp : wl.cell? ⟨pb, 0, none⟩ = some (.pointer (some ⟨xb, 0, none⟩))
 cl : wl.heap[pb + 1]? = some (.cells #[.int .i64 0, .string ⟨#[]⟩, .int .i64 0, .int .i64 0] 139 (0,0))
 bel : Below w.heap.size w wl
 siz : w.heap.size = pb
theorem NAt.cells {wl : World} {pb : Nat} (h : NAt w wl pb xb s a bad) : wl.cell? ⟨pb + 1, 0, none⟩ = some (.int .i64 0) ∧ wl.cell? ⟨pb + 1, 1, none⟩ = some (.string ⟨#[]⟩) ∧ wl.cell? ⟨pb + 1, 2, none⟩ = some (.int .i64 0) ∧ wl.cell? ⟨pb + 1, 3, none⟩ = some (.int .i64 0) ∧
  wl.frozen? ⟨pb + 1, 0, none⟩ = false ∧ wl.frozen? ⟨pb + 1, 1, none⟩ = false ∧ wl.frozen? ⟨pb + 1, 2, none⟩ = false ∧ wl.frozen? ⟨pb + 1, 3, none⟩ = false :=
 ⟨cell_blk h.cl, cell_blk h.cl, cell_blk h.cl, cell_blk h.cl, frz_blk h.cl, frz_blk h.cl, frz_blk h.cl, frz_blk h.cl⟩
theorem NAt.drewN {wl : World} {pb q : Nat} (h : NAt w wl pb xb s a bad) : NAt w (wl.drewN q) pb xb s a bad := ⟨h.lx.same rfl, h.cp, h.cl, ⟨h.bel.os, h.bel.tape, h.bel.output, h.bel.size, h.bel.block⟩, h.siz⟩
theorem NAt.new {pb : Nat} (h : LxAt w xb s a bad) (hp : w.heap.size = pb) : NAt w ((w.alloc (.cells #[.pointer (some ⟨xb, 0, none⟩)] 156)).alloc (.cells #[.int .i64 0, .string ⟨#[]⟩, .int .i64 0, .int .i64 0] 139)) pb xb s a bad := by
 have hxl := h.lt
 subst hp
 refine ⟨⟨?_, h.le, h.sz⟩, ?_, ?_, ((Below.refl _ _).alloc (Nat.le_refl _) _).alloc (by simp) _, rfl⟩
 ·rw [Below.heap_alloc _ _ _ (by simp; omega), Below.heap_alloc _ _ _ hxl]; exact h.blk
 ·exact cell_blk (cs := #[.pointer (some ⟨xb, 0, none⟩)]) ((Below.heap_alloc _ _ _ (by simp)).trans (heap_new_at rfl _))
 ·exact heap_new_at (by simp) _
theorem NAt.below {wl w2 : World} {pb : Nat} (h : NAt w wl pb xb s a bad) (hb : Below wl.heap.size wl w2) : NAt w w2 pb xb s a bad := by
 have hpx := lt_blk h.cl
 have hxx := h.lx.lt
 have e0 := hb.block _ hxx
 have e1 := hb.block _ hpx
 refine ⟨⟨e0.trans h.lx.blk, h.lx.le, h.lx.sz⟩, (World.cell?_of_block (hb.block pb (by omega))).trans h.cp, e1.trans h.cl, h.bel.trans (hb.mono (by have := h.bel.size; omega)), h.siz⟩
theorem lex_sets {wl : World} {pb : Nat} {v0 v1 v2 v3 u0 u1 u2 u3 : Value} (h : wl.heap[pb]? = some (.cells #[u0, u1, u2, u3] 139 (0,0))) :
  ((((wl.setCell ⟨pb, 0, none⟩ v0).setCell ⟨pb, 1, none⟩ v1).setCell ⟨pb, 2, none⟩ v2).setCell ⟨pb, 3, none⟩ v3).heap[pb]? = some (.cells #[v0, v1, v2, v3] 139 (0,0)) := by
 have h0 := (heap_set h (o := 0) v0 pb).trans (if_pos rfl)
 have h1 := (heap_set h0 (o := 1) v1 pb).trans (if_pos rfl)
 have h2 := (heap_set h1 (o := 2) v2 pb).trans (if_pos rfl)
 exact (heap_set h2 (o := 3) v3 pb).trans (if_pos rfl)
theorem NAt.sets {wl : World} {pb : Nat} (h : NAt w wl pb xb s a bad) (v0 v1 v2 v3 : Value) :
  Below w.heap.size w ((((wl.setCell ⟨pb + 1, 0, none⟩ v0).setCell ⟨pb + 1, 1, none⟩ v1).setCell ⟨pb + 1, 2, none⟩ v2).setCell ⟨pb + 1, 3, none⟩ v3) := by
 have := h.siz
 exact (((h.bel.setCell (p := ⟨pb + 1, 0, none⟩) (by simp; omega) _).setCell (p := ⟨pb + 1, 1, none⟩) (by simp; omega) _).setCell (p := ⟨pb + 1, 2, none⟩) (by simp; omega) _).setCell (p := ⟨pb + 1, 3, none⟩) (by simp; omega) _
theorem next_any (h : LxAt w xb s a bad) (ha : a < s.size) : Calls Tryz.prog 135 #[.pointer (some ⟨xb, 0, none⟩)] w (NextPost w s a) := by
 have hmf : ∀ (fn : Fn) (first cap : Array Value) (w : World), (Instr.makeFunc fn first cap).run Tryz.prog w = .ok (.func fn first cap) w := fun _ _ _ _ => rfl
 have hxl := h.lt
 have H := Lib.hid h
 clear h
 go_enter Tryz.func135, Tryz.ntmps135
 go_wp2_with fail
 obtain ⟨pb, hpb⟩ : ∃ pb, w.heap.size = pb := ⟨_, rfl⟩
 have hn0 : NAt w ((w.alloc (.cells #[.pointer (some ⟨xb, 0, none⟩)] 156)).alloc (.cells #[.int .i64 0, .string ⟨#[]⟩, .int .i64 0, .int .i64 0] 139)) pb xb s a bad := NAt.new H.out hpb
 obtain ⟨wn, hwn⟩ : ∃ wn, (w.alloc (.cells #[.pointer (some ⟨xb, 0, none⟩)] 156)).alloc (.cells #[.int .i64 0, .string ⟨#[]⟩, .int .i64 0, .int .i64 0] 139) = wn := ⟨_, rfl⟩
 rw [hwn] at hn0 ⊢
 rw [hpb]
 obtain ⟨c, hc⟩ : ∃ c, peekB s.data.toList a = c := ⟨_, rfl⟩
 have hp := peek_any hn0.lx 0 (by omega)
 rw [Nat.add_zero, hc] at hp
 have HP : Hid (Calls Tryz.prog 151 #[.pointer (some ⟨xb, 0, none⟩), .int .i64 0] wn fun e w' => e = .returned (.int .u8 (c.toNat : Int)) ∧ ∃ q, w' = wn.drewN q) := Lib.hid hp
 have HN0 := Lib.hid hn0
 have HC := Lib.hid hc
 have HPB := Lib.hid hpb
 clear hn0 hwn hpb hp hc
 refine HP.out.mono ?_
 rintro e w1 ⟨rfl, q1, hq1⟩
 have hn1 : NAt w w1 pb xb s a bad := by rw [hq1]; exact HN0.out.drewN
 have cp := hn1.cp
 have HN1 := Lib.hid hn1
 clear hq1 hn1
 obtain ⟨b, hb⟩ : ∃ b, letterB c = b := ⟨_, rfl⟩
 have k2 := fun w => letter_any c w
 rw [hb] at k2
 have HB := Lib.hid hb
 have K2 := Lib.hid k2
 clear hb k2
 cases b with
 | true =>
  go_wp2_with (go_at_call 153; refine (K2.out _).mono ?_; rintro e w' ⟨rfl, rfl⟩)
  have hwd := word_any HN1.out.lx 0 (by omega)
  obtain ⟨n, hn⟩ : ∃ n, wordLen s.data.toList (a + 0) = n := ⟨_, rfl⟩
  rw [hn] at hwd
  have hrn : runB wordB s.data.toList a = n := by
   rw [← hn]; unfold wordLen; rw [Nat.add_zero, HC.out, HB.out]; rfl
  have hle := runB_le wordB s (k := a) (by omega)
  rw [hrn] at hle
  have HRN := Lib.hid hrn
  have HWD : Hid (Calls Tryz.prog 154 #[.pointer (some ⟨xb, 0, none⟩), .int .i64 0] w1 fun e w' => e = .returned (.int .i64 n) ∧ ∃ q, w' = w1.drewN q) := Lib.hid hwd
  clear hn hrn hwd
  refine HWD.out.mono ?_
  rintro e w2 ⟨rfl, q2, hq2⟩
  have hn2 : NAt w w2 pb xb s a bad := by rw [hq2]; exact HN1.out.drewN
  have HN2 := Lib.hid hn2
  clear hq2 hn2 cp
  go_wp2_with fail
  have hpt := part_any HN2.out.lx HN2.out.cp 0 n (by omega)
  have HPT : Hid (Calls Tryz.prog 152 #[.int .i64 0, .int .i64 n, .pointer (some ⟨pb, 0, none⟩)] w2 fun e w' => e = .returned (.string (s.extract (a + 0) (a + 0 + n))) ∧ ∃ q, w' = w2.drewN q) := Lib.hid hpt
  clear hpt
  refine HPT.out.mono ?_
  rintro e w3 ⟨rfl, q3, hq3⟩
  have hn3 : NAt w w3 pb xb s a bad := by rw [hq3]; exact HN2.out.drewN
  obtain ⟨l0, l1, l2, l3, f0, f1, f2, f3⟩ := hn3.cells
  have HN3 := Lib.hid hn3
  clear hq3 hn3
  go_wp2_with fail
  have hb4 := lex_sets (v0 := .int .i64 0) (v1 := .string (s.extract (a + 0) (a + 0 + n))) (v2 := .int .i64 0) (v3 := .int .i64 0) HN3.out.cl
  have hbel := HN3.out.sets (.int .i64 0) (.string (s.extract (a + 0) (a + 0 + n))) (.int .i64 0) (.int .i64 0)
  clear l0 l1 l2 l3 f0 f1 f2 f3
  generalize World.setCell _ ⟨pb + 1, 3, none⟩ _ = w4 at hb4 hbel ⊢
  have l0 := cell_blk (o := 0) hb4
  have l1 := cell_blk (o := 1) hb4
  have l2 := cell_blk (o := 2) hb4
  have l3 := cell_blk (o := 3) hb4
  refine bodyPost_ret (v := .tuple #[.agg #[.int .i64 0, .string (s.extract (a + 0) (a + 0 + n)), .int .i64 0, .int .i64 0], .int .i64 n]) ?_ rfl ⟨_, _, _, rfl, ?_, hbel⟩
  ·simp [results, Tryz.results135, go_sem, l0, l1, l2, l3]
  ·have := NextIs.word ha (by rw [HC.out, HB.out])
   rw [HRN.out] at this
   exact this
 | false =>
  by_cases h36 : c = 36
  ·have e36 : ((c.toNat : Int) == 36) = true := by rw [h36]; decide
   have hwd := word_any HN1.out.lx 1 (by omega)
   obtain ⟨n, hn⟩ : ∃ n, wordLen s.data.toList (a + 1) = n := ⟨_, rfl⟩
   rw [hn] at hwd
   have HN := Lib.hid hn
   have HWD : Hid (Calls Tryz.prog 154 #[.pointer (some ⟨xb, 0, none⟩), .int .i64 1] w1 fun e w' => e = .returned (.int .i64 n) ∧ ∃ q, w' = w1.drewN q) := Lib.hid hwd
   clear hn hwd
   have K36 : Hid (∀ w, Calls Tryz.prog 153 #[.int .u8 36] w fun e w' => e = .returned (.bool false) ∧ w = w') := Lib.hid fun w => by
    have := K2.out w
    rw [h36] at this
    exact this
   go_wp2_with fail
   refine (K36.out _).mono ?_
   rintro e w' ⟨rfl, rfl⟩
   go_wp2_with fail
   refine HWD.out.mono ?_
   rintro e w2 ⟨rfl, q2, hq2⟩
   have hn2 : NAt w w2 pb xb s a bad := by rw [hq2]; exact HN1.out.drewN
   have HN2 := Lib.hid hn2
   clear hq2 hn2 cp
   by_cases hn0 : n = 0
   ·subst hn0
    obtain ⟨l0, l1, l2, l3, f0, f1, f2, f3⟩ := HN2.out.cells
    go_wp2_with fail
    have hb4 := lex_sets (v0 := .int .i64 0) (v1 := .string ⟨#[]⟩) (v2 := .int .i64 0) (v3 := .int .i64 0) HN2.out.cl
    have hbel := HN2.out.sets (.int .i64 0) (.string ⟨#[]⟩) (.int .i64 0) (.int .i64 0)
    clear l0 l1 l2 l3 f0 f1 f2 f3
    generalize World.setCell _ ⟨pb + 1, 3, none⟩ _ = w4 at hb4 hbel ⊢
    have l0 := cell_blk (o := 0) hb4
    have l1 := cell_blk (o := 1) hb4
    have l2 := cell_blk (o := 2) hb4
    have l3 := cell_blk (o := 3) hb4
    refine bodyPost_ret (v := .tuple #[.agg #[.int .i64 0, .string ⟨#[]⟩, .int .i64 0, .int .i64 0], .int .i64 (0 : Nat)]) ?_ rfl ⟨_, _, _, rfl, ?_, hbel⟩
    ·simp [results, Tryz.results135, go_sem, l0, l1, l2, l3]
    ·have hl : letterB (peekB s.data.toList (a + 1)) = false := by
      have e := HN.out
      unfold wordLen at e
      cases hx : letterB (peekB s.data.toList (a + 1)) with
      | false => rfl
      | true =>
       rw [hx, if_pos rfl] at e
       have ha1 : a + 1 < s.size := by
        rcases Nat.lt_or_ge (a + 1) s.size with q | q
        ·exact q
        ·rw [peekB_ge q, letterB_zero] at hx; simp at hx
       have := runB_pos (s := s) (k := a + 1) wordB ha1 (by unfold wordB; rw [hx]; rfl)
       omega
     exact (NextIs.var ha (by rw [HC.out, h36])).2 hl
   ·have hn1 : (0 : Int) < n := by omega
    have hl : letterB (peekB s.data.toList (a + 1)) = true := by
     have e := HN.out
     unfold wordLen at e
     cases hx : letterB (peekB s.data.toList (a + 1)) with
     | true => rfl
     | false => rw [hx, if_neg (by simp)] at e; omega
    have hrn : runB wordB s.data.toList (a + 1) = n := by
     have e := HN.out
     unfold wordLen at e
     rw [hl, if_pos rfl] at e; exact e
    have ha1 : a + 1 < s.size := by
     rcases Nat.lt_or_ge (a + 1) s.size with q | q
     ·exact q
     ·rw [peekB_ge q, letterB_zero] at hl; simp at hl
    have hle := runB_le wordB s (k := a + 1) (by omega)
    rw [hrn] at hle
    have HRN := Lib.hid hrn
    have HL := Lib.hid hl
    have HA1 := Lib.hid ha1
    have HLE := Lib.hid hle
    clear hrn hl ha1 hle hn0
    go_wp2_with fail
    have hle := HLE.out
    have hi1 : (n : Int) + 1 ≤ 1099511627776 := by have := HN2.out.lx.sz; omega
    have hi0 : (0 : Int) ≤ (n : Int) + 1 := by omega
    have hpt := part_any HN2.out.lx HN2.out.cp 1 n (by omega)
    have HPT : Hid (Calls Tryz.prog 152 #[.int .i64 1, .int .i64 n, .pointer (some ⟨pb, 0, none⟩)] w2 fun e w' => e = .returned (.string (s.extract (a + 1) (a + 1 + n))) ∧ ∃ q, w' = w2.drewN q) := Lib.hid hpt
    clear hpt
    refine HPT.out.mono ?_
    rintro e w3 ⟨rfl, q3, hq3⟩
    have hn3 : NAt w w3 pb xb s a bad := by rw [hq3]; exact HN2.out.drewN
    obtain ⟨l0, l1, l2, l3, f0, f1, f2, f3⟩ := hn3.cells
    have HN3 := Lib.hid hn3
    clear hq3 hn3
    go_wp2_with fail
    have hb4 := lex_sets (v0 := .int .i64 1) (v1 := .string (s.extract (a + 1) (a + 1 + n))) (v2 := .int .i64 0) (v3 := .int .i64 0) HN3.out.cl
    have hbel := HN3.out.sets (.int .i64 1) (.string (s.extract (a + 1) (a + 1 + n))) (.int .i64 0) (.int .i64 0)
    clear l0 l1 l2 l3 f0 f1 f2 f3
    generalize World.setCell _ ⟨pb + 1, 3, none⟩ _ = w4 at hb4 hbel ⊢
    have l0 := cell_blk (o := 0) hb4
    have l1 := cell_blk (o := 1) hb4
    have l2 := cell_blk (o := 2) hb4
    have l3 := cell_blk (o := 3) hb4
    refine bodyPost_ret (v := .tuple #[.agg #[.int .i64 1, .string (s.extract (a + 1) (a + 1 + n)), .int .i64 0, .int .i64 0], .int .i64 ((n + 1 : Nat) : Int)]) ?_ rfl ⟨_, _, _, rfl, ?_, hbel⟩
    ·simp [results, Tryz.results135, go_sem, l0, l1, l2, l3]
    ·have := (NextIs.var ha (by rw [HC.out, h36]) (k := 0) (t := ⟨#[]⟩)).1 HL.out
     rw [HRN.out] at this
     exact this
  ·have e36 : ((c.toNat : Int) == 36) = false := by
    rw [beq_eq_false_iff_ne]
    intro e
    exact h36 (UInt8.toNat_inj.1 (by simp; omega))
   clear cp
   have cp := HN1.out.cp
   obtain ⟨d, hd⟩ : ∃ d, digitB c = d := ⟨_, rfl⟩
   have k3 := fun w => digit_any c w
   rw [hd] at k3
   have HD := Lib.hid hd
   have K3 := Lib.hid k3
   clear hd k3
   go_wp2_with fail
   refine (K2.out _).mono ?_
   rintro e w' ⟨rfl, rfl⟩
   go_wp2_with fail
   refine (K3.out _).mono ?_
   rintro e w' ⟨rfl, rfl⟩
   cases d with
   | true =>
    have hrd := run_digit HN1.out.lx 0 (by omega)
    obtain ⟨n, hn⟩ : ∃ n, runB digitB s.data.toList (a + 0) = n := ⟨_, rfl⟩
    rw [hn] at hrd
    have hrn : runB digitB s.data.toList a = n := hn
    have hle := runB_le digitB s (k := a) (by omega)
    rw [hrn] at hle
    have HRN := Lib.hid hrn
    have HRD : Hid (Calls Tryz.prog 156 #[.pointer (some ⟨xb, 0, none⟩), .int .i64 0, .func (.func 155) #[] #[]] w1 fun e w' => e = .returned (.int .i64 n) ∧ ∃ q, w' = w1.drewN q) := Lib.hid hrd
    clear hn hrn hrd
    go_wp2_with fail
    refine HRD.out.mono ?_
    rintro e w2 ⟨rfl, q2, hq2⟩
    have hn2 : NAt w w2 pb xb s a bad := by rw [hq2]; exact HN1.out.drewN
    have HN2 := Lib.hid hn2
    clear hq2 hn2 cp
    go_wp2_with fail
    have hpt := part_any HN2.out.lx HN2.out.cp 0 n (by omega)
    have HPT : Hid (Calls Tryz.prog 152 #[.int .i64 0, .int .i64 n, .pointer (some ⟨pb, 0, none⟩)] w2 fun e w' => e = .returned (.string (s.extract (a + 0) (a + 0 + n))) ∧ ∃ q, w' = w2.drewN q) := Lib.hid hpt
    clear hpt
    refine HPT.out.mono ?_
    rintro e w3 ⟨rfl, q3, hq3⟩
    have hn3 : NAt w w3 pb xb s a bad := by rw [hq3]; exact HN2.out.drewN
    obtain ⟨l0, l1, l2, l3, f0, f1, f2, f3⟩ := hn3.cells
    have HN3 := Lib.hid hn3
    clear hq3 hn3
    go_wp2_with fail
    have hb4 := lex_sets (v0 := .int .i64 2) (v1 := .string (s.extract (a + 0) (a + 0 + n))) (v2 := .int .i64 0) (v3 := .int .i64 0) HN3.out.cl
    have hbel := HN3.out.sets (.int .i64 2) (.string (s.extract (a + 0) (a + 0 + n))) (.int .i64 0) (.int .i64 0)
    clear l0 l1 l2 l3 f0 f1 f2 f3
    generalize World.setCell _ ⟨pb + 1, 3, none⟩ _ = w4 at hb4 hbel ⊢
    have l0 := cell_blk (o := 0) hb4
    have l1 := cell_blk (o := 1) hb4
    have l2 := cell_blk (o := 2) hb4
    have l3 := cell_blk (o := 3) hb4
    refine bodyPost_ret (v := .tuple #[.agg #[.int .i64 2, .string (s.extract (a + 0) (a + 0 + n)), .int .i64 0, .int .i64 0], .int .i64 n]) ?_ rfl ⟨_, _, _, rfl, ?_, hbel⟩
    ·simp [results, Tryz.results135, go_sem, l0, l1, l2, l3]
    ·have := NextIs.digits ha (by rw [HC.out, HB.out]) (by rw [HC.out]; exact h36) (by rw [HC.out, HD.out])
     rw [HRN.out] at this
     exact this
   | false =>
    by_cases h34 : c = 34
    ·have e34 : ((c.toNat : Int) == 34) = true := by rw [h34]; decide
     have hq := quoted_any HN1.out.lx
     obtain ⟨n, hn⟩ : ∃ n, (quotedF s a).2 = n := ⟨_, rfl⟩
     obtain ⟨t, ht⟩ : ∃ t : ByteArray, ⟨(quotedF s a).1.toArray⟩ = t := ⟨_, rfl⟩
     have HQ : Hid (Calls Tryz.prog 157 #[.pointer (some ⟨xb, 0, none⟩)] w1 fun e w' => e = .returned (.tuple #[.string t, .int .i64 n]) ∧ Below w1.heap.size w1 w') := by
      unfold QuotedPost at hq
      rw [hn, ht] at hq
      exact Lib.hid hq
     have HN := Lib.hid hn
     have HT := Lib.hid ht
     clear hq hn ht
     go_wp2_with fail
     refine HQ.out.mono ?_
     rintro e w2 ⟨rfl, hq2⟩
     have hn2 : NAt w w2 pb xb s a bad := HN1.out.below hq2
     obtain ⟨l0, l1, l2, l3, f0, f1, f2, f3⟩ := hn2.cells
     have HN2 := Lib.hid hn2
     clear hq2 hn2 cp
     go_wp2_with fail
     have hb4 := lex_sets (v0 := .int .i64 3) (v1 := .string t) (v2 := .int .i64 0) (v3 := .int .i64 0) HN2.out.cl
     have hbel := HN2.out.sets (.int .i64 3) (.string t) (.int .i64 0) (.int .i64 0)
     clear l0 l1 l2 l3 f0 f1 f2 f3
     generalize World.setCell _ ⟨pb + 1, 3, none⟩ _ = w4 at hb4 hbel ⊢
     have l0 := cell_blk (o := 0) hb4
     have l1 := cell_blk (o := 1) hb4
     have l2 := cell_blk (o := 2) hb4
     have l3 := cell_blk (o := 3) hb4
     refine bodyPost_ret (v := .tuple #[.agg #[.int .i64 3, .string t, .int .i64 0, .int .i64 0], .int .i64 n]) ?_ rfl ⟨_, _, _, rfl, ?_, hbel⟩
     ·simp [results, Tryz.results135, go_sem, l0, l1, l2, l3]
     ·have := NextIs.quoted ha (by rw [HC.out, h34])
      rw [HN.out, HT.out] at this
      exact this
    ·have e34 : ((c.toNat : Int) == 34) = false := by
      rw [beq_eq_false_iff_ne]
      intro e
      exact h34 (UInt8.toNat_inj.1 (by simp; omega))
     have hm := mark_any HN1.out.lx ha
     obtain ⟨n, hn⟩ : ∃ n, markLen (restB s a) = n := ⟨_, rfl⟩
     rw [hn] at hm
     have HM : Hid (Calls Tryz.prog 158 #[.pointer (some ⟨xb, 0, none⟩)] w1 fun e w' => e = .returned (.int .i64 n) ∧ Below w1.heap.size w1 w') := Lib.hid hm
     have hni : NextIs s a 4 (s.extract (a + 0) (a + 0 + n)) n := by
      have := NextIs.mark ha (by rw [HC.out, HB.out]) (by rw [HC.out]; exact h36) (by rw [HC.out, HD.out]) (by rw [HC.out]; exact h34)
      rw [hn] at this
      exact this
     have hle : a + n ≤ s.size := by
      have h1 := markLen_le (restB s a)
      rw [hn] at h1
      have h2 : (restB s a).length = s.size - a := by unfold restB; rw [List.length_drop]; rfl
      omega
     have HNI := Lib.hid hni
     have HLE := Lib.hid hle
     clear hm hn hni hle
     go_wp2_with fail
     refine HM.out.mono ?_
     rintro e w2 ⟨rfl, hq2⟩
     have hn2 : NAt w w2 pb xb s a bad := HN1.out.below hq2
     have HN2 := Lib.hid hn2
     clear hq2 hn2 cp
     go_wp2_with fail
     have hpt := part_any HN2.out.lx HN2.out.cp 0 n (by have := HLE.out; omega)
     have HPT : Hid (Calls Tryz.prog 152 #[.int .i64 0, .int .i64 n, .pointer (some ⟨pb, 0, none⟩)] w2 fun e w' => e = .returned (.string (s.extract (a + 0) (a + 0 + n))) ∧ ∃ q, w' = w2.drewN q) := Lib.hid hpt
     clear hpt
     refine HPT.out.mono ?_
     rintro e w3 ⟨rfl, q3, hq3⟩
     have hn3 : NAt w w3 pb xb s a bad := by rw [hq3]; exact HN2.out.drewN
     obtain ⟨l0, l1, l2, l3, f0, f1, f2, f3⟩ := hn3.cells
     have HN3 := Lib.hid hn3
     clear hq3 hn3
     go_wp2_with fail
     have hb4 := lex_sets (v0 := .int .i64 4) (v1 := .string (s.extract (a + 0) (a + 0 + n))) (v2 := .int .i64 0) (v3 := .int .i64 0) HN3.out.cl
     have hbel := HN3.out.sets (.int .i64 4) (.string (s.extract (a + 0) (a + 0 + n))) (.int .i64 0) (.int .i64 0)
     clear l0 l1 l2 l3 f0 f1 f2 f3
     generalize World.setCell _ ⟨pb + 1, 3, none⟩ _ = w4 at hb4 hbel ⊢
     have l0 := cell_blk (o := 0) hb4
     have l1 := cell_blk (o := 1) hb4
     have l2 := cell_blk (o := 2) hb4
     have l3 := cell_blk (o := 3) hb4
     refine bodyPost_ret (v := .tuple #[.agg #[.int .i64 4, .string (s.extract (a + 0) (a + 0 + n)), .int .i64 0, .int .i64 0], .int .i64 n]) ?_ rfl ⟨_, _, _, rfl, ?_, hbel⟩
     ·simp [results, Tryz.results135, go_sem, l0, l1, l2, l3]
     ·exact HNI.out
end
end Go.Proofs.YtnpkdiffpgcbhaaGreatDoor
