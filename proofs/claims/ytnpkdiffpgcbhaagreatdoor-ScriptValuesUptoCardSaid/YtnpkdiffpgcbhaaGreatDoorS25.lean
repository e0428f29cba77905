/- The parser, walked (ParG). Conditions: each theorem's own. -/
import Derived.Test.YtnpkdiffpgcbhaaGreatDoorS24
set_option maxRecDepth 100000
set_option maxHeartbeats 1600000
namespace Go.Proofs.YtnpkdiffpgcbhaaGreatDoor
open Go.RowKit
attribute [local go_sem] Oper.semAt_some
theorem pVal_int {n : Nat} {l : List Lx} (h : isL 2 [] l = true) : pVal n l = (numL l).map fun p => (intV p.1, p.2) := by
 cases l with
 | nil => simp [isL] at h
 | cons x r =>
  have hk : x.kind = 2 := by simpa [isL] using h
  unfold numL takeL
  rw [pVal.eq_def]
  simp only [hk]
  simp
theorem pVal_text {n : Nat} {x : Lx} {r : List Lx} (h : x.kind = 3) : pVal n (x :: r) = some (textV x.text, r) := by
 rw [pVal.eq_def]
 simp [h]
structure VE (W : World) (pb k : Nat) (T : List Lx) (d : Int) (w : World) : Prop where
 P : PAt w pb T k
 x : w.heap[W.heap.size]? = some (.cells #[.pointer (some ⟨pb, 0, none⟩)] 104 (0,0))
 dd : w.heap[W.heap.size + 1]? = some (.cells #[.int .i64 d] 3 (0,0))
 rr : w.heap[W.heap.size + 1 + 1]? = some (.cells #[.int .i64 0, .bool false, .int .i64 0, .string ⟨#[]⟩, .slice none 0 0] 52 (0,0))
 fp : FP (fun i => i = pb) W w
 lt : pb < W.heap.size
section
variable {W w w' : World} {pb k k' : Nat} {T : List Lx} {d : Int}
theorem VE.far (h : VE W pb k T d w) (hp : PAt w' pb T k') (hf : FP (fun i => i = pb) w w') : VE W pb k' T d w' := by
 have := h.lt
 exact ⟨hp, (hf.blk _ (lt_blk h.x) (by omega)).trans h.x, (hf.blk _ (lt_blk h.dd) (by omega)).trans h.dd, (hf.blk _ (lt_blk h.rr) (by omega)).trans h.rr, h.fp.trans hf (fun i hi => .inl hi), h.lt⟩
theorem VE.same (h : VE W pb k T d w) (hs : Same w w') : VE W pb k T d w' := h.far (h.P.same (fun b _ => by rw [hs.1])) (FP.ofSame hs)
theorem VE.new (hp : PAt W pb T k) : VE W pb k T d (((W.alloc (.cells #[.pointer (some ⟨pb, 0, none⟩)] 104)).alloc (.cells #[.int .i64 d] 3)).alloc (.cells #[.int .i64 0, .bool false, .int .i64 0, .string ⟨#[]⟩, .slice none 0 0] 52)) := by
 have hf : FP (fun i => i = pb) W (((W.alloc (.cells #[.pointer (some ⟨pb, 0, none⟩)] 104)).alloc (.cells #[.int .i64 d] 3)).alloc (.cells #[.int .i64 0, .bool false, .int .i64 0, .string ⟨#[]⟩, .slice none 0 0] 52)) := (((FP.refl _ W).alloc _).alloc _).alloc _
 refine ⟨hp.fp (S := nob) ((((FP.refl _ W).alloc _).alloc _).alloc _) (fun _ h => h.elim), ?_, ?_, ?_, hf, hp.lt⟩
 ·rw [heap_alloc_ne (by simp; omega), heap_alloc_ne (by simp)]; exact heap_new_at rfl _
 ·rw [heap_alloc_ne (by simp)]; exact heap_new_at (by simp) _
 ·exact heap_new_at (by simp) _
theorem VE.done (h : VE W pb k T d w) (a b c e f : Value) : (put5 w (W.heap.size + 1 + 1) 0 a b c e f).heap[W.heap.size + 1 + 1]? = some (.cells #[a, b, c, e, f] 52 (0,0)) ∧ PAt (put5 w (W.heap.size + 1 + 1) 0 a b c e f) pb T k ∧ FP (fun i => i = pb) W (put5 w (W.heap.size + 1 + 1) 0 a b c e f) ∧
  (∀ b', b' < w.heap.size → b' ≠ W.heap.size + 1 + 1 → (put5 w (W.heap.size + 1 + 1) 0 a b c e f).heap[b']? = w.heap[b']?) := by
 have hl := h.lt
 refine ⟨?_, h.P.same (fun b' hb => put5_ne _ _ _ _ _ _ _ _ (by omega)), h.fp.trans (put5_fp (S := fun i => i = W.heap.size + 1 + 1) w _ 0 a b c e f rfl) (fun i hi => .inr (by omega)), fun b' _ hne => put5_ne _ _ _ _ _ _ _ _ hne⟩
 unfold put5
 have h0 := heap_set h.rr (o := 0) a (W.heap.size + 1 + 1)
 rw [if_pos rfl] at h0
 have h1 := heap_set h0 (o := 0 + 1) b (W.heap.size + 1 + 1)
 rw [if_pos rfl] at h1
 have h2 := heap_set h1 (o := 0 + 1 + 1) c (W.heap.size + 1 + 1)
 rw [if_pos rfl] at h2
 have h3 := heap_set h2 (o := 0 + 1 + 1 + 1) e (W.heap.size + 1 + 1)
 rw [if_pos rfl] at h3
 have h4 := heap_set h3 (o := 0 + 1 + 1 + 1 + 1) f (W.heap.size + 1 + 1)
 rw [if_pos rfl] at h4
 rw [h4]
 rfl
theorem is_ret (h : PAt w pb T k) (kd : Nat) (s : ByteArray) {b : Bool} (hb : isL kd s.data.toList (T.drop k) = b) :
  Calls Tryz.prog 72 #[.pointer (some ⟨pb, 0, none⟩), .int .i64 kd, .string s] w fun e w' => e = .returned (.bool b) ∧ Same w w' :=
 (is_any h kd s).mono fun e w' ⟨he, q, hq⟩ => ⟨by rw [he, hb], by rw [hq]; exact same_drewN w q⟩
end
theorem rdv_flat {w : World} {F : Nat → Prop} (k : Int) (b : Bool) (i : Int) (t : ByteArray) : RdV w F [.int .i64 k, .bool b, .int .i64 i, .string t, .slice none 0 0] (.mk k b i t.data.toList []) :=
 .mk k b i t _ [] [] ⟨rfl, none, 0, rfl, Nat.le_refl _, .inl rfl⟩ .nil
theorem numL_drop {T r : List Lx} {k m : Nat} (h : numL (T.drop k) = some (m, r)) : r = T.drop (k + 1) ∧ k < T.length := by
 unfold numL at h
 split at h
 ·cases h
 ·rename_i t r' ht
  obtain ⟨hk, _, hr, _⟩ := takeL_drop ht
  split at h
  ·cases h; exact ⟨hr, hk⟩
  ·cases h
theorem drop_next {T r : List Lx} {x : Lx} {k : Nat} (h : T.drop k = x :: r) : k < T.length ∧ r = T.drop (k + 1) ∧ T[k]? = some x := by
 have hk : k < T.length := by
  rcases Nat.lt_or_ge k T.length with h' | h'
  ·exact h'
  ·rw [List.drop_eq_nil_of_le h'] at h; cases h
 rw [drop_cons hk] at h
 injection h with h1 h2
 exact ⟨hk, h2.symm, by rw [List.getElem?_eq_getElem hk, h1]⟩
theorem value_int_none {W : World} {pb k : Nat} {T : List Lx} {d : Int} (hp : PAt W pb T k) (hi : isL 2 [] (T.drop k) = true) (hn : numL (T.drop k) = none) :
  Calls Tryz.prog 48 #[.pointer (some ⟨pb, 0, none⟩), .int .i64 d] W (ValEnd W pb T k none) := by
 have HE := Lib.hid (VE.new (d := d) hp)
 clear hp
 go_enter Tryz.func48, Tryz.ntmps48
 go_wp2_with fail
 refine (is_ret HE.out.P 2 ⟨#[]⟩ hi).mono ?_
 rintro e w1 ⟨rfl, hs⟩
 have HE1 := Lib.hid (HE.out.same hs)
 clear hs
 have x1 : w1.cell? ⟨W.heap.size, 0, none⟩ = some (.pointer (some ⟨pb, 0, none⟩)) := cell_blk HE1.out.x
 go_wp2_with fail
 refine (number_none HE1.out.P hn).mono ?_
 rintro e w9 ⟨rfl, hf⟩
 exact ⟨rfl, rfl, HE1.out.fp.trans hf (fun i hi => .inl hi)⟩
theorem value_int_ok {W : World} {pb k : Nat} {T : List Lx} {d : Int} (hp : PAt W pb T k) (hi : isL 2 [] (T.drop k) = true) {m : Nat} {r : List Lx} (hn : numL (T.drop k) = some (m, r)) :
  Calls Tryz.prog 48 #[.pointer (some ⟨pb, 0, none⟩), .int .i64 d] W (ValEnd W pb T k (some (intV m, r))) := by
 obtain ⟨hr, hlt⟩ := numL_drop hn
 have HE := Lib.hid (VE.new (d := d) hp)
 clear hp
 go_enter Tryz.func48, Tryz.ntmps48
 go_wp2_with fail
 refine (is_ret HE.out.P 2 ⟨#[]⟩ hi).mono ?_
 rintro e w1 ⟨rfl, hs⟩
 have HE1 := Lib.hid (HE.out.same hs)
 clear hs
 have x1 : w1.cell? ⟨W.heap.size, 0, none⟩ = some (.pointer (some ⟨pb, 0, none⟩)) := cell_blk HE1.out.x
 go_wp2_with fail
 refine (number_ok HE1.out.P hn).mono ?_
 rintro e w2 ⟨rfl, hp, hf⟩
 have HE2 := Lib.hid (HE1.out.far hp hf)
 clear hp hf
 have x2 : w2.cell? ⟨W.heap.size, 0, none⟩ = some (.pointer (some ⟨pb, 0, none⟩)) := cell_blk HE2.out.x
 have c0 : w2.cell? ⟨W.heap.size + 1 + 1, 0, none⟩ = some (.int .i64 0) := cell_blk HE2.out.rr
 have f0 : w2.frozen? ⟨W.heap.size + 1 + 1, 0, none⟩ = false := frz_blk HE2.out.rr
 have c1 : w2.cell? ⟨W.heap.size + 1 + 1, 1, none⟩ = some (.bool false) := cell_blk HE2.out.rr
 have f1 : w2.frozen? ⟨W.heap.size + 1 + 1, 1, none⟩ = false := frz_blk HE2.out.rr
 have c2 : w2.cell? ⟨W.heap.size + 1 + 1, 2, none⟩ = some (.int .i64 0) := cell_blk HE2.out.rr
 have f2 : w2.frozen? ⟨W.heap.size + 1 + 1, 2, none⟩ = false := frz_blk HE2.out.rr
 have c3 : w2.cell? ⟨W.heap.size + 1 + 1, 3, none⟩ = some (.string ⟨#[]⟩) := cell_blk HE2.out.rr
 have f3 : w2.frozen? ⟨W.heap.size + 1 + 1, 3, none⟩ = false := frz_blk HE2.out.rr
 have c4 : w2.cell? ⟨W.heap.size + 1 + 1, 4, none⟩ = some (.slice none 0 0) := cell_blk HE2.out.rr
 have f4 : w2.frozen? ⟨W.heap.size + 1 + 1, 4, none⟩ = false := frz_blk HE2.out.rr
 go_wp2_with fail
 have HF := Lib.hid (HE2.out.done (.int .i64 2) (.bool false) (.int .i64 m) (.string ⟨#[]⟩) (.slice none 0 0))
 change bodyPost _ _ _ _ _ (put5 w2 (W.heap.size + 1 + 1) 0 (.int .i64 2) (.bool false) (.int .i64 m) (.string ⟨#[]⟩) (.slice none 0 0))
 generalize put5 w2 (W.heap.size + 1 + 1) 0 (.int .i64 2) (.bool false) (.int .i64 m) (.string ⟨#[]⟩) (.slice none 0 0) = wf at HF ⊢
 have r0 : wf.cell? ⟨W.heap.size + 1 + 1, 0, none⟩ = some (.int .i64 2) := cell_blk HF.out.1
 have r1 : wf.cell? ⟨W.heap.size + 1 + 1, 1, none⟩ = some (.bool false) := cell_blk HF.out.1
 have r2 : wf.cell? ⟨W.heap.size + 1 + 1, 2, none⟩ = some (.int .i64 m) := cell_blk HF.out.1
 have r3 : wf.cell? ⟨W.heap.size + 1 + 1, 3, none⟩ = some (.string ⟨#[]⟩) := cell_blk HF.out.1
 have r4 : wf.cell? ⟨W.heap.size + 1 + 1, 4, none⟩ = some (.slice none 0 0) := cell_blk HF.out.1
 refine bodyPost_ret (v := .agg #[.int .i64 2, .bool false, .int .i64 m, .string ⟨#[]⟩, .slice none 0 0]) (by simp [results, go_sem, r0, r1, r2, r3, r4]) rfl ?_
 exact ⟨2, false, m, ⟨#[]⟩, .slice none 0 0, k + 1, rfl, rdv_flat .., hr, Nat.lt_succ_self k, hlt, HF.out.2.1, HF.out.2.2.1⟩
theorem value_text {W : World} {pb k : Nat} {T : List Lx} {d : Int} (hp : PAt W pb T k) {x : Lx} {r : List Lx} (hx : T.drop k = x :: r) (hkd : x.kind = 3) :
  Calls Tryz.prog 48 #[.pointer (some ⟨pb, 0, none⟩), .int .i64 d] W (ValEnd W pb T k (some (textV x.text, r))) := by
 obtain ⟨hlt, hr, hgx⟩ := drop_next hx
 have i2 : isL 2 [] (T.drop k) = false := by rw [hx]; simp [isL, hkd]
 have i3 : isL 3 [] (T.drop k) = true := by rw [hx]; simp [isL, hkd]
 have HE := Lib.hid (VE.new (d := d) hp)
 clear hp
 go_enter Tryz.func48, Tryz.ntmps48
 go_wp2_with fail
 refine (is_ret HE.out.P 2 ⟨#[]⟩ i2).mono ?_
 rintro e w1 ⟨rfl, hs⟩
 have HE1 := Lib.hid (HE.out.same hs)
 clear hs
 have x1 : w1.cell? ⟨W.heap.size, 0, none⟩ = some (.pointer (some ⟨pb, 0, none⟩)) := cell_blk HE1.out.x
 go_wp2_with fail
 refine (is_ret HE1.out.P 3 ⟨#[]⟩ i3).mono ?_
 rintro e w2 ⟨rfl, hs⟩
 have HE2 := Lib.hid (HE1.out.same hs)
 clear hs
 have x2 : w2.cell? ⟨W.heap.size, 0, none⟩ = some (.pointer (some ⟨pb, 0, none⟩)) := cell_blk HE2.out.x
 obtain ⟨g, off, cap, y, h1, h2, h3, h4, h5, h6⟩ := HE2.out.P.next hlt
 have hl := HE2.out.P.good.len
 have hy : y.data.toList = x.text := by rw [h6]; rw [List.getElem?_eq_getElem hlt] at hgx; cases hgx; rfl
 obtain ⟨N, hN⟩ : ∃ N, T.length = N := ⟨_, rfl⟩
 have p1 : w2.cell? ⟨pb, 1, none⟩ = some (.int .i64 k) := cell_blk h1
 have q1 : w2.frozen? ⟨pb, 1, none⟩ = false := frz_blk h1
 have hkw : IntKind.i64.wrap ((k : Int) + 1) = (k : Int) + 1 := IntWalk.i64_in _ (by omega)
 have HE3 : Hid (VE W pb (k + 1) T d (w2.setCell ⟨pb, 1, none⟩ (.int .i64 ((k : Int) + 1)))) := Lib.hid (HE2.out.far (HE2.out.P.put (k' := k + 1) hlt) ((FP.refl _ w2).set _ (.inl rfl)))
 have HB3 : Hid ((w2.setCell ⟨pb, 1, none⟩ (.int .i64 ((k : Int) + 1))).heap[pb]? = some (.cells #[.slice (some ⟨g, off, none⟩) T.length cap, .int .i64 ((k : Int) + 1)] 135 (0,0))) := Lib.hid ((heap_set h1 _ _).trans (if_pos rfl))
 have HG3 : Hid ((w2.setCell ⟨pb, 1, none⟩ (.int .i64 ((k : Int) + 1))).cell? ⟨g, off + k * 4 + 1, none⟩ = some (.string y)) := Lib.hid ((World.cell?_of_block (heap_set_ne (by simp; omega))).trans h5)
 have HY := Lib.hid hy
 have hgb : g < pb := h2
 have hpW := HE2.out.lt
 have hcapN := h3
 rw [hN] at hcapN hlt hl
 clear h1 h2 h3 h4 h5 h6 hy hgx hx hkd i2 i3
 go_wp2_with fail
 generalize w2.setCell ⟨pb, 1, none⟩ (.int .i64 ((k : Int) + 1)) = w3 at HE3 HB3 HG3 ⊢
 rw [hN] at HB3
 have HN := Lib.hid hN
 clear hN
 have d0 : w3.cell? ⟨pb, 0, none⟩ = some (.slice (some ⟨g, off, none⟩) N cap) := cell_blk HB3.out
 have d1 : w3.cell? ⟨pb, 1, none⟩ = some (.int .i64 ((k : Int) + 1)) := cell_blk HB3.out
 have d2 : w3.cell? ⟨g, off + k * 4 + 1, none⟩ = some (.string y) := HG3.out
 have e1 : IntKind.i64.wrap ((k : Int) + 1 - 1) = (k : Int) := by
  rw [show (k : Int) + 1 - 1 = (k : Int) by omega]; exact IntWalk.i64_in _ (by omega)
 have e4 : IntKind.i64.wrap (k : Int) = (k : Int) := IntWalk.i64_in _ (by omega)
 have e2 : (0 : Int) ≤ (k : Int) := by omega
 have e3 : (k : Int) < (N : Int) := by omega
 have n1 : W.heap.size + 1 + 1 ≠ pb := by omega
 have n2 : W.heap.size + 1 + 1 ≠ g := by omega
 have n3 : W.heap.size + 1 + 1 ≠ W.heap.size := by omega
 have x3 : w3.cell? ⟨W.heap.size, 0, none⟩ = some (.pointer (some ⟨pb, 0, none⟩)) := cell_blk HE3.out.x
 have c0 : w3.cell? ⟨W.heap.size + 1 + 1, 0, none⟩ = some (.int .i64 0) := cell_blk HE3.out.rr
 have f0 : w3.frozen? ⟨W.heap.size + 1 + 1, 0, none⟩ = false := frz_blk HE3.out.rr
 have c1 : w3.cell? ⟨W.heap.size + 1 + 1, 1, none⟩ = some (.bool false) := cell_blk HE3.out.rr
 have f1 : w3.frozen? ⟨W.heap.size + 1 + 1, 1, none⟩ = false := frz_blk HE3.out.rr
 have c2 : w3.cell? ⟨W.heap.size + 1 + 1, 2, none⟩ = some (.int .i64 0) := cell_blk HE3.out.rr
 have f2 : w3.frozen? ⟨W.heap.size + 1 + 1, 2, none⟩ = false := frz_blk HE3.out.rr
 have c3 : w3.cell? ⟨W.heap.size + 1 + 1, 3, none⟩ = some (.string ⟨#[]⟩) := cell_blk HE3.out.rr
 have f3 : w3.frozen? ⟨W.heap.size + 1 + 1, 3, none⟩ = false := frz_blk HE3.out.rr
 have c4 : w3.cell? ⟨W.heap.size + 1 + 1, 4, none⟩ = some (.slice none 0 0) := cell_blk HE3.out.rr
 have f4 : w3.frozen? ⟨W.heap.size + 1 + 1, 4, none⟩ = false := frz_blk HE3.out.rr
 clear x1 x2 p1 q1
 go_region_held3 (fun w' => w'.cell? ⟨W.heap.size, 0, none⟩ = some (.pointer (some ⟨pb, 0, none⟩)) ∧ w'.cell? ⟨pb, 0, none⟩ = some (.slice (some ⟨g, off, none⟩) N cap) ∧ w'.cell? ⟨pb, 1, none⟩ = some (.int .i64 ((k : Int) + 1)) ∧ w'.cell? ⟨g, off + k * 4 + 1, none⟩ = some (.string y)) (go_keep) (fail)
 go_wp2_with fail
 have HE4 : Hid (VE W pb (k + 1) T d w3.drew) := Lib.hid (HE3.out.same (same_drewN w3 1))
 have HF := Lib.hid (HE4.out.done (.int .i64 3) (.bool false) (.int .i64 0) (.string y) (.slice none 0 0))
 change bodyPost _ _ _ _ _ (put5 w3.drew (W.heap.size + 1 + 1) 0 (.int .i64 3) (.bool false) (.int .i64 0) (.string y) (.slice none 0 0))
 generalize put5 w3.drew (W.heap.size + 1 + 1) 0 (.int .i64 3) (.bool false) (.int .i64 0) (.string y) (.slice none 0 0) = wf at HF ⊢
 have r0 : wf.cell? ⟨W.heap.size + 1 + 1, 0, none⟩ = some (.int .i64 3) := cell_blk HF.out.1
 have r1 : wf.cell? ⟨W.heap.size + 1 + 1, 1, none⟩ = some (.bool false) := cell_blk HF.out.1
 have r2 : wf.cell? ⟨W.heap.size + 1 + 1, 2, none⟩ = some (.int .i64 0) := cell_blk HF.out.1
 have r3 : wf.cell? ⟨W.heap.size + 1 + 1, 3, none⟩ = some (.string y) := cell_blk HF.out.1
 have r4 : wf.cell? ⟨W.heap.size + 1 + 1, 4, none⟩ = some (.slice none 0 0) := cell_blk HF.out.1
 refine bodyPost_ret (v := .agg #[.int .i64 3, .bool false, .int .i64 0, .string y, .slice none 0 0]) (by simp [results, go_sem, r0, r1, r2, r3, r4]) rfl ?_
 exact ⟨3, false, 0, y, .slice none 0 0, k + 1, rfl, by have := rdv_flat (w := wf) (F := fun b => W.heap.size ≤ b) 3 false 0 y; rw [HY.out] at this; exact this, hr, Nat.lt_succ_self k, by rw [HN.out]; exact hlt, HF.out.2.1, HF.out.2.2.1⟩
end Go.Proofs.YtnpkdiffpgcbhaaGreatDoor
