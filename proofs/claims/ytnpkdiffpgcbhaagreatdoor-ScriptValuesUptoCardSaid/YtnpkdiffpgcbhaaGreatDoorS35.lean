/- The parser, walked (ParR). Conditions: each theorem's own. -/
import Derived.Test.YtnpkdiffpgcbhaaGreatDoorS34
set_option maxRecDepth 100000
set_option maxHeartbeats 1600000
namespace Go.Proofs.YtnpkdiffpgcbhaaGreatDoor
open Go.RowKit
attribute [local go_sem] Oper.semAt_some
def put8 (w : World) (g : Nat) (a0 a1 a2 a3 a4 a5 a6 a7 : Value) : World := ((((((((w.setCell ⟨g, 0, none⟩ a0).setCell ⟨g, 1, none⟩ a1).setCell ⟨g, 2, none⟩ a2).setCell ⟨g, 3, none⟩ a3).setCell ⟨g, 4, none⟩ a4).setCell ⟨g, 5, none⟩ a5).setCell ⟨g, 6, none⟩ a6).setCell ⟨g, 7, none⟩ a7)
theorem put8_ne (w : World) (g : Nat) (a0 a1 a2 a3 a4 a5 a6 a7 : Value) {k : Nat} (h : k ≠ g) : (put8 w g a0 a1 a2 a3 a4 a5 a6 a7).heap[k]? = w.heap[k]? := by
 unfold put8
 rw [heap_set_ne (by simpa using h), heap_set_ne (by simpa using h), heap_set_ne (by simpa using h), heap_set_ne (by simpa using h), heap_set_ne (by simpa using h), heap_set_ne (by simpa using h), heap_set_ne (by simpa using h), heap_set_ne (by simpa using h)]
theorem put8_fp {S : Nat → Prop} (w : World) (g : Nat) (a0 a1 a2 a3 a4 a5 a6 a7 : Value) (h : S g) : FP S w (put8 w g a0 a1 a2 a3 a4 a5 a6 a7) :=
 ((((((((FP.refl S w).set _ (.inl h)).set _ (.inl h)).set _ (.inl h)).set _ (.inl h)).set _ (.inl h)).set _ (.inl h)).set _ (.inl h)).set _ (.inl h)
theorem put8_at {w : World} {g : Nat} {u0 u1 u2 u3 u4 u5 u6 u7 : Value} {ty : TypeId} (h : w.heap[g]? = some (.cells #[u0, u1, u2, u3, u4, u5, u6, u7] ty (0,0))) (a0 a1 a2 a3 a4 a5 a6 a7 : Value) : (put8 w g a0 a1 a2 a3 a4 a5 a6 a7).heap[g]? = some (.cells #[a0, a1, a2, a3, a4, a5, a6, a7] ty (0,0)) := by
 unfold put8
 have h0 := heap_set h (o := 0) a0 g
 rw [if_pos rfl] at h0
 have h1 := heap_set h0 (o := 1) a1 g
 rw [if_pos rfl] at h1
 have h2 := heap_set h1 (o := 2) a2 g
 rw [if_pos rfl] at h2
 have h3 := heap_set h2 (o := 3) a3 g
 rw [if_pos rfl] at h3
 have h4 := heap_set h3 (o := 4) a4 g
 rw [if_pos rfl] at h4
 have h5 := heap_set h4 (o := 5) a5 g
 rw [if_pos rfl] at h5
 have h6 := heap_set h5 (o := 6) a6 g
 rw [if_pos rfl] at h6
 have h7 := heap_set h6 (o := 7) a7 g
 rw [if_pos rfl] at h7
 rw [h7]
 simp only [List.setIfInBounds_toArray, List.set_cons_zero, List.set_cons_succ]
def OpAt (w0 : World) (op : OpV) (v : Value) (w : World) : Prop := ∃ c : List Value, v = .agg c.toArray ∧ RdOp w (fun b => w0.heap.size ≤ b) c op
theorem slice0 {w : World} {F : Nat → Prop} (n : Nat) : SliceAt w F (.slice none 0 0) 0 (0 * n) [] := ⟨by simp, none, 0, rfl, Nat.le_refl _, .inl rfl⟩
theorem rdop_flat {w : World} {F : Nat → Prop} (k : Int) (cl : ByteArray) (h : Int) (t : ByteArray) (on : Bool) (n : Int) : RdOp w F [.int .i64 k, .string cl, .slice none 0 0, .int .i64 h, .string t, .bool on, .int .i64 n, .slice none 0 0] ⟨k, cl.data.toList, [], h, t.data.toList, on, n, []⟩ :=
 .mk k cl _ h t on n _ [] [] [] [] (slice0 6) .nil (slice0 6) .nil
structure OE (W : World) (pb k : Nat) (T : List Lx) (w : World) : Prop where
 P : PAt w pb T k
 rr : w.heap[W.heap.size]? = some (.cells #[.int .i64 0, .string ⟨#[]⟩, .slice none 0 0, .int .i64 0, .string ⟨#[]⟩, .bool false, .int .i64 0, .slice none 0 0] 58 (0,0))
 fp : FP (fun i => i = pb) W w
 lt : pb < W.heap.size
section
variable {W w w' : World} {pb k k' : Nat} {T : List Lx}
theorem OE.far (h : OE W pb k T w) (hp : PAt w' pb T k') (hf : FP (fun i => i = pb) w w') : OE W pb k' T w' := by
 have := h.lt
 exact ⟨hp, (hf.blk _ (lt_blk h.rr) (by omega)).trans h.rr, h.fp.trans hf (fun i hi => .inl hi), h.lt⟩
theorem OE.new (hp : PAt W pb T k) : OE W pb k T (W.alloc (.cells #[.int .i64 0, .string ⟨#[]⟩, .slice none 0 0, .int .i64 0, .string ⟨#[]⟩, .bool false, .int .i64 0, .slice none 0 0] 58)) :=
 ⟨hp.fp (S := nob) ((FP.refl _ W).alloc _) (fun _ h => h.elim), heap_new_at rfl _, (FP.refl _ W).alloc _, hp.lt⟩
theorem OE.done (h : OE W pb k T w) (a0 a1 a2 a3 a4 a5 a6 a7 : Value) : (put8 w W.heap.size a0 a1 a2 a3 a4 a5 a6 a7).heap[W.heap.size]? = some (.cells #[a0, a1, a2, a3, a4, a5, a6, a7] 58 (0,0)) ∧ PAt (put8 w W.heap.size a0 a1 a2 a3 a4 a5 a6 a7) pb T k ∧ FP (fun i => i = pb) W (put8 w W.heap.size a0 a1 a2 a3 a4 a5 a6 a7) ∧
  (∀ b', b' ≠ W.heap.size → (put8 w W.heap.size a0 a1 a2 a3 a4 a5 a6 a7).heap[b']? = w.heap[b']?) := by
 have hl := h.lt
 exact ⟨put8_at h.rr .., h.P.same (fun b' hb => put8_ne _ _ _ _ _ _ _ _ _ _ (by omega)), h.fp.trans (put8_fp (S := fun i => i = W.heap.size) w _ a0 a1 a2 a3 a4 a5 a6 a7 rfl) (fun i hi => .inr (by omega)), fun b' hne => put8_ne _ _ _ _ _ _ _ _ _ _ hne⟩
end
theorem op_delete {W : World} {pb k : Nat} {T : List Lx} (hp : PAt W pb T k) : Calls Tryz.prog 85 #[.pointer (some ⟨pb, 0, none⟩)] W (REnd W pb T k (OpAt W) ((pHandle (T.drop k)).map fun p => ({ noOp with kind := 3, handle := p.1 }, p.2))) := by
 have HE := Lib.hid (OE.new hp)
 have hT := handle_any HE.out.P
 obtain ⟨ro, hro⟩ : ∃ ro, pHandle (T.drop k) = ro := ⟨_, rfl⟩
 rw [hro] at hT ⊢
 have HT := Lib.hid hT
 clear hT hro hp
 rcases ro with _ | ⟨h, r⟩
 ·skip
  go_enter Tryz.func85, Tryz.ntmps85
  go_wp2_with fail
  refine HT.out.mono ?_
  rintro e w9 ⟨rfl, hf⟩
  exact ⟨rfl, rfl, HE.out.fp.trans hf (fun i hi => .inl hi)⟩
 ·skip
  go_enter Tryz.func85, Tryz.ntmps85
  go_wp2_with fail
  refine HT.out.mono ?_
  rintro e w1 ⟨v1, k1, rfl, rfl, hr1, hka1, hkb1, hp, hf⟩
  have HE1 := Lib.hid (HE.out.far hp hf)
  have HR1 := Lib.hid (And.intro hr1 (And.intro hka1 hkb1))
  clear hp hf hr1 hka1 hkb1
  have c0 : w1.cell? ⟨W.heap.size, 0, none⟩ = some (.int .i64 0) := cell_blk HE1.out.rr
  have f0 : w1.frozen? ⟨W.heap.size, 0, none⟩ = false := frz_blk HE1.out.rr
  have c1 : w1.cell? ⟨W.heap.size, 1, none⟩ = some (.string ⟨#[]⟩) := cell_blk HE1.out.rr
  have f1 : w1.frozen? ⟨W.heap.size, 1, none⟩ = false := frz_blk HE1.out.rr
  have c2 : w1.cell? ⟨W.heap.size, 2, none⟩ = some (.slice none 0 0) := cell_blk HE1.out.rr
  have f2 : w1.frozen? ⟨W.heap.size, 2, none⟩ = false := frz_blk HE1.out.rr
  have c3 : w1.cell? ⟨W.heap.size, 3, none⟩ = some (.int .i64 0) := cell_blk HE1.out.rr
  have f3 : w1.frozen? ⟨W.heap.size, 3, none⟩ = false := frz_blk HE1.out.rr
  have c4 : w1.cell? ⟨W.heap.size, 4, none⟩ = some (.string ⟨#[]⟩) := cell_blk HE1.out.rr
  have f4 : w1.frozen? ⟨W.heap.size, 4, none⟩ = false := frz_blk HE1.out.rr
  have c5 : w1.cell? ⟨W.heap.size, 5, none⟩ = some (.bool false) := cell_blk HE1.out.rr
  have f5 : w1.frozen? ⟨W.heap.size, 5, none⟩ = false := frz_blk HE1.out.rr
  have c6 : w1.cell? ⟨W.heap.size, 6, none⟩ = some (.int .i64 0) := cell_blk HE1.out.rr
  have f6 : w1.frozen? ⟨W.heap.size, 6, none⟩ = false := frz_blk HE1.out.rr
  have c7 : w1.cell? ⟨W.heap.size, 7, none⟩ = some (.slice none 0 0) := cell_blk HE1.out.rr
  have f7 : w1.frozen? ⟨W.heap.size, 7, none⟩ = false := frz_blk HE1.out.rr
  go_wp2_with fail
  have HF := Lib.hid (HE1.out.done (.int .i64 3) (.string ⟨#[]⟩) (.slice none 0 0) (.int .i64 h) (.string ⟨#[]⟩) (.bool false) (.int .i64 0) (.slice none 0 0))
  change bodyPost _ _ _ _ _ (put8 w1 W.heap.size (.int .i64 3) (.string ⟨#[]⟩) (.slice none 0 0) (.int .i64 h) (.string ⟨#[]⟩) (.bool false) (.int .i64 0) (.slice none 0 0))
  generalize put8 w1 W.heap.size (.int .i64 3) (.string ⟨#[]⟩) (.slice none 0 0) (.int .i64 h) (.string ⟨#[]⟩) (.bool false) (.int .i64 0) (.slice none 0 0) = wf at HF ⊢
  have r0 : wf.cell? ⟨W.heap.size, 0, none⟩ = some (.int .i64 3) := cell_blk HF.out.1
  have r1 : wf.cell? ⟨W.heap.size, 1, none⟩ = some (.string ⟨#[]⟩) := cell_blk HF.out.1
  have r2 : wf.cell? ⟨W.heap.size, 2, none⟩ = some (.slice none 0 0) := cell_blk HF.out.1
  have r3 : wf.cell? ⟨W.heap.size, 3, none⟩ = some (.int .i64 h) := cell_blk HF.out.1
  have r4 : wf.cell? ⟨W.heap.size, 4, none⟩ = some (.string ⟨#[]⟩) := cell_blk HF.out.1
  have r5 : wf.cell? ⟨W.heap.size, 5, none⟩ = some (.bool false) := cell_blk HF.out.1
  have r6 : wf.cell? ⟨W.heap.size, 6, none⟩ = some (.int .i64 0) := cell_blk HF.out.1
  have r7 : wf.cell? ⟨W.heap.size, 7, none⟩ = some (.slice none 0 0) := cell_blk HF.out.1
  refine bodyPost_ret (v := .agg #[.int .i64 3, .string ⟨#[]⟩, .slice none 0 0, .int .i64 h, .string ⟨#[]⟩, .bool false, .int .i64 0, .slice none 0 0]) (by simp [results, Tryz.results85, go_sem, r0, r1, r2, r3, r4, r5, r6, r7]) rfl ?_
  exact ⟨_, k1, rfl, ⟨[.int .i64 3, .string ⟨#[]⟩, .slice none 0 0, .int .i64 h, .string ⟨#[]⟩, .bool false, .int .i64 0, .slice none 0 0], rfl, rdop_flat 3 ⟨#[]⟩ h ⟨#[]⟩ false 0⟩, HR1.out.1, by have := HR1.out.2.1; omega, HR1.out.2.2, HF.out.2.1, HF.out.2.2.1⟩
theorem op_focus {W : World} {pb k : Nat} {T : List Lx} (hp : PAt W pb T k) : Calls Tryz.prog 86 #[.pointer (some ⟨pb, 0, none⟩)] W (REnd W pb T k (OpAt W) ((pText (T.drop k)).map fun p => ({ noOp with kind := 4, text := p.1 }, p.2))) := by
 have HE := Lib.hid (OE.new hp)
 have hT := text_any HE.out.P
 obtain ⟨ro, hro⟩ : ∃ ro, pText (T.drop k) = ro := ⟨_, rfl⟩
 rw [hro] at hT ⊢
 have HT := Lib.hid hT
 clear hT hro hp
 rcases ro with _ | ⟨t, r⟩
 ·skip
  go_enter Tryz.func86, Tryz.ntmps86
  go_wp2_with fail
  refine HT.out.mono ?_
  rintro e w9 ⟨rfl, hf⟩
  exact ⟨rfl, rfl, HE.out.fp.trans hf (fun i hi => .inl hi)⟩
 ·skip
  go_enter Tryz.func86, Tryz.ntmps86
  go_wp2_with fail
  refine HT.out.mono ?_
  rintro e w1 ⟨v1, k1, rfl, ⟨x, rfl, hx⟩, hr1, hka1, hkb1, hp, hf⟩
  have HE1 := Lib.hid (HE.out.far hp hf)
  have HR1 := Lib.hid (And.intro hr1 (And.intro hka1 hkb1))
  have HX := Lib.hid hx
  clear hx
  clear hp hf hr1 hka1 hkb1
  have c0 : w1.cell? ⟨W.heap.size, 0, none⟩ = some (.int .i64 0) := cell_blk HE1.out.rr
  have f0 : w1.frozen? ⟨W.heap.size, 0, none⟩ = false := frz_blk HE1.out.rr
  have c1 : w1.cell? ⟨W.heap.size, 1, none⟩ = some (.string ⟨#[]⟩) := cell_blk HE1.out.rr
  have f1 : w1.frozen? ⟨W.heap.size, 1, none⟩ = false := frz_blk HE1.out.rr
  have c2 : w1.cell? ⟨W.heap.size, 2, none⟩ = some (.slice none 0 0) := cell_blk HE1.out.rr
  have f2 : w1.frozen? ⟨W.heap.size, 2, none⟩ = false := frz_blk HE1.out.rr
  have c3 : w1.cell? ⟨W.heap.size, 3, none⟩ = some (.int .i64 0) := cell_blk HE1.out.rr
  have f3 : w1.frozen? ⟨W.heap.size, 3, none⟩ = false := frz_blk HE1.out.rr
  have c4 : w1.cell? ⟨W.heap.size, 4, none⟩ = some (.string ⟨#[]⟩) := cell_blk HE1.out.rr
  have f4 : w1.frozen? ⟨W.heap.size, 4, none⟩ = false := frz_blk HE1.out.rr
  have c5 : w1.cell? ⟨W.heap.size, 5, none⟩ = some (.bool false) := cell_blk HE1.out.rr
  have f5 : w1.frozen? ⟨W.heap.size, 5, none⟩ = false := frz_blk HE1.out.rr
  have c6 : w1.cell? ⟨W.heap.size, 6, none⟩ = some (.int .i64 0) := cell_blk HE1.out.rr
  have f6 : w1.frozen? ⟨W.heap.size, 6, none⟩ = false := frz_blk HE1.out.rr
  have c7 : w1.cell? ⟨W.heap.size, 7, none⟩ = some (.slice none 0 0) := cell_blk HE1.out.rr
  have f7 : w1.frozen? ⟨W.heap.size, 7, none⟩ = false := frz_blk HE1.out.rr
  go_wp2_with fail
  have HF := Lib.hid (HE1.out.done (.int .i64 4) (.string ⟨#[]⟩) (.slice none 0 0) (.int .i64 0) (.string x) (.bool false) (.int .i64 0) (.slice none 0 0))
  change bodyPost _ _ _ _ _ (put8 w1 W.heap.size (.int .i64 4) (.string ⟨#[]⟩) (.slice none 0 0) (.int .i64 0) (.string x) (.bool false) (.int .i64 0) (.slice none 0 0))
  generalize put8 w1 W.heap.size (.int .i64 4) (.string ⟨#[]⟩) (.slice none 0 0) (.int .i64 0) (.string x) (.bool false) (.int .i64 0) (.slice none 0 0) = wf at HF ⊢
  have r0 : wf.cell? ⟨W.heap.size, 0, none⟩ = some (.int .i64 4) := cell_blk HF.out.1
  have r1 : wf.cell? ⟨W.heap.size, 1, none⟩ = some (.string ⟨#[]⟩) := cell_blk HF.out.1
  have r2 : wf.cell? ⟨W.heap.size, 2, none⟩ = some (.slice none 0 0) := cell_blk HF.out.1
  have r3 : wf.cell? ⟨W.heap.size, 3, none⟩ = some (.int .i64 0) := cell_blk HF.out.1
  have r4 : wf.cell? ⟨W.heap.size, 4, none⟩ = some (.string x) := cell_blk HF.out.1
  have r5 : wf.cell? ⟨W.heap.size, 5, none⟩ = some (.bool false) := cell_blk HF.out.1
  have r6 : wf.cell? ⟨W.heap.size, 6, none⟩ = some (.int .i64 0) := cell_blk HF.out.1
  have r7 : wf.cell? ⟨W.heap.size, 7, none⟩ = some (.slice none 0 0) := cell_blk HF.out.1
  refine bodyPost_ret (v := .agg #[.int .i64 4, .string ⟨#[]⟩, .slice none 0 0, .int .i64 0, .string x, .bool false, .int .i64 0, .slice none 0 0]) (by simp [results, Tryz.results86, go_sem, r0, r1, r2, r3, r4, r5, r6, r7]) rfl ?_
  exact ⟨_, k1, rfl, ⟨[.int .i64 4, .string ⟨#[]⟩, .slice none 0 0, .int .i64 0, .string x, .bool false, .int .i64 0, .slice none 0 0], rfl, by have := rdop_flat (w := wf) (F := fun b => W.heap.size ≤ b) 4 ⟨#[]⟩ 0 x false 0; rw [HX.out] at this; exact this⟩, HR1.out.1, by have := HR1.out.2.1; omega, HR1.out.2.2, HF.out.2.1, HF.out.2.2.1⟩
theorem op_fire {W : World} {pb k : Nat} {T : List Lx} (hp : PAt W pb T k) : Calls Tryz.prog 89 #[.pointer (some ⟨pb, 0, none⟩)] W (REnd W pb T k (OpAt W) (match numL (T.drop k) with | none => none | some (n, r2) => if n < 2147483648 then some ({ noOp with kind := 6, n := n }, r2) else none)) := by
 have HE := Lib.hid (OE.new hp)
 have hT := number_end HE.out.P
 obtain ⟨ro, hro⟩ : ∃ ro, numL (T.drop k) = ro := ⟨_, rfl⟩
 rw [hro] at hT ⊢
 have HT := Lib.hid hT
 clear hT hro hp
 rcases ro with _ | ⟨m, r⟩
 ·skip
  go_enter Tryz.func89, Tryz.ntmps89
  go_wp2_with fail
  refine HT.out.mono ?_
  rintro e w9 ⟨rfl, hf⟩
  exact ⟨rfl, rfl, HE.out.fp.trans hf (fun i hi => .inl hi)⟩
 ·simp only
  by_cases hm : m < 2147483648
  ·rw [if_pos hm]
   have hd : decide ((m : Int) < 2147483648) = true := by simp; omega
   go_enter Tryz.func89, Tryz.ntmps89
   go_wp2_with fail
   refine HT.out.mono ?_
   rintro e w1 ⟨v1, k1, rfl, rfl, hr1, hka1, hkb1, hp, hf⟩
   have HE1 := Lib.hid (HE.out.far hp hf)
   have HR1 := Lib.hid (And.intro hr1 (And.intro hka1 hkb1))
   clear hp hf hr1 hka1 hkb1
   have c0 : w1.cell? ⟨W.heap.size, 0, none⟩ = some (.int .i64 0) := cell_blk HE1.out.rr
   have f0 : w1.frozen? ⟨W.heap.size, 0, none⟩ = false := frz_blk HE1.out.rr
   have c1 : w1.cell? ⟨W.heap.size, 1, none⟩ = some (.string ⟨#[]⟩) := cell_blk HE1.out.rr
   have f1 : w1.frozen? ⟨W.heap.size, 1, none⟩ = false := frz_blk HE1.out.rr
   have c2 : w1.cell? ⟨W.heap.size, 2, none⟩ = some (.slice none 0 0) := cell_blk HE1.out.rr
   have f2 : w1.frozen? ⟨W.heap.size, 2, none⟩ = false := frz_blk HE1.out.rr
   have c3 : w1.cell? ⟨W.heap.size, 3, none⟩ = some (.int .i64 0) := cell_blk HE1.out.rr
   have f3 : w1.frozen? ⟨W.heap.size, 3, none⟩ = false := frz_blk HE1.out.rr
   have c4 : w1.cell? ⟨W.heap.size, 4, none⟩ = some (.string ⟨#[]⟩) := cell_blk HE1.out.rr
   have f4 : w1.frozen? ⟨W.heap.size, 4, none⟩ = false := frz_blk HE1.out.rr
   have c5 : w1.cell? ⟨W.heap.size, 5, none⟩ = some (.bool false) := cell_blk HE1.out.rr
   have f5 : w1.frozen? ⟨W.heap.size, 5, none⟩ = false := frz_blk HE1.out.rr
   have c6 : w1.cell? ⟨W.heap.size, 6, none⟩ = some (.int .i64 0) := cell_blk HE1.out.rr
   have f6 : w1.frozen? ⟨W.heap.size, 6, none⟩ = false := frz_blk HE1.out.rr
   have c7 : w1.cell? ⟨W.heap.size, 7, none⟩ = some (.slice none 0 0) := cell_blk HE1.out.rr
   have f7 : w1.frozen? ⟨W.heap.size, 7, none⟩ = false := frz_blk HE1.out.rr
   go_wp2_with (go_at_call 57; refine (need_true _).mono ?_; rintro e w9 ⟨rfl, rfl⟩)
   have HF := Lib.hid (HE1.out.done (.int .i64 6) (.string ⟨#[]⟩) (.slice none 0 0) (.int .i64 0) (.string ⟨#[]⟩) (.bool false) (.int .i64 m) (.slice none 0 0))
   change bodyPost _ _ _ _ _ (put8 w1 W.heap.size (.int .i64 6) (.string ⟨#[]⟩) (.slice none 0 0) (.int .i64 0) (.string ⟨#[]⟩) (.bool false) (.int .i64 m) (.slice none 0 0))
   generalize put8 w1 W.heap.size (.int .i64 6) (.string ⟨#[]⟩) (.slice none 0 0) (.int .i64 0) (.string ⟨#[]⟩) (.bool false) (.int .i64 m) (.slice none 0 0) = wf at HF ⊢
   have r0 : wf.cell? ⟨W.heap.size, 0, none⟩ = some (.int .i64 6) := cell_blk HF.out.1
   have r1 : wf.cell? ⟨W.heap.size, 1, none⟩ = some (.string ⟨#[]⟩) := cell_blk HF.out.1
   have r2 : wf.cell? ⟨W.heap.size, 2, none⟩ = some (.slice none 0 0) := cell_blk HF.out.1
   have r3 : wf.cell? ⟨W.heap.size, 3, none⟩ = some (.int .i64 0) := cell_blk HF.out.1
   have r4 : wf.cell? ⟨W.heap.size, 4, none⟩ = some (.string ⟨#[]⟩) := cell_blk HF.out.1
   have r5 : wf.cell? ⟨W.heap.size, 5, none⟩ = some (.bool false) := cell_blk HF.out.1
   have r6 : wf.cell? ⟨W.heap.size, 6, none⟩ = some (.int .i64 m) := cell_blk HF.out.1
   have r7 : wf.cell? ⟨W.heap.size, 7, none⟩ = some (.slice none 0 0) := cell_blk HF.out.1
   refine bodyPost_ret (v := .agg #[.int .i64 6, .string ⟨#[]⟩, .slice none 0 0, .int .i64 0, .string ⟨#[]⟩, .bool false, .int .i64 m, .slice none 0 0]) (by simp [results, Tryz.results89, go_sem, r0, r1, r2, r3, r4, r5, r6, r7]) rfl ?_
   exact ⟨_, k1, rfl, ⟨[.int .i64 6, .string ⟨#[]⟩, .slice none 0 0, .int .i64 0, .string ⟨#[]⟩, .bool false, .int .i64 m, .slice none 0 0], rfl, rdop_flat 6 ⟨#[]⟩ 0 ⟨#[]⟩ false m⟩, HR1.out.1, by have := HR1.out.2.1; omega, HR1.out.2.2, HF.out.2.1, HF.out.2.2.1⟩
  ·rw [if_neg hm]
   have hd : decide ((m : Int) < 2147483648) = false := by simp; omega
   go_enter Tryz.func89, Tryz.ntmps89
   go_wp2_with fail
   refine HT.out.mono ?_
   rintro e w1 ⟨v1, k1, rfl, rfl, hr1, hka1, hkb1, hp, hf⟩
   have HE1 := Lib.hid (HE.out.far hp hf)
   have HR1 := Lib.hid (And.intro hr1 (And.intro hka1 hkb1))
   clear hp hf hr1 hka1 hkb1
   go_wp2_with fail
   refine (need_false _).mono ?_
   rintro e w9 ⟨rfl, rfl⟩
   exact ⟨rfl, rfl, HE1.out.fp⟩
end Go.Proofs.YtnpkdiffpgcbhaaGreatDoor
