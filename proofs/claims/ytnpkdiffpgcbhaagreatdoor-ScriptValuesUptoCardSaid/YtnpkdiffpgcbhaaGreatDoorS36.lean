/- The parser, walked (ParS). Conditions: each theorem's own. -/
import Derived.Test.YtnpkdiffpgcbhaaGreatDoorS35
set_option maxRecDepth 100000
set_option maxHeartbeats 1600000
namespace Go.Proofs.YtnpkdiffpgcbhaaGreatDoor
open Go.RowKit
attribute [local go_sem] Oper.semAt_some
theorem rdop_set {w0 w1 w2 wf : World} {l : List (Bs × GV)} {v : Value} (hf : FieldsAt w1 l v w2) (hk : ∀ b', b' ≠ w0.heap.size → wf.heap[b']? = w2.heap[b']?) (hlt : w0.heap.size < w1.heap.size) (k : Int) (cl : ByteArray) (h : Int) :
  RdOp wf (fun b => w0.heap.size ≤ b) [.int .i64 k, .string cl, v, .int .i64 h, .string ⟨#[]⟩, .bool false, .int .i64 0, .slice none 0 0] ⟨k, cl.data.toList, l, h, [], false, 0, []⟩ := by
 obtain ⟨xs, hsl, hrow⟩ := hf
 exact .mk k cl v h ⟨#[]⟩ false 0 _ xs [] l [] (hsl.trans' (fun g hg _ => ⟨hk g (by omega), by omega⟩)) (hrow.imp (fun c a _ hc => RdG.trans' (fun g hg _ => by have hg' : w1.heap.size ≤ g := hg; exact ⟨hk g (by omega), by omega⟩) hc)) (slice0 6) .nil
theorem fields_slice {w0 w : World} {l : List (Bs × GV)} {v : Value} (h : FieldsAt w0 l v w) : ∃ sa sn sc, v = .slice sa sn sc := by
 obtain ⟨xs, hsl, _⟩ := h
 obtain ⟨_, a, c, e, _⟩ := hsl
 exact ⟨_, _, _, e⟩
theorem op_insert {W : World} {pb k : Nat} {T : List Lx} (hp : PAt W pb T k) : Calls Tryz.prog 81 #[.pointer (some ⟨pb, 0, none⟩)] W (REnd W pb T k (OpAt W) (match takeL 0 [] (T.drop k) with | none => none | some (c, r2) => (pSet r2).map fun p => ({ noOp with kind := 1, cls := c, set := p.1 }, p.2))) := by
 have HE := Lib.hid (OE.new hp)
 have hT := take_end HE.out.P 0 ⟨#[]⟩
 obtain ⟨ro, hro⟩ : ∃ ro, takeL 0 [] (T.drop k) = ro := ⟨_, rfl⟩
 change Calls _ _ _ _ (REnd _ _ _ _ _ (takeL 0 [] (T.drop k))) at hT
 rw [hro] at hT ⊢
 have HT := Lib.hid hT
 clear hT hro hp
 rcases ro with _ | ⟨a, r⟩
 ·skip
  go_enter Tryz.func81, Tryz.ntmps81
  go_wp2_with fail
  refine HT.out.mono ?_
  rintro e w9 ⟨rfl, hf⟩
  exact ⟨rfl, rfl, HE.out.fp.trans hf (fun i hi => .inl hi)⟩
 ·simp only
  obtain ⟨rs, hrs⟩ : ∃ rs, pSet r = rs := ⟨_, rfl⟩
  rw [hrs]
  have HRS := Lib.hid hrs
  clear hrs
  rcases rs with _ | ⟨l, r2⟩
  ·skip
   go_enter Tryz.func81, Tryz.ntmps81
   go_wp2_with fail
   refine HT.out.mono ?_
   rintro e w1 ⟨v1, k1, rfl, ⟨x, rfl, hx⟩, hr1, hka1, hkb1, hp, hf⟩
   have HE1 := Lib.hid (HE.out.far hp hf)
   have HR1 := Lib.hid (And.intro hr1 (And.intro hka1 hkb1))
   have HX := Lib.hid hx
   clear hx
   clear hp hf hr1 hka1 hkb1
   have hS := set_any HE1.out.P
   rw [← HR1.out.1, HRS.out] at hS
   have HS := Lib.hid hS
   clear hS
   have hwl : W.heap.size < w1.heap.size := lt_blk HE1.out.rr
   go_wp2_with fail
   refine HS.out.mono ?_
   rintro e w9 ⟨rfl, hf⟩
   exact ⟨rfl, rfl, HE1.out.fp.trans hf (fun i hi => .inl hi)⟩
  ·skip
   go_enter Tryz.func81, Tryz.ntmps81
   go_wp2_with fail
   refine HT.out.mono ?_
   rintro e w1 ⟨v1, k1, rfl, ⟨x, rfl, hx⟩, hr1, hka1, hkb1, hp, hf⟩
   have HE1 := Lib.hid (HE.out.far hp hf)
   have HR1 := Lib.hid (And.intro hr1 (And.intro hka1 hkb1))
   have HX := Lib.hid hx
   clear hx
   clear hp hf hr1 hka1 hkb1
   have hS := set_any HE1.out.P
   rw [← HR1.out.1, HRS.out] at hS
   have HS := Lib.hid hS
   clear hS
   have hwl : W.heap.size < w1.heap.size := lt_blk HE1.out.rr
   go_wp2_with fail
   refine HS.out.mono ?_
   rintro e w2 ⟨v2, k2, rfl, hfl, hr2, hka2, hkb2, hp, hf⟩
   have HE2 := Lib.hid (HE1.out.far hp hf)
   have HR2 := Lib.hid (And.intro hr2 (And.intro hka2 hkb2))
   obtain ⟨sa, sn, sc, rfl⟩ := fields_slice hfl
   have HFL := Lib.hid hfl
   clear hfl
   clear hp hf hr2 hka2 hkb2
   have c0 : w2.cell? ⟨W.heap.size, 0, none⟩ = some (.int .i64 0) := cell_blk HE2.out.rr
   have f0 : w2.frozen? ⟨W.heap.size, 0, none⟩ = false := frz_blk HE2.out.rr
   have c1 : w2.cell? ⟨W.heap.size, 1, none⟩ = some (.string ⟨#[]⟩) := cell_blk HE2.out.rr
   have f1 : w2.frozen? ⟨W.heap.size, 1, none⟩ = false := frz_blk HE2.out.rr
   have c2 : w2.cell? ⟨W.heap.size, 2, none⟩ = some (.slice none 0 0) := cell_blk HE2.out.rr
   have f2 : w2.frozen? ⟨W.heap.size, 2, none⟩ = false := frz_blk HE2.out.rr
   have c3 : w2.cell? ⟨W.heap.size, 3, none⟩ = some (.int .i64 0) := cell_blk HE2.out.rr
   have f3 : w2.frozen? ⟨W.heap.size, 3, none⟩ = false := frz_blk HE2.out.rr
   have c4 : w2.cell? ⟨W.heap.size, 4, none⟩ = some (.string ⟨#[]⟩) := cell_blk HE2.out.rr
   have f4 : w2.frozen? ⟨W.heap.size, 4, none⟩ = false := frz_blk HE2.out.rr
   have c5 : w2.cell? ⟨W.heap.size, 5, none⟩ = some (.bool false) := cell_blk HE2.out.rr
   have f5 : w2.frozen? ⟨W.heap.size, 5, none⟩ = false := frz_blk HE2.out.rr
   have c6 : w2.cell? ⟨W.heap.size, 6, none⟩ = some (.int .i64 0) := cell_blk HE2.out.rr
   have f6 : w2.frozen? ⟨W.heap.size, 6, none⟩ = false := frz_blk HE2.out.rr
   have c7 : w2.cell? ⟨W.heap.size, 7, none⟩ = some (.slice none 0 0) := cell_blk HE2.out.rr
   have f7 : w2.frozen? ⟨W.heap.size, 7, none⟩ = false := frz_blk HE2.out.rr
   go_wp2_with fail
   have HF := Lib.hid (HE2.out.done (.int .i64 1) (.string x) (.slice sa sn sc) (.int .i64 0) (.string ⟨#[]⟩) (.bool false) (.int .i64 0) (.slice none 0 0))
   change bodyPost _ _ _ _ _ (put8 w2 W.heap.size (.int .i64 1) (.string x) (.slice sa sn sc) (.int .i64 0) (.string ⟨#[]⟩) (.bool false) (.int .i64 0) (.slice none 0 0))
   generalize put8 w2 W.heap.size (.int .i64 1) (.string x) (.slice sa sn sc) (.int .i64 0) (.string ⟨#[]⟩) (.bool false) (.int .i64 0) (.slice none 0 0) = wf at HF ⊢
   have r0 : wf.cell? ⟨W.heap.size, 0, none⟩ = some (.int .i64 1) := cell_blk HF.out.1
   have r1 : wf.cell? ⟨W.heap.size, 1, none⟩ = some (.string x) := cell_blk HF.out.1
   have r2 : wf.cell? ⟨W.heap.size, 2, none⟩ = some (.slice sa sn sc) := cell_blk HF.out.1
   have r3 : wf.cell? ⟨W.heap.size, 3, none⟩ = some (.int .i64 0) := cell_blk HF.out.1
   have r4 : wf.cell? ⟨W.heap.size, 4, none⟩ = some (.string ⟨#[]⟩) := cell_blk HF.out.1
   have r5 : wf.cell? ⟨W.heap.size, 5, none⟩ = some (.bool false) := cell_blk HF.out.1
   have r6 : wf.cell? ⟨W.heap.size, 6, none⟩ = some (.int .i64 0) := cell_blk HF.out.1
   have r7 : wf.cell? ⟨W.heap.size, 7, none⟩ = some (.slice none 0 0) := cell_blk HF.out.1
   refine bodyPost_ret (v := .agg #[.int .i64 1, .string x, .slice sa sn sc, .int .i64 0, .string ⟨#[]⟩, .bool false, .int .i64 0, .slice none 0 0]) (by simp [results, Tryz.results81, go_sem, r0, r1, r2, r3, r4, r5, r6, r7]) rfl ?_
   exact ⟨_, k2, rfl, ⟨[.int .i64 1, .string x, .slice sa sn sc, .int .i64 0, .string ⟨#[]⟩, .bool false, .int .i64 0, .slice none 0 0], rfl, by have := rdop_set (w0 := W) HFL.out HF.out.2.2.2 hwl 1 x 0; rw [HX.out] at this; exact this⟩, HR2.out.1, by have := HR1.out.2.1; have := HR2.out.2.1; omega, HR2.out.2.2, HF.out.2.1, HF.out.2.2.1⟩
theorem op_update {W : World} {pb k : Nat} {T : List Lx} (hp : PAt W pb T k) : Calls Tryz.prog 83 #[.pointer (some ⟨pb, 0, none⟩)] W (REnd W pb T k (OpAt W) (match pHandle (T.drop k) with | none => none | some (h, r2) => (pSet r2).map fun p => ({ noOp with kind := 2, handle := h, set := p.1 }, p.2))) := by
 have HE := Lib.hid (OE.new hp)
 have hT := handle_any HE.out.P
 obtain ⟨ro, hro⟩ : ∃ ro, pHandle (T.drop k) = ro := ⟨_, rfl⟩
 skip
 rw [hro] at hT ⊢
 have HT := Lib.hid hT
 clear hT hro hp
 rcases ro with _ | ⟨a, r⟩
 ·skip
  go_enter Tryz.func83, Tryz.ntmps83
  go_wp2_with fail
  refine HT.out.mono ?_
  rintro e w9 ⟨rfl, hf⟩
  exact ⟨rfl, rfl, HE.out.fp.trans hf (fun i hi => .inl hi)⟩
 ·simp only
  obtain ⟨rs, hrs⟩ : ∃ rs, pSet r = rs := ⟨_, rfl⟩
  rw [hrs]
  have HRS := Lib.hid hrs
  clear hrs
  rcases rs with _ | ⟨l, r2⟩
  ·skip
   go_enter Tryz.func83, Tryz.ntmps83
   go_wp2_with fail
   refine HT.out.mono ?_
   rintro e w1 ⟨v1, k1, rfl, rfl, hr1, hka1, hkb1, hp, hf⟩
   have HE1 := Lib.hid (HE.out.far hp hf)
   have HR1 := Lib.hid (And.intro hr1 (And.intro hka1 hkb1))
   clear hp hf hr1 hka1 hkb1
   have hS := set_any HE1.out.P
   rw [← HR1.out.1, HRS.out] at hS
   have HS := Lib.hid hS
   clear hS
   have hwl : W.heap.size < w1.heap.size := lt_blk HE1.out.rr
   go_wp2_with fail
   refine HS.out.mono ?_
   rintro e w9 ⟨rfl, hf⟩
   exact ⟨rfl, rfl, HE1.out.fp.trans hf (fun i hi => .inl hi)⟩
  ·skip
   go_enter Tryz.func83, Tryz.ntmps83
   go_wp2_with fail
   refine HT.out.mono ?_
   rintro e w1 ⟨v1, k1, rfl, rfl, hr1, hka1, hkb1, hp, hf⟩
   have HE1 := Lib.hid (HE.out.far hp hf)
   have HR1 := Lib.hid (And.intro hr1 (And.intro hka1 hkb1))
   clear hp hf hr1 hka1 hkb1
   have hS := set_any HE1.out.P
   rw [← HR1.out.1, HRS.out] at hS
   have HS := Lib.hid hS
   clear hS
   have hwl : W.heap.size < w1.heap.size := lt_blk HE1.out.rr
   go_wp2_with fail
   refine HS.out.mono ?_
   rintro e w2 ⟨v2, k2, rfl, hfl, hr2, hka2, hkb2, hp, hf⟩
   have HE2 := Lib.hid (HE1.out.far hp hf)
   have HR2 := Lib.hid (And.intro hr2 (And.intro hka2 hkb2))
   obtain ⟨sa, sn, sc, rfl⟩ := fields_slice hfl
   have HFL := Lib.hid hfl
   clear hfl
   clear hp hf hr2 hka2 hkb2
   have c0 : w2.cell? ⟨W.heap.size, 0, none⟩ = some (.int .i64 0) := cell_blk HE2.out.rr
   have f0 : w2.frozen? ⟨W.heap.size, 0, none⟩ = false := frz_blk HE2.out.rr
   have c1 : w2.cell? ⟨W.heap.size, 1, none⟩ = some (.string ⟨#[]⟩) := cell_blk HE2.out.rr
   have f1 : w2.frozen? ⟨W.heap.size, 1, none⟩ = false := frz_blk HE2.out.rr
   have c2 : w2.cell? ⟨W.heap.size, 2, none⟩ = some (.slice none 0 0) := cell_blk HE2.out.rr
   have f2 : w2.frozen? ⟨W.heap.size, 2, none⟩ = false := frz_blk HE2.out.rr
   have c3 : w2.cell? ⟨W.heap.size, 3, none⟩ = some (.int .i64 0) := cell_blk HE2.out.rr
   have f3 : w2.frozen? ⟨W.heap.size, 3, none⟩ = false := frz_blk HE2.out.rr
   have c4 : w2.cell? ⟨W.heap.size, 4, none⟩ = some (.string ⟨#[]⟩) := cell_blk HE2.out.rr
   have f4 : w2.frozen? ⟨W.heap.size, 4, none⟩ = false := frz_blk HE2.out.rr
   have c5 : w2.cell? ⟨W.heap.size, 5, none⟩ = some (.bool false) := cell_blk HE2.out.rr
   have f5 : w2.frozen? ⟨W.heap.size, 5, none⟩ = false := frz_blk HE2.out.rr
   have c6 : w2.cell? ⟨W.heap.size, 6, none⟩ = some (.int .i64 0) := cell_blk HE2.out.rr
   have f6 : w2.frozen? ⟨W.heap.size, 6, none⟩ = false := frz_blk HE2.out.rr
   have c7 : w2.cell? ⟨W.heap.size, 7, none⟩ = some (.slice none 0 0) := cell_blk HE2.out.rr
   have f7 : w2.frozen? ⟨W.heap.size, 7, none⟩ = false := frz_blk HE2.out.rr
   go_wp2_with fail
   have HF := Lib.hid (HE2.out.done (.int .i64 2) (.string ⟨#[]⟩) (.slice sa sn sc) (.int .i64 a) (.string ⟨#[]⟩) (.bool false) (.int .i64 0) (.slice none 0 0))
   change bodyPost _ _ _ _ _ (put8 w2 W.heap.size (.int .i64 2) (.string ⟨#[]⟩) (.slice sa sn sc) (.int .i64 a) (.string ⟨#[]⟩) (.bool false) (.int .i64 0) (.slice none 0 0))
   generalize put8 w2 W.heap.size (.int .i64 2) (.string ⟨#[]⟩) (.slice sa sn sc) (.int .i64 a) (.string ⟨#[]⟩) (.bool false) (.int .i64 0) (.slice none 0 0) = wf at HF ⊢
   have r0 : wf.cell? ⟨W.heap.size, 0, none⟩ = some (.int .i64 2) := cell_blk HF.out.1
   have r1 : wf.cell? ⟨W.heap.size, 1, none⟩ = some (.string ⟨#[]⟩) := cell_blk HF.out.1
   have r2 : wf.cell? ⟨W.heap.size, 2, none⟩ = some (.slice sa sn sc) := cell_blk HF.out.1
   have r3 : wf.cell? ⟨W.heap.size, 3, none⟩ = some (.int .i64 a) := cell_blk HF.out.1
   have r4 : wf.cell? ⟨W.heap.size, 4, none⟩ = some (.string ⟨#[]⟩) := cell_blk HF.out.1
   have r5 : wf.cell? ⟨W.heap.size, 5, none⟩ = some (.bool false) := cell_blk HF.out.1
   have r6 : wf.cell? ⟨W.heap.size, 6, none⟩ = some (.int .i64 0) := cell_blk HF.out.1
   have r7 : wf.cell? ⟨W.heap.size, 7, none⟩ = some (.slice none 0 0) := cell_blk HF.out.1
   refine bodyPost_ret (v := .agg #[.int .i64 2, .string ⟨#[]⟩, .slice sa sn sc, .int .i64 a, .string ⟨#[]⟩, .bool false, .int .i64 0, .slice none 0 0]) (by simp [results, Tryz.results83, go_sem, r0, r1, r2, r3, r4, r5, r6, r7]) rfl ?_
   exact ⟨_, k2, rfl, ⟨[.int .i64 2, .string ⟨#[]⟩, .slice sa sn sc, .int .i64 a, .string ⟨#[]⟩, .bool false, .int .i64 0, .slice none 0 0], rfl, rdop_set (w0 := W) HFL.out HF.out.2.2.2 hwl 2 ⟨#[]⟩ a⟩, HR2.out.1, by have := HR1.out.2.1; have := HR2.out.2.1; omega, HR2.out.2.2, HF.out.2.1, HF.out.2.2.1⟩
end Go.Proofs.YtnpkdiffpgcbhaaGreatDoor
