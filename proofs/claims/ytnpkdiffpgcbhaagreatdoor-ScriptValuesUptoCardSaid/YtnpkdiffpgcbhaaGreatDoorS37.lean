/- The parser, walked (ParT). Conditions: each theorem's own. -/
import Derived.Test.YtnpkdiffpgcbhaaGreatDoorS36
set_option maxRecDepth 100000
set_option maxHeartbeats 1600000
namespace Go.Proofs.YtnpkdiffpgcbhaaGreatDoor
open Go.RowKit
attribute [local go_sem] Oper.semAt_some
theorem op_flow {W : World} {pb k : Nat} {T : List Lx} (hp : PAt W pb T k) : Calls Tryz.prog 88 #[.pointer (some ⟨pb, 0, none⟩)] W (REnd W pb T k (OpAt W) (match pText (T.drop k) with | none => none | some (t, r2) => match takeL 0 [] r2 with | none => none | some (o, r3) => if o == [111, 110] then some ({ noOp with kind := 5, text := t, on := true }, r3) else if o == [111, 102, 102] then some ({ noOp with kind := 5, text := t }, r3) else none)) := by
 have HE := Lib.hid (OE.new hp)
 have hT := text_any HE.out.P
 obtain ⟨ro, hro⟩ : ∃ ro, pText (T.drop k) = ro := ⟨_, rfl⟩
 rw [hro] at hT ⊢
 have HT := Lib.hid hT
 clear hT hro hp
 rcases ro with _ | ⟨t, r⟩
 ·skip
  go_enter Tryz.func88, Tryz.ntmps88
  go_wp2_with fail
  refine HT.out.mono ?_
  rintro e w9 ⟨rfl, hf⟩
  exact ⟨rfl, rfl, HE.out.fp.trans hf (fun i hi => .inl hi)⟩
 ·simp only
  obtain ⟨rs, hrs⟩ : ∃ rs, takeL 0 [] r = rs := ⟨_, rfl⟩
  rw [hrs]
  have HRS := Lib.hid hrs
  clear hrs
  rcases rs with _ | ⟨u, r2⟩
  ·skip
   go_enter Tryz.func88, Tryz.ntmps88
   go_wp2_with fail
   refine HT.out.mono ?_
   rintro e w1 ⟨v1, k1, rfl, ⟨x, rfl, hx⟩, hr1, hka1, hkb1, hp, hf⟩
   have HE1 := Lib.hid (HE.out.far hp hf)
   have HR1 := Lib.hid (And.intro hr1 (And.intro hka1 hkb1))
   have HX := Lib.hid hx
   clear hx
   clear hp hf hr1 hka1 hkb1
   have HA := Lib.hid (HE1.out.far (HE1.out.P.fp (S := nob) ((FP.refl _ w1).alloc (.cells #[.int .i64 5, .string ⟨#[]⟩, .slice none 0 0, .int .i64 0, .string x, .bool false, .int .i64 0, .slice none 0 0] 58)) (fun _ h => h.elim)) ((FP.refl _ w1).alloc (.cells #[.int .i64 5, .string ⟨#[]⟩, .slice none 0 0, .int .i64 0, .string x, .bool false, .int .i64 0, .slice none 0 0] 58)))
   have hS := take_end HA.out.P 0 ⟨#[]⟩
   change Calls _ _ _ _ (REnd _ _ _ _ _ (takeL 0 [] (T.drop k1))) at hS
   rw [← HR1.out.1, HRS.out] at hS
   have HS := Lib.hid hS
   clear hS
   have hwl : W.heap.size < w1.heap.size := lt_blk HE1.out.rr
   have hpw : pb < w1.heap.size := HE1.out.P.lt
   have GA : Hid ((w1.alloc (.cells #[.int .i64 5, .string ⟨#[]⟩, .slice none 0 0, .int .i64 0, .string x, .bool false, .int .i64 0, .slice none 0 0] 58)).heap[w1.heap.size]? = some (.cells #[.int .i64 5, .string ⟨#[]⟩, .slice none 0 0, .int .i64 0, .string x, .bool false, .int .i64 0, .slice none 0 0] 58 (0,0))) := Lib.hid (heap_new_at rfl _)
   go_wp2_with fail
   refine HS.out.mono ?_
   rintro e w9 ⟨rfl, hf⟩
   exact ⟨rfl, rfl, HA.out.fp.trans hf (fun i hi => .inl hi)⟩
  ·simp only
   by_cases h1 : u = [111, 110]
   ·rw [if_pos (by simpa using h1)]
    go_enter Tryz.func88, Tryz.ntmps88
    go_wp2_with fail
    refine HT.out.mono ?_
    rintro e w1 ⟨v1, k1, rfl, ⟨x, rfl, hx⟩, hr1, hka1, hkb1, hp, hf⟩
    have HE1 := Lib.hid (HE.out.far hp hf)
    have HR1 := Lib.hid (And.intro hr1 (And.intro hka1 hkb1))
    have HX := Lib.hid hx
    clear hx
    clear hp hf hr1 hka1 hkb1
    have HA := Lib.hid (HE1.out.far (HE1.out.P.fp (S := nob) ((FP.refl _ w1).alloc (.cells #[.int .i64 5, .string ⟨#[]⟩, .slice none 0 0, .int .i64 0, .string x, .bool false, .int .i64 0, .slice none 0 0] 58)) (fun _ h => h.elim)) ((FP.refl _ w1).alloc (.cells #[.int .i64 5, .string ⟨#[]⟩, .slice none 0 0, .int .i64 0, .string x, .bool false, .int .i64 0, .slice none 0 0] 58)))
    have hS := take_end HA.out.P 0 ⟨#[]⟩
    change Calls _ _ _ _ (REnd _ _ _ _ _ (takeL 0 [] (T.drop k1))) at hS
    rw [← HR1.out.1, HRS.out] at hS
    have HS := Lib.hid hS
    clear hS
    have hwl : W.heap.size < w1.heap.size := lt_blk HE1.out.rr
    have hpw : pb < w1.heap.size := HE1.out.P.lt
    have GA : Hid ((w1.alloc (.cells #[.int .i64 5, .string ⟨#[]⟩, .slice none 0 0, .int .i64 0, .string x, .bool false, .int .i64 0, .slice none 0 0] 58)).heap[w1.heap.size]? = some (.cells #[.int .i64 5, .string ⟨#[]⟩, .slice none 0 0, .int .i64 0, .string x, .bool false, .int .i64 0, .slice none 0 0] 58 (0,0))) := Lib.hid (heap_new_at rfl _)
    go_wp2_with fail
    refine HS.out.mono ?_
    rintro e w2 ⟨v2, k2, rfl, ⟨y, rfl, hy⟩, hr2, hka2, hkb2, hp, hf⟩
    have HE2 := Lib.hid (HA.out.far hp hf)
    have HR2 := Lib.hid (And.intro hr2 (And.intro hka2 hkb2))
    have GB : Hid (w2.heap[w1.heap.size]? = some (.cells #[.int .i64 5, .string ⟨#[]⟩, .slice none 0 0, .int .i64 0, .string x, .bool false, .int .i64 0, .slice none 0 0] 58 (0,0))) := Lib.hid ((hf.blk _ (lt_blk GA.out) (by omega)).trans GA.out)
    have HY := Lib.hid hy
    clear hy
    clear hp hf hr2 hka2 hkb2
    have hye := bytes_of (HY.out.trans h1)
    subst hye
    have d0 : w2.cell? ⟨w1.heap.size, 0, none⟩ = some (.int .i64 5) := cell_blk GB.out
    have d1 : w2.cell? ⟨w1.heap.size, 1, none⟩ = some (.string ⟨#[]⟩) := cell_blk GB.out
    have d2 : w2.cell? ⟨w1.heap.size, 2, none⟩ = some (.slice none 0 0) := cell_blk GB.out
    have d3 : w2.cell? ⟨w1.heap.size, 3, none⟩ = some (.int .i64 0) := cell_blk GB.out
    have d4 : w2.cell? ⟨w1.heap.size, 4, none⟩ = some (.string x) := cell_blk GB.out
    have d5 : w2.cell? ⟨w1.heap.size, 5, none⟩ = some (.bool false) := cell_blk GB.out
    have d6 : w2.cell? ⟨w1.heap.size, 6, none⟩ = some (.int .i64 0) := cell_blk GB.out
    have d7 : w2.cell? ⟨w1.heap.size, 7, none⟩ = some (.slice none 0 0) := cell_blk GB.out
    have q5 : w2.frozen? ⟨w1.heap.size, 5, none⟩ = false := frz_blk GB.out
    go_upto_region 5 with (go_at_call 57; refine (need_true _).mono ?_; rintro e w9 ⟨rfl, rfl⟩)
    have HE3 : Hid (OE W pb k2 T (w2.setCell ⟨w1.heap.size, 5, none⟩ (.bool true))) := Lib.hid ⟨HE2.out.P.same (fun b hb => heap_set_ne (by show b ≠ w1.heap.size; omega)), (heap_set_ne (by show W.heap.size ≠ w1.heap.size; omega)).trans HE2.out.rr, HE2.out.fp.set _ (.inr (Nat.le_of_lt hwl)), HE2.out.lt⟩
    have GC : Hid ((w2.setCell ⟨w1.heap.size, 5, none⟩ (.bool true)).heap[w1.heap.size]? = some (.cells #[.int .i64 5, .string ⟨#[]⟩, .slice none 0 0, .int .i64 0, .string x, .bool true, .int .i64 0, .slice none 0 0] 58 (0,0))) := Lib.hid ((heap_set GB.out _ _).trans (if_pos rfl))
    clear d0 d1 d2 d3 d4 d5 d6 d7 q5
    generalize w2.setCell ⟨w1.heap.size, 5, none⟩ (.bool true) = w3 at HE3 GC ⊢
    have c0 : w3.cell? ⟨W.heap.size, 0, none⟩ = some (.int .i64 0) := cell_blk HE3.out.rr
    have f0 : w3.frozen? ⟨W.heap.size, 0, none⟩ = false := frz_blk HE3.out.rr
    have c1 : w3.cell? ⟨W.heap.size, 1, none⟩ = some (.string ⟨#[]⟩) := cell_blk HE3.out.rr
    have f1 : w3.frozen? ⟨W.heap.size, 1, none⟩ = false := frz_blk HE3.out.rr
    have c2 : w3.cell? ⟨W.heap.size, 2, none⟩ = some (.slice none 0 0) := cell_blk HE3.out.rr
    have f2 : w3.frozen? ⟨W.heap.size, 2, none⟩ = false := frz_blk HE3.out.rr
    have c3 : w3.cell? ⟨W.heap.size, 3, none⟩ = some (.int .i64 0) := cell_blk HE3.out.rr
    have f3 : w3.frozen? ⟨W.heap.size, 3, none⟩ = false := frz_blk HE3.out.rr
    have c4 : w3.cell? ⟨W.heap.size, 4, none⟩ = some (.string ⟨#[]⟩) := cell_blk HE3.out.rr
    have f4 : w3.frozen? ⟨W.heap.size, 4, none⟩ = false := frz_blk HE3.out.rr
    have c5 : w3.cell? ⟨W.heap.size, 5, none⟩ = some (.bool false) := cell_blk HE3.out.rr
    have f5 : w3.frozen? ⟨W.heap.size, 5, none⟩ = false := frz_blk HE3.out.rr
    have c6 : w3.cell? ⟨W.heap.size, 6, none⟩ = some (.int .i64 0) := cell_blk HE3.out.rr
    have f6 : w3.frozen? ⟨W.heap.size, 6, none⟩ = false := frz_blk HE3.out.rr
    have c7 : w3.cell? ⟨W.heap.size, 7, none⟩ = some (.slice none 0 0) := cell_blk HE3.out.rr
    have f7 : w3.frozen? ⟨W.heap.size, 7, none⟩ = false := frz_blk HE3.out.rr
    have d0 : w3.cell? ⟨w1.heap.size, 0, none⟩ = some (.int .i64 5) := cell_blk GC.out
    have d1 : w3.cell? ⟨w1.heap.size, 1, none⟩ = some (.string ⟨#[]⟩) := cell_blk GC.out
    have d2 : w3.cell? ⟨w1.heap.size, 2, none⟩ = some (.slice none 0 0) := cell_blk GC.out
    have d3 : w3.cell? ⟨w1.heap.size, 3, none⟩ = some (.int .i64 0) := cell_blk GC.out
    have d4 : w3.cell? ⟨w1.heap.size, 4, none⟩ = some (.string x) := cell_blk GC.out
    have d5 : w3.cell? ⟨w1.heap.size, 5, none⟩ = some (.bool true) := cell_blk GC.out
    have d6 : w3.cell? ⟨w1.heap.size, 6, none⟩ = some (.int .i64 0) := cell_blk GC.out
    have d7 : w3.cell? ⟨w1.heap.size, 7, none⟩ = some (.slice none 0 0) := cell_blk GC.out
    go_wp2_with fail
    have HF := Lib.hid (HE3.out.done (.int .i64 5) (.string ⟨#[]⟩) (.slice none 0 0) (.int .i64 0) (.string x) (.bool true) (.int .i64 0) (.slice none 0 0))
    change bodyPost _ _ _ _ _ (put8 w3 W.heap.size (.int .i64 5) (.string ⟨#[]⟩) (.slice none 0 0) (.int .i64 0) (.string x) (.bool true) (.int .i64 0) (.slice none 0 0))
    generalize put8 w3 W.heap.size (.int .i64 5) (.string ⟨#[]⟩) (.slice none 0 0) (.int .i64 0) (.string x) (.bool true) (.int .i64 0) (.slice none 0 0) = wf at HF ⊢
    have r0 : wf.cell? ⟨W.heap.size, 0, none⟩ = some (.int .i64 5) := cell_blk HF.out.1
    have r1 : wf.cell? ⟨W.heap.size, 1, none⟩ = some (.string ⟨#[]⟩) := cell_blk HF.out.1
    have r2 : wf.cell? ⟨W.heap.size, 2, none⟩ = some (.slice none 0 0) := cell_blk HF.out.1
    have r3 : wf.cell? ⟨W.heap.size, 3, none⟩ = some (.int .i64 0) := cell_blk HF.out.1
    have r4 : wf.cell? ⟨W.heap.size, 4, none⟩ = some (.string x) := cell_blk HF.out.1
    have r5 : wf.cell? ⟨W.heap.size, 5, none⟩ = some (.bool true) := cell_blk HF.out.1
    have r6 : wf.cell? ⟨W.heap.size, 6, none⟩ = some (.int .i64 0) := cell_blk HF.out.1
    have r7 : wf.cell? ⟨W.heap.size, 7, none⟩ = some (.slice none 0 0) := cell_blk HF.out.1
    refine bodyPost_ret (v := .agg #[.int .i64 5, .string ⟨#[]⟩, .slice none 0 0, .int .i64 0, .string x, .bool true, .int .i64 0, .slice none 0 0]) (by simp [results, Tryz.results88, go_sem, r0, r1, r2, r3, r4, r5, r6, r7]) rfl ?_
    exact ⟨_, k2, rfl, ⟨[.int .i64 5, .string ⟨#[]⟩, .slice none 0 0, .int .i64 0, .string x, .bool true, .int .i64 0, .slice none 0 0], rfl, by have := rdop_flat (w := wf) (F := fun b => W.heap.size ≤ b) 5 ⟨#[]⟩ 0 x true 0; rw [HX.out] at this; exact this⟩, HR2.out.1, by have := HR1.out.2.1; have := HR2.out.2.1; omega, HR2.out.2.2, HF.out.2.1, HF.out.2.2.1⟩
   ·rw [if_neg (by simpa using h1)]
    by_cases h2 : u = [111, 102, 102]
    ·rw [if_pos (by simpa using h2)]
     go_enter Tryz.func88, Tryz.ntmps88
     go_wp2_with fail
     refine HT.out.mono ?_
     rintro e w1 ⟨v1, k1, rfl, ⟨x, rfl, hx⟩, hr1, hka1, hkb1, hp, hf⟩
     have HE1 := Lib.hid (HE.out.far hp hf)
     have HR1 := Lib.hid (And.intro hr1 (And.intro hka1 hkb1))
     have HX := Lib.hid hx
     clear hx
     clear hp hf hr1 hka1 hkb1
     have HA := Lib.hid (HE1.out.far (HE1.out.P.fp (S := nob) ((FP.refl _ w1).alloc (.cells #[.int .i64 5, .string ⟨#[]⟩, .slice none 0 0, .int .i64 0, .string x, .bool false, .int .i64 0, .slice none 0 0] 58)) (fun _ h => h.elim)) ((FP.refl _ w1).alloc (.cells #[.int .i64 5, .string ⟨#[]⟩, .slice none 0 0, .int .i64 0, .string x, .bool false, .int .i64 0, .slice none 0 0] 58)))
     have hS := take_end HA.out.P 0 ⟨#[]⟩
     change Calls _ _ _ _ (REnd _ _ _ _ _ (takeL 0 [] (T.drop k1))) at hS
     rw [← HR1.out.1, HRS.out] at hS
     have HS := Lib.hid hS
     clear hS
     have hwl : W.heap.size < w1.heap.size := lt_blk HE1.out.rr
     have hpw : pb < w1.heap.size := HE1.out.P.lt
     have GA : Hid ((w1.alloc (.cells #[.int .i64 5, .string ⟨#[]⟩, .slice none 0 0, .int .i64 0, .string x, .bool false, .int .i64 0, .slice none 0 0] 58)).heap[w1.heap.size]? = some (.cells #[.int .i64 5, .string ⟨#[]⟩, .slice none 0 0, .int .i64 0, .string x, .bool false, .int .i64 0, .slice none 0 0] 58 (0,0))) := Lib.hid (heap_new_at rfl _)
     go_wp2_with fail
     refine HS.out.mono ?_
     rintro e w2 ⟨v2, k2, rfl, ⟨y, rfl, hy⟩, hr2, hka2, hkb2, hp, hf⟩
     have HE2 := Lib.hid (HA.out.far hp hf)
     have HR2 := Lib.hid (And.intro hr2 (And.intro hka2 hkb2))
     have GB : Hid (w2.heap[w1.heap.size]? = some (.cells #[.int .i64 5, .string ⟨#[]⟩, .slice none 0 0, .int .i64 0, .string x, .bool false, .int .i64 0, .slice none 0 0] 58 (0,0))) := Lib.hid ((hf.blk _ (lt_blk GA.out) (by omega)).trans GA.out)
     have HY := Lib.hid hy
     clear hy
     clear hp hf hr2 hka2 hkb2
     have hye := bytes_of (HY.out.trans h2)
     subst hye
     have d0 : w2.cell? ⟨w1.heap.size, 0, none⟩ = some (.int .i64 5) := cell_blk GB.out
     have d1 : w2.cell? ⟨w1.heap.size, 1, none⟩ = some (.string ⟨#[]⟩) := cell_blk GB.out
     have d2 : w2.cell? ⟨w1.heap.size, 2, none⟩ = some (.slice none 0 0) := cell_blk GB.out
     have d3 : w2.cell? ⟨w1.heap.size, 3, none⟩ = some (.int .i64 0) := cell_blk GB.out
     have d4 : w2.cell? ⟨w1.heap.size, 4, none⟩ = some (.string x) := cell_blk GB.out
     have d5 : w2.cell? ⟨w1.heap.size, 5, none⟩ = some (.bool false) := cell_blk GB.out
     have d6 : w2.cell? ⟨w1.heap.size, 6, none⟩ = some (.int .i64 0) := cell_blk GB.out
     have d7 : w2.cell? ⟨w1.heap.size, 7, none⟩ = some (.slice none 0 0) := cell_blk GB.out
     have q5 : w2.frozen? ⟨w1.heap.size, 5, none⟩ = false := frz_blk GB.out
     go_upto_region 5 with (go_at_call 57; refine (need_true _).mono ?_; rintro e w9 ⟨rfl, rfl⟩)
     have HE3 : Hid (OE W pb k2 T (w2.setCell ⟨w1.heap.size, 5, none⟩ (.bool false))) := Lib.hid ⟨HE2.out.P.same (fun b hb => heap_set_ne (by show b ≠ w1.heap.size; omega)), (heap_set_ne (by show W.heap.size ≠ w1.heap.size; omega)).trans HE2.out.rr, HE2.out.fp.set _ (.inr (Nat.le_of_lt hwl)), HE2.out.lt⟩
     have GC : Hid ((w2.setCell ⟨w1.heap.size, 5, none⟩ (.bool false)).heap[w1.heap.size]? = some (.cells #[.int .i64 5, .string ⟨#[]⟩, .slice none 0 0, .int .i64 0, .string x, .bool false, .int .i64 0, .slice none 0 0] 58 (0,0))) := Lib.hid ((heap_set GB.out _ _).trans (if_pos rfl))
     clear d0 d1 d2 d3 d4 d5 d6 d7 q5
     generalize w2.setCell ⟨w1.heap.size, 5, none⟩ (.bool false) = w3 at HE3 GC ⊢
     have c0 : w3.cell? ⟨W.heap.size, 0, none⟩ = some (.int .i64 0) := cell_blk HE3.out.rr
     have f0 : w3.frozen? ⟨W.heap.size, 0, none⟩ = false := frz_blk HE3.out.rr
     have c1 : w3.cell? ⟨W.heap.size, 1, none⟩ = some (.string ⟨#[]⟩) := cell_blk HE3.out.rr
     have f1 : w3.frozen? ⟨W.heap.size, 1, none⟩ = false := frz_blk HE3.out.rr
     have c2 : w3.cell? ⟨W.heap.size, 2, none⟩ = some (.slice none 0 0) := cell_blk HE3.out.rr
     have f2 : w3.frozen? ⟨W.heap.size, 2, none⟩ = false := frz_blk HE3.out.rr
     have c3 : w3.cell? ⟨W.heap.size, 3, none⟩ = some (.int .i64 0) := cell_blk HE3.out.rr
     have f3 : w3.frozen? ⟨W.heap.size, 3, none⟩ = false := frz_blk HE3.out.rr
     have c4 : w3.cell? ⟨W.heap.size, 4, none⟩ = some (.string ⟨#[]⟩) := cell_blk HE3.out.rr
     have f4 : w3.frozen? ⟨W.heap.size, 4, none⟩ = false := frz_blk HE3.out.rr
     have c5 : w3.cell? ⟨W.heap.size, 5, none⟩ = some (.bool false) := cell_blk HE3.out.rr
     have f5 : w3.frozen? ⟨W.heap.size, 5, none⟩ = false := frz_blk HE3.out.rr
     have c6 : w3.cell? ⟨W.heap.size, 6, none⟩ = some (.int .i64 0) := cell_blk HE3.out.rr
     have f6 : w3.frozen? ⟨W.heap.size, 6, none⟩ = false := frz_blk HE3.out.rr
     have c7 : w3.cell? ⟨W.heap.size, 7, none⟩ = some (.slice none 0 0) := cell_blk HE3.out.rr
     have f7 : w3.frozen? ⟨W.heap.size, 7, none⟩ = false := frz_blk HE3.out.rr
     have d0 : w3.cell? ⟨w1.heap.size, 0, none⟩ = some (.int .i64 5) := cell_blk GC.out
     have d1 : w3.cell? ⟨w1.heap.size, 1, none⟩ = some (.string ⟨#[]⟩) := cell_blk GC.out
     have d2 : w3.cell? ⟨w1.heap.size, 2, none⟩ = some (.slice none 0 0) := cell_blk GC.out
     have d3 : w3.cell? ⟨w1.heap.size, 3, none⟩ = some (.int .i64 0) := cell_blk GC.out
     have d4 : w3.cell? ⟨w1.heap.size, 4, none⟩ = some (.string x) := cell_blk GC.out
     have d5 : w3.cell? ⟨w1.heap.size, 5, none⟩ = some (.bool false) := cell_blk GC.out
     have d6 : w3.cell? ⟨w1.heap.size, 6, none⟩ = some (.int .i64 0) := cell_blk GC.out
     have d7 : w3.cell? ⟨w1.heap.size, 7, none⟩ = some (.slice none 0 0) := cell_blk GC.out
     go_wp2_with fail
     have HF := Lib.hid (HE3.out.done (.int .i64 5) (.string ⟨#[]⟩) (.slice none 0 0) (.int .i64 0) (.string x) (.bool false) (.int .i64 0) (.slice none 0 0))
     change bodyPost _ _ _ _ _ (put8 w3 W.heap.size (.int .i64 5) (.string ⟨#[]⟩) (.slice none 0 0) (.int .i64 0) (.string x) (.bool false) (.int .i64 0) (.slice none 0 0))
     generalize put8 w3 W.heap.size (.int .i64 5) (.string ⟨#[]⟩) (.slice none 0 0) (.int .i64 0) (.string x) (.bool false) (.int .i64 0) (.slice none 0 0) = wf at HF ⊢
     have r0 : wf.cell? ⟨W.heap.size, 0, none⟩ = some (.int .i64 5) := cell_blk HF.out.1
     have r1 : wf.cell? ⟨W.heap.size, 1, none⟩ = some (.string ⟨#[]⟩) := cell_blk HF.out.1
     have r2 : wf.cell? ⟨W.heap.size, 2, none⟩ = some (.slice none 0 0) := cell_blk HF.out.1
     have r3 : wf.cell? ⟨W.heap.size, 3, none⟩ = some (.int .i64 0) := cell_blk HF.out.1
     have r4 : wf.cell? ⟨W.heap.size, 4, none⟩ = some (.string x) := cell_blk HF.out.1
     have r5 : wf.cell? ⟨W.heap.size, 5, none⟩ = some (.bool false) := cell_blk HF.out.1
     have r6 : wf.cell? ⟨W.heap.size, 6, none⟩ = some (.int .i64 0) := cell_blk HF.out.1
     have r7 : wf.cell? ⟨W.heap.size, 7, none⟩ = some (.slice none 0 0) := cell_blk HF.out.1
     refine bodyPost_ret (v := .agg #[.int .i64 5, .string ⟨#[]⟩, .slice none 0 0, .int .i64 0, .string x, .bool false, .int .i64 0, .slice none 0 0]) (by simp [results, Tryz.results88, go_sem, r0, r1, r2, r3, r4, r5, r6, r7]) rfl ?_
     exact ⟨_, k2, rfl, ⟨[.int .i64 5, .string ⟨#[]⟩, .slice none 0 0, .int .i64 0, .string x, .bool false, .int .i64 0, .slice none 0 0], rfl, by have := rdop_flat (w := wf) (F := fun b => W.heap.size ≤ b) 5 ⟨#[]⟩ 0 x false 0; rw [HX.out] at this; exact this⟩, HR2.out.1, by have := HR1.out.2.1; have := HR2.out.2.1; omega, HR2.out.2.2, HF.out.2.1, HF.out.2.2.1⟩
    ·rw [if_neg (by simpa using h2)]
     go_enter Tryz.func88, Tryz.ntmps88
     go_wp2_with fail
     refine HT.out.mono ?_
     rintro e w1 ⟨v1, k1, rfl, ⟨x, rfl, hx⟩, hr1, hka1, hkb1, hp, hf⟩
     have HE1 := Lib.hid (HE.out.far hp hf)
     have HR1 := Lib.hid (And.intro hr1 (And.intro hka1 hkb1))
     have HX := Lib.hid hx
     clear hx
     clear hp hf hr1 hka1 hkb1
     have HA := Lib.hid (HE1.out.far (HE1.out.P.fp (S := nob) ((FP.refl _ w1).alloc (.cells #[.int .i64 5, .string ⟨#[]⟩, .slice none 0 0, .int .i64 0, .string x, .bool false, .int .i64 0, .slice none 0 0] 58)) (fun _ h => h.elim)) ((FP.refl _ w1).alloc (.cells #[.int .i64 5, .string ⟨#[]⟩, .slice none 0 0, .int .i64 0, .string x, .bool false, .int .i64 0, .slice none 0 0] 58)))
     have hS := take_end HA.out.P 0 ⟨#[]⟩
     change Calls _ _ _ _ (REnd _ _ _ _ _ (takeL 0 [] (T.drop k1))) at hS
     rw [← HR1.out.1, HRS.out] at hS
     have HS := Lib.hid hS
     clear hS
     have hwl : W.heap.size < w1.heap.size := lt_blk HE1.out.rr
     have hpw : pb < w1.heap.size := HE1.out.P.lt
     have GA : Hid ((w1.alloc (.cells #[.int .i64 5, .string ⟨#[]⟩, .slice none 0 0, .int .i64 0, .string x, .bool false, .int .i64 0, .slice none 0 0] 58)).heap[w1.heap.size]? = some (.cells #[.int .i64 5, .string ⟨#[]⟩, .slice none 0 0, .int .i64 0, .string x, .bool false, .int .i64 0, .slice none 0 0] 58 (0,0))) := Lib.hid (heap_new_at rfl _)
     go_wp2_with fail
     refine HS.out.mono ?_
     rintro e w2 ⟨v2, k2, rfl, ⟨y, rfl, hy⟩, hr2, hka2, hkb2, hp, hf⟩
     have HE2 := Lib.hid (HA.out.far hp hf)
     have HR2 := Lib.hid (And.intro hr2 (And.intro hka2 hkb2))
     have GB : Hid (w2.heap[w1.heap.size]? = some (.cells #[.int .i64 5, .string ⟨#[]⟩, .slice none 0 0, .int .i64 0, .string x, .bool false, .int .i64 0, .slice none 0 0] 58 (0,0))) := Lib.hid ((hf.blk _ (lt_blk GA.out) (by omega)).trans GA.out)
     have HY := Lib.hid hy
     clear hy
     clear hp hf hr2 hka2 hkb2
     have e1 : (y.toList == [111, 110]) = false := by rw [Lib.toList_data, HY.out]; simpa using h1
     have e2 : (y.toList == [111, 102, 102]) = false := by rw [Lib.toList_data, HY.out]; simpa using h2
     have d0 : w2.cell? ⟨w1.heap.size, 0, none⟩ = some (.int .i64 5) := cell_blk GB.out
     have d1 : w2.cell? ⟨w1.heap.size, 1, none⟩ = some (.string ⟨#[]⟩) := cell_blk GB.out
     have d2 : w2.cell? ⟨w1.heap.size, 2, none⟩ = some (.slice none 0 0) := cell_blk GB.out
     have d3 : w2.cell? ⟨w1.heap.size, 3, none⟩ = some (.int .i64 0) := cell_blk GB.out
     have d4 : w2.cell? ⟨w1.heap.size, 4, none⟩ = some (.string x) := cell_blk GB.out
     have d5 : w2.cell? ⟨w1.heap.size, 5, none⟩ = some (.bool false) := cell_blk GB.out
     have d6 : w2.cell? ⟨w1.heap.size, 6, none⟩ = some (.int .i64 0) := cell_blk GB.out
     have d7 : w2.cell? ⟨w1.heap.size, 7, none⟩ = some (.slice none 0 0) := cell_blk GB.out
     have q5 : w2.frozen? ⟨w1.heap.size, 5, none⟩ = false := frz_blk GB.out
     go_wp2_with fail
     refine (need_false _).mono ?_
     rintro e w9 ⟨rfl, rfl⟩
     exact ⟨rfl, rfl, HE2.out.fp⟩
end Go.Proofs.YtnpkdiffpgcbhaaGreatDoor
