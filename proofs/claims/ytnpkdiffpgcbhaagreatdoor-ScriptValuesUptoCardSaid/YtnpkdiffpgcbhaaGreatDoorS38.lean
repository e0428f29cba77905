/- The parser, walked (ParU). Conditions: each theorem's own. -/
import Derived.Test.YtnpkdiffpgcbhaaGreatDoorS37
set_option maxRecDepth 100000
set_option maxHeartbeats 3200000
namespace Go.Proofs.YtnpkdiffpgcbhaaGreatDoor
open Go.RowKit
attribute [local go_sem] Oper.semAt_some
theorem rdop_args {w0 w w2 wf : World} {T : List Lx} {pb h ob k : Nat} {x : ByteArray} {l : List (Bool × GV)} {xs : List Value} {ao : Option Addr} {m cap : Nat} (hs : RowSt (qC pb h ob x) w0 T l xs k (.slice ao l.length cap) (.slice ao l.length cap) l.length xs none w2)
  (hk : ∀ b', ob < b' → wf.heap[b']? = w2.heap[b']?) (hlt : w.heap.size ≤ ob) (hm : l.length = m) :
  RdOp wf (fun b => w.heap.size ≤ b) [.int .i64 7, .string ⟨#[]⟩, .slice none 0 0, .int .i64 0, .string x, .bool false, .int .i64 0, .slice ao m cap] ⟨7, [], [], 0, x.data.toList, false, 0, l⟩ := by
 subst hm
 have hsl : SliceAt w2 (fun b => ob + 1 ≤ b) (.slice ao l.length cap) l.length (l.length * 6) xs := SliceAt.own hs.row
 exact .mk 7 ⟨#[]⟩ _ 0 x false 0 _ [] xs [] l (slice0 6) .nil (hsl.trans' (fun g hg _ => ⟨hk g (by omega), by omega⟩)) (hs.old.imp (fun c a _ hc => RdO.trans' (fun g hg _ => by have h1 : ob < g := hg.1; exact ⟨hk g h1, by omega⟩) hc))
theorem op_query {W : World} {pb k : Nat} {T : List Lx} (hp : PAt W pb T k) : Calls Tryz.prog 90 #[.pointer (some ⟨pb, 0, none⟩)] W (REnd W pb T k (OpAt W) (match takeL 0 [] (T.drop k) with | none => none | some (q, r2) => match takeL 4 [40] r2 with | none => none | some (_, r3) => (listL pOpt [41] (r3.length + 1) true r3).map fun p => ({ noOp with kind := 7, text := q, args := p.1 }, p.2))) := by
 have hpw : pb < W.heap.size := hp.lt
 have hp1 : PAt ((W.alloc (.cells #[.pointer (some ⟨pb, 0, none⟩)] 104)).alloc (.cells #[.int .i64 0, .string ⟨#[]⟩, .slice none 0 0, .int .i64 0, .string ⟨#[]⟩, .bool false, .int .i64 0, .slice none 0 0] 58)) pb T k := hp.fp (S := nob) (((FP.refl _ W).alloc _).alloc _) (fun _ h => h.elim)
 have hxb : ((W.alloc (.cells #[.pointer (some ⟨pb, 0, none⟩)] 104)).alloc (.cells #[.int .i64 0, .string ⟨#[]⟩, .slice none 0 0, .int .i64 0, .string ⟨#[]⟩, .bool false, .int .i64 0, .slice none 0 0] 58)).heap[W.heap.size]? = some (.cells #[.pointer (some ⟨pb, 0, none⟩)] 104 (0,0)) := (heap_alloc_ne (by simp)).trans (heap_new_at rfl _)
 have hrb : ((W.alloc (.cells #[.pointer (some ⟨pb, 0, none⟩)] 104)).alloc (.cells #[.int .i64 0, .string ⟨#[]⟩, .slice none 0 0, .int .i64 0, .string ⟨#[]⟩, .bool false, .int .i64 0, .slice none 0 0] 58)).heap[W.heap.size + 1]? = some (.cells #[.int .i64 0, .string ⟨#[]⟩, .slice none 0 0, .int .i64 0, .string ⟨#[]⟩, .bool false, .int .i64 0, .slice none 0 0] 58 (0,0)) := heap_new_at (by simp) _
 have hfp : FP (fun i => i = pb) W ((W.alloc (.cells #[.pointer (some ⟨pb, 0, none⟩)] 104)).alloc (.cells #[.int .i64 0, .string ⟨#[]⟩, .slice none 0 0, .int .i64 0, .string ⟨#[]⟩, .bool false, .int .i64 0, .slice none 0 0] 58)) := ((FP.refl _ W).alloc _).alloc _
 have x0 : ((W.alloc (.cells #[.pointer (some ⟨pb, 0, none⟩)] 104)).alloc (.cells #[.int .i64 0, .string ⟨#[]⟩, .slice none 0 0, .int .i64 0, .string ⟨#[]⟩, .bool false, .int .i64 0, .slice none 0 0] 58)).cell? ⟨W.heap.size, 0, none⟩ = some (.pointer (some ⟨pb, 0, none⟩)) := cell_blk hxb
 have hT := take_end hp1 0 ⟨#[]⟩
 change Calls _ _ _ _ (REnd _ _ _ _ _ (takeL 0 [] (T.drop k))) at hT
 obtain ⟨ro, hro⟩ : ∃ ro, takeL 0 [] (T.drop k) = ro := ⟨_, rfl⟩
 rw [hro] at hT ⊢
 have HT := Lib.hid hT
 have HXB := Lib.hid hxb
 have HRB := Lib.hid hrb
 have HFP := Lib.hid hfp
 clear hT hro hp hp1 hxb hrb hfp
 rcases ro with _ | ⟨q, r⟩
 ·go_enter Tryz.func90, Tryz.ntmps90
  go_wp2_with fail
  refine HT.out.mono ?_
  rintro e w9 ⟨rfl, hf⟩
  exact ⟨rfl, rfl, HFP.out.trans hf (fun i hi => .inl hi)⟩
 ·simp only
  obtain ⟨rs, hrs⟩ : ∃ rs, takeL 4 [40] r = rs := ⟨_, rfl⟩
  rw [hrs]
  have HRS := Lib.hid hrs
  clear hrs
  rcases rs with _ | ⟨u, r2⟩
  ·skip
   go_enter Tryz.func90, Tryz.ntmps90
   go_wp2_with fail
   refine HT.out.mono ?_
   rintro e w1 ⟨v1, k1, rfl, ⟨x, rfl, hx⟩, hr1, hka1, hkb1, hp, hf⟩
   have HX := Lib.hid hx
   have HR1 := Lib.hid (And.intro hr1 (And.intro hka1 hkb1))
   have hst : RowSt (qC pb W.heap.size w1.heap.size x) W T [] [] k1 (.slice none 0 0) (.slice none 0 0) 0 [] none (w1.alloc (.cells #[.int .i64 7, .string ⟨#[]⟩, .slice none 0 0, .int .i64 0, .string x, .bool false, .int .i64 0, .slice none 0 0] 58)) := by
    have hx1 := (hf.blk _ (lt_blk HXB.out) (by omega)).trans HXB.out
    have hr1 := (hf.blk _ (lt_blk HRB.out) (by omega)).trans HRB.out
    refine ⟨hp.fp (S := nob) ((FP.refl _ _).alloc _) (fun _ h => h.elim), fun y hy => ?_, heap_new_at rfl _, World.ownsRow_nil _ _ _ _, .nil, fun y hy => (by cases hy), (HFP.out.trans hf (fun i hi => .inl hi)).alloc _, Nat.le_of_lt (lt_blk hx1)⟩
    simp only [qC, List.mem_cons, List.not_mem_nil, or_false] at hy
    rcases hy with rfl | rfl
    ·exact (heap_alloc_ne (by have := lt_blk hx1; show W.heap.size ≠ w1.heap.size; omega)).trans hx1
    ·exact (heap_alloc_ne (by have := lt_blk hr1; show W.heap.size + 1 ≠ w1.heap.size; omega)).trans hr1
   have hob : W.heap.size + 1 < w1.heap.size := lt_blk ((hf.blk _ (lt_blk HRB.out) (by omega)).trans HRB.out)
   have HST := Lib.hid hst
   have HOB := Lib.hid hob
   have OK := Lib.hid (qC_ok (nm := x) hpw hob)
   have x1 : (w1.alloc (.cells #[.int .i64 7, .string ⟨#[]⟩, .slice none 0 0, .int .i64 0, .string x, .bool false, .int .i64 0, .slice none 0 0] 58)).cell? ⟨W.heap.size, 0, none⟩ = some (.pointer (some ⟨pb, 0, none⟩)) := cell_blk (hst.kp _ (List.mem_cons_self ..))
   have hS := take_end hst.p 4 ⟨#[40]⟩
   change Calls _ _ _ _ (REnd _ _ _ _ _ (takeL 4 [40] (T.drop k1))) at hS
   rw [← HR1.out.1, HRS.out] at hS
   have HS := Lib.hid hS
   clear hS hst hob hx hr1 hka1 hkb1 hp hf x0
   go_wp2_with fail
   refine HS.out.mono ?_
   rintro e w9 ⟨rfl, hf⟩
   exact ⟨rfl, rfl, HST.out.fp.trans hf (fun i hi => .inl hi)⟩
  ·simp only
   obtain ⟨rl, hrl⟩ : ∃ rl, listL pOpt [41] (r2.length + 1) true r2 = rl := ⟨_, rfl⟩
   rw [hrl]
   have HRL := Lib.hid hrl
   clear hrl
   rcases rl with _ | ⟨l, r3⟩
   ·skip
    go_enter Tryz.func90, Tryz.ntmps90
    go_wp2_with fail
    refine HT.out.mono ?_
    rintro e w1 ⟨v1, k1, rfl, ⟨x, rfl, hx⟩, hr1, hka1, hkb1, hp, hf⟩
    have HX := Lib.hid hx
    have HR1 := Lib.hid (And.intro hr1 (And.intro hka1 hkb1))
    have hst : RowSt (qC pb W.heap.size w1.heap.size x) W T [] [] k1 (.slice none 0 0) (.slice none 0 0) 0 [] none (w1.alloc (.cells #[.int .i64 7, .string ⟨#[]⟩, .slice none 0 0, .int .i64 0, .string x, .bool false, .int .i64 0, .slice none 0 0] 58)) := by
     have hx1 := (hf.blk _ (lt_blk HXB.out) (by omega)).trans HXB.out
     have hr1 := (hf.blk _ (lt_blk HRB.out) (by omega)).trans HRB.out
     refine ⟨hp.fp (S := nob) ((FP.refl _ _).alloc _) (fun _ h => h.elim), fun y hy => ?_, heap_new_at rfl _, World.ownsRow_nil _ _ _ _, .nil, fun y hy => (by cases hy), (HFP.out.trans hf (fun i hi => .inl hi)).alloc _, Nat.le_of_lt (lt_blk hx1)⟩
     simp only [qC, List.mem_cons, List.not_mem_nil, or_false] at hy
     rcases hy with rfl | rfl
     ·exact (heap_alloc_ne (by have := lt_blk hx1; show W.heap.size ≠ w1.heap.size; omega)).trans hx1
     ·exact (heap_alloc_ne (by have := lt_blk hr1; show W.heap.size + 1 ≠ w1.heap.size; omega)).trans hr1
    have hob : W.heap.size + 1 < w1.heap.size := lt_blk ((hf.blk _ (lt_blk HRB.out) (by omega)).trans HRB.out)
    have HST := Lib.hid hst
    have HOB := Lib.hid hob
    have OK := Lib.hid (qC_ok (nm := x) hpw hob)
    have x1 : (w1.alloc (.cells #[.int .i64 7, .string ⟨#[]⟩, .slice none 0 0, .int .i64 0, .string x, .bool false, .int .i64 0, .slice none 0 0] 58)).cell? ⟨W.heap.size, 0, none⟩ = some (.pointer (some ⟨pb, 0, none⟩)) := cell_blk (hst.kp _ (List.mem_cons_self ..))
    have hS := take_end hst.p 4 ⟨#[40]⟩
    change Calls _ _ _ _ (REnd _ _ _ _ _ (takeL 4 [40] (T.drop k1))) at hS
    rw [← HR1.out.1, HRS.out] at hS
    have HS := Lib.hid hS
    clear hS hst hob hx hr1 hka1 hkb1 hp hf x0
    go_wp2_with fail
    refine HS.out.mono ?_
    rintro e w2 ⟨v2, k2, rfl, ⟨y2, rfl, _⟩, hr2, hka2, hkb2, hp, hf⟩
    have HR2 := Lib.hid (And.intro hr2 (And.intro hka2 hkb2))
    have HS2 := Lib.hid (HST.out.far OK.out hf hp)
    have x2 : w2.cell? ⟨W.heap.size, 0, none⟩ = some (.pointer (some ⟨pb, 0, none⟩)) := cell_blk (HS2.out.kp _ (List.mem_cons_self ..))
    have hl := ri_list (C := qC pb W.heap.size w1.heap.size x) OK.out (w0 := W) (T := T) pOpt ⟨#[41]⟩ 91 #[.pointer (some ⟨W.heap.size, 0, none⟩), .pointer (some ⟨w1.heap.size, 0, none⟩)] (fun _ _ => rfl) (fun acc k W1 hi => query1_any hpw HOB.out acc k W1 hi) (k0 := k2) (w := w2) ⟨_, _, HS2.out, Nat.zero_le _⟩
    change Calls _ _ _ _ (ListEnd _ _ _ _ (listL pOpt [41] ((T.drop k2).length + 1) true (T.drop k2))) at hl
    rw [← HR2.out.1, HRL.out] at hl
    have HL := Lib.hid hl
    clear hl hr2 hka2 hkb2 hp hf x1
    go_wp2_with fail
    refine HL.out.mono ?_
    rintro e w9 ⟨rfl, hf⟩
    exact ⟨rfl, rfl, hf⟩
   ·skip
    go_enter Tryz.func90, Tryz.ntmps90
    go_wp2_with fail
    refine HT.out.mono ?_
    rintro e w1 ⟨v1, k1, rfl, ⟨x, rfl, hx⟩, hr1, hka1, hkb1, hp, hf⟩
    have HX := Lib.hid hx
    have HR1 := Lib.hid (And.intro hr1 (And.intro hka1 hkb1))
    have hst : RowSt (qC pb W.heap.size w1.heap.size x) W T [] [] k1 (.slice none 0 0) (.slice none 0 0) 0 [] none (w1.alloc (.cells #[.int .i64 7, .string ⟨#[]⟩, .slice none 0 0, .int .i64 0, .string x, .bool false, .int .i64 0, .slice none 0 0] 58)) := by
     have hx1 := (hf.blk _ (lt_blk HXB.out) (by omega)).trans HXB.out
     have hr1 := (hf.blk _ (lt_blk HRB.out) (by omega)).trans HRB.out
     refine ⟨hp.fp (S := nob) ((FP.refl _ _).alloc _) (fun _ h => h.elim), fun y hy => ?_, heap_new_at rfl _, World.ownsRow_nil _ _ _ _, .nil, fun y hy => (by cases hy), (HFP.out.trans hf (fun i hi => .inl hi)).alloc _, Nat.le_of_lt (lt_blk hx1)⟩
     simp only [qC, List.mem_cons, List.not_mem_nil, or_false] at hy
     rcases hy with rfl | rfl
     ·exact (heap_alloc_ne (by have := lt_blk hx1; show W.heap.size ≠ w1.heap.size; omega)).trans hx1
     ·exact (heap_alloc_ne (by have := lt_blk hr1; show W.heap.size + 1 ≠ w1.heap.size; omega)).trans hr1
    have hob : W.heap.size + 1 < w1.heap.size := lt_blk ((hf.blk _ (lt_blk HRB.out) (by omega)).trans HRB.out)
    have HST := Lib.hid hst
    have HOB := Lib.hid hob
    have OK := Lib.hid (qC_ok (nm := x) hpw hob)
    have x1 : (w1.alloc (.cells #[.int .i64 7, .string ⟨#[]⟩, .slice none 0 0, .int .i64 0, .string x, .bool false, .int .i64 0, .slice none 0 0] 58)).cell? ⟨W.heap.size, 0, none⟩ = some (.pointer (some ⟨pb, 0, none⟩)) := cell_blk (hst.kp _ (List.mem_cons_self ..))
    have hS := take_end hst.p 4 ⟨#[40]⟩
    change Calls _ _ _ _ (REnd _ _ _ _ _ (takeL 4 [40] (T.drop k1))) at hS
    rw [← HR1.out.1, HRS.out] at hS
    have HS := Lib.hid hS
    clear hS hst hob hx hr1 hka1 hkb1 hp hf x0
    go_wp2_with fail
    refine HS.out.mono ?_
    rintro e w2 ⟨v2, k2, rfl, ⟨y2, rfl, _⟩, hr2, hka2, hkb2, hp, hf⟩
    have HR2 := Lib.hid (And.intro hr2 (And.intro hka2 hkb2))
    have HS2 := Lib.hid (HST.out.far OK.out hf hp)
    have x2 : w2.cell? ⟨W.heap.size, 0, none⟩ = some (.pointer (some ⟨pb, 0, none⟩)) := cell_blk (HS2.out.kp _ (List.mem_cons_self ..))
    have hl := ri_list (C := qC pb W.heap.size w1.heap.size x) OK.out (w0 := W) (T := T) pOpt ⟨#[41]⟩ 91 #[.pointer (some ⟨W.heap.size, 0, none⟩), .pointer (some ⟨w1.heap.size, 0, none⟩)] (fun _ _ => rfl) (fun acc k W1 hi => query1_any hpw HOB.out acc k W1 hi) (k0 := k2) (w := w2) ⟨_, _, HS2.out, Nat.zero_le _⟩
    change Calls _ _ _ _ (ListEnd _ _ _ _ (listL pOpt [41] ((T.drop k2).length + 1) true (T.drop k2))) at hl
    rw [← HR2.out.1, HRL.out] at hl
    have HL := Lib.hid hl
    clear hl hr2 hka2 hkb2 hp hf x1
    go_wp2_with fail
    refine HL.out.mono ?_
    rintro e w3 ⟨rfl, k3, hr3, hka3, hkb3, v, xs, hs, hcnt⟩
    obtain ⟨ao, cap, rfl⟩ := own_shape1 hs.row
    obtain ⟨m, hm⟩ : ∃ m, l.length = m := ⟨_, rfl⟩
    have hrb : w3.heap[W.heap.size + 1]? = some (.cells #[.int .i64 0, .string ⟨#[]⟩, .slice none 0 0, .int .i64 0, .string ⟨#[]⟩, .bool false, .int .i64 0, .slice none 0 0] 58 (0,0)) := hs.kp _ (List.mem_cons_of_mem _ (List.mem_cons_self ..))
    have hop : w3.heap[w1.heap.size]? = some (.cells #[.int .i64 7, .string ⟨#[]⟩, .slice none 0 0, .int .i64 0, .string x, .bool false, .int .i64 0, .slice ao l.length cap] 58 (0,0)) := hs.hd
    have HSF := Lib.hid hs
    have HM := Lib.hid hm
    have HR3 := Lib.hid (And.intro hr3 (And.intro hka3 hkb3))
    rw [hm] at hop
    have HRB3 := Lib.hid hrb
    have c0 : w3.cell? ⟨W.heap.size + 1, 0, none⟩ = some (.int .i64 0) := cell_blk hrb
    have f0 : w3.frozen? ⟨W.heap.size + 1, 0, none⟩ = false := frz_blk hrb
    have c1 : w3.cell? ⟨W.heap.size + 1, 1, none⟩ = some (.string ⟨#[]⟩) := cell_blk hrb
    have f1 : w3.frozen? ⟨W.heap.size + 1, 1, none⟩ = false := frz_blk hrb
    have c2 : w3.cell? ⟨W.heap.size + 1, 2, none⟩ = some (.slice none 0 0) := cell_blk hrb
    have f2 : w3.frozen? ⟨W.heap.size + 1, 2, none⟩ = false := frz_blk hrb
    have c3 : w3.cell? ⟨W.heap.size + 1, 3, none⟩ = some (.int .i64 0) := cell_blk hrb
    have f3 : w3.frozen? ⟨W.heap.size + 1, 3, none⟩ = false := frz_blk hrb
    have c4 : w3.cell? ⟨W.heap.size + 1, 4, none⟩ = some (.string ⟨#[]⟩) := cell_blk hrb
    have f4 : w3.frozen? ⟨W.heap.size + 1, 4, none⟩ = false := frz_blk hrb
    have c5 : w3.cell? ⟨W.heap.size + 1, 5, none⟩ = some (.bool false) := cell_blk hrb
    have f5 : w3.frozen? ⟨W.heap.size + 1, 5, none⟩ = false := frz_blk hrb
    have c6 : w3.cell? ⟨W.heap.size + 1, 6, none⟩ = some (.int .i64 0) := cell_blk hrb
    have f6 : w3.frozen? ⟨W.heap.size + 1, 6, none⟩ = false := frz_blk hrb
    have c7 : w3.cell? ⟨W.heap.size + 1, 7, none⟩ = some (.slice none 0 0) := cell_blk hrb
    have f7 : w3.frozen? ⟨W.heap.size + 1, 7, none⟩ = false := frz_blk hrb
    have d0 : w3.cell? ⟨w1.heap.size, 0, none⟩ = some (.int .i64 7) := cell_blk hop
    have d1 : w3.cell? ⟨w1.heap.size, 1, none⟩ = some (.string ⟨#[]⟩) := cell_blk hop
    have d2 : w3.cell? ⟨w1.heap.size, 2, none⟩ = some (.slice none 0 0) := cell_blk hop
    have d3 : w3.cell? ⟨w1.heap.size, 3, none⟩ = some (.int .i64 0) := cell_blk hop
    have d4 : w3.cell? ⟨w1.heap.size, 4, none⟩ = some (.string x) := cell_blk hop
    have d5 : w3.cell? ⟨w1.heap.size, 5, none⟩ = some (.bool false) := cell_blk hop
    have d6 : w3.cell? ⟨w1.heap.size, 6, none⟩ = some (.int .i64 0) := cell_blk hop
    have d7 : w3.cell? ⟨w1.heap.size, 7, none⟩ = some (.slice ao m cap) := cell_blk hop
    clear hs hm hr3 hka3 hkb3 hrb hop hcnt x2
    go_wp2_with fail
    have hz1 := put8_at HRB3.out (.int .i64 7) (.string ⟨#[]⟩) (.slice none 0 0) (.int .i64 0) (.string x) (.bool false) (.int .i64 0) (.slice ao m cap)
    have hz2 : PAt (put8 w3 (W.heap.size + 1) (.int .i64 7) (.string ⟨#[]⟩) (.slice none 0 0) (.int .i64 0) (.string x) (.bool false) (.int .i64 0) (.slice ao m cap)) pb T k3 := HSF.out.p.same (fun b hb => put8_ne _ _ _ _ _ _ _ _ _ _ (by have hb' : b ≤ pb := hb; omega))
    have hz3 : FP (fun i => i = pb) W (put8 w3 (W.heap.size + 1) (.int .i64 7) (.string ⟨#[]⟩) (.slice none 0 0) (.int .i64 0) (.string x) (.bool false) (.int .i64 0) (.slice ao m cap)) := HSF.out.fp.trans (put8_fp (S := fun i => i = W.heap.size + 1) w3 _ (.int .i64 7) (.string ⟨#[]⟩) (.slice none 0 0) (.int .i64 0) (.string x) (.bool false) (.int .i64 0) (.slice ao m cap) rfl) (fun i hi => .inr (by omega))
    have hz4 : ∀ b', w1.heap.size < b' → (put8 w3 (W.heap.size + 1) (.int .i64 7) (.string ⟨#[]⟩) (.slice none 0 0) (.int .i64 0) (.string x) (.bool false) (.int .i64 0) (.slice ao m cap)).heap[b']? = w3.heap[b']? := fun b' hb => put8_ne _ _ _ _ _ _ _ _ _ _ (by have := HOB.out; omega)
    change bodyPost _ _ _ _ _ (put8 w3 (W.heap.size + 1) (.int .i64 7) (.string ⟨#[]⟩) (.slice none 0 0) (.int .i64 0) (.string x) (.bool false) (.int .i64 0) (.slice ao m cap))
    generalize put8 w3 (W.heap.size + 1) (.int .i64 7) (.string ⟨#[]⟩) (.slice none 0 0) (.int .i64 0) (.string x) (.bool false) (.int .i64 0) (.slice ao m cap) = wf at hz1 hz2 hz3 hz4 ⊢
    have r0 : wf.cell? ⟨W.heap.size + 1, 0, none⟩ = some (.int .i64 7) := cell_blk hz1
    have r1 : wf.cell? ⟨W.heap.size + 1, 1, none⟩ = some (.string ⟨#[]⟩) := cell_blk hz1
    have r2 : wf.cell? ⟨W.heap.size + 1, 2, none⟩ = some (.slice none 0 0) := cell_blk hz1
    have r3 : wf.cell? ⟨W.heap.size + 1, 3, none⟩ = some (.int .i64 0) := cell_blk hz1
    have r4 : wf.cell? ⟨W.heap.size + 1, 4, none⟩ = some (.string x) := cell_blk hz1
    have r5 : wf.cell? ⟨W.heap.size + 1, 5, none⟩ = some (.bool false) := cell_blk hz1
    have r6 : wf.cell? ⟨W.heap.size + 1, 6, none⟩ = some (.int .i64 0) := cell_blk hz1
    have r7 : wf.cell? ⟨W.heap.size + 1, 7, none⟩ = some (.slice ao m cap) := cell_blk hz1
    have hrd := rdop_args (w := W) HSF.out hz4 (by have := HOB.out; omega) HM.out
    rw [HX.out] at hrd
    refine bodyPost_ret (v := .agg #[.int .i64 7, .string ⟨#[]⟩, .slice none 0 0, .int .i64 0, .string x, .bool false, .int .i64 0, .slice ao m cap]) (by simp [results, Tryz.results90, go_sem, r0, r1, r2, r3, r4, r5, r6, r7]) rfl ?_
    exact ⟨_, k3, rfl, ⟨[.int .i64 7, .string ⟨#[]⟩, .slice none 0 0, .int .i64 0, .string x, .bool false, .int .i64 0, .slice ao m cap], rfl, hrd⟩, HR3.out.1, by have := HR1.out.2.1; have := HR2.out.2.1; have := HR3.out.2.1; omega, HR3.out.2.2, hz2, hz3⟩
end Go.Proofs.YtnpkdiffpgcbhaaGreatDoor
