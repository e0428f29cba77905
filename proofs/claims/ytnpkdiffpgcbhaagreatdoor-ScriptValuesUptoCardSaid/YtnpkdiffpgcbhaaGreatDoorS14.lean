/- The lexer, walked (LexG). Conditions: each theorem's own. -/
import Derived.Test.YtnpkdiffpgcbhaaGreatDoorS13
import Derived.RangeFuncNested
import Derived.RangeFuncBound
import Derived.RangeFuncCalls
import Derived.RangeFuncLeaves
import Derived.Shelf.Abstract
import Derived.Shelf.RegionOpen
import Derived.OwnWalkIn
import Derived.TacticsInMore
import Derived.LoopNIn
import Derived.LoopIn
import Derived.BigRegionIn
import Derived.Sort.CutIn
set_option maxRecDepth 100000
set_option maxHeartbeats 1600000
namespace Go.Proofs.YtnpkdiffpgcbhaaGreatDoor
open Go.RowKit
attribute [local go_sem] Oper.semAt_some
def Told (s : ByteArray) (T : List Lx) (a : Nat) : Prop := lexA (restB s 0) = (lexA (restB s a)).map (T ++ ·)
section
variable {s : ByteArray} {T : List Lx} {a k : Nat}
theorem Told.nil : Told s [] 0 := by
 unfold Told
 cases lexA (restB s 0) <;> rfl
theorem Told.done (h : Told s T a) (hk : restB s k = skip (restB s a)) (hs : s.size ≤ k) : lexA (restB s 0) = some T := by
 unfold Told at h
 rw [h, lexA_nil _ (by rw [← hk, restB_nil hs])]
 simp
theorem Told.bad (h : Told s T a) (hk : restB s k = skip (restB s a)) (hs : k < s.size) (hx : lex1 (restB s k) = none) : lexA (restB s 0) = none := by
 unfold Told at h
 have e := restB_cons hs
 rw [h, lexA_bad (restB s a) (by rw [← hk]; exact e) (by rw [← e]; exact hx)]
 rfl
theorem Told.next (h : Told s T a) (hk : restB s k = skip (restB s a)) (hs : k < s.size) {x : Lx} {n : Nat} (hx : lex1 (restB s k) = some (x, restB s (k + n))) : Told s (T ++ [x]) (k + n) := by
 unfold Told at h ⊢
 have e := restB_cons hs
 rw [h, lexA_cons (restB s a) (by rw [← hk]; exact e) (by rw [← e]; exact hx)]
 cases lexA (restB s (k + n)) <;> simp
end
abbrev lexV (k : Int) (t : ByteArray) (i j : Int) : Value := .agg #[.int .i64 k, .string t, .int .i64 i, .int .i64 j]
def lexM (s : ByteArray) (xb : Nat) (w : World) : Nat := match w.cell? ⟨xb, 1, none⟩ with | some (.int _ n) => s.size - n.toNat | _ => 0
theorem lexes_in (l bx xb : Nat) (s : ByteArray) (J : List Lx → Nat → World → Prop) (Jx : World → Prop)
  (hAr : ∀ T a W, J T a W → LxAt W xb s a false ∧ W.cell? ⟨bx, 0, none⟩ = some (.pointer (some ⟨xb, 0, none⟩)) ∧ bx ≠ xb ∧ bx < W.heap.size)
  (hmove : ∀ T a W a' W', J T a W → FP (fun i => i = xb) W W' → LxAt W' xb s a' false → J T a' W')
  (hY : ∀ T a W (x : Lx) (t : ByteArray) (i j : Int), J T a W → t.data.toList = x.text → Told s (T ++ [x]) a → YieldAt Fence.wide 8 Tryz.prog l #[lexV x.kind t i j] W fun e W' =>
   (e = .returned (.bool true) ∧ J (T ++ [x]) a W') ∨ (e = .returned (.bool false) ∧ Jx W'))
  (W : World) (h0 : J [] 0 W) :
  CallsIn Fence.wide 9 Tryz.prog 133 #[.func (.yield l) #[] #[], .pointer (some ⟨bx, 0, none⟩)] W fun e W' => (∃ v, e = .returned v) ∧
   ((∃ T a, lexA (restB s 0) = some T ∧ J T a W') ∨ (lexA (restB s 0) = none ∧ ∃ T a W1, J T a W1 ∧ FP (fun i => i = xb) W1 W' ∧ LxAt W' xb s a true) ∨ Jx W') := by
 refine callsIn_of_wp Tryz.func133 rfl trivial ?_ rfl
 simp only [Tryz.ntmps133, List.size_toArray, List.length_cons, List.length_nil, Nat.reduceAdd, Nat.reduceSub, Array.replicate_succ, Array.replicate_zero, List.push_toArray, List.append_toArray, List.nil_append, List.cons_append]
 gi_wp2
 gi_loopw [] (fun wr => ∃ (T : List Lx) (a : Nat), Hid (J T a wr) ∧ Hid (Told s T a)) (fun wr => lexM s xb wr)
 case atStart => exact ⟨[], 0, Lib.hid h0, Lib.hid Told.nil⟩
 case round =>
  obtain ⟨T, a, HJ, HT⟩ := hrel
  obtain ⟨hlx, hcb, hne, hbl⟩ := hAr _ _ _ HJ.out
  have HB := Lib.hid (callsIn_wide (n := 8) |>.2 (blank_any hlx))
  have HLX := Lib.hid hlx
  have HNE := Lib.hid hne
  have HBL := Lib.hid hbl
  have HAR := Lib.hid hAr
  have HMV := Lib.hid hmove
  have HY := Lib.hid hY
  clear hAr hmove hY hlx hne hbl
  gi_wp2_with fail
  refine ⟨trivial, ?_⟩
  refine HB.out.mono ?_
  rintro e w1 ⟨rfl, k, hlx1, hsk, hak, hfp⟩
  have c0 : w1.cell? ⟨xb, 0, none⟩ = some (.string s) := cell_blk hlx1.blk
  have c1 : w1.cell? ⟨xb, 1, none⟩ = some (.int .i64 k) := cell_blk hlx1.blk
  have hcb1 : w1.cell? ⟨bx, 0, none⟩ = some (.pointer (some ⟨xb, 0, none⟩)) := (World.cell?_of_block (hfp.blk bx HBL.out HNE.out)).trans hcb
  have HJ1 := Lib.hid (HMV.out _ _ _ _ _ HJ.out hfp hlx1)
  have hks := hlx1.le
  have hsz := hlx1.sz
  have HL1 := Lib.hid hlx1
  have HSK := Lib.hid hsk
  have HAK := Lib.hid hak
  clear hlx1 hsk hak hfp hcb
  by_cases hlt : k < s.size
  ·gi_wp2_with fail
   gi_region
   gi_wp2_with fail
   refine ⟨trivial, ?_⟩
   refine ((callsIn_wide (n := 8)).2 (next_any (HL1.out.same (w' := w1.drew) rfl) hlt)).mono ?_
   rintro e w2 ⟨kd, t, n, rfl, hni, hbel⟩
   have hfp2 : FP (fun i => i = xb) w1 w2 := ⟨hbel.os, hbel.tape, hbel.output, hbel.size, fun i hi _ => hbel.block i hi⟩
   have hlx2 : LxAt w2 xb s k false := ⟨(hbel.block _ HL1.out.lt).trans HL1.out.blk, HL1.out.le, HL1.out.sz⟩
   have HJ2 := Lib.hid (HMV.out _ _ _ _ _ HJ1.out hfp2 hlx2)
   have hcb2 : w2.cell? ⟨bx, 0, none⟩ = some (.pointer (some ⟨xb, 0, none⟩)) := (HAR.out _ _ _ HJ2.out).2.1
   have HL2 := Lib.hid hlx2
   have HNI := Lib.hid hni
   clear hcb1 hbel hfp2 hlx2 hni c0 c1
   obtain ⟨wl, hwl⟩ : ∃ wl, w2.alloc (.cells #[.int .i64 kd, .string t, .int .i64 0, .int .i64 0] 139) = wl := ⟨_, rfl⟩
   have hfpl : FP (fun i => i = xb) w2 wl := by rw [← hwl]; exact (FP.refl _ _).alloc _
   have hlxl : LxAt wl xb s k false := ⟨by rw [← hwl]; exact (Below.heap_alloc _ _ _ HL2.out.lt).trans HL2.out.blk, HL2.out.le, HL2.out.sz⟩
   have hjl := HMV.out _ _ _ _ _ HJ2.out hfpl hlxl
   have hbl : wl.heap[w2.heap.size]? = some (.cells #[.int .i64 kd, .string t, .int .i64 0, .int .i64 0] 139 (0,0)) := by rw [← hwl]; exact heap_new_at rfl _
   have hcbl : wl.cell? ⟨bx, 0, none⟩ = some (.pointer (some ⟨xb, 0, none⟩)) := (HAR.out _ _ _ hjl).2.1
   have hne2 : w2.heap.size ≠ xb := by have := HL2.out.lt; omega
   have c0 : wl.cell? ⟨xb, 0, none⟩ = some (.string s) := cell_blk hlxl.blk
   have c1 : wl.cell? ⟨xb, 1, none⟩ = some (.int .i64 k) := cell_blk hlxl.blk
   have c2 : wl.cell? ⟨xb, 2, none⟩ = some (.bool false) := cell_blk hlxl.blk
   have f1 : wl.frozen? ⟨xb, 1, none⟩ = false := frz_blk hlxl.blk
   have f2 : wl.frozen? ⟨xb, 2, none⟩ = false := frz_blk hlxl.blk
   have HJL := Lib.hid hjl
   have HBB := Lib.hid hbl
   have HLL := Lib.hid hlxl
   have HNE2 := Lib.hid hne2
   rw [← hwl] at hcbl c0 c1 c2 f1 f2
   have HWL := Lib.hid hwl
   clear hwl hfpl hlxl hjl hbl hne2
   by_cases hn : n = 0
   ·subst hn
    gi_wp2_with fail
    have hx : lex1 (restB s k) = none := by
     have e := HNI.out
     unfold NextIs at e
     cases hx : lex1 (restB s k) with
     | none => rfl
     | some p => rw [hx] at e; exact absurd e.2.2.1 (by omega)
    rw [HWL.out]
    refine bodyPost_ret (results_none rfl _ _ _) rfl ⟨⟨_, rfl⟩, .inr (.inl ⟨HT.out.bad HSK.out hlt hx, T, k, wl, HJL.out, (FP.refl _ _).set _ (.inl rfl), ?_, HLL.out.le, HLL.out.sz⟩)⟩
    exact (heap_set HLL.out.blk _ _).trans (if_pos rfl)
   ·have hn1 : ((n : Int) == 0) = false := by rw [beq_eq_false_iff_ne]; omega
    have hn2 : ¬ ((n : Int) = 0) := by omega
    clear hn
    gi_upto_region 5 with fail
    rw [HWL.out] at hcbl c0 c1 c2 f1 f2 ⊢
    obtain ⟨B, hB⟩ : ∃ B, w2.heap.size = B := ⟨_, rfl⟩
    have hbb := HBB.out
    have hne2 := HNE2.out
    rw [hB] at hbb hne2 ⊢
    have HB2 := Lib.hid hB
    have HBB2 := Lib.hid hbb
    have HN3 := Lib.hid hne2
    have b2 : wl.cell? ⟨B, 2, none⟩ = some (.int .i64 0) := cell_blk hbb
    have b3 : wl.cell? ⟨B, 3, none⟩ = some (.int .i64 0) := cell_blk hbb
    have g2 : wl.frozen? ⟨B, 2, none⟩ = false := frz_blk hbb
    have g3 : wl.frozen? ⟨B, 3, none⟩ = false := frz_blk hbb
    obtain ⟨x, hx, hxk, hxt, hkn⟩ : ∃ x, lex1 (restB s k) = some (x, restB s (k + n)) ∧ kd = (x.kind : Int) ∧ t.data.toList = x.text ∧ k + n ≤ s.size := by
     have e := HNI.out
     unfold NextIs at e
     cases hx : lex1 (restB s k) with
     | none => rw [hx] at e; exact absurd (by exact_mod_cast e) hn2
     | some p => rw [hx] at e; obtain ⟨x, r⟩ := p; exact ⟨x, by rw [e.2.2.2.2], e.1, e.2.1, e.2.2.2.1⟩
    have HX := Lib.hid hx
    have HXT := Lib.hid hxt
    have HKN := Lib.hid hkn
    have hi0 : (0 : Int) ≤ (k : Int) + n := by omega
    have hi1 : (k : Int) + n ≤ 1099511627776 := by omega
    clear hB hbb hne2 hx hxt hkn
    gi_region
    obtain ⟨w4, hw4⟩ : ∃ w4, ((wl.setCell ⟨B, 2, none⟩ (.int .i64 k)).setCell ⟨B, 3, none⟩ (.int .i64 ((k : Int) + n))).drew = w4 := ⟨_, rfl⟩
    have e4 : w4.heap[B]? = some (.cells #[.int .i64 kd, .string t, .int .i64 k, .int .i64 ((k : Int) + n)] 139 (0,0)) := by
     rw [← hw4]
     exact (heap_set ((heap_set HBB2.out _ _).trans (if_pos rfl)) _ _).trans (if_pos rfl)
    have x4 : w4.heap[xb]? = some (.cells #[.string s, .int .i64 k, .bool false] 158 (0,0)) := by
     rw [← hw4]
     exact (heap_set_ne (Ne.symm HN3.out)).trans ((heap_set_ne (Ne.symm HN3.out)).trans HLL.out.blk)
    have p4 : FP (fun i => i = xb) w2 w4 := by
     have p1 : FP (fun i => i = xb) w2 wl := by rw [← HWL.out]; exact (FP.refl _ _).alloc _
     rw [← hw4]
     exact ((p1.set (p := ⟨B, 2, none⟩) (.int .i64 k) (.inr (by rw [HB2.out]; exact Nat.le_refl _))).set (p := ⟨B, 3, none⟩) (.int .i64 ((k : Int) + n)) (.inr (by rw [HB2.out]; exact Nat.le_refl _))).same (same_drewN _ 1)
    rw [hw4]
    have HJ4 := Lib.hid (HMV.out _ _ _ _ _ HJ2.out p4 ⟨x4, HLL.out.le, HLL.out.sz⟩)
    have d0 : w4.cell? ⟨bx, 0, none⟩ = some (.pointer (some ⟨xb, 0, none⟩)) := (HAR.out _ _ _ HJ4.out).2.1
    have d1 : w4.cell? ⟨xb, 1, none⟩ = some (.int .i64 k) := cell_blk x4
    have d2 : w4.frozen? ⟨xb, 1, none⟩ = false := frz_blk x4
    obtain ⟨w5, hw5⟩ : ∃ w5, w4.setCell ⟨xb, 1, none⟩ (.int .i64 ((k : Int) + n)) = w5 := ⟨_, rfl⟩
    have e5 : w5.heap[B]? = some (.cells #[.int .i64 kd, .string t, .int .i64 k, .int .i64 ((k : Int) + n)] 139 (0,0)) := by
     rw [← hw5]; exact (heap_set_ne (a := ⟨xb, 1, none⟩) HN3.out).trans e4
    have x5 : w5.heap[xb]? = some (.cells #[.string s, .int .i64 ((k + n : Nat) : Int), .bool false] 158 (0,0)) := by
     rw [← hw5]; exact (heap_set x4 _ _).trans (if_pos rfl)
    have HL5 := Lib.hid (show LxAt w5 xb s (k + n) false from ⟨x5, HKN.out, HLL.out.sz⟩)
    have HJ5 := Lib.hid (HMV.out _ _ _ _ w5 HJ4.out (by rw [← hw5]; exact (FP.refl _ w4).set (p := ⟨xb, 1, none⟩) _ (.inl rfl)) HL5.out)
    have HT5 := Lib.hid (HT.out.next HSK.out hlt HX.out)
    obtain ⟨fn, tmps, assign, body, hy, hR⟩ := HY.out T (k + n) w5 x t k ((k : Int) + n) HJ5.out HXT.out HT5.out
    have q0 : w5.cell? ⟨B, 0, none⟩ = some (.int .i64 kd) := cell_blk e5
    have q1 : w5.cell? ⟨B, 1, none⟩ = some (.string t) := cell_blk e5
    have q2 : w5.cell? ⟨B, 2, none⟩ = some (.int .i64 k) := cell_blk e5
    have q3 : w5.cell? ⟨B, 3, none⟩ = some (.int .i64 ((k : Int) + n)) := cell_blk e5
    have HR := Lib.hid hR
    clear hw4 e4 x4 p4 e5 x5 hR b2 b3 g2 g3 hcbl c0 c1 c2 f1 f2
    subst hxk
    gi_upto_region 7 with fail
    clear hw5 d0 d1 d2
    gi_wp2_with fail
    refine HR.out.mono ?_
    rintro e W' (⟨rfl, hJ'⟩ | ⟨rfl, hJx'⟩)
    ·have HJ' := Lib.hid hJ'
     have hm : lexM s xb W' = s.size - (k + n) := by
      unfold lexM
      rw [show W'.cell? ⟨xb, 1, none⟩ = some (.int .i64 ((k + n : Nat) : Int)) from cell_blk (HAR.out _ _ _ hJ').1.blk]
      rfl
     have hm0 : lexM s xb wr = s.size - a := by
      unfold lexM
      rw [show wr.cell? ⟨xb, 1, none⟩ = some (.int .i64 (a : Int)) from cell_blk HLX.out.blk]
      rfl
     have HM := Lib.hid hm
     have HM0 := Lib.hid hm0
     clear hJ' hy hm hm0
     gi_wp2
     go_roundw
     case rel => exact ⟨T ++ [x], k + n, HJ', HT5⟩
     case measure =>
      rw [HM.out, HM0.out]
      have := HAK.out
      omega
    ·gi_wp2
     refine bodyPost_ret (results_none rfl _ _ _) rfl ?_
     exact ⟨⟨_, rfl⟩, .inr (.inr hJx')⟩
  ·obtain rfl : k = s.size := by omega
   gi_wp2_with fail
   gi_region
   gi_wp2_with fail
   refine bodyPost_ret (results_none rfl _ _ _) rfl ⟨⟨_, rfl⟩, .inl ⟨T, s.size, HT.out.done HSK.out (Nat.le_refl _), HMV.out _ _ _ _ _ HJ1.out (FP.ofSame (same_drewN _ 1)) (HL1.out.same rfl)⟩⟩
end Go.Proofs.YtnpkdiffpgcbhaaGreatDoor
