/- Elements: the same, the order. What was there stays. -/
import Derived.Test.YthbabhnbiilimaaGreatDoorMsU
import Derived.Deep.RegionHeld3
namespace Go.Proofs.YthbabhnbiilimaaGreatDoor
open Go.RowKit

/-- A row of values lies behind a slice. -/
def RowV (w : World) (s : Value) (l : List GV) : Prop := ∃ xs, SliceAt w.heap s l.length (l.length * 5) xs ∧ RdRow (RdV w.heap) xs l
theorem RowV.below {w w' : World} {s : Value} {l : List GV} (h : RowV w s l) (hb : Below w.heap.size w w') : RowV w' s l := let ⟨xs, a, b⟩ := h; ⟨xs, below_slice hb a, below_vals hb b⟩
theorem vals_same {w : World} {sa sb : Value} {l m : List GV} (ra : RowV w sa l) (rb : RowV w sb m) :
    Calls Tryz.prog 19 #[sa, sb, .func (.func 20) #[] #[]] w fun e w' => e = .returned (.bool (allB sameG l m)) ∧ Below w.heap.size w w' := let ⟨_, a, b⟩ := ra; let ⟨_, c, d⟩ := rb; eqf_vals (fun a _ => same_any a) a b c d
theorem vals_zsame {w : World} {sa sb : Value} {l m : List GV} (ra : RowV w sa l) (rb : RowV w sb m) :
    Calls Tryz.prog 47 #[sa, sb] w fun e w' => e = .returned (.bool (allB sameG l m)) ∧ Below w.heap.size w w' := let ⟨_, a, b⟩ := ra; let ⟨_, c, d⟩ := rb; eqvals (fun a _ => zsame_any a) a b c d
theorem vals_zorder {w : World} {sa sb : Value} {l m : List GV} (ra : RowV w sa l) (rb : RowV w sb m) :
    Calls Tryz.prog 50 #[sa, sb] w fun e w' => e = .returned (.int .i64 (ordL ordG l m)) ∧ Below w.heap.size w w' := let ⟨_, a, b⟩ := ra; let ⟨_, c, d⟩ := rb; rows_any (fun a _ => zorder_any a) a b c d
theorem vals_corder {w : World} {sa sb : Value} {l m : List GV} (ra : RowV w sa l) (rb : RowV w sb m) :
    Calls Tryz.prog 49 #[sa, sb, .func (.func 43) #[] #[]] w fun e w' => e = .returned (.int .i64 (ordL ordG l m)) ∧ Below w.heap.size w w' := let ⟨_, a, b⟩ := ra; let ⟨_, c, d⟩ := rb; cmf_vals (fun a _ => order_any a) a b c d
set_option maxHeartbeats 6400000 in
set_option maxRecDepth 100000 in
/-- match.vals. -/
theorem vals_order {w : World} {sa sb : Value} {l m : List GV} (ra : RowV w sa l) (rb : RowV w sb m) :
    Calls Tryz.prog 26 #[sa, sb] w fun e w' => e = .returned (.int .i64 (ordL ordG l m)) ∧ Below w.heap.size w w' := by
  have HC := Lib.hid (vals_corder ra rb)
  clear ra rb
  go_enter Tryz.func26, Tryz.ntmps26
  go_wp2_with fail
  refine HC.out.mono ?_
  rintro e w1 ⟨rfl, hb1⟩
  have HX := Lib.hid hb1
  clear hb1
  go_wp2_with fail
  go_ret
  exact ⟨rfl, HX.out⟩

set_option maxHeartbeats 6400000 in
set_option maxRecDepth 100000 in
/-- match.Same's function of two elements. -/
theorem same_elem {w : World} {a b : EV} {sa sb : Value} (ra : RowV w sa a.vals) (rb : RowV w sb b.vals) :
    Calls Tryz.prog 18 #[.agg #[.int .i64 a.handle, .int .i64 a.stamp, sa], .agg #[.int .i64 b.handle, .int .i64 b.stamp, sb]] w fun e w' => e = .returned (.bool (sameE a b)) ∧ Below w.heap.size w w' := by
  obtain ⟨h1, t1, l1⟩ := a
  obtain ⟨h2, t2, l2⟩ := b
  have HB2 : Hid (∀ o o', Below w.heap.size w ((w.alloc o).alloc o')) := Lib.hid (below_new2 w)
  have HC : Hid (∀ w', Below w.heap.size w w' → Calls Tryz.prog 19 #[sa, sb, .func (.func 20) #[] #[]] w' fun e w2 => e = .returned (.bool (allB sameG l1 l2)) ∧ Below w'.heap.size w' w2) := Lib.hid (fun w' hb => vals_same (ra.below hb) (rb.below hb))
  obtain ⟨xs, ra1, ra2⟩ := ra
  obtain ⟨ys, rb1, rb2⟩ := rb
  obtain ⟨q1, c1, rfl, _, _⟩ := ra1.shape
  obtain ⟨q2, c2, rfl, _, _⟩ := rb1.shape
  clear ra1 ra2 rb1 rb2
  have HG : Hid (sameE ⟨h1, t1, l1⟩ ⟨h2, t2, l2⟩ = ((h1 == h2 && t1 == t2) && allB sameG l1 l2)) := Lib.hid rfl
  by_cases e1 : h1 = h2
  · by_cases e2 : t1 = t2
    · have f1 : (h1 == h2) = true := by simpa using e1
      have f2 : (t1 == t2) = true := by simpa using e2
      have HG2 : Hid (sameE ⟨h1, t1, l1⟩ ⟨h2, t2, l2⟩ = allB sameG l1 l2) := Lib.hid (by rw [HG.out, f1, f2]; simp)
      clear e1 e2
      go_enter Tryz.func18, Tryz.ntmps18
      go_wp2_with fail
      refine (HC.out _ (HB2.out _ _)).mono ?_
      rintro e w1 ⟨rfl, hb1⟩
      have HX := Lib.hid (bon (HB2.out _ _) hb1)
      clear hb1
      go_wp2_with fail
      go_ret
      exact ⟨by rw [HG2.out] <;> rfl, HX.out⟩
    · have f1 : (h1 == h2) = true := by simpa using e1
      have f2 : (t1 == t2) = false := by simpa using e2
      have HG2 : Hid (sameE ⟨h1, t1, l1⟩ ⟨h2, t2, l2⟩ = false) := Lib.hid (by rw [HG.out, f2]; simp)
      clear e1 e2
      go_enter Tryz.func18, Tryz.ntmps18
      go_wp2_with fail
      go_ret
      exact ⟨by rw [HG2.out] <;> rfl, HB2.out _ _⟩
  · have f1 : (h1 == h2) = false := by simpa using e1
    have HG2 : Hid (sameE ⟨h1, t1, l1⟩ ⟨h2, t2, l2⟩ = false) := Lib.hid (by rw [HG.out, f1]; simp)
    clear e1
    go_enter Tryz.func18, Tryz.ntmps18
    go_wp2_with fail
    go_ret
    exact ⟨by rw [HG2.out] <;> rfl, HB2.out _ _⟩

set_option maxHeartbeats 6400000 in
set_option maxRecDepth 100000 in
/-- proctorref15.stampFirst. -/
theorem stamp_first {w : World} {a b : EV} {sa sb : Value} (ra : RowV w sa a.vals) (rb : RowV w sb b.vals) :
    Calls Tryz.prog 27 #[.agg #[.int .i64 a.handle, .int .i64 a.stamp, sa], .agg #[.int .i64 b.handle, .int .i64 b.stamp, sb]] w fun e w' => e = .returned (.int .i64 (ordE a b)) ∧ Below w.heap.size w w' := by
  obtain ⟨h1, t1, l1⟩ := a
  obtain ⟨h2, t2, l2⟩ := b
  have HB2 : Hid (∀ o o', Below w.heap.size w ((w.alloc o).alloc o')) := Lib.hid (below_new2 w)
  have HC : Hid (∀ w', Below w.heap.size w w' → Calls Tryz.prog 50 #[sa, sb] w' fun e w2 => e = .returned (.int .i64 (ordL ordG l1 l2)) ∧ Below w'.heap.size w' w2) := Lib.hid (fun w' hb => vals_zorder (ra.below hb) (rb.below hb))
  obtain ⟨xs, ra1, ra2⟩ := ra
  obtain ⟨ys, rb1, rb2⟩ := rb
  obtain ⟨q1, c1, rfl, _, _⟩ := ra1.shape
  obtain ⟨q2, c2, rfl, _, _⟩ := rb1.shape
  clear ra1 ra2 rb1 rb2
  have HG : Hid (ordE ⟨h1, t1, l1⟩ ⟨h2, t2, l2⟩ = if cmpI t2 t1 = 0 then (if cmpI h1 h2 = 0 then ordL ordG l1 l2 else cmpI h1 h2) else cmpI t2 t1) := Lib.hid rfl
  by_cases e1 : t1 = t2
  · subst e1
    by_cases e2 : h1 = h2
    · subst e2
      have HG2 : Hid (ordE ⟨h1, t1, l1⟩ ⟨h1, t1, l2⟩ = ordL ordG l1 l2) := Lib.hid (by rw [HG.out, if_pos (cmpI_self _), if_pos (cmpI_self _)])
      clear HG
      go_enter Tryz.func27, Tryz.ntmps27
      go_wp2_with fail
      refine (HC.out _ (HB2.out _ _)).mono ?_
      rintro e w1 ⟨rfl, hb1⟩
      have HX := Lib.hid (bon (HB2.out _ _) hb1)
      clear hb1
      go_wp2_with fail
      go_ret
      exact ⟨by rw [HG2.out] <;> rfl, HX.out⟩
    · have n2 : (h1 == h2) = false := by simpa using e2
      have m2 : (h1 != h2) = true := by simpa using e2
      by_cases e3 : h1 < h2
      · have HG2 : Hid (ordE ⟨h1, t1, l1⟩ ⟨h2, t1, l2⟩ = -1) := Lib.hid (by rw [HG.out, if_pos (cmpI_self _), show cmpI h1 h2 = -1 by rw [cmpI, if_pos e3]]; rfl)
        clear e2
        clear HG
        go_enter Tryz.func27, Tryz.ntmps27
        go_wp2_with fail
        go_ret
        exact ⟨by rw [HG2.out] <;> rfl, HB2.out _ _⟩
      · have HG2 : Hid (ordE ⟨h1, t1, l1⟩ ⟨h2, t1, l2⟩ = 1) := Lib.hid (by rw [HG.out, if_pos (cmpI_self _), show cmpI h1 h2 = 1 by rw [cmpI, if_neg e3, if_pos (by omega)]]; rfl)
        clear e2
        clear HG
        go_enter Tryz.func27, Tryz.ntmps27
        go_wp2_with fail
        go_ret
        exact ⟨by rw [HG2.out] <;> rfl, HB2.out _ _⟩
  · have n1 : (t1 == t2) = false := by simpa using e1
    have m1 : (t1 != t2) = true := by simpa using e1
    by_cases e3 : t2 < t1
    · have HG2 : Hid (ordE ⟨h1, t1, l1⟩ ⟨h2, t2, l2⟩ = -1) := Lib.hid (by rw [HG.out, show cmpI t2 t1 = -1 by rw [cmpI, if_pos e3]]; rfl)
      clear e1
      clear HG
      go_enter Tryz.func27, Tryz.ntmps27
      go_wp2_with fail
      go_ret
      exact ⟨by rw [HG2.out] <;> rfl, HB2.out _ _⟩
    · have HG2 : Hid (ordE ⟨h1, t1, l1⟩ ⟨h2, t2, l2⟩ = 1) := Lib.hid (by rw [HG.out, show cmpI t2 t1 = 1 by rw [cmpI, if_neg e3, if_pos (by omega)]]; rfl)
      clear e1
      clear HG
      go_enter Tryz.func27, Tryz.ntmps27
      go_wp2_with fail
      go_ret
      exact ⟨by rw [HG2.out] <;> rfl, HB2.out _ _⟩

set_option maxHeartbeats 6400000 in
set_option maxRecDepth 100000 in
/-- slices.EqualFunc over elements, by match.Same. -/
theorem eqf_elems {w : World} {sa sb : Value} {l m : List EV} {xs ys : List Value}
    (hs : SliceAt w.heap sa l.length (l.length * 3) xs) (hl : RdRow (RdE w.heap) xs l) (hs2 : SliceAt w.heap sb m.length (m.length * 3) ys) (hl2 : RdRow (RdE w.heap) ys m) :
    Calls Tryz.prog 17 #[sa, sb, .func (.func 18) #[] #[]] w fun e w' => e = .returned (.bool (allB sameE l m)) ∧ Below w.heap.size w w' := by
  obtain ⟨ao, ca, rfl, hca, hmax⟩ := hs.shape
  obtain ⟨bo, cb, rfl, hcb, hmax2⟩ := hs2.shape
  by_cases hn : l.length = m.length
  · obtain ⟨n, hln⟩ : ∃ n, l.length = n := ⟨_, rfl⟩
    have hmn : m.length = n := by omega
    have HS := Lib.hid hs
    have HL := Lib.hid hl
    have HS2 := Lib.hid hs2
    have HL2 := Lib.hid hl2
    have HLN := Lib.hid hln
    have HMN := Lib.hid hmn
    rw [hln, hmn]
    rw [hln] at hca hmax
    rw [hmn] at hcb
    clear hs hl hs2 hl2 hn hln hmn hmax2
    go_enter Tryz.func17, Tryz.ntmps17
    go_wp2_with fail
    go_loopw [17] (fun i wr => ∃ k : Nat, k ≤ n ∧ i = .int .i64 k ∧ Hid (Below w.heap.size w wr) ∧ Hid (allB sameE l m = allB sameE (l.drop k) (m.drop k))) (fun i _ => n - (intOf i).toNat)
    case atStart => exact ⟨0, Nat.zero_le _, rfl, Lib.hid (Below.refl _ _), Lib.hid rfl⟩
    case round =>
      obtain ⟨k, hk, rfl, HBL, HE⟩ := hrel
      by_cases hlt : k < n
      · have hltm := hlt
        obtain ⟨a, ha⟩ := at_get HLN.out hlt
        obtain ⟨b, hb⟩ := at_get HMN.out hltm
        have hsr := below_slice HBL.out HS.out
        have hlr := below_elems HBL.out HL.out
        have hs2r := below_slice HBL.out HS2.out
        have hl2r := below_elems HBL.out HL2.out
        obtain ⟨g1, o1, p1, s1, ys1, e1, hc1, hs1, hr1, c10, c11, c12⟩ := cells3 hsr hlr ha
        obtain ⟨g2, o2, p2, s2, ys2, e2, hc2, hs2', hr2, c20, c21, c22⟩ := cells3 hs2r hl2r hb
        injection e1 with e11 _ e12
        injection e2 with e21 _ e22
        subst e11 e12 e21 e22
        have RA : Hid (SliceAt wr.heap s1 a.vals.length (a.vals.length * 5) ys1 ∧ RdRow (RdV wr.heap) ys1 a.vals) := Lib.hid ⟨hs1, hr1⟩
        have RB : Hid (SliceAt wr.heap s2 b.vals.length (b.vals.length * 5) ys2 ∧ RdRow (RdV wr.heap) ys2 b.vals) := Lib.hid ⟨hs2', hr2⟩
        obtain ⟨h1, t1, l1⟩ := a
        obtain ⟨h2, t2, l2⟩ := b
        obtain ⟨q1, w1, rfl, _, _⟩ := hs1.shape
        obtain ⟨q2, w2, rfl, _, _⟩ := hs2'.shape
        have GL := Lib.hid (cell_lt c20)
        clear hsr hlr hs2r hl2r hs1 hr1 hs2' hr2
        obtain ⟨r, hr⟩ : ∃ r, sameE ⟨h1, t1, l1⟩ ⟨h2, t2, l2⟩ = r := ⟨_, rfl⟩
        have HR := Lib.hid hr
        have HA := Lib.hid ha
        have HB := Lib.hid hb
        clear hr ha hb
        have hfz1 : ∀ j, (wr.alloc (.cells #[.int .i64 0, .int .i64 0, .slice none 0 0] 32)).frozen? ⟨wr.heap.size, j, none⟩ = false := fun j => frozen_new _ _ _ j
        go_upto_region 6 with fail
        clear hfz1
        obtain ⟨W1, hW1, HX1⟩ : ∃ W1, wr.alloc (.cells #[.int .i64 h1, .int .i64 t1, .slice q1 l1.length w1] 32) = W1 ∧ Hid (Boxed wr W1 32 #[.int .i64 h1, .int .i64 t1, .slice q1 l1.length w1]) := ⟨_, rfl, Lib.hid (boxed _ _ _)⟩
        rw [hW1]
        clear hW1
        have d20 := ((HX1.out.below.cell (p := ⟨g2, o2 + k * 3, none⟩) GL.out).trans c20)
        have d21 := ((HX1.out.below.cell (p := ⟨g2, o2 + k * 3 + 1, none⟩) GL.out).trans c21)
        have d22 := ((HX1.out.below.cell (p := ⟨g2, o2 + k * 3 + 2, none⟩) GL.out).trans c22)
        clear c10 c20
        clear c11 c21
        clear c12 c22
        have hfz2 : ∀ j, (W1.alloc (.cells #[.int .i64 0, .int .i64 0, .slice none 0 0] 32)).frozen? ⟨W1.heap.size, j, none⟩ = false := fun j => frozen_new _ _ _ j
        go_upto_region 7 with fail
        clear hfz2
        obtain ⟨W2, hW2, HX2⟩ : ∃ W2, W1.alloc (.cells #[.int .i64 h2, .int .i64 t2, .slice q2 l2.length w2] 32) = W2 ∧ Hid (Boxed W1 W2 32 #[.int .i64 h2, .int .i64 t2, .slice q2 l2.length w2]) := ⟨_, rfl, Lib.hid (boxed _ _ _)⟩
        rw [hW2]
        clear hW2
        have x10 := ((HX2.out.below.cell (p := ⟨wr.heap.size, 0, none⟩) (by rw [HX1.out.size]; exact Nat.lt_succ_self _)).trans (HX1.out.cell 0))
        have x20 := HX2.out.cell 0
        have x11 := ((HX2.out.below.cell (p := ⟨wr.heap.size, 1, none⟩) (by rw [HX1.out.size]; exact Nat.lt_succ_self _)).trans (HX1.out.cell 1))
        have x21 := HX2.out.cell 1
        have x12 := ((HX2.out.below.cell (p := ⟨wr.heap.size, 2, none⟩) (by rw [HX1.out.size]; exact Nat.lt_succ_self _)).trans (HX1.out.cell 2))
        have x22 := HX2.out.cell 2
        simp only [List.getElem?_toArray, List.getElem?_cons_zero, List.getElem?_cons_succ] at x10 x20 x11 x21 x12 x22
        clear d20
        clear d21
        clear d22
        cases r with
        | true =>
          go_wp2_with (go_at_call 18; refine (same_elem (a := ⟨h1, t1, l1⟩) (b := ⟨h2, t2, l2⟩) (((show RowV wr _ l1 from ⟨_, RA.out⟩).below HX1.out.below).below HX2.out.below) (((show RowV wr _ l2 from ⟨_, RB.out⟩).below HX1.out.below).below HX2.out.below)).mono ?_; rintro e w3 ⟨rfl, hb3⟩; rw [HR.out]; have HX3 := Lib.hid hb3; clear hb3)
          go_roundw
          case rel => exact ⟨k + 1, by omega, by go_num, Lib.hid (bon (bon (bon HBL.out HX1.out.below) HX2.out.below) HX3.out), Lib.hid (by rw [HE.out, allB_step HA.out HB.out, HR.out, Bool.true_and])⟩
          case measure => simp [intOf]; omega
        | false =>
          go_wp2_with (go_at_call 18; refine (same_elem (a := ⟨h1, t1, l1⟩) (b := ⟨h2, t2, l2⟩) (((show RowV wr _ l1 from ⟨_, RA.out⟩).below HX1.out.below).below HX2.out.below) (((show RowV wr _ l2 from ⟨_, RB.out⟩).below HX1.out.below).below HX2.out.below)).mono ?_; rintro e w3 ⟨rfl, hb3⟩; rw [HR.out]; have HX3 := Lib.hid hb3; clear hb3)
          go_ret
          exact ⟨by rw [HE.out, allB_step HA.out HB.out, HR.out, Bool.false_and] <;> rfl, (bon (bon (bon HBL.out HX1.out.below) HX2.out.below) HX3.out)⟩
      · obtain rfl : k = n := by omega
        go_wp2_with fail
        go_ret
        exact ⟨by rw [HE.out, drop_ge HLN.out (Nat.le_refl _), drop_ge HMN.out (Nat.le_refl _)]; rfl, HBL.out⟩
  · have hli : (l.length : Int) ≠ (m.length : Int) := by omega
    have t1 : ((l.length : Int) == (m.length : Int)) = false := by simpa only [beq_eq_false_iff_ne] using hli
    have t2 : ((l.length : Int) != (m.length : Int)) = true := by simpa only [bne_iff_ne] using hli
    have HN := Lib.hid (allB_len (f := sameE) hn)
    clear hs hl hs2 hl2 hn hli
    go_enter Tryz.func17, Tryz.ntmps17
    go_wp2_with fail
    go_ret
    exact ⟨by rw [HN.out] <;> rfl, Below.refl _ _⟩
end Go.Proofs.YthbabhnbiilimaaGreatDoor
