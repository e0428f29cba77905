/- Matches: the same, the order; by the program and by the document's own answer. What was there stays. -/
import Derived.Test.YthbabhnbiilimaaGreatDoorMsF
namespace Go.Proofs.YthbabhnbiilimaaGreatDoor
open Go.RowKit

/-- A row of elements lies behind a slice. -/
def RowE (w : World) (s : Value) (l : List EV) : Prop := ∃ xs, SliceAt w.heap s l.length (l.length * 3) xs ∧ RdRow (RdE w.heap) xs l
theorem RowE.below {w w' : World} {s : Value} {l : List EV} (h : RowE w s l) (hb : Below w.heap.size w w') : RowE w' s l := let ⟨xs, a, b⟩ := h; ⟨xs, below_slice hb a, below_elems hb b⟩
theorem elems_same {w : World} {sa sb : Value} {l m : List EV} (ra : RowE w sa l) (rb : RowE w sb m) :
    Calls Tryz.prog 17 #[sa, sb, .func (.func 18) #[] #[]] w fun e w' => e = .returned (.bool (allB sameE l m)) ∧ Below w.heap.size w w' := let ⟨_, a, b⟩ := ra; let ⟨_, c, d⟩ := rb; eqf_elems a b c d
theorem elems_zsame {w : World} {sa sb : Value} {l m : List EV} (ra : RowE w sa l) (rb : RowE w sb m) :
    Calls Tryz.prog 21 #[sa, sb] w fun e w' => e = .returned (.bool (allB sameE l m)) ∧ Below w.heap.size w w' := let ⟨_, a, b⟩ := ra; let ⟨_, c, d⟩ := rb; eqelems a b c d
theorem elems_order {w : World} {sa sb : Value} {l m : List EV} (ra : RowE w sa l) (rb : RowE w sb m) :
    Calls Tryz.prog 23 #[sa, sb, .func (.func 24) #[] #[]] w fun e w' => e = .returned (.int .i64 (ordL ordE l m)) ∧ Below w.heap.size w w' := let ⟨_, a, b⟩ := ra; let ⟨_, c, d⟩ := rb; cmf_elems a b c d

set_option maxHeartbeats 6400000 in
set_option maxRecDepth 100000 in
/-- match.Same. -/
theorem same_m {w : World} {a b : MV} {sa sb ea eb : Value} (ra : RowE w sa a.elems) (rb : RowE w sb b.elems) (he : ∃ o n c, ea = .slice o n c) (he' : ∃ o n c, eb = .slice o n c) :
    Calls Tryz.prog 6 #[.agg #[.int .i64 a.core, sa, ea], .agg #[.int .i64 b.core, sb, eb]] w fun e w' => e = .returned (.bool (sameM a b)) ∧ Below w.heap.size w w' := by
  obtain ⟨k1, l1⟩ := a
  obtain ⟨k2, l2⟩ := b
  obtain ⟨o1, n1, d1, rfl⟩ := he
  obtain ⟨o2, n2, d2, rfl⟩ := he'
  have HB2 : Hid (∀ o o', Below w.heap.size w ((w.alloc o).alloc o')) := Lib.hid (below_new2 w)
  have HC : Hid (∀ w', Below w.heap.size w w' → Calls Tryz.prog 17 #[sa, sb, .func (.func 18) #[] #[]] w' fun e w2 => e = .returned (.bool (allB sameE l1 l2)) ∧ Below w'.heap.size w' w2) := Lib.hid (fun w' hb => elems_same (ra.below hb) (rb.below hb))
  obtain ⟨xs, ra1, ra2⟩ := ra
  obtain ⟨ys, rb1, rb2⟩ := rb
  obtain ⟨q1, c1, rfl, _, _⟩ := ra1.shape
  obtain ⟨q2, c2, rfl, _, _⟩ := rb1.shape
  clear ra1 ra2 rb1 rb2
  have HG : Hid (sameM ⟨k1, l1⟩ ⟨k2, l2⟩ = (k1 == k2 && allB sameE l1 l2)) := Lib.hid rfl
  by_cases e1 : k1 = k2
  · have f1 : (k1 == k2) = true := by simpa using e1
    have HG2 : Hid (sameM ⟨k1, l1⟩ ⟨k2, l2⟩ = allB sameE l1 l2) := Lib.hid (by rw [HG.out, f1]; simp)
    clear e1
    go_enter Tryz.func6, Tryz.ntmps6
    go_wp2_with fail
    refine (HC.out _ (HB2.out _ _)).mono ?_
    rintro e w1 ⟨rfl, hb1⟩
    have HX := Lib.hid (bon (HB2.out _ _) hb1)
    clear hb1
    go_wp2_with fail
    go_ret
    exact ⟨by rw [HG2.out] <;> rfl, HX.out⟩
  · have f1 : (k1 == k2) = false := by simpa using e1
    have HG2 : Hid (sameM ⟨k1, l1⟩ ⟨k2, l2⟩ = false) := Lib.hid (by rw [HG.out, f1]; simp)
    clear e1
    go_enter Tryz.func6, Tryz.ntmps6
    go_wp2_with fail
    go_ret
    exact ⟨by rw [HG2.out] <;> rfl, HB2.out _ _⟩

set_option maxHeartbeats 6400000 in
set_option maxRecDepth 100000 in
/-- proctorref15.Same. -/
theorem zsame_m {w : World} {a b : MV} {sa sb ea eb : Value} (ra : RowE w sa a.elems) (rb : RowE w sb b.elems) (he : ∃ o n c, ea = .slice o n c) (he' : ∃ o n c, eb = .slice o n c) :
    Calls Tryz.prog 7 #[.agg #[.int .i64 a.core, sa, ea], .agg #[.int .i64 b.core, sb, eb]] w fun e w' => e = .returned (.bool (sameM a b)) ∧ Below w.heap.size w w' := by
  obtain ⟨k1, l1⟩ := a
  obtain ⟨k2, l2⟩ := b
  obtain ⟨o1, n1, d1, rfl⟩ := he
  obtain ⟨o2, n2, d2, rfl⟩ := he'
  have HB2 : Hid (∀ o o', Below w.heap.size w ((w.alloc o).alloc o')) := Lib.hid (below_new2 w)
  have HC : Hid (∀ w', Below w.heap.size w w' → Calls Tryz.prog 21 #[sa, sb] w' fun e w2 => e = .returned (.bool (allB sameE l1 l2)) ∧ Below w'.heap.size w' w2) := Lib.hid (fun w' hb => elems_zsame (ra.below hb) (rb.below hb))
  obtain ⟨xs, ra1, ra2⟩ := ra
  obtain ⟨ys, rb1, rb2⟩ := rb
  obtain ⟨q1, c1, rfl, _, _⟩ := ra1.shape
  obtain ⟨q2, c2, rfl, _, _⟩ := rb1.shape
  clear ra1 ra2 rb1 rb2
  have HG : Hid (sameM ⟨k1, l1⟩ ⟨k2, l2⟩ = (k1 == k2 && allB sameE l1 l2)) := Lib.hid rfl
  by_cases e1 : k1 = k2
  · have f1 : (k1 == k2) = true := by simpa using e1
    have HG2 : Hid (sameM ⟨k1, l1⟩ ⟨k2, l2⟩ = allB sameE l1 l2) := Lib.hid (by rw [HG.out, f1]; simp)
    clear e1
    go_enter Tryz.func7, Tryz.ntmps7
    go_wp2_with fail
    refine (HC.out _ (HB2.out _ _)).mono ?_
    rintro e w1 ⟨rfl, hb1⟩
    have HX := Lib.hid (bon (HB2.out _ _) hb1)
    clear hb1
    go_wp2_with fail
    go_ret
    exact ⟨by rw [HG2.out] <;> rfl, HX.out⟩
  · have f1 : (k1 == k2) = false := by simpa using e1
    have HG2 : Hid (sameM ⟨k1, l1⟩ ⟨k2, l2⟩ = false) := Lib.hid (by rw [HG.out, f1]; simp)
    clear e1
    go_enter Tryz.func7, Tryz.ntmps7
    go_wp2_with fail
    go_ret
    exact ⟨by rw [HG2.out] <;> rfl, HB2.out _ _⟩

set_option maxHeartbeats 6400000 in
set_option maxRecDepth 100000 in
/-- match.Order. -/
theorem order_m {w : World} {a b : MV} {sa sb ea eb : Value} (ra : RowE w sa a.elems) (rb : RowE w sb b.elems) (he : ∃ o n c, ea = .slice o n c) (he' : ∃ o n c, eb = .slice o n c) :
    Calls Tryz.prog 8 #[.agg #[.int .i64 a.core, sa, ea], .agg #[.int .i64 b.core, sb, eb]] w fun e w' => e = .returned (.int .i64 (ordM a b)) ∧ Below w.heap.size w w' := by
  obtain ⟨k1, l1⟩ := a
  obtain ⟨k2, l2⟩ := b
  obtain ⟨o1, n1, d1, rfl⟩ := he
  obtain ⟨o2, n2, d2, rfl⟩ := he'
  have HB2 : Hid (∀ o o', Below w.heap.size w ((w.alloc o).alloc o')) := Lib.hid (below_new2 w)
  have HC : Hid (∀ w', Below w.heap.size w w' → Calls Tryz.prog 23 #[sa, sb, .func (.func 24) #[] #[]] w' fun e w2 => e = .returned (.int .i64 (ordL ordE l1 l2)) ∧ Below w'.heap.size w' w2) := Lib.hid (fun w' hb => elems_order (ra.below hb) (rb.below hb))
  obtain ⟨xs, ra1, ra2⟩ := ra
  obtain ⟨ys, rb1, rb2⟩ := rb
  obtain ⟨q1, c1, rfl, _, _⟩ := ra1.shape
  obtain ⟨q2, c2, rfl, _, _⟩ := rb1.shape
  clear ra1 ra2 rb1 rb2
  have HG : Hid (ordM ⟨k1, l1⟩ ⟨k2, l2⟩ = if cmpI k1 k2 = 0 then ordL ordE l1 l2 else cmpI k1 k2) := Lib.hid rfl
  obtain ⟨c, hc⟩ : ∃ c, cmpI k1 k2 = c := ⟨_, rfl⟩
  have HCI : Hid (∀ w, Calls Tryz.prog 22 #[.int .i64 k1, .int .i64 k2] w fun e w' => e = .returned (.int .i64 c) ∧ w' = w) := Lib.hid (fun w => by have := cmp_int w k1 k2; rwa [hc] at this)
  by_cases hz : c = 0
  · subst hz
    have HG2 : Hid (ordM ⟨k1, l1⟩ ⟨k2, l2⟩ = ordL ordE l1 l2) := Lib.hid (by rw [HG.out, if_pos hc])
    clear hc HG
    go_enter Tryz.func8, Tryz.ntmps8
    go_wp2_with (go_at_call 22; refine (HCI.out _).mono ?_; rintro e w' ⟨rfl, rfl⟩)
    refine (HC.out _ (HB2.out _ _)).mono ?_
    rintro e w1 ⟨rfl, hb1⟩
    have HX := Lib.hid (bon (HB2.out _ _) hb1)
    clear hb1
    go_wp2_with fail
    go_ret
    exact ⟨by rw [HG2.out] <;> rfl, HX.out⟩
  · have f1 : (c == 0) = false := by simpa using hz
    have f2 : (c != 0) = true := by simpa using hz
    have HG2 : Hid (ordM ⟨k1, l1⟩ ⟨k2, l2⟩ = c) := Lib.hid (by rw [HG.out, if_neg (by rw [hc]; exact hz), hc])
    clear hz hc HG
    go_enter Tryz.func8, Tryz.ntmps8
    go_wp2_with (go_at_call 22; refine (HCI.out _).mono ?_; rintro e w' ⟨rfl, rfl⟩)
    go_ret
    exact ⟨by rw [HG2.out] <;> rfl, HB2.out _ _⟩

set_option maxHeartbeats 6400000 in
set_option maxRecDepth 100000 in
/-- proctorref15.Order. -/
theorem zorder_m {w : World} {a b : MV} {sa sb ea eb : Value} (ra : RowE w sa a.elems) (rb : RowE w sb b.elems) (he : ∃ o n c, ea = .slice o n c) (he' : ∃ o n c, eb = .slice o n c) :
    Calls Tryz.prog 9 #[.agg #[.int .i64 a.core, sa, ea], .agg #[.int .i64 b.core, sb, eb]] w fun e w' => e = .returned (.int .i64 (ordM a b)) ∧ Below w.heap.size w w' := by
  obtain ⟨k1, l1⟩ := a
  obtain ⟨k2, l2⟩ := b
  obtain ⟨o1, n1, d1, rfl⟩ := he
  obtain ⟨o2, n2, d2, rfl⟩ := he'
  have HB2 : Hid (∀ o o', Below w.heap.size w ((w.alloc o).alloc o')) := Lib.hid (below_new2 w)
  have HG : Hid (ordM ⟨k1, l1⟩ ⟨k2, l2⟩ = if cmpI k1 k2 = 0 then ordL ordE l1 l2 else cmpI k1 k2) := Lib.hid rfl
  by_cases e1 : k1 = k2
  · subst e1
    have HG2 : Hid (ordM ⟨k1, l1⟩ ⟨k1, l2⟩ = ordL ordE l1 l2) := Lib.hid (by rw [HG.out, if_pos (cmpI_self _)])
    have RA := Lib.hid ra
    have RB := Lib.hid rb
    obtain ⟨xs, ra1, ra2⟩ := ra
    obtain ⟨ys, rb1, rb2⟩ := rb
    obtain ⟨q1, c1, rfl, hca, hmax⟩ := ra1.shape
    obtain ⟨q2, c2, rfl, hcb, hmax2⟩ := rb1.shape
    have R1 := Lib.hid ra1
    have R2 := Lib.hid ra2
    have R3 := Lib.hid rb1
    have R4 := Lib.hid rb2
    clear ra1 ra2 rb1 rb2 HG
    go_enter Tryz.func9, Tryz.ntmps9
    go_upto_region 5 with fail
    obtain ⟨W, hW, z1, z2, hsz, hbw⟩ := elem_boxes w (t := 28) (t' := 28) #[.int .i64 k1, .slice q1 l1.length c1, .slice o1 n1 d1] #[.int .i64 k1, .slice q2 l2.length c2, .slice o2 n2 d2]
    rw [hW]
    clear hW
    have x11 : W.cell? ⟨w.heap.size, 1, none⟩ = some (.slice q1 l1.length c1) := (z1 1).trans rfl
    have x21 : W.cell? ⟨w.heap.size + 1, 1, none⟩ = some (.slice q2 l2.length c2) := (z2 1).trans rfl
    have HBW := Lib.hid hbw
    have HS := Lib.hid (below_slice hbw R1.out)
    have HL := Lib.hid (below_elems hbw R2.out)
    have HS2 := Lib.hid (below_slice hbw R3.out)
    have HL2 := Lib.hid (below_elems hbw R4.out)
    have HO : Hid (w.heap.size < W.heap.size) := Lib.hid (by omega)
    have HO' : Hid (w.heap.size + 1 < W.heap.size) := Lib.hid (by omega)
    obtain ⟨n, hln⟩ : ∃ n, l1.length = n := ⟨_, rfl⟩
    obtain ⟨m, hmn⟩ : ∃ n, l2.length = n := ⟨_, rfl⟩
    have HLN := Lib.hid hln
    have HMN := Lib.hid hmn
    have HX1 : Hid (W.cell? ⟨w.heap.size, 1, none⟩ = some (.slice q1 n c1)) := Lib.hid (by rw [← hln]; exact x11)
    have HX2 : Hid (W.cell? ⟨w.heap.size + 1, 1, none⟩ = some (.slice q2 m c2)) := Lib.hid (by rw [← hmn]; exact x21)
    rw [hln] at hca hmax
    rw [hmn] at hcb hmax2
    clear z1 z2 hsz hbw R1 R2 R3 R4 RA RB hln hmn x11 x21
    go_wp2_with fail
    go_loopw [5] (fun i wr => ∃ k : Nat, k ≤ n ∧ k ≤ m ∧ i = .int .i64 k ∧ Hid (Below W.heap.size W wr) ∧ Hid (ordL ordE l1 l2 = ordL ordE (l1.drop k) (l2.drop k))) (fun i _ => n - (intOf i).toNat)
    case atStart => exact ⟨0, Nat.zero_le _, Nat.zero_le _, rfl, Lib.hid (Below.refl _ _), Lib.hid rfl⟩
    case round =>
      obtain ⟨k, hk, hk2, rfl, HBL, HE⟩ := hrel
      have y11 : wr.cell? ⟨w.heap.size, 1, none⟩ = some (.slice q1 n c1) := (HBL.out.cell (p := ⟨w.heap.size, 1, none⟩) HO.out).trans HX1.out
      have y21 : wr.cell? ⟨w.heap.size + 1, 1, none⟩ = some (.slice q2 m c2) := (HBL.out.cell (p := ⟨w.heap.size + 1, 1, none⟩) HO'.out).trans HX2.out
      by_cases hlt : k < n
      · by_cases hltm : k < m
        · obtain ⟨a, ha⟩ := at_get HLN.out hlt
          obtain ⟨b, hb⟩ := at_get HMN.out hltm
          have hsr := below_slice HBL.out HS.out
          have hlr := below_elems HBL.out HL.out
          have hs2r := below_slice HBL.out HS2.out
          have hl2r := below_elems HBL.out HL2.out
          obtain ⟨g1, o1, p1, s1, ys1, e1, hc1, hs1, hr1, c10, c11, c12⟩ := cells3 hsr hlr ha
          obtain ⟨g2, o2, p2, s2, ys2, e2, hc2, hs2', hr2, c20, c21, c22⟩ := cells3 hs2r hl2r hb
          injection e1 with e11 _ e12
          injection e2 with e21 _ e22
          subst e11 e12 e21 e22
          have RA : Hid (SliceAt wr.heap s1 a.vals.length (a.vals.length * 5) ys1 ∧ RdRow (RdV wr.heap) ys1 a.vals) := Lib.hid ⟨hs1, hr1⟩
          have RB : Hid (SliceAt wr.heap s2 b.vals.length (b.vals.length * 5) ys2 ∧ RdRow (RdV wr.heap) ys2 b.vals) := Lib.hid ⟨hs2', hr2⟩
          obtain ⟨h1, t1, l1'⟩ := a
          obtain ⟨h2, t2, l2'⟩ := b
          obtain ⟨qa, wa, rfl, _, _⟩ := hs1.shape
          obtain ⟨qb, wb, rfl, _, _⟩ := hs2'.shape
          have GL := Lib.hid (cell_lt c20)
          clear hsr hlr hs2r hl2r hs1 hr1 hs2' hr2
          obtain ⟨r, hr⟩ : ∃ r, ordE ⟨h1, t1, l1'⟩ ⟨h2, t2, l2'⟩ = r := ⟨_, rfl⟩
          have HR := Lib.hid hr
          have HA := Lib.hid ha
          have HB := Lib.hid hb
          clear hr ha hb
          by_cases hz : r = 0
          · subst hz
            go_wp2_with fail
            go_still_tail 10, (by kernel_rfl)
            change wpList _ _ _ _ _ wr.drew
            go_wp2_with fail
            refine (stamp_first (a := ⟨h1, t1, l1'⟩) (b := ⟨h2, t2, l2'⟩) (RowV.heap (w' := wr.drew) (show RowV wr _ l1' from ⟨_, RA.out⟩) rfl) (RowV.heap (w' := wr.drew) (show RowV wr _ l2' from ⟨_, RB.out⟩) rfl)).mono ?_
            rintro e w3 ⟨rfl, hb3⟩
            rw [HR.out]
            have HX3 := Lib.hid hb3
            clear hb3
            go_wp2_with fail
            go_roundw
            case rel => exact ⟨k + 1, by omega, by omega, by go_num, Lib.hid (bon (bon HBL.out (below_drew _)) HX3.out), Lib.hid (by rw [HE.out, ordL_zero HA.out HB.out HR.out])⟩
            case measure => simp [intOf]; omega
          · have f1 : (r == 0) = false := by simpa using hz
            have f2 : (r != 0) = true := by simpa using hz
            have HZ := Lib.hid hz
            clear hz
            go_wp2_with fail
            go_still_tail 10, (by kernel_rfl)
            change wpList _ _ _ _ _ wr.drew
            go_wp2_with fail
            refine (stamp_first (a := ⟨h1, t1, l1'⟩) (b := ⟨h2, t2, l2'⟩) (RowV.heap (w' := wr.drew) (show RowV wr _ l1' from ⟨_, RA.out⟩) rfl) (RowV.heap (w' := wr.drew) (show RowV wr _ l2' from ⟨_, RB.out⟩) rfl)).mono ?_
            rintro e w3 ⟨rfl, hb3⟩
            rw [HR.out]
            have HX3 := Lib.hid hb3
            clear hb3
            go_wp2_with fail
            go_ret
            exact ⟨by rw [HG2.out, HE.out, ordL_part HA.out HB.out (by rw [HR.out]; exact HZ.out), HR.out] <;> rfl, bon HBW.out (bon (bon HBL.out (below_drew _)) HX3.out)⟩
        · have u1 : ¬ n < m := by omega
          have u2 : m < n := by omega
          have HEND := Lib.hid (ordL_more (f := ordE) HLN.out HMN.out hlt hltm)
          go_wp2_with fail
          go_ret
          exact ⟨by rw [HG2.out, HE.out, HEND.out] <;> rfl, bon HBW.out HBL.out⟩
      · obtain rfl : k = n := by omega
        by_cases hltm : k < m
        · have HEND := Lib.hid (ordL_less (f := ordE) HLN.out HMN.out hlt hltm)
          go_wp2_with fail
          go_ret
          exact ⟨by rw [HG2.out, HE.out, HEND.out] <;> rfl, bon HBW.out HBL.out⟩
        · have u2 : ¬ m < k := by omega
          have HEND := Lib.hid (ordL_even (f := ordE) HLN.out HMN.out hlt hltm)
          go_wp2_with fail
          go_ret
          exact ⟨by rw [HG2.out, HE.out, HEND.out] <;> rfl, bon HBW.out HBL.out⟩
  · have g1 : (k1 == k2) = false := by simpa using e1
    have g2 : (k1 != k2) = true := by simpa using e1
    obtain ⟨xs, ra1, ra2⟩ := ra
    obtain ⟨ys, rb1, rb2⟩ := rb
    obtain ⟨q1, c1, rfl, _, _⟩ := ra1.shape
    obtain ⟨q2, c2, rfl, _, _⟩ := rb1.shape
    clear ra1 ra2 rb1 rb2
    by_cases h1 : k1 < k2
    · have HG2 : Hid (ordM ⟨k1, l1⟩ ⟨k2, l2⟩ = -1) := Lib.hid (by rw [HG.out, show cmpI k1 k2 = -1 by rw [cmpI, if_pos h1]]; rfl)
      clear e1
      clear HG
      go_enter Tryz.func9, Tryz.ntmps9
      go_wp2_with fail
      go_ret
      exact ⟨by rw [HG2.out] <;> rfl, HB2.out _ _⟩
    · have HG2 : Hid (ordM ⟨k1, l1⟩ ⟨k2, l2⟩ = 1) := Lib.hid (by rw [HG.out, show cmpI k1 k2 = 1 by rw [cmpI, if_neg h1, if_pos (by omega)]]; rfl)
      clear e1
      clear HG
      go_enter Tryz.func9, Tryz.ntmps9
      go_wp2_with fail
      go_ret
      exact ⟨by rw [HG2.out] <;> rfl, HB2.out _ _⟩
end Go.Proofs.YthbabhnbiilimaaGreatDoor
