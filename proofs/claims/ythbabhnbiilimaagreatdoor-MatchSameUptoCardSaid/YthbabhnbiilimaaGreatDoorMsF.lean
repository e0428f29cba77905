/- Elements: the order by the program; rows of elements. What was there stays. -/
import Derived.Test.YthbabhnbiilimaaGreatDoorMsE
namespace Go.Proofs.YthbabhnbiilimaaGreatDoor
open Go.RowKit

def firstNZ : List Int → Int
  | [] => 0
  | a :: l => if a = 0 then firstNZ l else a
theorem ordE_or (a b : EV) : firstNZ [cmpI b.stamp a.stamp, cmpI a.handle b.handle, ordL ordG a.vals b.vals] = ordE a b := by
  unfold ordE
  simp only [firstNZ]
  by_cases h1 : cmpI b.stamp a.stamp = 0
  · rw [if_pos h1, if_pos h1]
    by_cases h2 : cmpI a.handle b.handle = 0
    · rw [if_pos h2, if_pos h2]
      by_cases h3 : ordL ordG a.vals b.vals = 0
      · rw [if_pos h3, h3]
      · rw [if_neg h3]
    · rw [if_neg h2, if_neg h2]
  · rw [if_neg h1, if_neg h1]
theorem three {a b c : Int} {k : Nat} (hk : k < 3) : ∃ v, [a, b, c][k]? = some v ∧ firstNZ ([a, b, c].drop k) = if v = 0 then firstNZ ([a, b, c].drop (k + 1)) else v := by
  match k, hk with
  | 0, _ => exact ⟨a, rfl, rfl⟩
  | 1, _ => exact ⟨b, rfl, rfl⟩
  | 2, _ => exact ⟨c, rfl, rfl⟩
set_option maxHeartbeats 6400000 in
set_option maxRecDepth 100000 in
/-- cmp.Or of three numbers in a row. -/
theorem or3 {w : World} {g cap : Nat} {T : TypeId} {a b c : Int} (h : w.heap[g]? = some (.cells #[.int .i64 a, .int .i64 b, .int .i64 c] T (0,0))) (_ : 3 ≤ cap) :
    Calls Tryz.prog 25 #[.slice (some ⟨g, 0, none⟩) 3 cap] w fun e w' => e = .returned (.int .i64 (firstNZ [a, b, c])) ∧ w' = w := by
  have hc : ∀ k v, [a, b, c][k]? = some v → w.cell? ⟨g, k, none⟩ = some (.int .i64 v) := by
    intro k v hk
    unfold World.cell?
    rw [show (⟨g, k, none⟩ : Addr).block = g from rfl, h]
    match k, hk with
    | 0, hk => cases hk; rfl
    | 1, hk => cases hk; rfl
    | 2, hk => cases hk; rfl
    | k + 3, hk => simp at hk
  have HCC := Lib.hid hc
  clear h hc
  go_enter Tryz.func25, Tryz.ntmps25
  go_wp2_with fail
  go_loopw [8] (fun i wr => ∃ k : Nat, k ≤ 3 ∧ i = .int .i64 k ∧ wr = w ∧ Hid (firstNZ [a, b, c] = firstNZ ([a, b, c].drop k))) (fun i _ => 3 - (intOf i).toNat)
  case atStart => exact ⟨0, by omega, rfl, rfl, Lib.hid rfl⟩
  case round =>
    obtain ⟨k, hk, rfl, rfl, HE⟩ := hrel
    by_cases hlt : k < 3
    · obtain ⟨v, hv, hf⟩ := three (a := a) (b := b) (c := c) hlt
      have ck := HCC.out k v hv
      have HF := Lib.hid hf
      clear hv hf
      by_cases hz : v = 0
      · subst hz
        go_wp2_with fail
        go_roundw
        case rel => exact ⟨k + 1, by omega, by go_num, trivial, Lib.hid (by rw [HE.out, HF.out, if_pos rfl])⟩
        case measure => simp [intOf]; omega
      · have f1 : (v == 0) = false := by simpa using hz
        have f2 : (v != 0) = true := by simpa using hz
        have HZ := Lib.hid hz
        clear hz
        go_wp2_with fail
        go_ret
        exact ⟨by rw [HE.out, HF.out, if_neg HZ.out] <;> rfl, rfl⟩
    · obtain rfl : k = 3 := by omega
      go_wp2_with fail
      go_ret
      exact ⟨by rw [HE.out] <;> rfl, rfl⟩
theorem elem_boxes (w : World) {t t' : TypeId} (cs cs' : Array Value) :
    ∃ W, (w.alloc (.cells cs t)).alloc (.cells cs' t') = W ∧ (∀ j, W.cell? ⟨w.heap.size, j, none⟩ = cs[j]?) ∧ (∀ j, W.cell? ⟨w.heap.size + 1, j, none⟩ = cs'[j]?) ∧ W.heap.size = w.heap.size + 2 ∧ Below w.heap.size w W := by
  refine ⟨_, rfl, fun j => ((below_new (w.alloc (.cells cs t)) (.cells cs' t')).cell (p := ⟨w.heap.size, j, none⟩) (by simp)).trans (cell_new w cs t j), fun j => ?_, by simp, below_new2 w _ _⟩
  have := cell_new (w.alloc (.cells cs t)) cs' t' j
  rw [show (w.alloc (.cells cs t)).heap.size = w.heap.size + 1 by simp] at this
  exact this
theorem RowV.heap {w w' : World} {s : Value} {l : List GV} (h : RowV w s l) (hh : w'.heap = w.heap) : RowV w' s l := by
  unfold RowV at h ⊢
  rw [hh]; exact h

set_option maxHeartbeats 6400000 in
set_option maxRecDepth 100000 in
/-- match.Order's function of two elements. -/
theorem order_elem {w : World} {a b : EV} {sa sb : Value} (ra : RowV w sa a.vals) (rb : RowV w sb b.vals) :
    Calls Tryz.prog 24 #[.agg #[.int .i64 a.handle, .int .i64 a.stamp, sa], .agg #[.int .i64 b.handle, .int .i64 b.stamp, sb]] w fun e w' => e = .returned (.int .i64 (ordE a b)) ∧ Below w.heap.size w w' := by
  have HG := Lib.hid (ordE_or a b)
  obtain ⟨h1, t1, l1⟩ := a
  obtain ⟨h2, t2, l2⟩ := b
  have RA := Lib.hid ra
  have RB := Lib.hid rb
  obtain ⟨xs, ra1, ra2⟩ := ra
  obtain ⟨ys, rb1, rb2⟩ := rb
  obtain ⟨q1, c1, rfl, _, _⟩ := ra1.shape
  obtain ⟨q2, c2, rfl, _, _⟩ := rb1.shape
  clear ra1 ra2 rb1 rb2
  go_enter Tryz.func24, Tryz.ntmps24
  go_wp2_with fail
  obtain ⟨W, hW, z1, z2, hsz, hbw⟩ := elem_boxes w (t := 32) (t' := 32) #[.int .i64 h1, .int .i64 t1, .slice q1 l1.length c1] #[.int .i64 h2, .int .i64 t2, .slice q2 l2.length c2]
  rw [hW]
  clear hW
  have x10 : W.cell? ⟨w.heap.size, 0, none⟩ = some (.int .i64 h1) := (z1 0).trans rfl
  have x11 : W.cell? ⟨w.heap.size, 1, none⟩ = some (.int .i64 t1) := (z1 1).trans rfl
  have x12 : W.cell? ⟨w.heap.size, 2, none⟩ = some (.slice q1 l1.length c1) := (z1 2).trans rfl
  have x20 : W.cell? ⟨w.heap.size + 1, 0, none⟩ = some (.int .i64 h2) := (z2 0).trans rfl
  have x21 : W.cell? ⟨w.heap.size + 1, 1, none⟩ = some (.int .i64 t2) := (z2 1).trans rfl
  have x22 : W.cell? ⟨w.heap.size + 1, 2, none⟩ = some (.slice q2 l2.length c2) := (z2 2).trans rfl
  have HC : Hid (∀ w', w'.heap = W.heap → Calls Tryz.prog 26 #[.slice q1 l1.length c1, .slice q2 l2.length c2] w' fun e w2 => e = .returned (.int .i64 (ordL ordG l1 l2)) ∧ Below w'.heap.size w' w2) := Lib.hid (fun w' hh => vals_order ((RA.out.below hbw).heap hh) ((RB.out.below hbw).heap hh))
  have HBW := Lib.hid hbw
  clear z1 z2 hbw
  have ho : w.heap.size < W.heap.size := by omega
  have ho' : w.heap.size + 1 < W.heap.size := by omega
  have HO := Lib.hid ho
  have HO' := Lib.hid ho'
  clear hsz ho ho'
  go_region_held3 (fun w' => w'.cell? ⟨w.heap.size, 0, none⟩ = some (.int .i64 h1) ∧ w'.cell? ⟨w.heap.size, 1, none⟩ = some (.int .i64 t1) ∧ w'.cell? ⟨w.heap.size, 2, none⟩ = some (.slice q1 l1.length c1) ∧ w'.cell? ⟨w.heap.size + 1, 0, none⟩ = some (.int .i64 h2) ∧ w'.cell? ⟨w.heap.size + 1, 1, none⟩ = some (.int .i64 t2) ∧ w'.cell? ⟨w.heap.size + 1, 2, none⟩ = some (.slice q2 l2.length c2)) (go_keep)
    (first | (go_at_call 22; refine (cmp_int _ _ _).mono ?_; rintro e w' ⟨rfl, rfl⟩) | (go_at_call 26; refine (HC.out _ (by exact rfl)).mono ?_; rintro e x1 ⟨rfl, hb⟩; have y10 : x1.cell? ⟨w.heap.size, 0, none⟩ = some (.int .i64 h1) := (hb.cell (p := ⟨w.heap.size, 0, none⟩) HO.out).trans x10; have y11 : x1.cell? ⟨w.heap.size, 1, none⟩ = some (.int .i64 t1) := (hb.cell (p := ⟨w.heap.size, 1, none⟩) HO.out).trans x11; have y12 : x1.cell? ⟨w.heap.size, 2, none⟩ = some (.slice q1 l1.length c1) := (hb.cell (p := ⟨w.heap.size, 2, none⟩) HO.out).trans x12; have y20 : x1.cell? ⟨w.heap.size + 1, 0, none⟩ = some (.int .i64 h2) := (hb.cell (p := ⟨w.heap.size + 1, 0, none⟩) HO'.out).trans x20; have y21 : x1.cell? ⟨w.heap.size + 1, 1, none⟩ = some (.int .i64 t2) := (hb.cell (p := ⟨w.heap.size + 1, 1, none⟩) HO'.out).trans x21; have y22 : x1.cell? ⟨w.heap.size + 1, 2, none⟩ = some (.slice q2 l2.length c2) := (hb.cell (p := ⟨w.heap.size + 1, 2, none⟩) HO'.out).trans x22; have HX := Lib.hid hb; clear hb) | (go_at_call 25; refine (or3 (new_at _ _) (by omega)).mono ?_; rintro e w' ⟨rfl, rfl⟩))
  go_wp2_with fail
  go_ret
  exact ⟨by rw [← HG.out]; rfl, bon (bon (bon HBW.out (by exact ⟨rfl, rfl, rfl, Nat.le_refl _, fun _ _ => rfl⟩)) HX.out) (by exact ⟨rfl, rfl, rfl, by simp, fun k hk => Below.heap_alloc _ _ _ hk⟩)⟩

set_option maxHeartbeats 6400000 in
set_option maxRecDepth 100000 in
/-- slices.CompareFunc over elements, by match.Order. -/
theorem cmf_elems {w : World} {sa sb : Value} {l m : List EV} {xs ys : List Value}
    (hs : SliceAt w.heap sa l.length (l.length * 3) xs) (hl : RdRow (RdE w.heap) xs l) (hs2 : SliceAt w.heap sb m.length (m.length * 3) ys) (hl2 : RdRow (RdE w.heap) ys m) :
    Calls Tryz.prog 23 #[sa, sb, .func (.func 24) #[] #[]] w fun e w' => e = .returned (.int .i64 (ordL ordE l m)) ∧ Below w.heap.size w w' := by
  obtain ⟨ao, ca, rfl, hca, hmax⟩ := hs.shape
  obtain ⟨bo, cb, rfl, hcb, hmax2⟩ := hs2.shape
  obtain ⟨n, hln⟩ : ∃ n, l.length = n := ⟨_, rfl⟩
  obtain ⟨n2, hmn⟩ : ∃ n, m.length = n := ⟨_, rfl⟩
  have HS := Lib.hid hs
  have HL := Lib.hid hl
  have HS2 := Lib.hid hs2
  have HL2 := Lib.hid hl2
  have HLN := Lib.hid hln
  have HMN := Lib.hid hmn
  rw [hln, hmn]
  rw [hln] at hca hmax
  rw [hmn] at hcb hmax2
  clear hs hl hs2 hl2 hln hmn
  go_enter Tryz.func23, Tryz.ntmps23
  go_wp2_with fail
  go_loopw [13] (fun i wr => ∃ k : Nat, k ≤ n ∧ k ≤ n2 ∧ i = .int .i64 k ∧ Hid (Below w.heap.size w wr) ∧ Hid (ordL ordE l m = ordL ordE (l.drop k) (m.drop k))) (fun i _ => n - (intOf i).toNat)
  case atStart => exact ⟨0, Nat.zero_le _, Nat.zero_le _, rfl, Lib.hid (Below.refl _ _), Lib.hid rfl⟩
  case round =>
    obtain ⟨k, hk, hk2, rfl, HBL, HE⟩ := hrel
    by_cases hlt : k < n
    · by_cases hltm : k < n2
      · obtain ⟨a, ha⟩ := at_get HLN.out hlt
        obtain ⟨b, hb⟩ := at_get HMN.out hltm
        have hsr := below_slice HBL.out HS.out
        have hlr := below_elems HBL.out HL.out
        have hs2r := below_slice HBL.out HS2.out
        have hl2r := below_elems HBL.out HL2.out
        obtain ⟨g1, o1, p1, s1, ys1, e1, hc1, hs1, hr1, c10, c11, c12⟩ := cells3 hsr hlr ha
        obtain ⟨g2, o2, p2, s2, ys2, e2, hc2, hs2', hr2, c20, c21, c22⟩ := cells3 hs2r hl2r hb
        injection e1 with e11 _ e12
        injection e2 with e21 _ e22
        subst e11 e12 e21 e22
        have RA : Hid (SliceAt wr.heap s1 a.vals.length (a.vals.length * 5) ys1 ∧ RdRow (RdV wr.heap) ys1 a.vals) := Lib.hid ⟨hs1, hr1⟩
        have RB : Hid (SliceAt wr.heap s2 b.vals.length (b.vals.length * 5) ys2 ∧ RdRow (RdV wr.heap) ys2 b.vals) := Lib.hid ⟨hs2', hr2⟩
        obtain ⟨h1, t1, l1⟩ := a
        obtain ⟨h2, t2, l2⟩ := b
        obtain ⟨q1, w1, rfl, _, _⟩ := hs1.shape
        obtain ⟨q2, w2, rfl, _, _⟩ := hs2'.shape
        have GL := Lib.hid (cell_lt c20)
        clear hsr hlr hs2r hl2r hs1 hr1 hs2' hr2
        obtain ⟨r, hr⟩ : ∃ r, ordE ⟨h1, t1, l1⟩ ⟨h2, t2, l2⟩ = r := ⟨_, rfl⟩
        have HR := Lib.hid hr
        have HA := Lib.hid ha
        have HB := Lib.hid hb
        clear hr ha hb
        have hfz1 : ∀ j, (wr.alloc (.cells #[.int .i64 0, .int .i64 0, .slice none 0 0] 32)).frozen? ⟨wr.heap.size, j, none⟩ = false := fun j => frozen_new _ _ _ j
        go_upto_region 6 with fail
        clear hfz1
        obtain ⟨W1, hW1, HX1⟩ : ∃ W1, wr.alloc (.cells #[.int .i64 h1, .int .i64 t1, .slice q1 l1.length w1] 32) = W1 ∧ Hid (Boxed wr W1 32 #[.int .i64 h1, .int .i64 t1, .slice q1 l1.length w1]) := ⟨_, rfl, Lib.hid (boxed _ _ _)⟩
        rw [hW1]
        clear hW1
        have d20 := ((HX1.out.below.cell (p := ⟨g2, o2 + k * 3, none⟩) GL.out).trans c20)
        have d21 := ((HX1.out.below.cell (p := ⟨g2, o2 + k * 3 + 1, none⟩) GL.out).trans c21)
        have d22 := ((HX1.out.below.cell (p := ⟨g2, o2 + k * 3 + 2, none⟩) GL.out).trans c22)
        clear c10 c20
        clear c11 c21
        clear c12 c22
        have hfz2 : ∀ j, (W1.alloc (.cells #[.int .i64 0, .int .i64 0, .slice none 0 0] 32)).frozen? ⟨W1.heap.size, j, none⟩ = false := fun j => frozen_new _ _ _ j
        go_upto_region 7 with fail
        clear hfz2
        obtain ⟨W2, hW2, HX2⟩ : ∃ W2, W1.alloc (.cells #[.int .i64 h2, .int .i64 t2, .slice q2 l2.length w2] 32) = W2 ∧ Hid (Boxed W1 W2 32 #[.int .i64 h2, .int .i64 t2, .slice q2 l2.length w2]) := ⟨_, rfl, Lib.hid (boxed _ _ _)⟩
        rw [hW2]
        clear hW2
        have x10 := ((HX2.out.below.cell (p := ⟨wr.heap.size, 0, none⟩) (by rw [HX1.out.size]; exact Nat.lt_succ_self _)).trans (HX1.out.cell 0))
        have x20 := HX2.out.cell 0
        have x11 := ((HX2.out.below.cell (p := ⟨wr.heap.size, 1, none⟩) (by rw [HX1.out.size]; exact Nat.lt_succ_self _)).trans (HX1.out.cell 1))
        have x21 := HX2.out.cell 1
        have x12 := ((HX2.out.below.cell (p := ⟨wr.heap.size, 2, none⟩) (by rw [HX1.out.size]; exact Nat.lt_succ_self _)).trans (HX1.out.cell 2))
        have x22 := HX2.out.cell 2
        simp only [List.getElem?_toArray, List.getElem?_cons_zero, List.getElem?_cons_succ] at x10 x20 x11 x21 x12 x22
        clear d20
        clear d21
        clear d22
        by_cases hz : r = 0
        · subst hz
          go_wp2_with (go_at_call 24; refine (order_elem (a := ⟨h1, t1, l1⟩) (b := ⟨h2, t2, l2⟩) (((show RowV wr _ l1 from ⟨_, RA.out⟩).below HX1.out.below).below HX2.out.below) (((show RowV wr _ l2 from ⟨_, RB.out⟩).below HX1.out.below).below HX2.out.below)).mono ?_; rintro e w3 ⟨rfl, hb3⟩; rw [HR.out]; have HX3 := Lib.hid hb3; clear hb3)
          go_roundw
          case rel => exact ⟨k + 1, by omega, by omega, by go_num, Lib.hid (bon (bon (bon HBL.out HX1.out.below) HX2.out.below) HX3.out), Lib.hid (by rw [HE.out, ordL_zero HA.out HB.out HR.out])⟩
          case measure => simp [intOf]; omega
        · have f1 : (r == 0) = false := by simpa using hz
          have f2 : (r != 0) = true := by simpa using hz
          have HZ := Lib.hid hz
          clear hz
          go_wp2_with (go_at_call 24; refine (order_elem (a := ⟨h1, t1, l1⟩) (b := ⟨h2, t2, l2⟩) (((show RowV wr _ l1 from ⟨_, RA.out⟩).below HX1.out.below).below HX2.out.below) (((show RowV wr _ l2 from ⟨_, RB.out⟩).below HX1.out.below).below HX2.out.below)).mono ?_; rintro e w3 ⟨rfl, hb3⟩; rw [HR.out]; have HX3 := Lib.hid hb3; clear hb3)
          go_ret
          exact ⟨by rw [HE.out, ordL_part HA.out HB.out (by rw [HR.out]; exact HZ.out), HR.out] <;> rfl, (bon (bon (bon HBL.out HX1.out.below) HX2.out.below) HX3.out)⟩
      · obtain ⟨a, ha⟩ := at_get HLN.out hlt
        have hsr := below_slice HBL.out HS.out
        have hlr := below_elems HBL.out HL.out
        obtain ⟨g1, o1, p1, s1, ys1, e1, hc1, hs1, hr1, c10, c11, c12⟩ := cells3 hsr hlr ha
        injection e1 with e11 _ e12
        subst e11 e12
        obtain ⟨h1, t1, l1⟩ := a
        obtain ⟨q1, w1, rfl, _, _⟩ := hs1.shape
        clear hsr hlr hs1 hr1 ha
        have HBN := Lib.hid (below_new wr (.cells #[.int .i64 h1, .int .i64 t1, .slice q1 l1.length w1] 32))
        have hfz1 : ∀ j, (wr.alloc (.cells #[.int .i64 0, .int .i64 0, .slice none 0 0] 32)).frozen? ⟨wr.heap.size, j, none⟩ = false := fun j => frozen_new _ _ _ j
        have HEND := Lib.hid (ordL_more (f := ordE) HLN.out HMN.out hlt hltm)
        go_wp2_with fail
        go_ret
        exact ⟨by rw [HE.out, HEND.out] <;> rfl, bon HBL.out HBN.out⟩
    · obtain rfl : k = n := by omega
      by_cases hltm : k < n2
      · have HEND := Lib.hid (ordL_less (f := ordE) HLN.out HMN.out hlt hltm)
        go_wp2_with fail
        go_ret
        exact ⟨by rw [HE.out, HEND.out] <;> rfl, HBL.out⟩
      · have HEND := Lib.hid (ordL_even (f := ordE) HLN.out HMN.out hlt hltm)
        go_wp2_with fail
        go_ret
        exact ⟨by rw [HE.out, HEND.out] <;> rfl, HBL.out⟩

set_option maxHeartbeats 6400000 in
set_option maxRecDepth 100000 in
/-- proctorref0.EqElems. -/
theorem eqelems {w : World} {sa sb : Value} {l m : List EV} {xs ys : List Value}
    (hs : SliceAt w.heap sa l.length (l.length * 3) xs) (hl : RdRow (RdE w.heap) xs l) (hs2 : SliceAt w.heap sb m.length (m.length * 3) ys) (hl2 : RdRow (RdE w.heap) ys m) :
    Calls Tryz.prog 21 #[sa, sb] w fun e w' => e = .returned (.bool (allB sameE l m)) ∧ Below w.heap.size w w' := by
  obtain ⟨ao, ca, rfl, hca, hmax⟩ := hs.shape
  obtain ⟨bo, cb, rfl, hcb, hmax2⟩ := hs2.shape
  by_cases hn : l.length = m.length
  · obtain ⟨n, hln⟩ : ∃ n, l.length = n := ⟨_, rfl⟩
    have hmn : m.length = n := by omega
    have HS := Lib.hid hs
    have HL := Lib.hid hl
    have HS2 := Lib.hid hs2
    have HL2 := Lib.hid hl2
    have HLN := Lib.hid hln
    have HMN := Lib.hid hmn
    rw [hln, hmn]
    rw [hln] at hca hmax
    rw [hmn] at hcb
    clear hs hl hs2 hl2 hn hln hmn hmax2
    go_enter Tryz.func21, Tryz.ntmps21
    go_wp2_with fail
    go_loopw [5] (fun i wr => ∃ k : Nat, k ≤ n ∧ i = .int .i64 k ∧ Hid (Below w.heap.size w wr) ∧ Hid (allB sameE l m = allB sameE (l.drop k) (m.drop k))) (fun i _ => n - (intOf i).toNat)
    case atStart => exact ⟨0, Nat.zero_le _, rfl, Lib.hid (Below.refl _ _), Lib.hid rfl⟩
    case round =>
      obtain ⟨k, hk, rfl, HBL, HE⟩ := hrel
      by_cases hlt : k < n
      · have hltm := hlt
        obtain ⟨a, ha⟩ := at_get HLN.out hlt
        obtain ⟨b, hb⟩ := at_get HMN.out hltm
        have hsr := below_slice HBL.out HS.out
        have hlr := below_elems HBL.out HL.out
        have hs2r := below_slice HBL.out HS2.out
        have hl2r := below_elems HBL.out HL2.out
        obtain ⟨g1, o1, p1, s1, ys1, e1, hc1, hs1, hr1, c10, c11, c12⟩ := cells3 hsr hlr ha
        obtain ⟨g2, o2, p2, s2, ys2, e2, hc2, hs2', hr2, c20, c21, c22⟩ := cells3 hs2r hl2r hb
        injection e1 with e11 _ e12
        injection e2 with e21 _ e22
        subst e11 e12 e21 e22
        have RA : Hid (SliceAt wr.heap s1 a.vals.length (a.vals.length * 5) ys1 ∧ RdRow (RdV wr.heap) ys1 a.vals) := Lib.hid ⟨hs1, hr1⟩
        have RB : Hid (SliceAt wr.heap s2 b.vals.length (b.vals.length * 5) ys2 ∧ RdRow (RdV wr.heap) ys2 b.vals) := Lib.hid ⟨hs2', hr2⟩
        obtain ⟨h1, t1, l1⟩ := a
        obtain ⟨h2, t2, l2⟩ := b
        obtain ⟨q1, w1, rfl, _, _⟩ := hs1.shape
        obtain ⟨q2, w2, rfl, _, _⟩ := hs2'.shape
        have GL := Lib.hid (cell_lt c20)
        clear hsr hlr hs2r hl2r hs1 hr1 hs2' hr2
        have HA := Lib.hid ha
        have HB := Lib.hid hb
        clear ha hb
        have HG : Hid (sameE ⟨h1, t1, l1⟩ ⟨h2, t2, l2⟩ = ((h1 == h2 && t1 == t2) && allB sameG l1 l2)) := Lib.hid rfl
        by_cases e1 : h1 = h2
        · have f1 : (h1 == h2) = true := by simpa using e1
          by_cases e2 : t1 = t2
          · have f2 : (t1 == t2) = true := by simpa using e2
            obtain ⟨r, hr⟩ : ∃ r, allB sameG l1 l2 = r := ⟨_, rfl⟩
            have HR := Lib.hid hr
            have HG2 : Hid (sameE ⟨h1, t1, l1⟩ ⟨h2, t2, l2⟩ = r) := Lib.hid (by rw [HG.out, f1, f2, hr]; simp)
            have g1 : (h1 != h2) = false := by simpa using e1
            have g2 : (t1 != t2) = false := by simpa using e2
            clear hr e1 e2 HG
            cases r with
            | true =>
              go_wp2_with fail
              go_still_tail 35, (by kernel_rfl)
              change wpList _ _ _ _ _ wr.drew
              go_wp2_with fail
              refine (vals_zsame (l := l1) (m := l2) (RowV.heap (w' := wr.drew) (show RowV wr _ l1 from ⟨_, RA.out⟩) rfl) (RowV.heap (w' := wr.drew) (show RowV wr _ l2 from ⟨_, RB.out⟩) rfl)).mono ?_
              rintro e w3 ⟨rfl, hb3⟩
              rw [HR.out]
              have HX3 := Lib.hid hb3
              clear hb3
              go_wp2_with fail
              go_roundw
              case rel => exact ⟨k + 1, by omega, by go_num, Lib.hid (bon (bon HBL.out (below_drew _)) HX3.out), Lib.hid (by rw [HE.out, allB_step HA.out HB.out, HG2.out, Bool.true_and])⟩
              case measure => simp [intOf]; omega
            | false =>
              go_wp2_with fail
              go_still_tail 35, (by kernel_rfl)
              change wpList _ _ _ _ _ wr.drew
              go_wp2_with fail
              refine (vals_zsame (l := l1) (m := l2) (RowV.heap (w' := wr.drew) (show RowV wr _ l1 from ⟨_, RA.out⟩) rfl) (RowV.heap (w' := wr.drew) (show RowV wr _ l2 from ⟨_, RB.out⟩) rfl)).mono ?_
              rintro e w3 ⟨rfl, hb3⟩
              rw [HR.out]
              have HX3 := Lib.hid hb3
              clear hb3
              go_wp2_with fail
              go_ret
              exact ⟨by rw [HE.out, allB_step HA.out HB.out, HG2.out, Bool.false_and] <;> rfl, bon (bon HBL.out (below_drew _)) HX3.out⟩
          · have f2 : (t1 == t2) = false := by simpa using e2
            have HG2 : Hid (sameE ⟨h1, t1, l1⟩ ⟨h2, t2, l2⟩ = false) := Lib.hid (by rw [HG.out, f2]; simp)
            have g1 : (h1 != h2) = false := by simpa using e1
            have g2 : (t1 != t2) = true := by simpa using e2
            clear e1 e2 HG
            go_wp2_with fail
            go_quiet (fail)
            go_wp2_with fail
            go_ret
            exact ⟨by rw [HE.out, allB_step HA.out HB.out, HG2.out, Bool.false_and] <;> rfl, bon HBL.out (below_drewN _ _)⟩
        · have f1 : (h1 == h2) = false := by simpa using e1
          have HG2 : Hid (sameE ⟨h1, t1, l1⟩ ⟨h2, t2, l2⟩ = false) := Lib.hid (by rw [HG.out, f1]; simp)
          have g1 : (h1 != h2) = true := by simpa using e1
          clear e1 HG
          go_wp2_with fail
          go_quiet (fail)
          go_wp2_with fail
          go_ret
          exact ⟨by rw [HE.out, allB_step HA.out HB.out, HG2.out, Bool.false_and] <;> rfl, bon HBL.out (below_drewN _ _)⟩
      · obtain rfl : k = n := by omega
        go_wp2_with fail
        go_ret
        exact ⟨by rw [HE.out, drop_ge HLN.out (Nat.le_refl _), drop_ge HMN.out (Nat.le_refl _)]; rfl, HBL.out⟩
  · have hli : (l.length : Int) ≠ (m.length : Int) := by omega
    have t1 : ((l.length : Int) == (m.length : Int)) = false := by simpa only [beq_eq_false_iff_ne] using hli
    have t2 : ((l.length : Int) != (m.length : Int)) = true := by simpa only [bne_iff_ne] using hli
    have HN := Lib.hid (allB_len (f := sameE) hn)
    clear hs hl hs2 hl2 hn hli
    go_enter Tryz.func21, Tryz.ntmps21
    go_wp2_with fail
    go_ret
    exact ⟨by rw [HN.out] <;> rfl, Below.refl _ _⟩
end Go.Proofs.YthbabhnbiilimaaGreatDoor
