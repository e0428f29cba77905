/- The order of values, by the program and by the document's own answer. What was there stays. -/
import Derived.Test.YthbabhnbiilimaaGreatDoorMsV
namespace Go.Proofs.YthbabhnbiilimaaGreatDoor
open Go.RowKit

theorem ordL_zero {α : Type} {f : α → α → Int} {l m : List α} {k : Nat} {a b : α} (ha : l[k]? = some a) (hb : m[k]? = some b) (h : f a b = 0) : ordL f (l.drop k) (m.drop k) = ordL f (l.drop (k + 1)) (m.drop (k + 1)) := by
  rw [ordL_step ha hb, if_pos h]
theorem ordL_part {α : Type} {f : α → α → Int} {l m : List α} {k : Nat} {a b : α} (ha : l[k]? = some a) (hb : m[k]? = some b) (h : f a b ≠ 0) : ordL f (l.drop k) (m.drop k) = f a b := by
  rw [ordL_step ha hb, if_neg h]
theorem cmpI_zero {x y : Int} (h : cmpI x y = 0) : x = y := by
  unfold cmpI at h
  split at h
  · cases h
  · split at h
    · cases h
    · omega
theorem bit_quiet (w : World) (b : Bool) : Calls Tryz.prog 92 #[.bool b] w fun e w' => e = .returned (.int .i64 (bitI b)) ∧ ∃ q, w' = w.drewN q := (bit_any w b).mono (fun _ _ h => ⟨h.1, 0, h.2⟩)
theorem two_boxes (w : World) {t t' : TypeId} (cs cs' : Array Value) (j j' : Nat) {u u' : Value} (hu : cs[j]? = some u) (hu' : cs'[j']? = some u') :
    ∃ W, (w.alloc (.cells cs t)).alloc (.cells cs' t') = W ∧ W.cell? ⟨w.heap.size, j, none⟩ = some u ∧ W.cell? ⟨w.heap.size + 1, j', none⟩ = some u' ∧ Hid (Below w.heap.size w W) := by
  refine ⟨_, rfl, ((below_new (w.alloc (.cells cs t)) (.cells cs' t')).cell (p := ⟨w.heap.size, j, none⟩) (by simp)).trans ((cell_new w cs t j).trans hu), ?_, Lib.hid (below_new2 w _ _)⟩
  have := cell_new (w.alloc (.cells cs t)) cs' t' j'
  rw [show (w.alloc (.cells cs t)).heap.size = w.heap.size + 1 by simp] at this
  exact this.trans hu'
theorem cmpI_self (x : Int) : cmpI x x = 0 := by rw [cmpI, if_neg (by omega), if_neg (by omega)]
theorem ordL_more {α : Type} {f : α → α → Int} {l m : List α} {k n1 n2 : Nat} (h1 : l.length = n1) (h2 : m.length = n2) (hk : k < n1) (hk2 : ¬ k < n2) : ordL f (l.drop k) (m.drop k) = 1 := by
  rw [ordL_end (.inr (by omega)), if_pos (by omega), if_neg (by omega)]
theorem ordL_less {α : Type} {f : α → α → Int} {l m : List α} {k n1 n2 : Nat} (h1 : l.length = n1) (h2 : m.length = n2) (hk : ¬ k < n1) (hk2 : k < n2) : ordL f (l.drop k) (m.drop k) = -1 := by
  rw [ordL_end (.inl (by omega)), if_neg (by omega)]
theorem ordL_even {α : Type} {f : α → α → Int} {l m : List α} {k n1 n2 : Nat} (h1 : l.length = n1) (h2 : m.length = n2) (hk : ¬ k < n1) (hk2 : ¬ k < n2) : ordL f (l.drop k) (m.drop k) = 0 := by
  rw [ordL_end (.inl (by omega)), if_pos (by omega), if_pos (by omega)]

set_option maxHeartbeats 6400000 in
set_option maxRecDepth 100000 in
/-- slices.CompareFunc over values, by value.Order. -/
theorem cmf_vals {w : World} {sa sb : Value} {l m : List GV} {xs ys : List Value} (ih : ∀ a ∈ l, OrdB 43 a)
    (hs : SliceAt w.heap sa l.length (l.length * 5) xs) (hl : RdRow (RdV w.heap) xs l) (hs2 : SliceAt w.heap sb m.length (m.length * 5) ys) (hl2 : RdRow (RdV w.heap) ys m) :
    Calls Tryz.prog 49 #[sa, sb, .func (.func 43) #[] #[]] w fun e w' => e = .returned (.int .i64 (ordL ordG l m)) ∧ Below w.heap.size w w' := by
  obtain ⟨ao, ca, rfl, hca, hmax⟩ := hs.shape
  obtain ⟨bo, cb, rfl, hcb, hmax2⟩ := hs2.shape
  obtain ⟨n, hln⟩ : ∃ n, l.length = n := ⟨_, rfl⟩
  obtain ⟨n2, hmn⟩ : ∃ n, m.length = n := ⟨_, rfl⟩
  have HS := Lib.hid hs
  have HL := Lib.hid hl
  have HS2 := Lib.hid hs2
  have HL2 := Lib.hid hl2
  have HLN := Lib.hid hln
  have HMN := Lib.hid hmn
  have IH := Lib.hid ih
  rw [hln, hmn]
  rw [hln] at hca hmax
  rw [hmn] at hcb hmax2
  clear hs hl hs2 hl2 hln hmn ih
  go_enter Tryz.func49, Tryz.ntmps49
  go_wp2_with fail
  go_loopw [13] (fun i wr => ∃ k : Nat, k ≤ n ∧ k ≤ n2 ∧ i = .int .i64 k ∧ Hid (Below w.heap.size w wr) ∧ Hid (ordL ordG l m = ordL ordG (l.drop k) (m.drop k))) (fun i _ => n - (intOf i).toNat)
  case atStart => exact ⟨0, Nat.zero_le _, Nat.zero_le _, rfl, Lib.hid (Below.refl _ _), Lib.hid rfl⟩
  case round =>
    obtain ⟨k, hk, hk2, rfl, HBL, HE⟩ := hrel
    by_cases hlt : k < n
    · by_cases hltm : k < n2
      · obtain ⟨a, ha⟩ := at_get HLN.out hlt
        obtain ⟨b, hb⟩ := at_get HMN.out hltm
        have hsr := below_slice HBL.out HS.out
        have hlr := below_vals HBL.out HL.out
        have hs2r := below_slice HBL.out HS2.out
        have hl2r := below_vals HBL.out HL2.out
        obtain ⟨g1, o1, p1, kd1, b1, i1, t1, s1, ys1, l1, e1, hc1, ea, ht1, hs1, hr1, c10, c11, c12, c13, c14⟩ := cells5 hsr hlr ha
        obtain ⟨g2, o2, p2, kd2, b2, i2, t2, s2, ys2, l2, e2, hc2, eb, ht2, hs2, hr2, c20, c21, c22, c23, c24⟩ := cells5 hs2r hl2r hb
        injection e1 with e11 _ e12
        injection e2 with e21 _ e22
        subst e11 e12 e21 e22
        have RA : Hid (RdV wr.heap [.int .i64 kd1, .bool b1, .int .i64 i1, .string t1, s1] a) := Lib.hid (by rw [ea]; exact .mk _ _ _ _ _ _ _ ht1 hs1 hr1.vs)
        have RB : Hid (RdV wr.heap [.int .i64 kd2, .bool b2, .int .i64 i2, .string t2, s2] b) := Lib.hid (by rw [eb]; exact .mk _ _ _ _ _ _ _ ht2 hs2 hr2.vs)
        have hmem := List.mem_of_getElem? ha
        have HIH := Lib.hid (IH.out a hmem)
        obtain ⟨q1, w1, rfl, _, _⟩ := hs1.shape
        obtain ⟨q2, w2, rfl, _, _⟩ := hs2.shape
        have GL := Lib.hid (cell_lt c20)
        clear hmem hsr hlr hs2r hl2r ea eb ht1 hs1 hr1 ht2 hs2 hr2
        obtain ⟨r, hr⟩ : ∃ r, ordG a b = r := ⟨_, rfl⟩
        have HR := Lib.hid hr
        have HA := Lib.hid ha
        have HB := Lib.hid hb
        clear hr ha hb
        have hfz1 : ∀ j, (wr.alloc (.cells #[.int .i64 0, .bool false, .int .i64 0, .string ⟨#[]⟩, .slice none 0 0] 59)).frozen? ⟨wr.heap.size, j, none⟩ = false := fun j => frozen_new _ _ _ j
        go_upto_region 6 with fail
        clear hfz1
        obtain ⟨W1, hW1, HX1⟩ : ∃ W1, wr.alloc (.cells #[.int .i64 kd1, .bool b1, .int .i64 i1, .string t1, .slice q1 l1.length w1] 59) = W1 ∧ Hid (Boxed wr W1 59 #[.int .i64 kd1, .bool b1, .int .i64 i1, .string t1, .slice q1 l1.length w1]) := ⟨_, rfl, Lib.hid (boxed _ _ _)⟩
        rw [hW1]
        clear hW1
        have d20 := ((HX1.out.below.cell (p := ⟨g2, o2 + k * 5, none⟩) GL.out).trans c20)
        have d21 := ((HX1.out.below.cell (p := ⟨g2, o2 + k * 5 + 1, none⟩) GL.out).trans c21)
        have d22 := ((HX1.out.below.cell (p := ⟨g2, o2 + k * 5 + 2, none⟩) GL.out).trans c22)
        have d23 := ((HX1.out.below.cell (p := ⟨g2, o2 + k * 5 + 3, none⟩) GL.out).trans c23)
        have d24 := ((HX1.out.below.cell (p := ⟨g2, o2 + k * 5 + 4, none⟩) GL.out).trans c24)
        clear c10 c20
        clear c11 c21
        clear c12 c22
        clear c13 c23
        clear c14 c24
        have hfz2 : ∀ j, (W1.alloc (.cells #[.int .i64 0, .bool false, .int .i64 0, .string ⟨#[]⟩, .slice none 0 0] 59)).frozen? ⟨W1.heap.size, j, none⟩ = false := fun j => frozen_new _ _ _ j
        go_upto_region 7 with fail
        clear hfz2
        obtain ⟨W2, hW2, HX2⟩ : ∃ W2, W1.alloc (.cells #[.int .i64 kd2, .bool b2, .int .i64 i2, .string t2, .slice q2 l2.length w2] 59) = W2 ∧ Hid (Boxed W1 W2 59 #[.int .i64 kd2, .bool b2, .int .i64 i2, .string t2, .slice q2 l2.length w2]) := ⟨_, rfl, Lib.hid (boxed _ _ _)⟩
        rw [hW2]
        clear hW2
        have x10 := ((HX2.out.below.cell (p := ⟨wr.heap.size, 0, none⟩) (by rw [HX1.out.size]; exact Nat.lt_succ_self _)).trans (HX1.out.cell 0))
        have x20 := HX2.out.cell 0
        have x11 := ((HX2.out.below.cell (p := ⟨wr.heap.size, 1, none⟩) (by rw [HX1.out.size]; exact Nat.lt_succ_self _)).trans (HX1.out.cell 1))
        have x21 := HX2.out.cell 1
        have x12 := ((HX2.out.below.cell (p := ⟨wr.heap.size, 2, none⟩) (by rw [HX1.out.size]; exact Nat.lt_succ_self _)).trans (HX1.out.cell 2))
        have x22 := HX2.out.cell 2
        have x13 := ((HX2.out.below.cell (p := ⟨wr.heap.size, 3, none⟩) (by rw [HX1.out.size]; exact Nat.lt_succ_self _)).trans (HX1.out.cell 3))
        have x23 := HX2.out.cell 3
        have x14 := ((HX2.out.below.cell (p := ⟨wr.heap.size, 4, none⟩) (by rw [HX1.out.size]; exact Nat.lt_succ_self _)).trans (HX1.out.cell 4))
        have x24 := HX2.out.cell 4
        simp only [List.getElem?_toArray, List.getElem?_cons_zero, List.getElem?_cons_succ] at x10 x20 x11 x21 x12 x22 x13 x23 x14 x24
        clear d20
        clear d21
        clear d22
        clear d23
        clear d24
        by_cases hz : r = 0
        · subst hz
          go_wp2_with (go_at_call 43; refine (HIH.out _ _ _ _ (below_val HX2.out.below (below_val HX1.out.below RA.out)) (below_val HX2.out.below (below_val HX1.out.below RB.out))).mono ?_; rintro e w3 ⟨rfl, hb3⟩; rw [HR.out]; have HX3 := Lib.hid hb3; clear hb3)
          go_roundw
          case rel => exact ⟨k + 1, by omega, by omega, by go_num, Lib.hid (bon (bon (bon HBL.out HX1.out.below) HX2.out.below) HX3.out), Lib.hid (by rw [HE.out, ordL_zero HA.out HB.out HR.out])⟩
          case measure => simp [intOf]; omega
        · have f1 : (r == 0) = false := by simpa using hz
          have f2 : (r != 0) = true := by simpa using hz
          have HZ := Lib.hid hz
          clear hz
          go_wp2_with (go_at_call 43; refine (HIH.out _ _ _ _ (below_val HX2.out.below (below_val HX1.out.below RA.out)) (below_val HX2.out.below (below_val HX1.out.below RB.out))).mono ?_; rintro e w3 ⟨rfl, hb3⟩; rw [HR.out]; have HX3 := Lib.hid hb3; clear hb3)
          go_ret
          exact ⟨by rw [HE.out, ordL_part HA.out HB.out (by rw [HR.out]; exact HZ.out), HR.out] <;> rfl, (bon (bon (bon HBL.out HX1.out.below) HX2.out.below) HX3.out)⟩
      · obtain ⟨a, ha⟩ := at_get HLN.out hlt
        have hsr := below_slice HBL.out HS.out
        have hlr := below_vals HBL.out HL.out
        obtain ⟨g1, o1, p1, kd1, b1, i1, t1, s1, ys1, l1, e1, hc1, ea, ht1, hs1, hr1, c10, c11, c12, c13, c14⟩ := cells5 hsr hlr ha
        injection e1 with e11 _ e12
        subst e11 e12
        obtain ⟨q1, w1, rfl, _, _⟩ := hs1.shape
        clear hsr hlr ea ht1 hs1 hr1 ha
        have HBN := Lib.hid (below_new wr (.cells #[.int .i64 kd1, .bool b1, .int .i64 i1, .string t1, .slice q1 l1.length w1] 59))
        have hfz1 : ∀ j, (wr.alloc (.cells #[.int .i64 0, .bool false, .int .i64 0, .string ⟨#[]⟩, .slice none 0 0] 59)).frozen? ⟨wr.heap.size, j, none⟩ = false := fun j => frozen_new _ _ _ j
        have HEND := Lib.hid (ordL_more (f := ordG) HLN.out HMN.out hlt hltm)
        go_wp2_with fail
        go_ret
        exact ⟨by rw [HE.out, HEND.out] <;> rfl, bon HBL.out HBN.out⟩
    · obtain rfl : k = n := by omega
      by_cases hltm : k < n2
      · have HEND := Lib.hid (ordL_less (f := ordG) HLN.out HMN.out hlt hltm)
        go_wp2_with fail
        go_ret
        exact ⟨by rw [HE.out, HEND.out] <;> rfl, HBL.out⟩
      · have HEND := Lib.hid (ordL_even (f := ordG) HLN.out HMN.out hlt hltm)
        go_wp2_with fail
        go_ret
        exact ⟨by rw [HE.out, HEND.out] <;> rfl, HBL.out⟩

set_option maxHeartbeats 6400000 in
set_option maxRecDepth 100000 in
/-- proctorref1.Rows. -/
theorem rows_any {w : World} {sa sb : Value} {l m : List GV} {xs ys : List Value} (ih : ∀ a ∈ l, OrdB 98 a)
    (hs : SliceAt w.heap sa l.length (l.length * 5) xs) (hl : RdRow (RdV w.heap) xs l) (hs2 : SliceAt w.heap sb m.length (m.length * 5) ys) (hl2 : RdRow (RdV w.heap) ys m) :
    Calls Tryz.prog 50 #[sa, sb] w fun e w' => e = .returned (.int .i64 (ordL ordG l m)) ∧ Below w.heap.size w w' := by
  obtain ⟨ao, ca, rfl, hca, hmax⟩ := hs.shape
  obtain ⟨bo, cb, rfl, hcb, hmax2⟩ := hs2.shape
  obtain ⟨n, hln⟩ : ∃ n, l.length = n := ⟨_, rfl⟩
  obtain ⟨n2, hmn⟩ : ∃ n, m.length = n := ⟨_, rfl⟩
  have HS := Lib.hid hs
  have HL := Lib.hid hl
  have HS2 := Lib.hid hs2
  have HL2 := Lib.hid hl2
  have HLN := Lib.hid hln
  have HMN := Lib.hid hmn
  have IH := Lib.hid ih
  rw [hln, hmn]
  rw [hln] at hca hmax
  rw [hmn] at hcb hmax2
  clear hs hl hs2 hl2 hln hmn ih
  go_enter Tryz.func50, Tryz.ntmps50
  go_wp2_with fail
  go_loopw [5] (fun i wr => ∃ k : Nat, k ≤ n ∧ k ≤ n2 ∧ i = .int .i64 k ∧ Hid (Below w.heap.size w wr) ∧ Hid (ordL ordG l m = ordL ordG (l.drop k) (m.drop k))) (fun i _ => n - (intOf i).toNat)
  case atStart => exact ⟨0, Nat.zero_le _, Nat.zero_le _, rfl, Lib.hid (Below.refl _ _), Lib.hid rfl⟩
  case round =>
    obtain ⟨k, hk, hk2, rfl, HBL, HE⟩ := hrel
    by_cases hlt : k < n
    · by_cases hltm : k < n2
      · obtain ⟨a, ha⟩ := at_get HLN.out hlt
        obtain ⟨b, hb⟩ := at_get HMN.out hltm
        have hsr := below_slice HBL.out HS.out
        have hlr := below_vals HBL.out HL.out
        have hs2r := below_slice HBL.out HS2.out
        have hl2r := below_vals HBL.out HL2.out
        obtain ⟨g1, o1, p1, kd1, b1, i1, t1, s1, ys1, l1, e1, hc1, ea, ht1, hs1, hr1, c10, c11, c12, c13, c14⟩ := cells5 hsr hlr ha
        obtain ⟨g2, o2, p2, kd2, b2, i2, t2, s2, ys2, l2, e2, hc2, eb, ht2, hs2, hr2, c20, c21, c22, c23, c24⟩ := cells5 hs2r hl2r hb
        injection e1 with e11 _ e12
        injection e2 with e21 _ e22
        subst e11 e12 e21 e22
        have RA : Hid (RdV wr.heap [.int .i64 kd1, .bool b1, .int .i64 i1, .string t1, s1] a) := Lib.hid (by rw [ea]; exact .mk _ _ _ _ _ _ _ ht1 hs1 hr1.vs)
        have RB : Hid (RdV wr.heap [.int .i64 kd2, .bool b2, .int .i64 i2, .string t2, s2] b) := Lib.hid (by rw [eb]; exact .mk _ _ _ _ _ _ _ ht2 hs2 hr2.vs)
        have hmem := List.mem_of_getElem? ha
        have HIH := Lib.hid (IH.out a hmem)
        obtain ⟨q1, w1, rfl, _, _⟩ := hs1.shape
        obtain ⟨q2, w2, rfl, _, _⟩ := hs2.shape
        have GL := Lib.hid (cell_lt c20)
        clear hmem hsr hlr hs2r hl2r ea eb ht1 hs1 hr1 ht2 hs2 hr2
        obtain ⟨r, hr⟩ : ∃ r, ordG a b = r := ⟨_, rfl⟩
        have HR := Lib.hid hr
        have HA := Lib.hid ha
        have HB := Lib.hid hb
        clear hr ha hb
        by_cases hz : r = 0
        · subst hz
          go_wp2_with fail
          go_still_tail 8, (by kernel_rfl)
          change wpList _ _ _ _ _ wr.drew
          go_wp2_with (go_at_call 98; refine (HIH.out _ _ _ _ (below_val (below_drew _) RA.out) (below_val (below_drew _) RB.out)).mono ?_; rintro e w3 ⟨rfl, hb3⟩; rw [HR.out]; have HX3 := Lib.hid hb3; clear hb3)
          go_roundw
          case rel => exact ⟨k + 1, by omega, by omega, by go_num, Lib.hid (bon (bon HBL.out (below_drew _)) HX3.out), Lib.hid (by rw [HE.out, ordL_zero HA.out HB.out HR.out])⟩
          case measure => simp [intOf]; omega
        · have f1 : (r == 0) = false := by simpa using hz
          have f2 : (r != 0) = true := by simpa using hz
          have HZ := Lib.hid hz
          clear hz
          go_wp2_with fail
          go_still_tail 8, (by kernel_rfl)
          change wpList _ _ _ _ _ wr.drew
          go_wp2_with (go_at_call 98; refine (HIH.out _ _ _ _ (below_val (below_drew _) RA.out) (below_val (below_drew _) RB.out)).mono ?_; rintro e w3 ⟨rfl, hb3⟩; rw [HR.out]; have HX3 := Lib.hid hb3; clear hb3)
          go_ret
          exact ⟨by rw [HE.out, ordL_part HA.out HB.out (by rw [HR.out]; exact HZ.out), HR.out] <;> rfl, (bon (bon HBL.out (below_drew _)) HX3.out)⟩
      · have t1 : decide (n < n2) = false := by simp; omega
        have t2 : decide (n2 < n) = true := by simp; omega
        have HEND := Lib.hid (ordL_more (f := ordG) HLN.out HMN.out hlt hltm)
        go_wp2_with (go_at_call 99; refine (sign_any _ _ _).mono ?_; rintro e w' ⟨rfl, rfl⟩)
        go_ret
        exact ⟨by rw [HE.out, HEND.out] <;> rfl, HBL.out⟩
    · obtain rfl : k = n := by omega
      by_cases hltm : k < n2
      · have t1 : decide (k < n2) = true := by simp; omega
        have t2 : decide (n2 < k) = false := by simp; omega
        have HEND := Lib.hid (ordL_less (f := ordG) HLN.out HMN.out hlt hltm)
        go_wp2_with (go_at_call 99; refine (sign_any _ _ _).mono ?_; rintro e w' ⟨rfl, rfl⟩)
        go_ret
        exact ⟨by rw [HE.out, HEND.out] <;> rfl, HBL.out⟩
      · have t1 : decide (k < n2) = false := by simp; omega
        have t2 : decide (n2 < k) = false := by simp; omega
        have HEND := Lib.hid (ordL_even (f := ordG) HLN.out HMN.out hlt hltm)
        go_wp2_with (go_at_call 99; refine (sign_any _ _ _).mono ?_; rintro e w' ⟨rfl, rfl⟩)
        go_ret
        exact ⟨by rw [HE.out, HEND.out] <;> rfl, HBL.out⟩

set_option maxHeartbeats 6400000 in
set_option maxRecDepth 100000 in
/-- value.Order. -/
theorem order_any : ∀ a, OrdB 43 a := by
  intro a
  induction a using GV.ind with
  | h k b i t0 l ih =>
    intro w v ca cb ha hb
    cases ha with
    | mk _ _ _ t s xs _ ht hs hl =>
      cases hb with
      | mk k' b' i' t' s' xs' l' ht' hs' hl' =>
        have HB2 : Hid (∀ o o', Below w.heap.size w ((w.alloc o).alloc o')) := Lib.hid (below_new2 w)
        have HC : Hid (∀ w', Below w.heap.size w w' → Calls Tryz.prog 49 #[s, s', .func (.func 43) #[] #[]] w' fun e w2 => e = .returned (.int .i64 (ordL ordG l l')) ∧ Below w'.heap.size w' w2) := Lib.hid (fun w' hb => cmf_vals ih (below_slice hb hs) (below_vals hb hl.row) (below_slice hb hs') (below_vals hb hl'.row))
        obtain ⟨ao, c1, rfl, _, _⟩ := hs.shape
        obtain ⟨bo, c2, rfl, _, _⟩ := hs'.shape
        have HG : Hid (ordG (.mk k b i t.toList l) (.mk k' b' i' t'.toList l') = if cmpI k k' = 0 then (if k = 0 then 0 else if k = 1 then bitI b - bitI b' else if k = 2 ∨ k = 5 then cmpI i i' else if k = 4 then ordL ordG l l' else cmpT t.toList t'.toList) else cmpI k k') := Lib.hid (by rw [ordG, ordsG_all])
        clear ih ht hs hl ht' hs' hl'
        obtain ⟨c, hc⟩ : ∃ c, cmpI k k' = c := ⟨_, rfl⟩
        have HCI : Hid (∀ w, Calls Tryz.prog 22 #[.int .i64 k, .int .i64 k'] w fun e w' => e = .returned (.int .i64 c) ∧ w' = w) := Lib.hid (fun w => by have := cmp_int w k k'; rwa [hc] at this)
        by_cases hz : c = 0
        · subst hz
          obtain rfl : k = k' := cmpI_zero hc
          have HG1 : Hid (ordG (.mk k b i t.toList l) (.mk k b' i' t'.toList l') = if k = 0 then 0 else if k = 1 then bitI b - bitI b' else if k = 2 ∨ k = 5 then cmpI i i' else if k = 4 then ordL ordG l l' else cmpT t.toList t'.toList) := Lib.hid (by rw [HG.out, if_pos hc])
          clear hc HG
          by_cases k0 : k = 0
          · subst k0
            go_enter Tryz.func43, Tryz.ntmps43
            go_wp2_with (go_at_call 22; refine (HCI.out _).mono ?_; rintro e w' ⟨rfl, rfl⟩)
            go_ret
            exact ⟨by rw [HG1.out]; rfl, HB2.out _ _⟩
          · by_cases k1 : k = 1
            · subst k1
              clear k0
              have e1 : IntKind.i64.wrap (bitI b - bitI b') = bitI b - bitI b' := by cases b <;> cases b' <;> rfl
              go_enter Tryz.func43, Tryz.ntmps43
              go_wp2_with (go_at_call 22; refine (HCI.out _).mono ?_; rintro e w' ⟨rfl, rfl⟩)
              obtain ⟨W, hW, y1, y2, HBW⟩ : ∃ W, (w.alloc (.cells #[.int .i64 1, .bool b, .int .i64 i, .string t, .slice ao l.length c1] 59)).alloc (.cells #[.int .i64 1, .bool b', .int .i64 i', .string t', .slice bo l'.length c2] 59) = W ∧ W.cell? ⟨w.heap.size, 1, none⟩ = some (.bool b) ∧ W.cell? ⟨w.heap.size + 1, 1, none⟩ = some (.bool b') ∧ Hid (Below w.heap.size w W) := two_boxes w _ _ 1 1 rfl rfl
              rw [hW]
              clear hW
              go_quiet (first | (go_at_call 92; exact Calls.quiet_of (bit_quiet _ _)))
              go_wp2_with fail
              go_ret
              exact ⟨by rw [HG1.out] <;> rfl, bon HBW.out (below_drewN _ _)⟩
            · by_cases k2 : k = 2
              · subst k2
                clear k0 k1
                go_enter Tryz.func43, Tryz.ntmps43
                go_wp2_with (first | (go_at_call 22; refine (HCI.out _).mono ?_; rintro e w' ⟨rfl, rfl⟩) | (go_at_call 93; refine (cmp_int64 _ _ _).mono ?_; rintro e w' ⟨rfl, rfl⟩))
                go_ret
                exact ⟨by rw [HG1.out]; rfl, HB2.out _ _⟩
              · by_cases k5 : k = 5
                · subst k5
                  clear k0 k1 k2
                  go_enter Tryz.func43, Tryz.ntmps43
                  go_wp2_with (first | (go_at_call 22; refine (HCI.out _).mono ?_; rintro e w' ⟨rfl, rfl⟩) | (go_at_call 93; refine (cmp_int64 _ _ _).mono ?_; rintro e w' ⟨rfl, rfl⟩))
                  go_ret
                  exact ⟨by rw [HG1.out]; rfl, HB2.out _ _⟩
                · by_cases k4 : k = 4
                  · subst k4
                    clear k0 k1 k2 k5
                    go_enter Tryz.func43, Tryz.ntmps43
                    go_wp2_with (go_at_call 22; refine (HCI.out _).mono ?_; rintro e w' ⟨rfl, rfl⟩)
                    refine (HC.out _ (HB2.out _ _)).mono ?_
                    rintro e w1 ⟨rfl, hb1⟩
                    have HX := Lib.hid (bon (HB2.out _ _) hb1)
                    clear hb1
                    go_wp2_with fail
                    go_ret
                    exact ⟨by rw [HG1.out]; rfl, HX.out⟩
                  · have HG2 : Hid (ordG (.mk k b i t.toList l) (.mk k b' i' t'.toList l') = cmpT t.toList t'.toList) := Lib.hid (by rw [HG1.out, if_neg k0, if_neg k1, if_neg (by omega), if_neg k4])
                    have f0 : (k == 0) = false := by simpa using k0
                    have f1 : (k == 1) = false := by simpa using k1
                    have f2 : (k == 2) = false := by simpa using k2
                    have f5 : (k == 5) = false := by simpa using k5
                    have f4 : (k == 4) = false := by simpa using k4
                    clear k0 k1 k2 k4 k5 HG1
                    go_enter Tryz.func43, Tryz.ntmps43
                    go_wp2_with (first | (go_at_call 22; refine (HCI.out _).mono ?_; rintro e w' ⟨rfl, rfl⟩) | (go_at_call 94; refine (cmp_text _ _ _).mono ?_; rintro e w' ⟨rfl, rfl⟩))
                    go_ret
                    exact ⟨by rw [HG2.out] <;> rfl, HB2.out _ _⟩
        · have f1 : (c == 0) = false := by simpa using hz
          have f2 : (c != 0) = true := by simpa using hz
          have HG2 : Hid (ordG (.mk k b i t.toList l) (.mk k' b' i' t'.toList l') = c) := Lib.hid (by rw [HG.out, if_neg (by rw [hc]; exact hz), hc])
          clear hz hc HG
          go_enter Tryz.func43, Tryz.ntmps43
          go_wp2_with (go_at_call 22; refine (HCI.out _).mono ?_; rintro e w' ⟨rfl, rfl⟩)
          go_ret
          exact ⟨by rw [HG2.out] <;> rfl, HB2.out _ _⟩

set_option maxHeartbeats 6400000 in
set_option maxRecDepth 100000 in
/-- proctorref1.Order. -/
theorem zorder_any : ∀ a, OrdB 98 a := by
  intro a
  induction a using GV.ind with
  | h k b i t0 l ih =>
    intro w v ca cb ha hb
    cases ha with
    | mk _ _ _ t s xs _ ht hs hl =>
      cases hb with
      | mk k' b' i' t' s' xs' l' ht' hs' hl' =>
        have HB2 : Hid (∀ o o', Below w.heap.size w ((w.alloc o).alloc o')) := Lib.hid (below_new2 w)
        have HC : Hid (∀ w', Below w.heap.size w w' → Calls Tryz.prog 50 #[s, s'] w' fun e w2 => e = .returned (.int .i64 (ordL ordG l l')) ∧ Below w'.heap.size w' w2) := Lib.hid (fun w' hb => rows_any ih (below_slice hb hs) (below_vals hb hl.row) (below_slice hb hs') (below_vals hb hl'.row))
        obtain ⟨ao, c1, rfl, _, _⟩ := hs.shape
        obtain ⟨bo, c2, rfl, _, _⟩ := hs'.shape
        have HG : Hid (ordG (.mk k b i t.toList l) (.mk k' b' i' t'.toList l') = if cmpI k k' = 0 then (if k = 0 then 0 else if k = 1 then bitI b - bitI b' else if k = 2 ∨ k = 5 then cmpI i i' else if k = 4 then ordL ordG l l' else cmpT t.toList t'.toList) else cmpI k k') := Lib.hid (by rw [ordG, ordsG_all])
        clear ih ht hs hl ht' hs' hl'
        by_cases hkk : k = k'
        · subst hkk
          have HG1 : Hid (ordG (.mk k b i t.toList l) (.mk k b' i' t'.toList l') = if k = 0 then 0 else if k = 1 then bitI b - bitI b' else if k = 2 ∨ k = 5 then cmpI i i' else if k = 4 then ordL ordG l l' else cmpT t.toList t'.toList) := Lib.hid (by rw [HG.out, if_pos (cmpI_self k)])
          clear HG
          by_cases k0 : k = 0
          · subst k0
            go_enter Tryz.func98, Tryz.ntmps98
            go_wp2_with fail
            go_ret
            exact ⟨by rw [HG1.out]; rfl, HB2.out _ _⟩
          · by_cases k1 : k = 1
            · subst k1
              clear k0
              cases b <;> cases b' <;>
              · go_enter Tryz.func98, Tryz.ntmps98
                go_wp2_with (go_at_call 99; refine (sign_any _ _ _).mono ?_; rintro e w' ⟨rfl, rfl⟩)
                go_ret
                exact ⟨by rw [HG1.out]; rfl, HB2.out _ _⟩
            · by_cases k2 : k = 2
              · subst k2
                clear k0 k1
                by_cases h1 : i < i'
                · have h2 : ¬ i' < i := by omega
                  have HG2 : Hid (ordG (.mk 2 b i t.toList l) (.mk 2 b' i' t'.toList l') = -1) := Lib.hid (by rw [HG1.out]; show cmpI i i' = _; rw [cmpI, if_pos h1])
                  go_enter Tryz.func98, Tryz.ntmps98
                  go_wp2_with (go_at_call 99; refine (sign_any _ _ _).mono ?_; rintro e w' ⟨rfl, rfl⟩)
                  go_ret
                  exact ⟨by rw [HG2.out]; rfl, HB2.out _ _⟩
                · by_cases h2 : i' < i
                  · have h3 := h1
                    have HG2 : Hid (ordG (.mk 2 b i t.toList l) (.mk 2 b' i' t'.toList l') = 1) := Lib.hid (by rw [HG1.out]; show cmpI i i' = _; rw [cmpI, if_neg h1, if_pos h2])
                    go_enter Tryz.func98, Tryz.ntmps98
                    go_wp2_with (go_at_call 99; refine (sign_any _ _ _).mono ?_; rintro e w' ⟨rfl, rfl⟩)
                    go_ret
                    exact ⟨by rw [HG2.out]; rfl, HB2.out _ _⟩
                  · have h3 := h1
                    have HG2 : Hid (ordG (.mk 2 b i t.toList l) (.mk 2 b' i' t'.toList l') = 0) := Lib.hid (by rw [HG1.out]; show cmpI i i' = _; rw [cmpI, if_neg h1, if_neg h2])
                    go_enter Tryz.func98, Tryz.ntmps98
                    go_wp2_with (go_at_call 99; refine (sign_any _ _ _).mono ?_; rintro e w' ⟨rfl, rfl⟩)
                    go_ret
                    exact ⟨by rw [HG2.out]; rfl, HB2.out _ _⟩
              · by_cases k5 : k = 5
                · subst k5
                  clear k0 k1 k2
                  by_cases h1 : i < i'
                  · have h2 : ¬ i' < i := by omega
                    have HG2 : Hid (ordG (.mk 5 b i t.toList l) (.mk 5 b' i' t'.toList l') = -1) := Lib.hid (by rw [HG1.out]; show cmpI i i' = _; rw [cmpI, if_pos h1])
                    go_enter Tryz.func98, Tryz.ntmps98
                    go_wp2_with (go_at_call 99; refine (sign_any _ _ _).mono ?_; rintro e w' ⟨rfl, rfl⟩)
                    go_ret
                    exact ⟨by rw [HG2.out]; rfl, HB2.out _ _⟩
                  · by_cases h2 : i' < i
                    · have h3 := h1
                      have HG2 : Hid (ordG (.mk 5 b i t.toList l) (.mk 5 b' i' t'.toList l') = 1) := Lib.hid (by rw [HG1.out]; show cmpI i i' = _; rw [cmpI, if_neg h1, if_pos h2])
                      go_enter Tryz.func98, Tryz.ntmps98
                      go_wp2_with (go_at_call 99; refine (sign_any _ _ _).mono ?_; rintro e w' ⟨rfl, rfl⟩)
                      go_ret
                      exact ⟨by rw [HG2.out]; rfl, HB2.out _ _⟩
                    · have h3 := h1
                      have HG2 : Hid (ordG (.mk 5 b i t.toList l) (.mk 5 b' i' t'.toList l') = 0) := Lib.hid (by rw [HG1.out]; show cmpI i i' = _; rw [cmpI, if_neg h1, if_neg h2])
                      go_enter Tryz.func98, Tryz.ntmps98
                      go_wp2_with (go_at_call 99; refine (sign_any _ _ _).mono ?_; rintro e w' ⟨rfl, rfl⟩)
                      go_ret
                      exact ⟨by rw [HG2.out]; rfl, HB2.out _ _⟩
                · by_cases k4 : k = 4
                  · subst k4
                    clear k0 k1 k2 k5
                    go_enter Tryz.func98, Tryz.ntmps98
                    go_wp2_with fail
                    refine (HC.out _ (HB2.out _ _)).mono ?_
                    rintro e w1 ⟨rfl, hb1⟩
                    have HX := Lib.hid (bon (HB2.out _ _) hb1)
                    clear hb1
                    go_wp2_with fail
                    go_ret
                    exact ⟨by rw [HG1.out]; rfl, HX.out⟩
                  · have HG2 : Hid (ordG (.mk k b i t.toList l) (.mk k b' i' t'.toList l') = cmpT t.toList t'.toList) := Lib.hid (by rw [HG1.out, if_neg k0, if_neg k1, if_neg (by omega), if_neg k4])
                    have f0 : (k == 0) = false := by simpa using k0
                    have f1 : (k == 1) = false := by simpa using k1
                    have f2 : (k == 2) = false := by simpa using k2
                    have f5 : (k == 5) = false := by simpa using k5
                    have f4 : (k == 4) = false := by simpa using k4
                    clear k0 k1 k2 k4 k5 HG1
                    obtain ⟨a, ha⟩ : ∃ a, Op.bytesLess t.toList t'.toList = a := ⟨_, rfl⟩
                    obtain ⟨b, hb⟩ : ∃ b, (t.toList == t'.toList) = b := ⟨_, rfl⟩
                    have HA := Lib.hid ha
                    have HB := Lib.hid hb
                    cases a <;> cases b <;>
                    · go_enter Tryz.func98, Tryz.ntmps98
                      go_wp2_with (go_at_call 99; refine (sign_any _ _ _).mono ?_; rintro e w' ⟨rfl, rfl⟩)
                      go_ret
                      exact ⟨by rw [HG2.out, cmpT, HA.out, HB.out]; rfl, HB2.out _ _⟩
        · have g1 : (k == k') = false := by simpa using hkk
          have g2 : (k != k') = true := by simpa using hkk
          by_cases h1 : k < k'
          · have HG2 : Hid (ordG (.mk k b i t.toList l) (.mk k' b' i' t'.toList l') = -1) := Lib.hid (by rw [HG.out, show cmpI k k' = -1 by rw [cmpI, if_pos h1]]; rfl)
            clear hkk HG
            go_enter Tryz.func98, Tryz.ntmps98
            go_wp2_with (go_at_call 99; refine (sign_any _ _ _).mono ?_; rintro e w' ⟨rfl, rfl⟩)
            go_ret
            exact ⟨by rw [HG2.out]; rfl, HB2.out _ _⟩
          · have HG2 : Hid (ordG (.mk k b i t.toList l) (.mk k' b' i' t'.toList l') = 1) := Lib.hid (by rw [HG.out, show cmpI k k' = 1 by rw [cmpI, if_neg h1, if_pos (by omega)]]; rfl)
            clear hkk HG
            go_enter Tryz.func98, Tryz.ntmps98
            go_wp2_with (go_at_call 99; refine (sign_any _ _ _).mono ?_; rintro e w' ⟨rfl, rfl⟩)
            go_ret
            exact ⟨by rw [HG2.out]; rfl, HB2.out _ _⟩
end Go.Proofs.YthbabhnbiilimaaGreatDoor
