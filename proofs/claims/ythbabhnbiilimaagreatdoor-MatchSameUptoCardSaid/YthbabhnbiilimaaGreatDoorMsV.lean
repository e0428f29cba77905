/- Values: the same; by the program and by the document's own answer. What was there stays. -/
import Derived.Test.YthbabhnbiilimaaGreatDoorMsW
import Derived.StillTailTactics
import Derived.Deep.Cut
namespace Go.Proofs.YthbabhnbiilimaaGreatDoor
open Go.RowKit

/-- What a function of two values tells, whatever lies where. -/
def SameB (f : Nat) (a : GV) : Prop := ∀ (w : World) (b : GV) (ca cb : List Value), RdV w.heap ca a → RdV w.heap cb b →
  Calls Tryz.prog f #[.agg ca.toArray, .agg cb.toArray] w fun e w' => e = .returned (.bool (sameG a b)) ∧ Below w.heap.size w w'
def OrdB (f : Nat) (a : GV) : Prop := ∀ (w : World) (b : GV) (ca cb : List Value), RdV w.heap ca a → RdV w.heap cb b →
  Calls Tryz.prog f #[.agg ca.toArray, .agg cb.toArray] w fun e w' => e = .returned (.int .i64 (ordG a b)) ∧ Below w.heap.size w w'
theorem at_get {α : Type} {l : List α} {n k : Nat} (hn : l.length = n) (hk : k < n) : ∃ a, l[k]? = some a := ⟨l[k]'(by omega), List.getElem?_eq_getElem (by omega)⟩
theorem drop_ge {α : Type} {l : List α} {n k : Nat} (hn : l.length = n) (hk : n ≤ k) : l.drop k = [] := List.drop_eq_nil_of_le (by omega)
theorem below_slice {w w' : World} (hb : Below w.heap.size w w') {sa : Value} {n m : Nat} {xs : List Value} (hs : SliceAt w.heap sa n m xs) : SliceAt w'.heap sa n m xs := hs.frame (fun g hg => hb.block g hg)
theorem below_val {w w' : World} (hb : Below w.heap.size w w') {c : List Value} {v : GV} (r : RdV w.heap c v) : RdV w'.heap c v := RdV.frame (fun g hg => hb.block g hg) v c r
theorem below_vals {w w' : World} (hb : Below w.heap.size w w') {xs : List Value} {l : List GV} (hl : RdRow (RdV w.heap) xs l) : RdRow (RdV w'.heap) xs l := hl.imp (fun _ _ r => below_val hb r)
theorem below_elems {w w' : World} (hb : Below w.heap.size w w') {xs : List Value} {l : List EV} (hl : RdRow (RdE w.heap) xs l) : RdRow (RdE w'.heap) xs l := hl.imp (fun _ _ r => r.frame (fun g hg => hb.block g hg))
theorem below_ms {w w' : World} (hb : Below w.heap.size w w') {xs : List Value} {l : List MV} (hl : RdRow (RdM w.heap) xs l) : RdRow (RdM w'.heap) xs l := hl.imp (fun _ _ r => r.frame (fun g hg => hb.block g hg))
theorem bon {w a b : World} (h : Below w.heap.size w a) (k : Below a.heap.size a b) : Below w.heap.size w b := h.trans (k.mono h.size)
theorem below_new (w : World) (o : Obj) : Below w.heap.size w (w.alloc o) := (Below.refl _ _).alloc (Nat.le_refl _) _
theorem below_new2 (w : World) (o o' : Obj) : Below w.heap.size w ((w.alloc o).alloc o') := (below_new w o).alloc (by simp) _
theorem below_drewN (w : World) (q : Nat) : Below w.heap.size w (w.drewN q) := ⟨rfl, rfl, rfl, Nat.le_refl _, fun _ _ => rfl⟩
theorem below_drew (w : World) : Below w.heap.size w w.drew := (Below.refl _ _).drew
theorem cell_lt {w : World} {g o : Nat} {v : Value} (h : w.cell? ⟨g, o, none⟩ = some v) : g < w.heap.size := by
  obtain ⟨cs, T, mk, _, hb⟩ := addr_none' h
  rcases Nat.lt_or_ge g w.heap.size with h' | h'
  · exact h'
  · rw [Array.getElem?_eq_none h'] at hb; cases hb
theorem new_at (w : World) (o : Obj) : (w.alloc o).heap[w.heap.size]? = some o := heap_alloc_new w o
/-- A new box that is filled. -/
structure Boxed (w W : World) (t : TypeId) (cs : Array Value) : Prop where
  below : Below w.heap.size w W
  size : W.heap.size = w.heap.size + 1
  at_ : W.heap[w.heap.size]? = some (.cells cs t (0,0))
theorem boxed (w : World) (t : TypeId) (cs : Array Value) : Boxed w (w.alloc (.cells cs t)) t cs := ⟨below_new w _, by simp, new_at w _⟩
theorem Boxed.cell {w W : World} {t : TypeId} {cs : Array Value} (h : Boxed w W t cs) (j : Nat) : W.cell? ⟨w.heap.size, j, none⟩ = cs[j]? := by simp [World.cell?, h.at_]
theorem frozen_new (w : World) (cs : Array Value) (t : TypeId) (j : Nat) : (w.alloc (.cells cs t)).frozen? ⟨w.heap.size, j, none⟩ = false := by unfold World.frozen?; rw [show (⟨w.heap.size, j, none⟩ : Addr).block = w.heap.size from rfl, new_at]; simp
theorem cell_new (w : World) (cs : Array Value) (t : TypeId) (j : Nat) : (w.alloc (.cells cs t)).cell? ⟨w.heap.size, j, none⟩ = cs[j]? := by unfold World.cell?; rw [show (⟨w.heap.size, j, none⟩ : Addr).block = w.heap.size from rfl, new_at]; simp

set_option maxHeartbeats 6400000 in
set_option maxRecDepth 100000 in
/-- slices.EqualFunc over values, by value.Same. -/
theorem eqf_vals {w : World} {sa sb : Value} {l m : List GV} {xs ys : List Value} (ih : ∀ a ∈ l, SameB 20 a)
    (hs : SliceAt w.heap sa l.length (l.length * 5) xs) (hl : RdRow (RdV w.heap) xs l) (hs2 : SliceAt w.heap sb m.length (m.length * 5) ys) (hl2 : RdRow (RdV w.heap) ys m) :
    Calls Tryz.prog 19 #[sa, sb, .func (.func 20) #[] #[]] w fun e w' => e = .returned (.bool (allB sameG l m)) ∧ Below w.heap.size w w' := by
  obtain ⟨ao, ca, rfl, hca, hmax⟩ := hs.shape
  obtain ⟨bo, cb, rfl, hcb, hmax2⟩ := hs2.shape
  by_cases hn : l.length = m.length
  · obtain ⟨n, hln⟩ : ∃ n, l.length = n := ⟨_, rfl⟩
    have hmn : m.length = n := by omega
    have HS := Lib.hid hs
    have HL := Lib.hid hl
    have HS2 := Lib.hid hs2
    have HL2 := Lib.hid hl2
    have HLN := Lib.hid hln
    have HMN := Lib.hid hmn
    have IH := Lib.hid ih
    rw [hln, hmn]
    rw [hln] at hca hmax
    rw [hmn] at hcb
    clear hs hl hs2 hl2 hn hln hmn hmax2 ih
    go_enter Tryz.func19, Tryz.ntmps19
    go_wp2_with fail
    go_loopw [17] (fun i wr => ∃ k : Nat, k ≤ n ∧ i = .int .i64 k ∧ Hid (Below w.heap.size w wr) ∧ Hid (allB sameG l m = allB sameG (l.drop k) (m.drop k))) (fun i _ => n - (intOf i).toNat)
    case atStart => exact ⟨0, Nat.zero_le _, rfl, Lib.hid (Below.refl _ _), Lib.hid rfl⟩
    case round =>
      obtain ⟨k, hk, rfl, HBL, HE⟩ := hrel
      by_cases hlt : k < n
      · have hltm := hlt
        obtain ⟨a, ha⟩ := at_get HLN.out hlt
        obtain ⟨b, hb⟩ := at_get HMN.out hltm
        have hsr := below_slice HBL.out HS.out
        have hlr := below_vals HBL.out HL.out
        have hs2r := below_slice HBL.out HS2.out
        have hl2r := below_vals HBL.out HL2.out
        obtain ⟨g1, o1, p1, kd1, b1, i1, t1, s1, ys1, l1, e1, hc1, ea, ht1, hs1, hr1, c10, c11, c12, c13, c14⟩ := cells5 hsr hlr ha
        obtain ⟨g2, o2, p2, kd2, b2, i2, t2, s2, ys2, l2, e2, hc2, eb, ht2, hs2, hr2, c20, c21, c22, c23, c24⟩ := cells5 hs2r hl2r hb
        injection e1 with e11 _ e12
        injection e2 with e21 _ e22
        subst e11 e12 e21 e22
        have RA : Hid (RdV wr.heap [.int .i64 kd1, .bool b1, .int .i64 i1, .string t1, s1] a) := Lib.hid (by rw [ea]; exact .mk _ _ _ _ _ _ _ ht1 hs1 hr1.vs)
        have RB : Hid (RdV wr.heap [.int .i64 kd2, .bool b2, .int .i64 i2, .string t2, s2] b) := Lib.hid (by rw [eb]; exact .mk _ _ _ _ _ _ _ ht2 hs2 hr2.vs)
        have hmem := List.mem_of_getElem? ha
        have HIH := Lib.hid (IH.out a hmem)
        obtain ⟨q1, w1, rfl, _, _⟩ := hs1.shape
        obtain ⟨q2, w2, rfl, _, _⟩ := hs2.shape
        have GL := Lib.hid (cell_lt c20)
        clear hmem hsr hlr hs2r hl2r ea eb ht1 hs1 hr1 ht2 hs2 hr2
        obtain ⟨r, hr⟩ : ∃ r, sameG a b = r := ⟨_, rfl⟩
        have HR := Lib.hid hr
        have HA := Lib.hid ha
        have HB := Lib.hid hb
        clear hr ha hb
        have hfz1 : ∀ j, (wr.alloc (.cells #[.int .i64 0, .bool false, .int .i64 0, .string ⟨#[]⟩, .slice none 0 0] 59)).frozen? ⟨wr.heap.size, j, none⟩ = false := fun j => frozen_new _ _ _ j
        go_upto_region 6 with fail
        clear hfz1
        obtain ⟨W1, hW1, HX1⟩ : ∃ W1, wr.alloc (.cells #[.int .i64 kd1, .bool b1, .int .i64 i1, .string t1, .slice q1 l1.length w1] 59) = W1 ∧ Hid (Boxed wr W1 59 #[.int .i64 kd1, .bool b1, .int .i64 i1, .string t1, .slice q1 l1.length w1]) := ⟨_, rfl, Lib.hid (boxed _ _ _)⟩
        rw [hW1]
        clear hW1
        have d20 := ((HX1.out.below.cell (p := ⟨g2, o2 + k * 5, none⟩) GL.out).trans c20)
        have d21 := ((HX1.out.below.cell (p := ⟨g2, o2 + k * 5 + 1, none⟩) GL.out).trans c21)
        have d22 := ((HX1.out.below.cell (p := ⟨g2, o2 + k * 5 + 2, none⟩) GL.out).trans c22)
        have d23 := ((HX1.out.below.cell (p := ⟨g2, o2 + k * 5 + 3, none⟩) GL.out).trans c23)
        have d24 := ((HX1.out.below.cell (p := ⟨g2, o2 + k * 5 + 4, none⟩) GL.out).trans c24)
        clear c10 c20
        clear c11 c21
        clear c12 c22
        clear c13 c23
        clear c14 c24
        have hfz2 : ∀ j, (W1.alloc (.cells #[.int .i64 0, .bool false, .int .i64 0, .string ⟨#[]⟩, .slice none 0 0] 59)).frozen? ⟨W1.heap.size, j, none⟩ = false := fun j => frozen_new _ _ _ j
        go_upto_region 7 with fail
        clear hfz2
        obtain ⟨W2, hW2, HX2⟩ : ∃ W2, W1.alloc (.cells #[.int .i64 kd2, .bool b2, .int .i64 i2, .string t2, .slice q2 l2.length w2] 59) = W2 ∧ Hid (Boxed W1 W2 59 #[.int .i64 kd2, .bool b2, .int .i64 i2, .string t2, .slice q2 l2.length w2]) := ⟨_, rfl, Lib.hid (boxed _ _ _)⟩
        rw [hW2]
        clear hW2
        have x10 := ((HX2.out.below.cell (p := ⟨wr.heap.size, 0, none⟩) (by rw [HX1.out.size]; exact Nat.lt_succ_self _)).trans (HX1.out.cell 0))
        have x20 := HX2.out.cell 0
        have x11 := ((HX2.out.below.cell (p := ⟨wr.heap.size, 1, none⟩) (by rw [HX1.out.size]; exact Nat.lt_succ_self _)).trans (HX1.out.cell 1))
        have x21 := HX2.out.cell 1
        have x12 := ((HX2.out.below.cell (p := ⟨wr.heap.size, 2, none⟩) (by rw [HX1.out.size]; exact Nat.lt_succ_self _)).trans (HX1.out.cell 2))
        have x22 := HX2.out.cell 2
        have x13 := ((HX2.out.below.cell (p := ⟨wr.heap.size, 3, none⟩) (by rw [HX1.out.size]; exact Nat.lt_succ_self _)).trans (HX1.out.cell 3))
        have x23 := HX2.out.cell 3
        have x14 := ((HX2.out.below.cell (p := ⟨wr.heap.size, 4, none⟩) (by rw [HX1.out.size]; exact Nat.lt_succ_self _)).trans (HX1.out.cell 4))
        have x24 := HX2.out.cell 4
        simp only [List.getElem?_toArray, List.getElem?_cons_zero, List.getElem?_cons_succ] at x10 x20 x11 x21 x12 x22 x13 x23 x14 x24
        clear d20
        clear d21
        clear d22
        clear d23
        clear d24
        cases r with
        | true =>
          go_wp2_with (go_at_call 20; refine (HIH.out _ _ _ _ (below_val HX2.out.below (below_val HX1.out.below RA.out)) (below_val HX2.out.below (below_val HX1.out.below RB.out))).mono ?_; rintro e w3 ⟨rfl, hb3⟩; rw [HR.out]; have HX3 := Lib.hid hb3; clear hb3)
          go_roundw
          case rel => exact ⟨k + 1, by omega, by go_num, Lib.hid (bon (bon (bon HBL.out HX1.out.below) HX2.out.below) HX3.out), Lib.hid (by rw [HE.out, allB_step HA.out HB.out, HR.out, Bool.true_and])⟩
          case measure => simp [intOf]; omega
        | false =>
          go_wp2_with (go_at_call 20; refine (HIH.out _ _ _ _ (below_val HX2.out.below (below_val HX1.out.below RA.out)) (below_val HX2.out.below (below_val HX1.out.below RB.out))).mono ?_; rintro e w3 ⟨rfl, hb3⟩; rw [HR.out]; have HX3 := Lib.hid hb3; clear hb3)
          go_ret
          exact ⟨by rw [HE.out, allB_step HA.out HB.out, HR.out, Bool.false_and] <;> rfl, (bon (bon (bon HBL.out HX1.out.below) HX2.out.below) HX3.out)⟩
      · obtain rfl : k = n := by omega
        go_wp2_with fail
        go_ret
        exact ⟨by rw [HE.out, drop_ge HLN.out (Nat.le_refl _), drop_ge HMN.out (Nat.le_refl _)]; rfl, HBL.out⟩
  · have hli : (l.length : Int) ≠ (m.length : Int) := by omega
    have t1 : ((l.length : Int) == (m.length : Int)) = false := by simpa only [beq_eq_false_iff_ne] using hli
    have t2 : ((l.length : Int) != (m.length : Int)) = true := by simpa only [bne_iff_ne] using hli
    have HN := Lib.hid (allB_len (f := sameG) hn)
    clear hs hl hs2 hl2 hn hli ih
    go_enter Tryz.func19, Tryz.ntmps19
    go_wp2_with fail
    go_ret
    exact ⟨by rw [HN.out] <;> rfl, Below.refl _ _⟩

set_option maxHeartbeats 6400000 in
set_option maxRecDepth 100000 in
/-- value.Same. -/
theorem same_any : ∀ a, SameB 20 a := by
  intro a
  induction a using GV.ind with
  | h k b i t0 l ih =>
    intro w v ca cb ha hb
    cases ha with
    | mk _ _ _ t s xs _ ht hs hl =>
      cases hb with
      | mk k' b' i' t' s' xs' l' ht' hs' hl' =>
        have HB2 : Hid (∀ o o', Below w.heap.size w ((w.alloc o).alloc o')) := Lib.hid (below_new2 w)
        have HC : Hid (∀ w', Below w.heap.size w w' → Calls Tryz.prog 19 #[s, s', .func (.func 20) #[] #[]] w' fun e w2 => e = .returned (.bool (allB sameG l l')) ∧ Below w'.heap.size w' w2) := Lib.hid (fun w' hb => eqf_vals ih (below_slice hb hs) (below_vals hb hl.row) (below_slice hb hs') (below_vals hb hl'.row))
        obtain ⟨ao, c1, rfl, _, _⟩ := hs.shape
        obtain ⟨bo, c2, rfl, _, _⟩ := hs'.shape
        have HG : Hid (sameG (.mk k b i t.toList l) (.mk k' b' i' t'.toList l') = ((((k == k' && b == b') && i == i') && t.toList == t'.toList) && allB sameG l l')) := Lib.hid (by rw [sameG, samesG_all])
        clear ih ht hs hl ht' hs' hl'
        by_cases e1 : k = k'
        · by_cases e2 : b = b'
          · by_cases e3 : i = i'
            · by_cases e4 : t.toList = t'.toList
              · have f1 : (k == k') = true := by simpa using e1
                have f2 : (b == b') = true := by simpa using e2
                have f3 : (i == i') = true := by simpa using e3
                have f4 : (t.toList == t'.toList) = true := by simpa using e4
                have HG2 : Hid (sameG (.mk k b i t.toList l) (.mk k' b' i' t'.toList l') = allB sameG l l') := Lib.hid (by rw [HG.out, f1, f2, f3, f4]; simp)
                clear e1 e2 e3 e4
                go_enter Tryz.func20, Tryz.ntmps20
                go_wp2_with fail
                refine (HC.out _ (HB2.out _ _)).mono ?_
                rintro e w1 ⟨rfl, hb1⟩
                have HX := Lib.hid (bon (HB2.out _ _) hb1)
                clear hb1
                go_wp2_with fail
                go_ret
                exact ⟨by rw [HG2.out] <;> rfl, HX.out⟩
              · have f1 : (k == k') = true := by simpa using e1
                have f2 : (b == b') = true := by simpa using e2
                have f3 : (i == i') = true := by simpa using e3
                have f4 : (t.toList == t'.toList) = false := by simpa using e4
                have HG2 : Hid (sameG (.mk k b i t.toList l) (.mk k' b' i' t'.toList l') = false) := Lib.hid (by rw [HG.out, f4]; simp)
                clear e1 e2 e3 e4
                go_enter Tryz.func20, Tryz.ntmps20
                go_wp2_with fail
                go_ret
                exact ⟨by rw [HG2.out] <;> rfl, HB2.out _ _⟩
            · have f1 : (k == k') = true := by simpa using e1
              have f2 : (b == b') = true := by simpa using e2
              have f3 : (i == i') = false := by simpa using e3
              have HG2 : Hid (sameG (.mk k b i t.toList l) (.mk k' b' i' t'.toList l') = false) := Lib.hid (by rw [HG.out, f3]; simp)
              clear e1 e2 e3
              go_enter Tryz.func20, Tryz.ntmps20
              go_wp2_with fail
              go_ret
              exact ⟨by rw [HG2.out] <;> rfl, HB2.out _ _⟩
          · have f1 : (k == k') = true := by simpa using e1
            have f2 : (b == b') = false := by simpa using e2
            have HG2 : Hid (sameG (.mk k b i t.toList l) (.mk k' b' i' t'.toList l') = false) := Lib.hid (by rw [HG.out, f2]; simp)
            clear e1 e2
            go_enter Tryz.func20, Tryz.ntmps20
            go_wp2_with fail
            go_ret
            exact ⟨by rw [HG2.out] <;> rfl, HB2.out _ _⟩
        · have f1 : (k == k') = false := by simpa using e1
          have HG2 : Hid (sameG (.mk k b i t.toList l) (.mk k' b' i' t'.toList l') = false) := Lib.hid (by rw [HG.out, f1]; simp)
          clear e1
          go_enter Tryz.func20, Tryz.ntmps20
          go_wp2_with fail
          go_ret
          exact ⟨by rw [HG2.out] <;> rfl, HB2.out _ _⟩

set_option maxHeartbeats 6400000 in
set_option maxRecDepth 100000 in
/-- proctorref0.EqVals. -/
theorem eqvals {w : World} {sa sb : Value} {l m : List GV} {xs ys : List Value} (ih : ∀ a ∈ l, SameB 97 a)
    (hs : SliceAt w.heap sa l.length (l.length * 5) xs) (hl : RdRow (RdV w.heap) xs l) (hs2 : SliceAt w.heap sb m.length (m.length * 5) ys) (hl2 : RdRow (RdV w.heap) ys m) :
    Calls Tryz.prog 47 #[sa, sb] w fun e w' => e = .returned (.bool (allB sameG l m)) ∧ Below w.heap.size w w' := by
  obtain ⟨ao, ca, rfl, hca, hmax⟩ := hs.shape
  obtain ⟨bo, cb, rfl, hcb, hmax2⟩ := hs2.shape
  by_cases hn : l.length = m.length
  · obtain ⟨n, hln⟩ : ∃ n, l.length = n := ⟨_, rfl⟩
    have hmn : m.length = n := by omega
    have HS := Lib.hid hs
    have HL := Lib.hid hl
    have HS2 := Lib.hid hs2
    have HL2 := Lib.hid hl2
    have HLN := Lib.hid hln
    have HMN := Lib.hid hmn
    have IH := Lib.hid ih
    rw [hln, hmn]
    rw [hln] at hca hmax
    rw [hmn] at hcb
    clear hs hl hs2 hl2 hn hln hmn hmax2 ih
    go_enter Tryz.func47, Tryz.ntmps47
    go_wp2_with fail
    go_loopw [5] (fun i wr => ∃ k : Nat, k ≤ n ∧ i = .int .i64 k ∧ Hid (Below w.heap.size w wr) ∧ Hid (allB sameG l m = allB sameG (l.drop k) (m.drop k))) (fun i _ => n - (intOf i).toNat)
    case atStart => exact ⟨0, Nat.zero_le _, rfl, Lib.hid (Below.refl _ _), Lib.hid rfl⟩
    case round =>
      obtain ⟨k, hk, rfl, HBL, HE⟩ := hrel
      by_cases hlt : k < n
      · have hltm := hlt
        obtain ⟨a, ha⟩ := at_get HLN.out hlt
        obtain ⟨b, hb⟩ := at_get HMN.out hltm
        have hsr := below_slice HBL.out HS.out
        have hlr := below_vals HBL.out HL.out
        have hs2r := below_slice HBL.out HS2.out
        have hl2r := below_vals HBL.out HL2.out
        obtain ⟨g1, o1, p1, kd1, b1, i1, t1, s1, ys1, l1, e1, hc1, ea, ht1, hs1, hr1, c10, c11, c12, c13, c14⟩ := cells5 hsr hlr ha
        obtain ⟨g2, o2, p2, kd2, b2, i2, t2, s2, ys2, l2, e2, hc2, eb, ht2, hs2, hr2, c20, c21, c22, c23, c24⟩ := cells5 hs2r hl2r hb
        injection e1 with e11 _ e12
        injection e2 with e21 _ e22
        subst e11 e12 e21 e22
        have RA : Hid (RdV wr.heap [.int .i64 kd1, .bool b1, .int .i64 i1, .string t1, s1] a) := Lib.hid (by rw [ea]; exact .mk _ _ _ _ _ _ _ ht1 hs1 hr1.vs)
        have RB : Hid (RdV wr.heap [.int .i64 kd2, .bool b2, .int .i64 i2, .string t2, s2] b) := Lib.hid (by rw [eb]; exact .mk _ _ _ _ _ _ _ ht2 hs2 hr2.vs)
        have hmem := List.mem_of_getElem? ha
        have HIH := Lib.hid (IH.out a hmem)
        obtain ⟨q1, w1, rfl, _, _⟩ := hs1.shape
        obtain ⟨q2, w2, rfl, _, _⟩ := hs2.shape
        have GL := Lib.hid (cell_lt c20)
        clear hmem hsr hlr hs2r hl2r ea eb ht1 hs1 hr1 ht2 hs2 hr2
        obtain ⟨r, hr⟩ : ∃ r, sameG a b = r := ⟨_, rfl⟩
        have HR := Lib.hid hr
        have HA := Lib.hid ha
        have HB := Lib.hid hb
        clear hr ha hb
        cases r with
        | true =>
          go_wp2_with fail
          go_still_tail 8, (by kernel_rfl)
          change wpList _ _ _ _ _ wr.drew
          go_wp2_with (go_at_call 97; refine (HIH.out _ _ _ _ (below_val (below_drew _) RA.out) (below_val (below_drew _) RB.out)).mono ?_; rintro e w3 ⟨rfl, hb3⟩; rw [HR.out]; have HX3 := Lib.hid hb3; clear hb3)
          go_roundw
          case rel => exact ⟨k + 1, by omega, by go_num, Lib.hid (bon (bon HBL.out (below_drew _)) HX3.out), Lib.hid (by rw [HE.out, allB_step HA.out HB.out, HR.out, Bool.true_and])⟩
          case measure => simp [intOf]; omega
        | false =>
          go_wp2_with fail
          go_still_tail 8, (by kernel_rfl)
          change wpList _ _ _ _ _ wr.drew
          go_wp2_with (go_at_call 97; refine (HIH.out _ _ _ _ (below_val (below_drew _) RA.out) (below_val (below_drew _) RB.out)).mono ?_; rintro e w3 ⟨rfl, hb3⟩; rw [HR.out]; have HX3 := Lib.hid hb3; clear hb3)
          go_ret
          exact ⟨by rw [HE.out, allB_step HA.out HB.out, HR.out, Bool.false_and] <;> rfl, (bon (bon HBL.out (below_drew _)) HX3.out)⟩
      · obtain rfl : k = n := by omega
        go_wp2_with fail
        go_ret
        exact ⟨by rw [HE.out, drop_ge HLN.out (Nat.le_refl _), drop_ge HMN.out (Nat.le_refl _)]; rfl, HBL.out⟩
  · have hli : (l.length : Int) ≠ (m.length : Int) := by omega
    have t1 : ((l.length : Int) == (m.length : Int)) = false := by simpa only [beq_eq_false_iff_ne] using hli
    have t2 : ((l.length : Int) != (m.length : Int)) = true := by simpa only [bne_iff_ne] using hli
    have HN := Lib.hid (allB_len (f := sameG) hn)
    clear hs hl hs2 hl2 hn hli ih
    go_enter Tryz.func47, Tryz.ntmps47
    go_wp2_with fail
    go_ret
    exact ⟨by rw [HN.out] <;> rfl, Below.refl _ _⟩

set_option maxHeartbeats 6400000 in
set_option maxRecDepth 100000 in
/-- proctorref0.Same. -/
theorem zsame_any : ∀ a, SameB 97 a := by
  intro a
  induction a using GV.ind with
  | h k b i t0 l ih =>
    intro w v ca cb ha hb
    cases ha with
    | mk _ _ _ t s xs _ ht hs hl =>
      cases hb with
      | mk k' b' i' t' s' xs' l' ht' hs' hl' =>
        have HB2 : Hid (∀ o o', Below w.heap.size w ((w.alloc o).alloc o')) := Lib.hid (below_new2 w)
        have HC : Hid (∀ w', Below w.heap.size w w' → Calls Tryz.prog 47 #[s, s'] w' fun e w2 => e = .returned (.bool (allB sameG l l')) ∧ Below w'.heap.size w' w2) := Lib.hid (fun w' hb => eqvals ih (below_slice hb hs) (below_vals hb hl.row) (below_slice hb hs') (below_vals hb hl'.row))
        obtain ⟨ao, c1, rfl, _, _⟩ := hs.shape
        obtain ⟨bo, c2, rfl, _, _⟩ := hs'.shape
        have HG : Hid (sameG (.mk k b i t.toList l) (.mk k' b' i' t'.toList l') = ((((k == k' && b == b') && i == i') && t.toList == t'.toList) && allB sameG l l')) := Lib.hid (by rw [sameG, samesG_all])
        clear ih ht hs hl ht' hs' hl'
        by_cases e1 : k = k'
        · by_cases e2 : b = b'
          · by_cases e3 : i = i'
            · by_cases e4 : t.toList = t'.toList
              · have f1 : (k == k') = true := by simpa using e1
                have f2 : (b == b') = true := by simpa using e2
                have f3 : (i == i') = true := by simpa using e3
                have f4 : (t.toList == t'.toList) = true := by simpa using e4
                have HG2 : Hid (sameG (.mk k b i t.toList l) (.mk k' b' i' t'.toList l') = allB sameG l l') := Lib.hid (by rw [HG.out, f1, f2, f3, f4]; simp)
                clear e1 e2 e3 e4
                go_enter Tryz.func97, Tryz.ntmps97
                go_wp2_with fail
                refine (HC.out _ (HB2.out _ _)).mono ?_
                rintro e w1 ⟨rfl, hb1⟩
                have HX := Lib.hid (bon (HB2.out _ _) hb1)
                clear hb1
                go_wp2_with fail
                go_ret
                exact ⟨by rw [HG2.out] <;> rfl, HX.out⟩
              · have f1 : (k == k') = true := by simpa using e1
                have f2 : (b == b') = true := by simpa using e2
                have f3 : (i == i') = true := by simpa using e3
                have f4 : (t.toList == t'.toList) = false := by simpa using e4
                have HG2 : Hid (sameG (.mk k b i t.toList l) (.mk k' b' i' t'.toList l') = false) := Lib.hid (by rw [HG.out, f4]; simp)
                clear e1 e2 e3 e4
                go_enter Tryz.func97, Tryz.ntmps97
                go_wp2_with fail
                go_ret
                exact ⟨by rw [HG2.out] <;> rfl, HB2.out _ _⟩
            · have f1 : (k == k') = true := by simpa using e1
              have f2 : (b == b') = true := by simpa using e2
              have f3 : (i == i') = false := by simpa using e3
              have HG2 : Hid (sameG (.mk k b i t.toList l) (.mk k' b' i' t'.toList l') = false) := Lib.hid (by rw [HG.out, f3]; simp)
              clear e1 e2 e3
              go_enter Tryz.func97, Tryz.ntmps97
              go_wp2_with fail
              go_ret
              exact ⟨by rw [HG2.out] <;> rfl, HB2.out _ _⟩
          · have f1 : (k == k') = true := by simpa using e1
            have f2 : (b == b') = false := by simpa using e2
            have HG2 : Hid (sameG (.mk k b i t.toList l) (.mk k' b' i' t'.toList l') = false) := Lib.hid (by rw [HG.out, f2]; simp)
            clear e1 e2
            go_enter Tryz.func97, Tryz.ntmps97
            go_wp2_with fail
            go_ret
            exact ⟨by rw [HG2.out] <;> rfl, HB2.out _ _⟩
        · have f1 : (k == k') = false := by simpa using e1
          have HG2 : Hid (sameG (.mk k b i t.toList l) (.mk k' b' i' t'.toList l') = false) := Lib.hid (by rw [HG.out, f1]; simp)
          clear e1
          go_enter Tryz.func97, Tryz.ntmps97
          go_wp2_with fail
          go_ret
          exact ⟨by rw [HG2.out] <;> rfl, HB2.out _ _⟩
end Go.Proofs.YthbabhnbiilimaaGreatDoor
