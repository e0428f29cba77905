/- MatchSame: the walk. The fact on wakes stands ahead of it. -/
import Derived.Test.YthbabhnbiilimaaGreatDoorMsS
import Derived.Deep.DeepCutAuto
import Derived.Deep.CutBlock
namespace Go.Proofs.YthbabhnbiilimaaGreatDoor
open Go.RowKit

theorem some_block {h : Array Obj} {ao : Option Addr} {n cp n' m : Nat} {xs : List Value} (hs : SliceAt h (.slice ao n cp) n' m xs) (hn : n' ≠ 0) : ∃ g o, ao = some ⟨g, o, none⟩ := by
  obtain ⟨_, _, ao', cap, e, _, h3 | ⟨g, off, _, _, _, rfl, _⟩⟩ := hs
  · exact absurd h3 hn
  · injection e with e1 _ _
    exact ⟨g, off, e1⟩
def RowM (w : World) (s : Value) (l : List MV) : Prop := ∃ xs, SliceAt w.heap s l.length (l.length * 3) xs ∧ RdRow (RdM w.heap) xs l
set_option maxHeartbeats 6400000 in
set_option maxRecDepth 100000 in
theorem law_walk {w : World} {s : Value} {l : List MV} (hr : RowM w s l) (HW : ∀ w', Below w.heap.size w w' → Calls Tryz.prog 5 #[] w' fun e w2 => e = .returned (.bool true) ∧ Below w'.heap.size w' w2) :
    Calls Tryz.prog 3 #[.agg #[s]] w fun e w' => e = .returned (.bool true) ∧ Below w.heap.size w w' := by
  have HWK := Lib.hid HW
  clear HW
  obtain ⟨xs, hs, hl⟩ := hr
  obtain ⟨ao, cp, rfl, hcp, hmax⟩ := hs.shape
  obtain ⟨n, hln⟩ : ∃ n, l.length = n := ⟨_, rfl⟩
  have R1 := Lib.hid hs
  have R2 := Lib.hid hl
  have HLN := Lib.hid hln
  rw [hln]
  rw [hln] at hcp hmax
  clear hs hl hln
  go_enter Tryz.func3, Tryz.ntmps3
  go_upto_region 1 with fail
  obtain ⟨W, hW, HX0⟩ : ∃ W, w.alloc (.cells #[.slice ao n cp] 24) = W ∧ Hid (Boxed w W 24 #[.slice ao n cp]) := ⟨_, rfl, Lib.hid (boxed _ _ _)⟩
  rw [hW]
  clear hW
  have HS := Lib.hid (below_slice HX0.out.below R1.out)
  have HL := Lib.hid (below_ms HX0.out.below R2.out)
  have HX : Hid (W.cell? ⟨w.heap.size, 0, none⟩ = some (.slice ao n cp)) := Lib.hid ((HX0.out.cell 0).trans rfl)
  have HO0 : Hid (w.heap.size < W.heap.size) := Lib.hid (by rw [HX0.out.size]; exact Nat.lt_succ_self _)
  have HBW := Lib.hid HX0.out.below
  clear R1 R2 HX0
  go_upto_block 0 with fail
  go_cut [3] (fun nv wx => ∃ z : Int, nv = .int .i64 z ∧ Hid (Below W.heap.size W wx))
  case first => as_aux_lemma =>
    go_wp2_with fail
    go_loopw [3, 4] (fun nv i wr => ∃ (k : Nat) (z : Int), k ≤ n ∧ k ≤ 12 ∧ i = .int .i64 k ∧ nv = .int .i64 z ∧ Hid (Below W.heap.size W wr)) (fun _ i _ => 12 - (intOf i).toNat)
    case atStart => exact ⟨0, 0, Nat.zero_le _, Nat.zero_le _, rfl, rfl, Lib.hid (Below.refl _ _)⟩
    case round =>
      obtain ⟨k, z, hk, hk12, rfl, rfl, HBL⟩ := hrel
      rename World => wo
      have y : wo.cell? ⟨w.heap.size, 0, none⟩ = some (.slice ao n cp) := (HBL.out.cell (p := ⟨w.heap.size, 0, none⟩) HO0.out).trans HX.out
      by_cases hka : k < n
      · by_cases hkc : k < 12
        · obtain ⟨g, o, rfl⟩ := some_block HS.out (by rw [HLN.out]; omega)
          obtain ⟨ma, hma⟩ := at_get HLN.out hka
          obtain ⟨ga, oa, pa, s, env, ys, e1, _, hs1, hr1, a0, a1, a2, ⟨ua, va, za, rfl⟩⟩ := cellsM (below_slice HBL.out HS.out) (below_ms HBL.out HL.out) hma
          injection e1 with e11 _ e12
          injection e11 with e11
          injection e11 with e13 e14 _
          subst e13 e14 e12
          obtain ⟨aa, ea⟩ := ma
          obtain ⟨sa, ca, rfl, _, _⟩ := hs1.shape
          have RA : Hid (RowE wo (.slice sa ea.length ca) ea) := Lib.hid ⟨_, hs1, hr1⟩
          have HOB : Hid (w.heap.size < wo.heap.size) := Lib.hid (Nat.lt_of_lt_of_le HO0.out HBL.out.size)
          have HOG : Hid (g < wo.heap.size) := Lib.hid (cell_lt a0)
          clear hs1 hr1 hma
          go_wp2_with fail
          go_loopw [3, 5] (fun nv j wr => ∃ (q : Nat) (z2 : Int), q ≤ ea.length ∧ j = .int .i64 q ∧ nv = .int .i64 z2 ∧ Hid (Below wo.heap.size wo wr)) (fun _ j _ => ea.length - (intOf j).toNat)
          case atStart => exact ⟨0, _, Nat.zero_le _, rfl, rfl, Lib.hid (Below.refl _ _)⟩
          case round =>
            obtain ⟨q, z2, hq, rfl, rfl, HB2⟩ := hrel
            have y2 : wr.cell? ⟨w.heap.size, 0, none⟩ = some (.slice (some ⟨g, o, none⟩) n cp) := (HB2.out.cell (p := ⟨w.heap.size, 0, none⟩) HOB.out).trans y
            have a12 : wr.cell? ⟨g, o + k * 3 + 1, none⟩ = some (.slice sa ea.length ca) := (HB2.out.cell (p := ⟨g, o + k * 3 + 1, none⟩) HOG.out).trans a1
            by_cases hqa : q < ea.length
            · obtain ⟨v, hv⟩ := at_get (l := ea) rfl hqa
              obtain ⟨zs, hz1, hz2⟩ := RA.out.below HB2.out
              obtain ⟨g1, o1, p1, s1, ys1, e1, _, hs1, hr1, c10, c11, c12⟩ := cells3 hz1 hz2 hv
              injection e1 with e11 _ e12
              subst e11 e12
              have RV : Hid (RowV wr s1 v.vals) := Lib.hid ⟨_, hs1, hr1⟩
              obtain ⟨q1, w1, rfl, _, _⟩ := hs1.shape
              clear hs1 hr1 hv hz1 hz2 c10 c11
              go_wp2_with fail
              refine (size_top RV.out).mono ?_
              rintro e x3 ⟨z3, rfl, hb3⟩
              have HX3 := Lib.hid hb3
              clear hb3
              go_wp2_with fail
              go_roundw
              case rel => exact ⟨q + 1, _, by omega, by go_num, rfl, Lib.hid (bon HB2.out HX3.out)⟩
              case measure => simp [intOf]; omega
            · obtain rfl : q = ea.length := by omega
              go_wp2_with fail
              go_roundw
              case rel => exact ⟨k + 1, _, by omega, by omega, by go_num, rfl, Lib.hid (bon HBL.out HB2.out)⟩
              case measure => simp [intOf]; omega
        · go_wp2_with fail
          go_meet
          exact ⟨_, rfl, HBL.out⟩
      · go_wp2_with fail
        go_meet
        exact ⟨_, rfl, HBL.out⟩
  case rest =>
    obtain ⟨z, rfl, HBZ⟩ := hcut
    by_cases hz : z > 2000
    · go_wp2_with fail
      refine (HWK.out _ (bon HBW.out HBZ.out)).mono ?_
      rintro e w1 ⟨rfl, hb1⟩
      have HX1 := Lib.hid hb1
      clear hb1
      go_wp2_with fail
      go_ret
      exact ⟨rfl, bon (bon HBW.out HBZ.out) HX1.out⟩
    · go_wp2_with fail
      go_loopw [6] (fun i wr => ∃ k : Nat, k ≤ n ∧ k ≤ 12 ∧ i = .int .i64 k ∧ Hid (Below W.heap.size W wr)) (fun i _ => 12 - (intOf i).toNat)
      case atStart => exact ⟨0, Nat.zero_le _, Nat.zero_le _, rfl, HBZ⟩
      case round =>
        obtain ⟨k, hk, hk12, rfl, HBL⟩ := hrel
        rename World => wo
        have yo : wo.cell? ⟨w.heap.size, 0, none⟩ = some (.slice ao n cp) := (HBL.out.cell (p := ⟨w.heap.size, 0, none⟩) HO0.out).trans HX.out
        by_cases hka : k < n
        · by_cases hkc : k < 12
          · obtain ⟨g, o, rfl⟩ := some_block HS.out (by rw [HLN.out]; omega)
            have HOB : Hid (w.heap.size < wo.heap.size) := Lib.hid (Nat.lt_of_lt_of_le HO0.out HBL.out.size)
            go_wp2_with fail
            rw [show decide ((k : Int) < 12) = true from decide_eq_true (by omega)]
            go_loopw [7] (fun j wr => ∃ q : Nat, q ≤ n ∧ q ≤ 12 ∧ j = .int .i64 q ∧ Hid (Below wo.heap.size wo wr)) (fun j _ => 12 - (intOf j).toNat)
            case atStart => exact ⟨0, Nat.zero_le _, Nat.zero_le _, rfl, Lib.hid (Below.refl _ _)⟩
            case round =>
              obtain ⟨q, hq, hq12, rfl, HB2⟩ := hrel
              have HBL2 : Hid (Below W.heap.size W wr) := Lib.hid (bon HBL.out HB2.out)
              have y : wr.cell? ⟨w.heap.size, 0, none⟩ = some (.slice (some ⟨g, o, none⟩) n cp) := (HB2.out.cell (p := ⟨w.heap.size, 0, none⟩) HOB.out).trans yo
              by_cases hkb : q < n
              · by_cases hqc : q < 12
                · obtain ⟨ma, hma⟩ := at_get HLN.out hka
                  obtain ⟨ga, oa, pa, s, env, ys, e1, _, hs1, hr1, a0, a1, a2, ⟨ua, va, za, rfl⟩⟩ := cellsM (below_slice HBL2.out HS.out) (below_ms HBL2.out HL.out) hma
                  injection e1 with e11 _ e12
                  injection e11 with e11
                  injection e11 with e13 e14 _
                  subst e13 e14 e12
                  obtain ⟨aa, ea⟩ := ma
                  obtain ⟨sa, ca, rfl, _, _⟩ := hs1.shape
                  have RA : Hid (RowE wr (.slice sa ea.length ca) ea) := Lib.hid ⟨_, hs1, hr1⟩
                  clear hs1 hr1 hma
                  obtain ⟨mb, hmb⟩ := at_get HLN.out hkb
                  obtain ⟨gb, ob, pb, s, env, ys, e1, _, hs1, hr1, b0, b1, b2, ⟨ub, vb, zb, rfl⟩⟩ := cellsM (below_slice HBL2.out HS.out) (below_ms HBL2.out HL.out) hmb
                  injection e1 with e11 _ e12
                  injection e11 with e11
                  injection e11 with e13 e14 _
                  subst e13 e14 e12
                  obtain ⟨ab, eb⟩ := mb
                  obtain ⟨sb, cb, rfl, _, _⟩ := hs1.shape
                  have RB : Hid (RowE wr (.slice sb eb.length cb) eb) := Lib.hid ⟨_, hs1, hr1⟩
                  clear hs1 hr1 hmb
                  have HO : Hid (w.heap.size < wr.heap.size) := Lib.hid (Nat.lt_of_lt_of_le HOB.out HB2.out.size)
                  have HGL : Hid (g < wr.heap.size) := Lib.hid (cell_lt a0)
                  obtain ⟨r1, h1⟩ : ∃ r, sameM ⟨aa, ea⟩ ⟨ab, eb⟩ = r := ⟨_, rfl⟩
                  obtain ⟨r2, h2⟩ : ∃ r, ordM ⟨aa, ea⟩ ⟨ab, eb⟩ = r := ⟨_, rfl⟩
                  have HC1 : Hid (∀ w', Below wr.heap.size wr w' → Calls Tryz.prog 6 #[.agg #[.int .i64 aa, .slice sa ea.length ca, .slice ua va za], .agg #[.int .i64 ab, .slice sb eb.length cb, .slice ub vb zb]] w' fun e w2 => e = .returned (.bool r1) ∧ Below w'.heap.size w' w2) := Lib.hid (fun w' hb => by have := same_m (a := ⟨aa, ea⟩) (b := ⟨ab, eb⟩) (RA.out.below hb) (RB.out.below hb) ⟨ua, va, za, rfl⟩ ⟨ub, vb, zb, rfl⟩; rw [h1] at this; exact this)
                  have HC2 : Hid (∀ w', Below wr.heap.size wr w' → Calls Tryz.prog 7 #[.agg #[.int .i64 aa, .slice sa ea.length ca, .slice ua va za], .agg #[.int .i64 ab, .slice sb eb.length cb, .slice ub vb zb]] w' fun e w2 => e = .returned (.bool r1) ∧ Below w'.heap.size w' w2) := Lib.hid (fun w' hb => by have := zsame_m (a := ⟨aa, ea⟩) (b := ⟨ab, eb⟩) (RA.out.below hb) (RB.out.below hb) ⟨ua, va, za, rfl⟩ ⟨ub, vb, zb, rfl⟩; rw [h1] at this; exact this)
                  have HC3 : Hid (∀ w', Below wr.heap.size wr w' → Calls Tryz.prog 8 #[.agg #[.int .i64 aa, .slice sa ea.length ca, .slice ua va za], .agg #[.int .i64 ab, .slice sb eb.length cb, .slice ub vb zb]] w' fun e w2 => e = .returned (.int .i64 r2) ∧ Below w'.heap.size w' w2) := Lib.hid (fun w' hb => by have := order_m (a := ⟨aa, ea⟩) (b := ⟨ab, eb⟩) (RA.out.below hb) (RB.out.below hb) ⟨ua, va, za, rfl⟩ ⟨ub, vb, zb, rfl⟩; rw [h2] at this; exact this)
                  have HC4 : Hid (∀ w', Below wr.heap.size wr w' → Calls Tryz.prog 9 #[.agg #[.int .i64 aa, .slice sa ea.length ca, .slice ua va za], .agg #[.int .i64 ab, .slice sb eb.length cb, .slice ub vb zb]] w' fun e w2 => e = .returned (.int .i64 r2) ∧ Below w'.heap.size w' w2) := Lib.hid (fun w' hb => by have := zorder_m (a := ⟨aa, ea⟩) (b := ⟨ab, eb⟩) (RA.out.below hb) (RB.out.below hb) ⟨ua, va, za, rfl⟩ ⟨ub, vb, zb, rfl⟩; rw [h2] at this; exact this)
                  have f1 : (r1 != r1) = false := by simp
                  have f2 : (r2 != r2) = false := by simp
                  clear h1 h2
                  go_wp2_with fail
                  go_region_held3 (fun w' => w'.cell? ⟨w.heap.size, 0, none⟩ = some (.slice (some ⟨g, o, none⟩) n cp) ∧ w'.cell? ⟨g, o + k * 3, none⟩ = some (.int .i64 aa) ∧ w'.cell? ⟨g, o + k * 3 + 1, none⟩ = some (.slice sa ea.length ca) ∧ w'.cell? ⟨g, o + k * 3 + 2, none⟩ = some (.slice ua va za) ∧ w'.cell? ⟨g, o + q * 3, none⟩ = some (.int .i64 ab) ∧ w'.cell? ⟨g, o + q * 3 + 1, none⟩ = some (.slice sb eb.length cb) ∧ w'.cell? ⟨g, o + q * 3 + 2, none⟩ = some (.slice ub vb zb)) (go_keep) (first | (go_at_call 6; refine (HC1.out _ (by exact ⟨rfl, rfl, rfl, Nat.le_refl _, fun _ _ => rfl⟩)).mono ?_; rintro e x1 ⟨rfl, hb1⟩; have hc1 : Below wr.heap.size wr x1 := bon (w := wr) (by exact ⟨rfl, rfl, rfl, Nat.le_refl _, fun _ _ => rfl⟩) hb1; have d1y : x1.cell? ⟨w.heap.size, 0, none⟩ = some (.slice (some ⟨g, o, none⟩) n cp) := (hc1.cell (p := ⟨w.heap.size, 0, none⟩) HO.out).trans y; have d1a0 : x1.cell? ⟨g, o + k * 3, none⟩ = some (.int .i64 aa) := (hc1.cell (p := ⟨g, o + k * 3, none⟩) HGL.out).trans a0; have d1a1 : x1.cell? ⟨g, o + k * 3 + 1, none⟩ = some (.slice sa ea.length ca) := (hc1.cell (p := ⟨g, o + k * 3 + 1, none⟩) HGL.out).trans a1; have d1a2 : x1.cell? ⟨g, o + k * 3 + 2, none⟩ = some (.slice ua va za) := (hc1.cell (p := ⟨g, o + k * 3 + 2, none⟩) HGL.out).trans a2; have d1b0 : x1.cell? ⟨g, o + q * 3, none⟩ = some (.int .i64 ab) := (hc1.cell (p := ⟨g, o + q * 3, none⟩) HGL.out).trans b0; have d1b1 : x1.cell? ⟨g, o + q * 3 + 1, none⟩ = some (.slice sb eb.length cb) := (hc1.cell (p := ⟨g, o + q * 3 + 1, none⟩) HGL.out).trans b1; have d1b2 : x1.cell? ⟨g, o + q * 3 + 2, none⟩ = some (.slice ub vb zb) := (hc1.cell (p := ⟨g, o + q * 3 + 2, none⟩) HGL.out).trans b2; have HX1 := Lib.hid hc1; clear hb1 hc1) | (go_at_call 7; refine (HC2.out _ (bon (w := wr) HX1.out (by exact ⟨rfl, rfl, rfl, Nat.le_refl _, fun _ _ => rfl⟩))).mono ?_; rintro e x2 ⟨rfl, hb2⟩; have hc2 : Below wr.heap.size wr x2 := bon (w := wr) (bon (w := wr) HX1.out (by exact ⟨rfl, rfl, rfl, Nat.le_refl _, fun _ _ => rfl⟩)) hb2; have d2y : x2.cell? ⟨w.heap.size, 0, none⟩ = some (.slice (some ⟨g, o, none⟩) n cp) := (hc2.cell (p := ⟨w.heap.size, 0, none⟩) HO.out).trans y; have d2a0 : x2.cell? ⟨g, o + k * 3, none⟩ = some (.int .i64 aa) := (hc2.cell (p := ⟨g, o + k * 3, none⟩) HGL.out).trans a0; have d2a1 : x2.cell? ⟨g, o + k * 3 + 1, none⟩ = some (.slice sa ea.length ca) := (hc2.cell (p := ⟨g, o + k * 3 + 1, none⟩) HGL.out).trans a1; have d2a2 : x2.cell? ⟨g, o + k * 3 + 2, none⟩ = some (.slice ua va za) := (hc2.cell (p := ⟨g, o + k * 3 + 2, none⟩) HGL.out).trans a2; have d2b0 : x2.cell? ⟨g, o + q * 3, none⟩ = some (.int .i64 ab) := (hc2.cell (p := ⟨g, o + q * 3, none⟩) HGL.out).trans b0; have d2b1 : x2.cell? ⟨g, o + q * 3 + 1, none⟩ = some (.slice sb eb.length cb) := (hc2.cell (p := ⟨g, o + q * 3 + 1, none⟩) HGL.out).trans b1; have d2b2 : x2.cell? ⟨g, o + q * 3 + 2, none⟩ = some (.slice ub vb zb) := (hc2.cell (p := ⟨g, o + q * 3 + 2, none⟩) HGL.out).trans b2; have HX2 := Lib.hid hc2; clear hb2 hc2) | (go_at_call 8; refine (HC3.out _ (bon (w := wr) HX2.out (by exact ⟨rfl, rfl, rfl, Nat.le_refl _, fun _ _ => rfl⟩))).mono ?_; rintro e x3 ⟨rfl, hb3⟩; have hc3 : Below wr.heap.size wr x3 := bon (w := wr) (bon (w := wr) HX2.out (by exact ⟨rfl, rfl, rfl, Nat.le_refl _, fun _ _ => rfl⟩)) hb3; have d3y : x3.cell? ⟨w.heap.size, 0, none⟩ = some (.slice (some ⟨g, o, none⟩) n cp) := (hc3.cell (p := ⟨w.heap.size, 0, none⟩) HO.out).trans y; have d3a0 : x3.cell? ⟨g, o + k * 3, none⟩ = some (.int .i64 aa) := (hc3.cell (p := ⟨g, o + k * 3, none⟩) HGL.out).trans a0; have d3a1 : x3.cell? ⟨g, o + k * 3 + 1, none⟩ = some (.slice sa ea.length ca) := (hc3.cell (p := ⟨g, o + k * 3 + 1, none⟩) HGL.out).trans a1; have d3a2 : x3.cell? ⟨g, o + k * 3 + 2, none⟩ = some (.slice ua va za) := (hc3.cell (p := ⟨g, o + k * 3 + 2, none⟩) HGL.out).trans a2; have d3b0 : x3.cell? ⟨g, o + q * 3, none⟩ = some (.int .i64 ab) := (hc3.cell (p := ⟨g, o + q * 3, none⟩) HGL.out).trans b0; have d3b1 : x3.cell? ⟨g, o + q * 3 + 1, none⟩ = some (.slice sb eb.length cb) := (hc3.cell (p := ⟨g, o + q * 3 + 1, none⟩) HGL.out).trans b1; have d3b2 : x3.cell? ⟨g, o + q * 3 + 2, none⟩ = some (.slice ub vb zb) := (hc3.cell (p := ⟨g, o + q * 3 + 2, none⟩) HGL.out).trans b2; have HX3 := Lib.hid hc3; clear hb3 hc3) | (go_at_call 9; refine (HC4.out _ (bon (w := wr) HX3.out (by exact ⟨rfl, rfl, rfl, Nat.le_refl _, fun _ _ => rfl⟩))).mono ?_; rintro e x4 ⟨rfl, hb4⟩; have hc4 : Below wr.heap.size wr x4 := bon (w := wr) (bon (w := wr) HX3.out (by exact ⟨rfl, rfl, rfl, Nat.le_refl _, fun _ _ => rfl⟩)) hb4; have d4y : x4.cell? ⟨w.heap.size, 0, none⟩ = some (.slice (some ⟨g, o, none⟩) n cp) := (hc4.cell (p := ⟨w.heap.size, 0, none⟩) HO.out).trans y; have d4a0 : x4.cell? ⟨g, o + k * 3, none⟩ = some (.int .i64 aa) := (hc4.cell (p := ⟨g, o + k * 3, none⟩) HGL.out).trans a0; have d4a1 : x4.cell? ⟨g, o + k * 3 + 1, none⟩ = some (.slice sa ea.length ca) := (hc4.cell (p := ⟨g, o + k * 3 + 1, none⟩) HGL.out).trans a1; have d4a2 : x4.cell? ⟨g, o + k * 3 + 2, none⟩ = some (.slice ua va za) := (hc4.cell (p := ⟨g, o + k * 3 + 2, none⟩) HGL.out).trans a2; have d4b0 : x4.cell? ⟨g, o + q * 3, none⟩ = some (.int .i64 ab) := (hc4.cell (p := ⟨g, o + q * 3, none⟩) HGL.out).trans b0; have d4b1 : x4.cell? ⟨g, o + q * 3 + 1, none⟩ = some (.slice sb eb.length cb) := (hc4.cell (p := ⟨g, o + q * 3 + 1, none⟩) HGL.out).trans b1; have d4b2 : x4.cell? ⟨g, o + q * 3 + 2, none⟩ = some (.slice ub vb zb) := (hc4.cell (p := ⟨g, o + q * 3 + 2, none⟩) HGL.out).trans b2; have HX4 := Lib.hid hc4; clear hb4 hc4))
                  go_wp2_with fail
                  go_roundw
                  case rel => exact ⟨q + 1, by omega, by omega, by go_num, Lib.hid (bon (bon HB2.out HX4.out) (by exact ⟨rfl, rfl, rfl, Nat.le_refl _, fun _ _ => rfl⟩))⟩
                  case measure => simp [intOf]; omega
                · go_wp2_with fail
                  go_roundw
                  case rel => exact ⟨k + 1, by omega, by omega, by go_num, HBL2⟩
                  case measure => simp [intOf]; omega
              · go_wp2_with fail
                go_roundw
                case rel => exact ⟨k + 1, by omega, by omega, by go_num, HBL2⟩
                case measure => simp [intOf]; omega
          · go_wp2_with fail
            refine (HWK.out _ (bon HBW.out HBL.out)).mono ?_
            rintro e w1 ⟨rfl, hb1⟩
            have HX1 := Lib.hid hb1
            clear hb1
            go_wp2_with fail
            go_ret
            exact ⟨rfl, bon (bon HBW.out HBL.out) HX1.out⟩
        · go_wp2_with fail
          refine (HWK.out _ (bon HBW.out HBL.out)).mono ?_
          rintro e w1 ⟨rfl, hb1⟩
          have HX1 := Lib.hid hb1
          clear hb1
          go_wp2_with fail
          go_ret
          exact ⟨rfl, bon (bon HBW.out HBL.out) HX1.out⟩
end Go.Proofs.YthbabhnbiilimaaGreatDoor
