/- The parser, walked (ParH). Conditions: each theorem's own. -/
import Derived.Test.YtnpkdiffpgcbhaaGreatDoorS25
set_option maxRecDepth 100000
set_option maxHeartbeats 1600000
namespace Go.Proofs.YtnpkdiffpgcbhaaGreatDoor
open Go.RowKit
attribute [local go_sem] Oper.semAt_some
theorem value_minus_none {W : World} {pb k : Nat} {T : List Lx} {d : Int} (hp : PAt W pb T k) {x : Lx} {r : List Lx} (hx : T.drop k = x :: r) (k2 : x.kind ≠ 2) (k3 : x.kind ≠ 3) {t : Bs} {r1 : List Lx} (hm : takeL 4 [45] (T.drop k) = some (t, r1)) (hn : takeL 2 [] r1 = none) :
  Calls Tryz.prog 48 #[.pointer (some ⟨pb, 0, none⟩), .int .i64 d] W (ValEnd W pb T k none) := by
 obtain ⟨hlt, hr, hgx⟩ := drop_next hx
 have i2 : isL 2 [] (T.drop k) = false := by rw [hx]; simp [isL, k2]
 have i3 : isL 3 [] (T.drop k) = false := by rw [hx]; simp [isL, k3]
 obtain ⟨_, hm1, rfl, hm2⟩ := takeL_drop hm
 clear hm1 hm2
 have HE := Lib.hid (VE.new (d := d) hp)
 clear hp
 go_enter Tryz.func48, Tryz.ntmps48
 go_wp2_with fail
 refine (is_ret HE.out.P 2 ⟨#[]⟩ i2).mono ?_
 rintro e w1 ⟨rfl, hs⟩
 have HE1 := Lib.hid (HE.out.same hs)
 clear hs
 have x1 : w1.cell? ⟨W.heap.size, 0, none⟩ = some (.pointer (some ⟨pb, 0, none⟩)) := cell_blk HE1.out.x
 go_wp2_with fail
 refine (is_ret HE1.out.P 3 ⟨#[]⟩ i3).mono ?_
 rintro e w2 ⟨rfl, hs⟩
 have HE2 := Lib.hid (HE1.out.same hs)
 clear hs
 have x2 : w2.cell? ⟨W.heap.size, 0, none⟩ = some (.pointer (some ⟨pb, 0, none⟩)) := cell_blk HE2.out.x
 go_wp2_with fail
 obtain ⟨g, off, cap, y, h1, h2, h3, h4, h5, h6⟩ := HE2.out.P.next hlt
 have hl := HE2.out.P.good.len
 have hxk : T[k] = x := by rw [List.getElem?_eq_getElem hlt] at hgx; cases hgx; rfl
 rw [hxk] at h4
 obtain ⟨N, hN⟩ : ∃ N, T.length = N := ⟨_, rfl⟩
 rw [hN] at h1 h3 hl
 have g0 : w2.cell? ⟨pb, 0, none⟩ = some (.slice (some ⟨g, off, none⟩) N cap) := cell_blk h1
 have g1 : w2.cell? ⟨pb, 1, none⟩ = some (.int .i64 k) := cell_blk h1
 have hkN : k < N := by rw [← hN]; exact hlt
 have g2 : (0 : Int) ≤ (k : Int) := by omega
 have g3 : (k : Int) < (N : Int) := by omega
 have g4 : ((x.kind : Nat) : Int) ≠ 3 := by omega
 have HN := Lib.hid hN
 have HX := Lib.hid hxk
 clear h1 h2 h5 h6 hN hxk
 go_quiet (fail)
 go_wp2_with fail
 have HE3 : Hid (VE W pb k T d (w2.drewN nq)) := Lib.hid (HE2.out.same (same_drewN w2 nq))
 generalize w2.drewN nq = w3 at HE3 ⊢
 clear g0 g1 g2 g3 g4 h3 h4
 have x3 : w3.cell? ⟨W.heap.size, 0, none⟩ = some (.pointer (some ⟨pb, 0, none⟩)) := cell_blk HE3.out.x
 refine (mark_some HE3.out.P ⟨#[45]⟩ hm).mono ?_
 rintro e w4 ⟨rfl, hp, hf⟩
 have HE4 := Lib.hid (HE3.out.far hp hf)
 clear hp hf
 have x4 : w4.cell? ⟨W.heap.size, 0, none⟩ = some (.pointer (some ⟨pb, 0, none⟩)) := cell_blk HE4.out.x
 go_wp2_with fail
 refine (take_none HE4.out.P 2 ⟨#[]⟩ hn).mono ?_
 rintro e w9 ⟨rfl, hf⟩
 exact ⟨rfl, rfl, HE4.out.fp.trans hf (fun i hi => .inl hi)⟩
theorem value_minus_big {W : World} {pb k : Nat} {T : List Lx} {d : Int} (hp : PAt W pb T k) {x : Lx} {r : List Lx} (hx : T.drop k = x :: r) (k2 : x.kind ≠ 2) (k3 : x.kind ≠ 3) {t : Bs} {r1 : List Lx} (hm : takeL 4 [45] (T.drop k) = some (t, r1)) {u : Bs} {r2 : List Lx} (hn : takeL 2 [] r1 = some (u, r2)) (hle : ¬ numOf u ≤ 9223372036854775808) :
  Calls Tryz.prog 48 #[.pointer (some ⟨pb, 0, none⟩), .int .i64 d] W (ValEnd W pb T k none) := by
 obtain ⟨hlt, hr, hgx⟩ := drop_next hx
 have i2 : isL 2 [] (T.drop k) = false := by rw [hx]; simp [isL, k2]
 have i3 : isL 3 [] (T.drop k) = false := by rw [hx]; simp [isL, k3]
 obtain ⟨_, hm1, rfl, hm2⟩ := takeL_drop hm
 clear hm1 hm2
 obtain ⟨hlt2, hn1, rfl, hn2⟩ := takeL_drop hn
 clear hn1 hn2
 obtain ⟨d1, d2, d3⟩ := takeL_good hp.good hn
 have hpi := parseInt_minus d1 d2
 have HE := Lib.hid (VE.new (d := d) hp)
 clear hp
 go_enter Tryz.func48, Tryz.ntmps48
 go_wp2_with fail
 refine (is_ret HE.out.P 2 ⟨#[]⟩ i2).mono ?_
 rintro e w1 ⟨rfl, hs⟩
 have HE1 := Lib.hid (HE.out.same hs)
 clear hs
 have x1 : w1.cell? ⟨W.heap.size, 0, none⟩ = some (.pointer (some ⟨pb, 0, none⟩)) := cell_blk HE1.out.x
 go_wp2_with fail
 refine (is_ret HE1.out.P 3 ⟨#[]⟩ i3).mono ?_
 rintro e w2 ⟨rfl, hs⟩
 have HE2 := Lib.hid (HE1.out.same hs)
 clear hs
 have x2 : w2.cell? ⟨W.heap.size, 0, none⟩ = some (.pointer (some ⟨pb, 0, none⟩)) := cell_blk HE2.out.x
 go_wp2_with fail
 obtain ⟨g, off, cap, y, h1, h2, h3, h4, h5, h6⟩ := HE2.out.P.next hlt
 have hl := HE2.out.P.good.len
 have hxk : T[k] = x := by rw [List.getElem?_eq_getElem hlt] at hgx; cases hgx; rfl
 rw [hxk] at h4
 obtain ⟨N, hN⟩ : ∃ N, T.length = N := ⟨_, rfl⟩
 rw [hN] at h1 h3 hl
 have g0 : w2.cell? ⟨pb, 0, none⟩ = some (.slice (some ⟨g, off, none⟩) N cap) := cell_blk h1
 have g1 : w2.cell? ⟨pb, 1, none⟩ = some (.int .i64 k) := cell_blk h1
 have hkN : k < N := by rw [← hN]; exact hlt
 have g2 : (0 : Int) ≤ (k : Int) := by omega
 have g3 : (k : Int) < (N : Int) := by omega
 have g4 : ((x.kind : Nat) : Int) ≠ 3 := by omega
 have HN := Lib.hid hN
 have HX := Lib.hid hxk
 clear h1 h2 h5 h6 hN hxk
 go_quiet (fail)
 go_wp2_with fail
 have HE3 : Hid (VE W pb k T d (w2.drewN nq)) := Lib.hid (HE2.out.same (same_drewN w2 nq))
 generalize w2.drewN nq = w3 at HE3 ⊢
 clear g0 g1 g2 g3 g4 h3 h4
 have x3 : w3.cell? ⟨W.heap.size, 0, none⟩ = some (.pointer (some ⟨pb, 0, none⟩)) := cell_blk HE3.out.x
 refine (mark_some HE3.out.P ⟨#[45]⟩ hm).mono ?_
 rintro e w4 ⟨rfl, hp, hf⟩
 have HE4 := Lib.hid (HE3.out.far hp hf)
 clear hp hf
 have x4 : w4.cell? ⟨W.heap.size, 0, none⟩ = some (.pointer (some ⟨pb, 0, none⟩)) := cell_blk HE4.out.x
 go_wp2_with fail
 refine (take_some HE4.out.P 2 ⟨#[]⟩ hn).mono ?_
 rintro e w5 ⟨y, rfl, hy, hp, hf⟩
 have HE5 := Lib.hid (HE4.out.far hp hf)
 have HY := Lib.hid hy
 clear hp hf hy
 have x5 : w5.cell? ⟨W.heap.size, 0, none⟩ = some (.pointer (some ⟨pb, 0, none⟩)) := cell_blk HE5.out.x
 have hys : (⟨#[45]⟩ ++ y : ByteArray).size ≤ 281474976710656 := by
  have : (⟨#[45]⟩ ++ y : ByteArray).size = 1 + y.data.toList.length := by rw [ByteArray.size_append]; rfl
  rw [this, HY.out]; omega
 have hov : ¬ (9223372036854775807 < 1 + y.size) := by
  have : y.size = y.data.toList.length := rfl
  rw [this, HY.out]; omega
 have hyd : (⟨#[45]⟩ ++ y : ByteArray).data.toList = 45 :: u := by rw [← HY.out]; simp [ByteArray.data_append]
 go_wp2_with fail
 rw [if_neg hle] at hpi
 obtain ⟨tp, p, hR⟩ := HE5.out.P.lib.range
 refine (Tryz.strconv_ParseInt_10_at64_range _ hys (by rw [hyd, hpi]) (.iface tp p) _ hR (.inr ⟨tp, p, rfl⟩)).mono ?_
 rintro e w6 ⟨N6, rfl, _, _, hb⟩
 have hf : FP (fun i => i = pb) w5 w6 := FP.ofBelow hb
 clear hb hR
 go_wp2_with fail
 refine (need_false _).mono ?_
 rintro e w9 ⟨rfl, rfl⟩
 exact ⟨rfl, rfl, HE5.out.fp.trans hf (fun i hi => .inl hi)⟩
theorem value_minus_ok {W : World} {pb k : Nat} {T : List Lx} {d : Int} (hp : PAt W pb T k) {x : Lx} {r : List Lx} (hx : T.drop k = x :: r) (k2 : x.kind ≠ 2) (k3 : x.kind ≠ 3) {t : Bs} {r1 : List Lx} (hm : takeL 4 [45] (T.drop k) = some (t, r1)) {u : Bs} {r2 : List Lx} (hn : takeL 2 [] r1 = some (u, r2)) (hle : numOf u ≤ 9223372036854775808) :
  Calls Tryz.prog 48 #[.pointer (some ⟨pb, 0, none⟩), .int .i64 d] W (ValEnd W pb T k (some (intV (-(numOf u : Int)), T.drop (k + 1 + 1)))) := by
 obtain ⟨hlt, hr, hgx⟩ := drop_next hx
 have i2 : isL 2 [] (T.drop k) = false := by rw [hx]; simp [isL, k2]
 have i3 : isL 3 [] (T.drop k) = false := by rw [hx]; simp [isL, k3]
 obtain ⟨_, hm1, rfl, hm2⟩ := takeL_drop hm
 clear hm1 hm2
 obtain ⟨hlt2, hn1, rfl, hn2⟩ := takeL_drop hn
 clear hn1 hn2
 obtain ⟨d1, d2, d3⟩ := takeL_good hp.good hn
 have hpi := parseInt_minus d1 d2
 have HE := Lib.hid (VE.new (d := d) hp)
 clear hp
 go_enter Tryz.func48, Tryz.ntmps48
 go_wp2_with fail
 refine (is_ret HE.out.P 2 ⟨#[]⟩ i2).mono ?_
 rintro e w1 ⟨rfl, hs⟩
 have HE1 := Lib.hid (HE.out.same hs)
 clear hs
 have x1 : w1.cell? ⟨W.heap.size, 0, none⟩ = some (.pointer (some ⟨pb, 0, none⟩)) := cell_blk HE1.out.x
 go_wp2_with fail
 refine (is_ret HE1.out.P 3 ⟨#[]⟩ i3).mono ?_
 rintro e w2 ⟨rfl, hs⟩
 have HE2 := Lib.hid (HE1.out.same hs)
 clear hs
 have x2 : w2.cell? ⟨W.heap.size, 0, none⟩ = some (.pointer (some ⟨pb, 0, none⟩)) := cell_blk HE2.out.x
 go_wp2_with fail
 obtain ⟨g, off, cap, y, h1, h2, h3, h4, h5, h6⟩ := HE2.out.P.next hlt
 have hl := HE2.out.P.good.len
 have hxk : T[k] = x := by rw [List.getElem?_eq_getElem hlt] at hgx; cases hgx; rfl
 rw [hxk] at h4
 obtain ⟨N, hN⟩ : ∃ N, T.length = N := ⟨_, rfl⟩
 rw [hN] at h1 h3 hl
 have g0 : w2.cell? ⟨pb, 0, none⟩ = some (.slice (some ⟨g, off, none⟩) N cap) := cell_blk h1
 have g1 : w2.cell? ⟨pb, 1, none⟩ = some (.int .i64 k) := cell_blk h1
 have hkN : k < N := by rw [← hN]; exact hlt
 have g2 : (0 : Int) ≤ (k : Int) := by omega
 have g3 : (k : Int) < (N : Int) := by omega
 have g4 : ((x.kind : Nat) : Int) ≠ 3 := by omega
 have HN := Lib.hid hN
 have HX := Lib.hid hxk
 clear h1 h2 h5 h6 hN hxk
 go_quiet (fail)
 go_wp2_with fail
 have HE3 : Hid (VE W pb k T d (w2.drewN nq)) := Lib.hid (HE2.out.same (same_drewN w2 nq))
 generalize w2.drewN nq = w3 at HE3 ⊢
 clear g0 g1 g2 g3 g4 h3 h4
 have x3 : w3.cell? ⟨W.heap.size, 0, none⟩ = some (.pointer (some ⟨pb, 0, none⟩)) := cell_blk HE3.out.x
 refine (mark_some HE3.out.P ⟨#[45]⟩ hm).mono ?_
 rintro e w4 ⟨rfl, hp, hf⟩
 have HE4 := Lib.hid (HE3.out.far hp hf)
 clear hp hf
 have x4 : w4.cell? ⟨W.heap.size, 0, none⟩ = some (.pointer (some ⟨pb, 0, none⟩)) := cell_blk HE4.out.x
 go_wp2_with fail
 refine (take_some HE4.out.P 2 ⟨#[]⟩ hn).mono ?_
 rintro e w5 ⟨y, rfl, hy, hp, hf⟩
 have HE5 := Lib.hid (HE4.out.far hp hf)
 have HY := Lib.hid hy
 clear hp hf hy
 have x5 : w5.cell? ⟨W.heap.size, 0, none⟩ = some (.pointer (some ⟨pb, 0, none⟩)) := cell_blk HE5.out.x
 have hys : (⟨#[45]⟩ ++ y : ByteArray).size ≤ 281474976710656 := by
  have : (⟨#[45]⟩ ++ y : ByteArray).size = 1 + y.data.toList.length := by rw [ByteArray.size_append]; rfl
  rw [this, HY.out]; omega
 have hov : ¬ (9223372036854775807 < 1 + y.size) := by
  have : y.size = y.data.toList.length := rfl
  rw [this, HY.out]; omega
 have hyd : (⟨#[45]⟩ ++ y : ByteArray).data.toList = 45 :: u := by rw [← HY.out]; simp [ByteArray.data_append]
 go_wp2_with fail
 rw [if_pos hle] at hpi
 refine (Tryz.strconv_ParseInt_10_at64_ok (⟨#[45]⟩ ++ y) (Nat.le_trans hys (by omega)) (-(numOf u : Int)) (by rw [hyd, hpi]) _).mono ?_
 rintro e w6 ⟨rfl, hw⟩
 have hf0 : FP nob w5 w6 := fp_bytes hw
 have HE6 := Lib.hid (HE5.out.far (d := d) (HE5.out.P.fp hf0 (fun _ h => h.elim)) (hf0.mono (fun _ h => h.elim)))
 clear hw hf0
 go_wp2_with fail
 refine (need_true _).mono ?_
 rintro e w9 ⟨rfl, rfl⟩
 have c0 : w6.cell? ⟨W.heap.size + 1 + 1, 0, none⟩ = some (.int .i64 0) := cell_blk HE6.out.rr
 have f0 : w6.frozen? ⟨W.heap.size + 1 + 1, 0, none⟩ = false := frz_blk HE6.out.rr
 have c1 : w6.cell? ⟨W.heap.size + 1 + 1, 1, none⟩ = some (.bool false) := cell_blk HE6.out.rr
 have f1 : w6.frozen? ⟨W.heap.size + 1 + 1, 1, none⟩ = false := frz_blk HE6.out.rr
 have c2 : w6.cell? ⟨W.heap.size + 1 + 1, 2, none⟩ = some (.int .i64 0) := cell_blk HE6.out.rr
 have f2 : w6.frozen? ⟨W.heap.size + 1 + 1, 2, none⟩ = false := frz_blk HE6.out.rr
 have c3 : w6.cell? ⟨W.heap.size + 1 + 1, 3, none⟩ = some (.string ⟨#[]⟩) := cell_blk HE6.out.rr
 have f3 : w6.frozen? ⟨W.heap.size + 1 + 1, 3, none⟩ = false := frz_blk HE6.out.rr
 have c4 : w6.cell? ⟨W.heap.size + 1 + 1, 4, none⟩ = some (.slice none 0 0) := cell_blk HE6.out.rr
 have f4 : w6.frozen? ⟨W.heap.size + 1 + 1, 4, none⟩ = false := frz_blk HE6.out.rr
 go_wp2_with fail
 have HF := Lib.hid (HE6.out.done (.int .i64 2) (.bool false) (.int .i64 (-(numOf u : Int))) (.string ⟨#[]⟩) (.slice none 0 0))
 change bodyPost _ _ _ _ _ (put5 w6 (W.heap.size + 1 + 1) 0 (.int .i64 2) (.bool false) (.int .i64 (-(numOf u : Int))) (.string ⟨#[]⟩) (.slice none 0 0))
 generalize put5 w6 (W.heap.size + 1 + 1) 0 (.int .i64 2) (.bool false) (.int .i64 (-(numOf u : Int))) (.string ⟨#[]⟩) (.slice none 0 0) = wf at HF ⊢
 have r0 : wf.cell? ⟨W.heap.size + 1 + 1, 0, none⟩ = some (.int .i64 2) := cell_blk HF.out.1
 have r1 : wf.cell? ⟨W.heap.size + 1 + 1, 1, none⟩ = some (.bool false) := cell_blk HF.out.1
 have r2 : wf.cell? ⟨W.heap.size + 1 + 1, 2, none⟩ = some (.int .i64 (-(numOf u : Int))) := cell_blk HF.out.1
 have r3 : wf.cell? ⟨W.heap.size + 1 + 1, 3, none⟩ = some (.string ⟨#[]⟩) := cell_blk HF.out.1
 have r4 : wf.cell? ⟨W.heap.size + 1 + 1, 4, none⟩ = some (.slice none 0 0) := cell_blk HF.out.1
 refine bodyPost_ret (v := .agg #[.int .i64 2, .bool false, .int .i64 (-(numOf u : Int)), .string ⟨#[]⟩, .slice none 0 0]) (by simp [results, go_sem, r0, r1, r2, r3, r4]) rfl ?_
 exact ⟨2, false, -(numOf u : Int), ⟨#[]⟩, .slice none 0 0, k + 1 + 1, rfl, rdv_flat .., rfl, by omega, hlt2, HF.out.2.1, HF.out.2.2.1⟩
theorem value_fact_none {W : World} {pb k : Nat} {T : List Lx} {d : Int} (hp : PAt W pb T k) {x : Lx} {r : List Lx} (hx : T.drop k = x :: r) (k2 : x.kind ≠ 2) (k3 : x.kind ≠ 3) {t : Bs} {r1 : List Lx} (hm0 : takeL 4 [45] (T.drop k) = none) (hm : takeL 4 [63] (T.drop k) = some (t, r1)) (hn : numL r1 = none) :
  Calls Tryz.prog 48 #[.pointer (some ⟨pb, 0, none⟩), .int .i64 d] W (ValEnd W pb T k none) := by
 obtain ⟨hlt, hr, hgx⟩ := drop_next hx
 have i2 : isL 2 [] (T.drop k) = false := by rw [hx]; simp [isL, k2]
 have i3 : isL 3 [] (T.drop k) = false := by rw [hx]; simp [isL, k3]
 obtain ⟨_, hm1, rfl, hm2⟩ := takeL_drop hm
 clear hm1 hm2
 have HE := Lib.hid (VE.new (d := d) hp)
 clear hp
 go_enter Tryz.func48, Tryz.ntmps48
 go_wp2_with fail
 refine (is_ret HE.out.P 2 ⟨#[]⟩ i2).mono ?_
 rintro e w1 ⟨rfl, hs⟩
 have HE1 := Lib.hid (HE.out.same hs)
 clear hs
 have x1 : w1.cell? ⟨W.heap.size, 0, none⟩ = some (.pointer (some ⟨pb, 0, none⟩)) := cell_blk HE1.out.x
 go_wp2_with fail
 refine (is_ret HE1.out.P 3 ⟨#[]⟩ i3).mono ?_
 rintro e w2 ⟨rfl, hs⟩
 have HE2 := Lib.hid (HE1.out.same hs)
 clear hs
 have x2 : w2.cell? ⟨W.heap.size, 0, none⟩ = some (.pointer (some ⟨pb, 0, none⟩)) := cell_blk HE2.out.x
 go_wp2_with fail
 obtain ⟨g, off, cap, y, h1, h2, h3, h4, h5, h6⟩ := HE2.out.P.next hlt
 have hl := HE2.out.P.good.len
 have hxk : T[k] = x := by rw [List.getElem?_eq_getElem hlt] at hgx; cases hgx; rfl
 rw [hxk] at h4
 obtain ⟨N, hN⟩ : ∃ N, T.length = N := ⟨_, rfl⟩
 rw [hN] at h1 h3 hl
 have g0 : w2.cell? ⟨pb, 0, none⟩ = some (.slice (some ⟨g, off, none⟩) N cap) := cell_blk h1
 have g1 : w2.cell? ⟨pb, 1, none⟩ = some (.int .i64 k) := cell_blk h1
 have hkN : k < N := by rw [← hN]; exact hlt
 have g2 : (0 : Int) ≤ (k : Int) := by omega
 have g3 : (k : Int) < (N : Int) := by omega
 have g4 : ((x.kind : Nat) : Int) ≠ 3 := by omega
 have HN := Lib.hid hN
 have HX := Lib.hid hxk
 clear h1 h2 h5 h6 hN hxk
 go_quiet (fail)
 go_wp2_with fail
 have HE3 : Hid (VE W pb k T d (w2.drewN nq)) := Lib.hid (HE2.out.same (same_drewN w2 nq))
 generalize w2.drewN nq = w3 at HE3 ⊢
 clear g0 g1 g2 g3 g4 h3 h4
 have x3 : w3.cell? ⟨W.heap.size, 0, none⟩ = some (.pointer (some ⟨pb, 0, none⟩)) := cell_blk HE3.out.x
 refine (mark_none HE3.out.P ⟨#[45]⟩ hm0).mono ?_
 rintro e w4 ⟨rfl, hs⟩
 have HE4 := Lib.hid (HE3.out.same hs)
 clear hs
 have x4 : w4.cell? ⟨W.heap.size, 0, none⟩ = some (.pointer (some ⟨pb, 0, none⟩)) := cell_blk HE4.out.x
 go_wp2_with fail
 refine (mark_some HE4.out.P ⟨#[63]⟩ hm).mono ?_
 rintro e w5 ⟨rfl, hp, hf⟩
 have HE5 := Lib.hid (HE4.out.far hp hf)
 clear hp hf
 have x5 : w5.cell? ⟨W.heap.size, 0, none⟩ = some (.pointer (some ⟨pb, 0, none⟩)) := cell_blk HE5.out.x
 go_wp2_with fail
 refine (number_none HE5.out.P hn).mono ?_
 rintro e w9 ⟨rfl, hf⟩
 exact ⟨rfl, rfl, HE5.out.fp.trans hf (fun i hi => .inl hi)⟩
theorem value_fact_0 {W : World} {pb k : Nat} {T : List Lx} {d : Int} (hp : PAt W pb T k) {x : Lx} {r : List Lx} (hx : T.drop k = x :: r) (k2 : x.kind ≠ 2) (k3 : x.kind ≠ 3) {t : Bs} {r1 : List Lx} (hm0 : takeL 4 [45] (T.drop k) = none) (hm : takeL 4 [63] (T.drop k) = some (t, r1)) {m : Nat} {r2 : List Lx} (hn : numL r1 = some (m, r2)) (h0 : ¬ 1 ≤ m) :
  Calls Tryz.prog 48 #[.pointer (some ⟨pb, 0, none⟩), .int .i64 d] W (ValEnd W pb T k none) := by
 obtain ⟨hlt, hr, hgx⟩ := drop_next hx
 have i2 : isL 2 [] (T.drop k) = false := by rw [hx]; simp [isL, k2]
 have i3 : isL 3 [] (T.drop k) = false := by rw [hx]; simp [isL, k3]
 obtain ⟨_, hm1, rfl, hm2⟩ := takeL_drop hm
 clear hm1 hm2
 obtain ⟨hr2, hlt2⟩ := numL_drop hn
 have HE := Lib.hid (VE.new (d := d) hp)
 clear hp
 go_enter Tryz.func48, Tryz.ntmps48
 go_wp2_with fail
 refine (is_ret HE.out.P 2 ⟨#[]⟩ i2).mono ?_
 rintro e w1 ⟨rfl, hs⟩
 have HE1 := Lib.hid (HE.out.same hs)
 clear hs
 have x1 : w1.cell? ⟨W.heap.size, 0, none⟩ = some (.pointer (some ⟨pb, 0, none⟩)) := cell_blk HE1.out.x
 go_wp2_with fail
 refine (is_ret HE1.out.P 3 ⟨#[]⟩ i3).mono ?_
 rintro e w2 ⟨rfl, hs⟩
 have HE2 := Lib.hid (HE1.out.same hs)
 clear hs
 have x2 : w2.cell? ⟨W.heap.size, 0, none⟩ = some (.pointer (some ⟨pb, 0, none⟩)) := cell_blk HE2.out.x
 go_wp2_with fail
 obtain ⟨g, off, cap, y, h1, h2, h3, h4, h5, h6⟩ := HE2.out.P.next hlt
 have hl := HE2.out.P.good.len
 have hxk : T[k] = x := by rw [List.getElem?_eq_getElem hlt] at hgx; cases hgx; rfl
 rw [hxk] at h4
 obtain ⟨N, hN⟩ : ∃ N, T.length = N := ⟨_, rfl⟩
 rw [hN] at h1 h3 hl
 have g0 : w2.cell? ⟨pb, 0, none⟩ = some (.slice (some ⟨g, off, none⟩) N cap) := cell_blk h1
 have g1 : w2.cell? ⟨pb, 1, none⟩ = some (.int .i64 k) := cell_blk h1
 have hkN : k < N := by rw [← hN]; exact hlt
 have g2 : (0 : Int) ≤ (k : Int) := by omega
 have g3 : (k : Int) < (N : Int) := by omega
 have g4 : ((x.kind : Nat) : Int) ≠ 3 := by omega
 have HN := Lib.hid hN
 have HX := Lib.hid hxk
 clear h1 h2 h5 h6 hN hxk
 go_quiet (fail)
 go_wp2_with fail
 have HE3 : Hid (VE W pb k T d (w2.drewN nq)) := Lib.hid (HE2.out.same (same_drewN w2 nq))
 generalize w2.drewN nq = w3 at HE3 ⊢
 clear g0 g1 g2 g3 g4 h3 h4
 have x3 : w3.cell? ⟨W.heap.size, 0, none⟩ = some (.pointer (some ⟨pb, 0, none⟩)) := cell_blk HE3.out.x
 refine (mark_none HE3.out.P ⟨#[45]⟩ hm0).mono ?_
 rintro e w4 ⟨rfl, hs⟩
 have HE4 := Lib.hid (HE3.out.same hs)
 clear hs
 have x4 : w4.cell? ⟨W.heap.size, 0, none⟩ = some (.pointer (some ⟨pb, 0, none⟩)) := cell_blk HE4.out.x
 go_wp2_with fail
 refine (mark_some HE4.out.P ⟨#[63]⟩ hm).mono ?_
 rintro e w5 ⟨rfl, hp, hf⟩
 have HE5 := Lib.hid (HE4.out.far hp hf)
 clear hp hf
 have x5 : w5.cell? ⟨W.heap.size, 0, none⟩ = some (.pointer (some ⟨pb, 0, none⟩)) := cell_blk HE5.out.x
 go_wp2_with fail
 refine (number_ok HE5.out.P hn).mono ?_
 rintro e w6 ⟨rfl, hp, hf⟩
 have HE6 := Lib.hid (HE5.out.far hp hf)
 clear hp hf
 have x6 : w6.cell? ⟨W.heap.size, 0, none⟩ = some (.pointer (some ⟨pb, 0, none⟩)) := cell_blk HE6.out.x
 have hge : (decide ((1 : Int) ≤ (m : Int))) = false := by simp; omega
 go_wp2_with fail
 refine (need_false _).mono ?_
 rintro e w9 ⟨rfl, rfl⟩
 exact ⟨rfl, rfl, HE6.out.fp⟩
theorem value_fact_ok {W : World} {pb k : Nat} {T : List Lx} {d : Int} (hp : PAt W pb T k) {x : Lx} {r : List Lx} (hx : T.drop k = x :: r) (k2 : x.kind ≠ 2) (k3 : x.kind ≠ 3) {t : Bs} {r1 : List Lx} (hm0 : takeL 4 [45] (T.drop k) = none) (hm : takeL 4 [63] (T.drop k) = some (t, r1)) {m : Nat} {r2 : List Lx} (hn : numL r1 = some (m, r2)) (h0 : 1 ≤ m) :
  Calls Tryz.prog 48 #[.pointer (some ⟨pb, 0, none⟩), .int .i64 d] W (ValEnd W pb T k (some (factV m, r2))) := by
 obtain ⟨hlt, hr, hgx⟩ := drop_next hx
 have i2 : isL 2 [] (T.drop k) = false := by rw [hx]; simp [isL, k2]
 have i3 : isL 3 [] (T.drop k) = false := by rw [hx]; simp [isL, k3]
 obtain ⟨_, hm1, rfl, hm2⟩ := takeL_drop hm
 clear hm1 hm2
 obtain ⟨hr2, hlt2⟩ := numL_drop hn
 have HE := Lib.hid (VE.new (d := d) hp)
 clear hp
 go_enter Tryz.func48, Tryz.ntmps48
 go_wp2_with fail
 refine (is_ret HE.out.P 2 ⟨#[]⟩ i2).mono ?_
 rintro e w1 ⟨rfl, hs⟩
 have HE1 := Lib.hid (HE.out.same hs)
 clear hs
 have x1 : w1.cell? ⟨W.heap.size, 0, none⟩ = some (.pointer (some ⟨pb, 0, none⟩)) := cell_blk HE1.out.x
 go_wp2_with fail
 refine (is_ret HE1.out.P 3 ⟨#[]⟩ i3).mono ?_
 rintro e w2 ⟨rfl, hs⟩
 have HE2 := Lib.hid (HE1.out.same hs)
 clear hs
 have x2 : w2.cell? ⟨W.heap.size, 0, none⟩ = some (.pointer (some ⟨pb, 0, none⟩)) := cell_blk HE2.out.x
 go_wp2_with fail
 obtain ⟨g, off, cap, y, h1, h2, h3, h4, h5, h6⟩ := HE2.out.P.next hlt
 have hl := HE2.out.P.good.len
 have hxk : T[k] = x := by rw [List.getElem?_eq_getElem hlt] at hgx; cases hgx; rfl
 rw [hxk] at h4
 obtain ⟨N, hN⟩ : ∃ N, T.length = N := ⟨_, rfl⟩
 rw [hN] at h1 h3 hl
 have g0 : w2.cell? ⟨pb, 0, none⟩ = some (.slice (some ⟨g, off, none⟩) N cap) := cell_blk h1
 have g1 : w2.cell? ⟨pb, 1, none⟩ = some (.int .i64 k) := cell_blk h1
 have hkN : k < N := by rw [← hN]; exact hlt
 have g2 : (0 : Int) ≤ (k : Int) := by omega
 have g3 : (k : Int) < (N : Int) := by omega
 have g4 : ((x.kind : Nat) : Int) ≠ 3 := by omega
 have HN := Lib.hid hN
 have HX := Lib.hid hxk
 clear h1 h2 h5 h6 hN hxk
 go_quiet (fail)
 go_wp2_with fail
 have HE3 : Hid (VE W pb k T d (w2.drewN nq)) := Lib.hid (HE2.out.same (same_drewN w2 nq))
 generalize w2.drewN nq = w3 at HE3 ⊢
 clear g0 g1 g2 g3 g4 h3 h4
 have x3 : w3.cell? ⟨W.heap.size, 0, none⟩ = some (.pointer (some ⟨pb, 0, none⟩)) := cell_blk HE3.out.x
 refine (mark_none HE3.out.P ⟨#[45]⟩ hm0).mono ?_
 rintro e w4 ⟨rfl, hs⟩
 have HE4 := Lib.hid (HE3.out.same hs)
 clear hs
 have x4 : w4.cell? ⟨W.heap.size, 0, none⟩ = some (.pointer (some ⟨pb, 0, none⟩)) := cell_blk HE4.out.x
 go_wp2_with fail
 refine (mark_some HE4.out.P ⟨#[63]⟩ hm).mono ?_
 rintro e w5 ⟨rfl, hp, hf⟩
 have HE5 := Lib.hid (HE4.out.far hp hf)
 clear hp hf
 have x5 : w5.cell? ⟨W.heap.size, 0, none⟩ = some (.pointer (some ⟨pb, 0, none⟩)) := cell_blk HE5.out.x
 go_wp2_with fail
 refine (number_ok HE5.out.P hn).mono ?_
 rintro e w6 ⟨rfl, hp, hf⟩
 have HE6 := Lib.hid (HE5.out.far hp hf)
 clear hp hf
 have x6 : w6.cell? ⟨W.heap.size, 0, none⟩ = some (.pointer (some ⟨pb, 0, none⟩)) := cell_blk HE6.out.x
 have hge : (decide ((1 : Int) ≤ (m : Int))) = true := by simp; omega
 go_wp2_with fail
 refine (need_true _).mono ?_
 rintro e w9 ⟨rfl, rfl⟩
 have c0 : w6.cell? ⟨W.heap.size + 1 + 1, 0, none⟩ = some (.int .i64 0) := cell_blk HE6.out.rr
 have f0 : w6.frozen? ⟨W.heap.size + 1 + 1, 0, none⟩ = false := frz_blk HE6.out.rr
 have c1 : w6.cell? ⟨W.heap.size + 1 + 1, 1, none⟩ = some (.bool false) := cell_blk HE6.out.rr
 have f1 : w6.frozen? ⟨W.heap.size + 1 + 1, 1, none⟩ = false := frz_blk HE6.out.rr
 have c2 : w6.cell? ⟨W.heap.size + 1 + 1, 2, none⟩ = some (.int .i64 0) := cell_blk HE6.out.rr
 have f2 : w6.frozen? ⟨W.heap.size + 1 + 1, 2, none⟩ = false := frz_blk HE6.out.rr
 have c3 : w6.cell? ⟨W.heap.size + 1 + 1, 3, none⟩ = some (.string ⟨#[]⟩) := cell_blk HE6.out.rr
 have f3 : w6.frozen? ⟨W.heap.size + 1 + 1, 3, none⟩ = false := frz_blk HE6.out.rr
 have c4 : w6.cell? ⟨W.heap.size + 1 + 1, 4, none⟩ = some (.slice none 0 0) := cell_blk HE6.out.rr
 have f4 : w6.frozen? ⟨W.heap.size + 1 + 1, 4, none⟩ = false := frz_blk HE6.out.rr
 go_wp2_with fail
 have HF := Lib.hid (HE6.out.done (.int .i64 5) (.bool false) (.int .i64 m) (.string ⟨#[]⟩) (.slice none 0 0))
 change bodyPost _ _ _ _ _ (put5 w6 (W.heap.size + 1 + 1) 0 (.int .i64 5) (.bool false) (.int .i64 m) (.string ⟨#[]⟩) (.slice none 0 0))
 generalize put5 w6 (W.heap.size + 1 + 1) 0 (.int .i64 5) (.bool false) (.int .i64 m) (.string ⟨#[]⟩) (.slice none 0 0) = wf at HF ⊢
 have r0 : wf.cell? ⟨W.heap.size + 1 + 1, 0, none⟩ = some (.int .i64 5) := cell_blk HF.out.1
 have r1 : wf.cell? ⟨W.heap.size + 1 + 1, 1, none⟩ = some (.bool false) := cell_blk HF.out.1
 have r2 : wf.cell? ⟨W.heap.size + 1 + 1, 2, none⟩ = some (.int .i64 m) := cell_blk HF.out.1
 have r3 : wf.cell? ⟨W.heap.size + 1 + 1, 3, none⟩ = some (.string ⟨#[]⟩) := cell_blk HF.out.1
 have r4 : wf.cell? ⟨W.heap.size + 1 + 1, 4, none⟩ = some (.slice none 0 0) := cell_blk HF.out.1
 refine bodyPost_ret (v := .agg #[.int .i64 5, .bool false, .int .i64 m, .string ⟨#[]⟩, .slice none 0 0]) (by simp [results, go_sem, r0, r1, r2, r3, r4]) rfl ?_
 exact ⟨5, false, m, ⟨#[]⟩, .slice none 0 0, k + 1 + 1, rfl, rdv_flat .., hr2, by omega, hlt2, HF.out.2.1, HF.out.2.2.1⟩
end Go.Proofs.YtnpkdiffpgcbhaaGreatDoor
