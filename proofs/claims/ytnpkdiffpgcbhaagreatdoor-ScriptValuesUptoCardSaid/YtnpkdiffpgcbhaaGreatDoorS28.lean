/- The parser, walked (ParJ). Conditions: each theorem's own. -/
import Derived.Test.YtnpkdiffpgcbhaaGreatDoorS27
set_option maxRecDepth 100000
set_option maxHeartbeats 1600000
namespace Go.Proofs.YtnpkdiffpgcbhaaGreatDoor
open Go.RowKit
attribute [local go_sem] Oper.semAt_some
theorem bytes_of {y : ByteArray} {l : List UInt8} (h : y.data.toList = l) : y = ⟨l.toArray⟩ := by
 cases y with
 | mk d => simp at h; subst h; simp
theorem value_null {W : World} {pb k : Nat} {T : List Lx} {d : Int} (hp : PAt W pb T k) {x : Lx} {r : List Lx} (hx : T.drop k = x :: r) (k2 : x.kind ≠ 2) (k3 : x.kind ≠ 3) (k0 : x.kind = 0) (hw : x.text = [110, 117, 108, 108]) :
  Calls Tryz.prog 48 #[.pointer (some ⟨pb, 0, none⟩), .int .i64 d] W (ValEnd W pb T k (some (nullV, r))) := by
 obtain ⟨hlt, hr, hgx⟩ := drop_next hx
 have i2 : isL 2 [] (T.drop k) = false := by rw [hx]; simp [isL, k2]
 have i3 : isL 3 [] (T.drop k) = false := by rw [hx]; simp [isL, k3]
 have hm0 : takeL 4 [45] (T.drop k) = none := by rw [hx]; simp [takeL, k0]
 have hm1 : takeL 4 [63] (T.drop k) = none := by rw [hx]; simp [takeL, k0]
 have hm2 : takeL 4 [91] (T.drop k) = none := by rw [hx]; simp [takeL, k0]
 have ht : takeL 0 [] (T.drop k) = some (x.text, T.drop (k + 1)) := by rw [hx, ← hr]; simp [takeL, k0]
 have HK0 := Lib.hid k0
 clear k0
 have HE := Lib.hid (VE.new (d := d) hp)
 clear hp
 go_enter Tryz.func48, Tryz.ntmps48
 go_wp2_with fail
 refine (is_ret HE.out.P 2 ⟨#[]⟩ i2).mono ?_
 rintro e w1 ⟨rfl, hs⟩
 have HE1 := Lib.hid (HE.out.same hs)
 clear hs
 have x1 : w1.cell? ⟨W.heap.size, 0, none⟩ = some (.pointer (some ⟨pb, 0, none⟩)) := cell_blk HE1.out.x
 go_wp2_with fail
 refine (is_ret HE1.out.P 3 ⟨#[]⟩ i3).mono ?_
 rintro e w2 ⟨rfl, hs⟩
 have HE2 := Lib.hid (HE1.out.same hs)
 clear hs
 have x2 : w2.cell? ⟨W.heap.size, 0, none⟩ = some (.pointer (some ⟨pb, 0, none⟩)) := cell_blk HE2.out.x
 go_wp2_with fail
 obtain ⟨g, off, cap, y, h1, h2, h3, h4, h5, h6⟩ := HE2.out.P.next hlt
 have hl := HE2.out.P.good.len
 have hxk : T[k] = x := by rw [List.getElem?_eq_getElem hlt] at hgx; cases hgx; rfl
 rw [hxk] at h4
 obtain ⟨N, hN⟩ : ∃ N, T.length = N := ⟨_, rfl⟩
 rw [hN] at h1 h3 hl
 have g0 : w2.cell? ⟨pb, 0, none⟩ = some (.slice (some ⟨g, off, none⟩) N cap) := cell_blk h1
 have g1 : w2.cell? ⟨pb, 1, none⟩ = some (.int .i64 k) := cell_blk h1
 have hkN : k < N := by rw [← hN]; exact hlt
 have g2 : (0 : Int) ≤ (k : Int) := by omega
 have g3 : (k : Int) < (N : Int) := by omega
 have g4 : ((x.kind : Nat) : Int) ≠ 3 := by omega
 have HN := Lib.hid hN
 have HX := Lib.hid hxk
 clear h1 h2 h5 h6 hN hxk
 go_quiet (fail)
 go_wp2_with fail
 have HE3 : Hid (VE W pb k T d (w2.drewN nq)) := Lib.hid (HE2.out.same (same_drewN w2 nq))
 generalize w2.drewN nq = w3 at HE3 ⊢
 clear g0 g1 g2 g3 g4 h3 h4
 have x3 : w3.cell? ⟨W.heap.size, 0, none⟩ = some (.pointer (some ⟨pb, 0, none⟩)) := cell_blk HE3.out.x
 refine (mark_none HE3.out.P ⟨#[45]⟩ hm0).mono ?_
 rintro e w4 ⟨rfl, hs⟩
 have HE4 := Lib.hid (HE3.out.same hs)
 clear hs
 have x4 : w4.cell? ⟨W.heap.size, 0, none⟩ = some (.pointer (some ⟨pb, 0, none⟩)) := cell_blk HE4.out.x
 go_wp2_with fail
 refine (mark_none HE4.out.P ⟨#[63]⟩ hm1).mono ?_
 rintro e w5 ⟨rfl, hs⟩
 have HE5 := Lib.hid (HE4.out.same hs)
 clear hs
 have x5 : w5.cell? ⟨W.heap.size, 0, none⟩ = some (.pointer (some ⟨pb, 0, none⟩)) := cell_blk HE5.out.x
 go_wp2_with fail
 refine (mark_none HE5.out.P ⟨#[91]⟩ hm2).mono ?_
 rintro e w6 ⟨rfl, hs⟩
 have HE6 := Lib.hid (HE5.out.same hs)
 clear hs
 have x6 : w6.cell? ⟨W.heap.size, 0, none⟩ = some (.pointer (some ⟨pb, 0, none⟩)) := cell_blk HE6.out.x
 go_wp2_with fail
 refine (take_some HE6.out.P 0 ⟨#[]⟩ ht).mono ?_
 rintro e w7 ⟨y, rfl, hy, hp, hf⟩
 have HE7 := Lib.hid (HE6.out.far hp hf)
 have HY := Lib.hid hy
 clear hp hf hy
 have x7 : w7.cell? ⟨W.heap.size, 0, none⟩ = some (.pointer (some ⟨pb, 0, none⟩)) := cell_blk HE7.out.x
 have hye := bytes_of (HY.out.trans hw)
 subst hye
 have c0 : w7.cell? ⟨W.heap.size + 1 + 1, 0, none⟩ = some (.int .i64 0) := cell_blk HE7.out.rr
 have f0 : w7.frozen? ⟨W.heap.size + 1 + 1, 0, none⟩ = false := frz_blk HE7.out.rr
 have c1 : w7.cell? ⟨W.heap.size + 1 + 1, 1, none⟩ = some (.bool false) := cell_blk HE7.out.rr
 have f1 : w7.frozen? ⟨W.heap.size + 1 + 1, 1, none⟩ = false := frz_blk HE7.out.rr
 have c2 : w7.cell? ⟨W.heap.size + 1 + 1, 2, none⟩ = some (.int .i64 0) := cell_blk HE7.out.rr
 have f2 : w7.frozen? ⟨W.heap.size + 1 + 1, 2, none⟩ = false := frz_blk HE7.out.rr
 have c3 : w7.cell? ⟨W.heap.size + 1 + 1, 3, none⟩ = some (.string ⟨#[]⟩) := cell_blk HE7.out.rr
 have f3 : w7.frozen? ⟨W.heap.size + 1 + 1, 3, none⟩ = false := frz_blk HE7.out.rr
 have c4 : w7.cell? ⟨W.heap.size + 1 + 1, 4, none⟩ = some (.slice none 0 0) := cell_blk HE7.out.rr
 have f4 : w7.frozen? ⟨W.heap.size + 1 + 1, 4, none⟩ = false := frz_blk HE7.out.rr
 go_wp2_with fail
 have HF := Lib.hid (HE7.out.done (.int .i64 0) (.bool false) (.int .i64 0) (.string ⟨#[]⟩) (.slice none 0 0))
 change bodyPost _ _ _ _ _ (put5 w7 (W.heap.size + 1 + 1) 0 (.int .i64 0) (.bool false) (.int .i64 0) (.string ⟨#[]⟩) (.slice none 0 0))
 generalize put5 w7 (W.heap.size + 1 + 1) 0 (.int .i64 0) (.bool false) (.int .i64 0) (.string ⟨#[]⟩) (.slice none 0 0) = wf at HF ⊢
 have r0 : wf.cell? ⟨W.heap.size + 1 + 1, 0, none⟩ = some (.int .i64 0) := cell_blk HF.out.1
 have r1 : wf.cell? ⟨W.heap.size + 1 + 1, 1, none⟩ = some (.bool false) := cell_blk HF.out.1
 have r2 : wf.cell? ⟨W.heap.size + 1 + 1, 2, none⟩ = some (.int .i64 0) := cell_blk HF.out.1
 have r3 : wf.cell? ⟨W.heap.size + 1 + 1, 3, none⟩ = some (.string ⟨#[]⟩) := cell_blk HF.out.1
 have r4 : wf.cell? ⟨W.heap.size + 1 + 1, 4, none⟩ = some (.slice none 0 0) := cell_blk HF.out.1
 refine bodyPost_ret (v := .agg #[.int .i64 0, .bool false, .int .i64 0, .string ⟨#[]⟩, .slice none 0 0]) (by simp [results, go_sem, r0, r1, r2, r3, r4]) rfl ?_
 exact ⟨0, false, 0, ⟨#[]⟩, .slice none 0 0, k + 1, rfl, rdv_flat .., hr, Nat.lt_succ_self k, hlt, HF.out.2.1, HF.out.2.2.1⟩
theorem value_true {W : World} {pb k : Nat} {T : List Lx} {d : Int} (hp : PAt W pb T k) {x : Lx} {r : List Lx} (hx : T.drop k = x :: r) (k2 : x.kind ≠ 2) (k3 : x.kind ≠ 3) (k0 : x.kind = 0) (hw : x.text = [116, 114, 117, 101]) :
  Calls Tryz.prog 48 #[.pointer (some ⟨pb, 0, none⟩), .int .i64 d] W (ValEnd W pb T k (some ((boolV true), r))) := by
 obtain ⟨hlt, hr, hgx⟩ := drop_next hx
 have i2 : isL 2 [] (T.drop k) = false := by rw [hx]; simp [isL, k2]
 have i3 : isL 3 [] (T.drop k) = false := by rw [hx]; simp [isL, k3]
 have hm0 : takeL 4 [45] (T.drop k) = none := by rw [hx]; simp [takeL, k0]
 have hm1 : takeL 4 [63] (T.drop k) = none := by rw [hx]; simp [takeL, k0]
 have hm2 : takeL 4 [91] (T.drop k) = none := by rw [hx]; simp [takeL, k0]
 have ht : takeL 0 [] (T.drop k) = some (x.text, T.drop (k + 1)) := by rw [hx, ← hr]; simp [takeL, k0]
 have HK0 := Lib.hid k0
 clear k0
 have HE := Lib.hid (VE.new (d := d) hp)
 clear hp
 go_enter Tryz.func48, Tryz.ntmps48
 go_wp2_with fail
 refine (is_ret HE.out.P 2 ⟨#[]⟩ i2).mono ?_
 rintro e w1 ⟨rfl, hs⟩
 have HE1 := Lib.hid (HE.out.same hs)
 clear hs
 have x1 : w1.cell? ⟨W.heap.size, 0, none⟩ = some (.pointer (some ⟨pb, 0, none⟩)) := cell_blk HE1.out.x
 go_wp2_with fail
 refine (is_ret HE1.out.P 3 ⟨#[]⟩ i3).mono ?_
 rintro e w2 ⟨rfl, hs⟩
 have HE2 := Lib.hid (HE1.out.same hs)
 clear hs
 have x2 : w2.cell? ⟨W.heap.size, 0, none⟩ = some (.pointer (some ⟨pb, 0, none⟩)) := cell_blk HE2.out.x
 go_wp2_with fail
 obtain ⟨g, off, cap, y, h1, h2, h3, h4, h5, h6⟩ := HE2.out.P.next hlt
 have hl := HE2.out.P.good.len
 have hxk : T[k] = x := by rw [List.getElem?_eq_getElem hlt] at hgx; cases hgx; rfl
 rw [hxk] at h4
 obtain ⟨N, hN⟩ : ∃ N, T.length = N := ⟨_, rfl⟩
 rw [hN] at h1 h3 hl
 have g0 : w2.cell? ⟨pb, 0, none⟩ = some (.slice (some ⟨g, off, none⟩) N cap) := cell_blk h1
 have g1 : w2.cell? ⟨pb, 1, none⟩ = some (.int .i64 k) := cell_blk h1
 have hkN : k < N := by rw [← hN]; exact hlt
 have g2 : (0 : Int) ≤ (k : Int) := by omega
 have g3 : (k : Int) < (N : Int) := by omega
 have g4 : ((x.kind : Nat) : Int) ≠ 3 := by omega
 have HN := Lib.hid hN
 have HX := Lib.hid hxk
 clear h1 h2 h5 h6 hN hxk
 go_quiet (fail)
 go_wp2_with fail
 have HE3 : Hid (VE W pb k T d (w2.drewN nq)) := Lib.hid (HE2.out.same (same_drewN w2 nq))
 generalize w2.drewN nq = w3 at HE3 ⊢
 clear g0 g1 g2 g3 g4 h3 h4
 have x3 : w3.cell? ⟨W.heap.size, 0, none⟩ = some (.pointer (some ⟨pb, 0, none⟩)) := cell_blk HE3.out.x
 refine (mark_none HE3.out.P ⟨#[45]⟩ hm0).mono ?_
 rintro e w4 ⟨rfl, hs⟩
 have HE4 := Lib.hid (HE3.out.same hs)
 clear hs
 have x4 : w4.cell? ⟨W.heap.size, 0, none⟩ = some (.pointer (some ⟨pb, 0, none⟩)) := cell_blk HE4.out.x
 go_wp2_with fail
 refine (mark_none HE4.out.P ⟨#[63]⟩ hm1).mono ?_
 rintro e w5 ⟨rfl, hs⟩
 have HE5 := Lib.hid (HE4.out.same hs)
 clear hs
 have x5 : w5.cell? ⟨W.heap.size, 0, none⟩ = some (.pointer (some ⟨pb, 0, none⟩)) := cell_blk HE5.out.x
 go_wp2_with fail
 refine (mark_none HE5.out.P ⟨#[91]⟩ hm2).mono ?_
 rintro e w6 ⟨rfl, hs⟩
 have HE6 := Lib.hid (HE5.out.same hs)
 clear hs
 have x6 : w6.cell? ⟨W.heap.size, 0, none⟩ = some (.pointer (some ⟨pb, 0, none⟩)) := cell_blk HE6.out.x
 go_wp2_with fail
 refine (take_some HE6.out.P 0 ⟨#[]⟩ ht).mono ?_
 rintro e w7 ⟨y, rfl, hy, hp, hf⟩
 have HE7 := Lib.hid (HE6.out.far hp hf)
 have HY := Lib.hid hy
 clear hp hf hy
 have x7 : w7.cell? ⟨W.heap.size, 0, none⟩ = some (.pointer (some ⟨pb, 0, none⟩)) := cell_blk HE7.out.x
 have hye := bytes_of (HY.out.trans hw)
 subst hye
 have c0 : w7.cell? ⟨W.heap.size + 1 + 1, 0, none⟩ = some (.int .i64 0) := cell_blk HE7.out.rr
 have f0 : w7.frozen? ⟨W.heap.size + 1 + 1, 0, none⟩ = false := frz_blk HE7.out.rr
 have c1 : w7.cell? ⟨W.heap.size + 1 + 1, 1, none⟩ = some (.bool false) := cell_blk HE7.out.rr
 have f1 : w7.frozen? ⟨W.heap.size + 1 + 1, 1, none⟩ = false := frz_blk HE7.out.rr
 have c2 : w7.cell? ⟨W.heap.size + 1 + 1, 2, none⟩ = some (.int .i64 0) := cell_blk HE7.out.rr
 have f2 : w7.frozen? ⟨W.heap.size + 1 + 1, 2, none⟩ = false := frz_blk HE7.out.rr
 have c3 : w7.cell? ⟨W.heap.size + 1 + 1, 3, none⟩ = some (.string ⟨#[]⟩) := cell_blk HE7.out.rr
 have f3 : w7.frozen? ⟨W.heap.size + 1 + 1, 3, none⟩ = false := frz_blk HE7.out.rr
 have c4 : w7.cell? ⟨W.heap.size + 1 + 1, 4, none⟩ = some (.slice none 0 0) := cell_blk HE7.out.rr
 have f4 : w7.frozen? ⟨W.heap.size + 1 + 1, 4, none⟩ = false := frz_blk HE7.out.rr
 go_wp2_with fail
 have HF := Lib.hid (HE7.out.done (.int .i64 1) (.bool true) (.int .i64 0) (.string ⟨#[]⟩) (.slice none 0 0))
 change bodyPost _ _ _ _ _ (put5 w7 (W.heap.size + 1 + 1) 0 (.int .i64 1) (.bool true) (.int .i64 0) (.string ⟨#[]⟩) (.slice none 0 0))
 generalize put5 w7 (W.heap.size + 1 + 1) 0 (.int .i64 1) (.bool true) (.int .i64 0) (.string ⟨#[]⟩) (.slice none 0 0) = wf at HF ⊢
 have r0 : wf.cell? ⟨W.heap.size + 1 + 1, 0, none⟩ = some (.int .i64 1) := cell_blk HF.out.1
 have r1 : wf.cell? ⟨W.heap.size + 1 + 1, 1, none⟩ = some (.bool true) := cell_blk HF.out.1
 have r2 : wf.cell? ⟨W.heap.size + 1 + 1, 2, none⟩ = some (.int .i64 0) := cell_blk HF.out.1
 have r3 : wf.cell? ⟨W.heap.size + 1 + 1, 3, none⟩ = some (.string ⟨#[]⟩) := cell_blk HF.out.1
 have r4 : wf.cell? ⟨W.heap.size + 1 + 1, 4, none⟩ = some (.slice none 0 0) := cell_blk HF.out.1
 refine bodyPost_ret (v := .agg #[.int .i64 1, .bool true, .int .i64 0, .string ⟨#[]⟩, .slice none 0 0]) (by simp [results, go_sem, r0, r1, r2, r3, r4]) rfl ?_
 exact ⟨1, true, 0, ⟨#[]⟩, .slice none 0 0, k + 1, rfl, rdv_flat .., hr, Nat.lt_succ_self k, hlt, HF.out.2.1, HF.out.2.2.1⟩
theorem value_false {W : World} {pb k : Nat} {T : List Lx} {d : Int} (hp : PAt W pb T k) {x : Lx} {r : List Lx} (hx : T.drop k = x :: r) (k2 : x.kind ≠ 2) (k3 : x.kind ≠ 3) (k0 : x.kind = 0) (hw : x.text = [102, 97, 108, 115, 101]) :
  Calls Tryz.prog 48 #[.pointer (some ⟨pb, 0, none⟩), .int .i64 d] W (ValEnd W pb T k (some ((boolV false), r))) := by
 obtain ⟨hlt, hr, hgx⟩ := drop_next hx
 have i2 : isL 2 [] (T.drop k) = false := by rw [hx]; simp [isL, k2]
 have i3 : isL 3 [] (T.drop k) = false := by rw [hx]; simp [isL, k3]
 have hm0 : takeL 4 [45] (T.drop k) = none := by rw [hx]; simp [takeL, k0]
 have hm1 : takeL 4 [63] (T.drop k) = none := by rw [hx]; simp [takeL, k0]
 have hm2 : takeL 4 [91] (T.drop k) = none := by rw [hx]; simp [takeL, k0]
 have ht : takeL 0 [] (T.drop k) = some (x.text, T.drop (k + 1)) := by rw [hx, ← hr]; simp [takeL, k0]
 have HK0 := Lib.hid k0
 clear k0
 have HE := Lib.hid (VE.new (d := d) hp)
 clear hp
 go_enter Tryz.func48, Tryz.ntmps48
 go_wp2_with fail
 refine (is_ret HE.out.P 2 ⟨#[]⟩ i2).mono ?_
 rintro e w1 ⟨rfl, hs⟩
 have HE1 := Lib.hid (HE.out.same hs)
 clear hs
 have x1 : w1.cell? ⟨W.heap.size, 0, none⟩ = some (.pointer (some ⟨pb, 0, none⟩)) := cell_blk HE1.out.x
 go_wp2_with fail
 refine (is_ret HE1.out.P 3 ⟨#[]⟩ i3).mono ?_
 rintro e w2 ⟨rfl, hs⟩
 have HE2 := Lib.hid (HE1.out.same hs)
 clear hs
 have x2 : w2.cell? ⟨W.heap.size, 0, none⟩ = some (.pointer (some ⟨pb, 0, none⟩)) := cell_blk HE2.out.x
 go_wp2_with fail
 obtain ⟨g, off, cap, y, h1, h2, h3, h4, h5, h6⟩ := HE2.out.P.next hlt
 have hl := HE2.out.P.good.len
 have hxk : T[k] = x := by rw [List.getElem?_eq_getElem hlt] at hgx; cases hgx; rfl
 rw [hxk] at h4
 obtain ⟨N, hN⟩ : ∃ N, T.length = N := ⟨_, rfl⟩
 rw [hN] at h1 h3 hl
 have g0 : w2.cell? ⟨pb, 0, none⟩ = some (.slice (some ⟨g, off, none⟩) N cap) := cell_blk h1
 have g1 : w2.cell? ⟨pb, 1, none⟩ = some (.int .i64 k) := cell_blk h1
 have hkN : k < N := by rw [← hN]; exact hlt
 have g2 : (0 : Int) ≤ (k : Int) := by omega
 have g3 : (k : Int) < (N : Int) := by omega
 have g4 : ((x.kind : Nat) : Int) ≠ 3 := by omega
 have HN := Lib.hid hN
 have HX := Lib.hid hxk
 clear h1 h2 h5 h6 hN hxk
 go_quiet (fail)
 go_wp2_with fail
 have HE3 : Hid (VE W pb k T d (w2.drewN nq)) := Lib.hid (HE2.out.same (same_drewN w2 nq))
 generalize w2.drewN nq = w3 at HE3 ⊢
 clear g0 g1 g2 g3 g4 h3 h4
 have x3 : w3.cell? ⟨W.heap.size, 0, none⟩ = some (.pointer (some ⟨pb, 0, none⟩)) := cell_blk HE3.out.x
 refine (mark_none HE3.out.P ⟨#[45]⟩ hm0).mono ?_
 rintro e w4 ⟨rfl, hs⟩
 have HE4 := Lib.hid (HE3.out.same hs)
 clear hs
 have x4 : w4.cell? ⟨W.heap.size, 0, none⟩ = some (.pointer (some ⟨pb, 0, none⟩)) := cell_blk HE4.out.x
 go_wp2_with fail
 refine (mark_none HE4.out.P ⟨#[63]⟩ hm1).mono ?_
 rintro e w5 ⟨rfl, hs⟩
 have HE5 := Lib.hid (HE4.out.same hs)
 clear hs
 have x5 : w5.cell? ⟨W.heap.size, 0, none⟩ = some (.pointer (some ⟨pb, 0, none⟩)) := cell_blk HE5.out.x
 go_wp2_with fail
 refine (mark_none HE5.out.P ⟨#[91]⟩ hm2).mono ?_
 rintro e w6 ⟨rfl, hs⟩
 have HE6 := Lib.hid (HE5.out.same hs)
 clear hs
 have x6 : w6.cell? ⟨W.heap.size, 0, none⟩ = some (.pointer (some ⟨pb, 0, none⟩)) := cell_blk HE6.out.x
 go_wp2_with fail
 refine (take_some HE6.out.P 0 ⟨#[]⟩ ht).mono ?_
 rintro e w7 ⟨y, rfl, hy, hp, hf⟩
 have HE7 := Lib.hid (HE6.out.far hp hf)
 have HY := Lib.hid hy
 clear hp hf hy
 have x7 : w7.cell? ⟨W.heap.size, 0, none⟩ = some (.pointer (some ⟨pb, 0, none⟩)) := cell_blk HE7.out.x
 have hye := bytes_of (HY.out.trans hw)
 subst hye
 have c0 : w7.cell? ⟨W.heap.size + 1 + 1, 0, none⟩ = some (.int .i64 0) := cell_blk HE7.out.rr
 have f0 : w7.frozen? ⟨W.heap.size + 1 + 1, 0, none⟩ = false := frz_blk HE7.out.rr
 have c1 : w7.cell? ⟨W.heap.size + 1 + 1, 1, none⟩ = some (.bool false) := cell_blk HE7.out.rr
 have f1 : w7.frozen? ⟨W.heap.size + 1 + 1, 1, none⟩ = false := frz_blk HE7.out.rr
 have c2 : w7.cell? ⟨W.heap.size + 1 + 1, 2, none⟩ = some (.int .i64 0) := cell_blk HE7.out.rr
 have f2 : w7.frozen? ⟨W.heap.size + 1 + 1, 2, none⟩ = false := frz_blk HE7.out.rr
 have c3 : w7.cell? ⟨W.heap.size + 1 + 1, 3, none⟩ = some (.string ⟨#[]⟩) := cell_blk HE7.out.rr
 have f3 : w7.frozen? ⟨W.heap.size + 1 + 1, 3, none⟩ = false := frz_blk HE7.out.rr
 have c4 : w7.cell? ⟨W.heap.size + 1 + 1, 4, none⟩ = some (.slice none 0 0) := cell_blk HE7.out.rr
 have f4 : w7.frozen? ⟨W.heap.size + 1 + 1, 4, none⟩ = false := frz_blk HE7.out.rr
 go_wp2_with fail
 have HF := Lib.hid (HE7.out.done (.int .i64 1) (.bool false) (.int .i64 0) (.string ⟨#[]⟩) (.slice none 0 0))
 change bodyPost _ _ _ _ _ (put5 w7 (W.heap.size + 1 + 1) 0 (.int .i64 1) (.bool false) (.int .i64 0) (.string ⟨#[]⟩) (.slice none 0 0))
 generalize put5 w7 (W.heap.size + 1 + 1) 0 (.int .i64 1) (.bool false) (.int .i64 0) (.string ⟨#[]⟩) (.slice none 0 0) = wf at HF ⊢
 have r0 : wf.cell? ⟨W.heap.size + 1 + 1, 0, none⟩ = some (.int .i64 1) := cell_blk HF.out.1
 have r1 : wf.cell? ⟨W.heap.size + 1 + 1, 1, none⟩ = some (.bool false) := cell_blk HF.out.1
 have r2 : wf.cell? ⟨W.heap.size + 1 + 1, 2, none⟩ = some (.int .i64 0) := cell_blk HF.out.1
 have r3 : wf.cell? ⟨W.heap.size + 1 + 1, 3, none⟩ = some (.string ⟨#[]⟩) := cell_blk HF.out.1
 have r4 : wf.cell? ⟨W.heap.size + 1 + 1, 4, none⟩ = some (.slice none 0 0) := cell_blk HF.out.1
 refine bodyPost_ret (v := .agg #[.int .i64 1, .bool false, .int .i64 0, .string ⟨#[]⟩, .slice none 0 0]) (by simp [results, go_sem, r0, r1, r2, r3, r4]) rfl ?_
 exact ⟨1, false, 0, ⟨#[]⟩, .slice none 0 0, k + 1, rfl, rdv_flat .., hr, Nat.lt_succ_self k, hlt, HF.out.2.1, HF.out.2.2.1⟩
theorem value_other {W : World} {pb k : Nat} {T : List Lx} {d : Int} (hp : PAt W pb T k) {x : Lx} {r : List Lx} (hx : T.drop k = x :: r) (k2 : x.kind ≠ 2) (k3 : x.kind ≠ 3) (k0 : x.kind = 0) (h1 : x.text ≠ [110, 117, 108, 108]) (h2 : x.text ≠ [116, 114, 117, 101]) (h3 : x.text ≠ [102, 97, 108, 115, 101]) :
  Calls Tryz.prog 48 #[.pointer (some ⟨pb, 0, none⟩), .int .i64 d] W (ValEnd W pb T k none) := by
 obtain ⟨hlt, hr, hgx⟩ := drop_next hx
 have i2 : isL 2 [] (T.drop k) = false := by rw [hx]; simp [isL, k2]
 have i3 : isL 3 [] (T.drop k) = false := by rw [hx]; simp [isL, k3]
 have hm0 : takeL 4 [45] (T.drop k) = none := by rw [hx]; simp [takeL, k0]
 have hm1 : takeL 4 [63] (T.drop k) = none := by rw [hx]; simp [takeL, k0]
 have hm2 : takeL 4 [91] (T.drop k) = none := by rw [hx]; simp [takeL, k0]
 have ht : takeL 0 [] (T.drop k) = some (x.text, T.drop (k + 1)) := by rw [hx, ← hr]; simp [takeL, k0]
 have HK0 := Lib.hid k0
 clear k0
 have HE := Lib.hid (VE.new (d := d) hp)
 clear hp
 go_enter Tryz.func48, Tryz.ntmps48
 go_wp2_with fail
 refine (is_ret HE.out.P 2 ⟨#[]⟩ i2).mono ?_
 rintro e w1 ⟨rfl, hs⟩
 have HE1 := Lib.hid (HE.out.same hs)
 clear hs
 have x1 : w1.cell? ⟨W.heap.size, 0, none⟩ = some (.pointer (some ⟨pb, 0, none⟩)) := cell_blk HE1.out.x
 go_wp2_with fail
 refine (is_ret HE1.out.P 3 ⟨#[]⟩ i3).mono ?_
 rintro e w2 ⟨rfl, hs⟩
 have HE2 := Lib.hid (HE1.out.same hs)
 clear hs
 have x2 : w2.cell? ⟨W.heap.size, 0, none⟩ = some (.pointer (some ⟨pb, 0, none⟩)) := cell_blk HE2.out.x
 go_wp2_with fail
 obtain ⟨g, off, cap, y, h1, h2, h3, h4, h5, h6⟩ := HE2.out.P.next hlt
 have hl := HE2.out.P.good.len
 have hxk : T[k] = x := by rw [List.getElem?_eq_getElem hlt] at hgx; cases hgx; rfl
 rw [hxk] at h4
 obtain ⟨N, hN⟩ : ∃ N, T.length = N := ⟨_, rfl⟩
 rw [hN] at h1 h3 hl
 have g0 : w2.cell? ⟨pb, 0, none⟩ = some (.slice (some ⟨g, off, none⟩) N cap) := cell_blk h1
 have g1 : w2.cell? ⟨pb, 1, none⟩ = some (.int .i64 k) := cell_blk h1
 have hkN : k < N := by rw [← hN]; exact hlt
 have g2 : (0 : Int) ≤ (k : Int) := by omega
 have g3 : (k : Int) < (N : Int) := by omega
 have g4 : ((x.kind : Nat) : Int) ≠ 3 := by omega
 have HN := Lib.hid hN
 have HX := Lib.hid hxk
 clear h1 h2 h5 h6 hN hxk
 go_quiet (fail)
 go_wp2_with fail
 have HE3 : Hid (VE W pb k T d (w2.drewN nq)) := Lib.hid (HE2.out.same (same_drewN w2 nq))
 generalize w2.drewN nq = w3 at HE3 ⊢
 clear g0 g1 g2 g3 g4 h3 h4
 have x3 : w3.cell? ⟨W.heap.size, 0, none⟩ = some (.pointer (some ⟨pb, 0, none⟩)) := cell_blk HE3.out.x
 refine (mark_none HE3.out.P ⟨#[45]⟩ hm0).mono ?_
 rintro e w4 ⟨rfl, hs⟩
 have HE4 := Lib.hid (HE3.out.same hs)
 clear hs
 have x4 : w4.cell? ⟨W.heap.size, 0, none⟩ = some (.pointer (some ⟨pb, 0, none⟩)) := cell_blk HE4.out.x
 go_wp2_with fail
 refine (mark_none HE4.out.P ⟨#[63]⟩ hm1).mono ?_
 rintro e w5 ⟨rfl, hs⟩
 have HE5 := Lib.hid (HE4.out.same hs)
 clear hs
 have x5 : w5.cell? ⟨W.heap.size, 0, none⟩ = some (.pointer (some ⟨pb, 0, none⟩)) := cell_blk HE5.out.x
 go_wp2_with fail
 refine (mark_none HE5.out.P ⟨#[91]⟩ hm2).mono ?_
 rintro e w6 ⟨rfl, hs⟩
 have HE6 := Lib.hid (HE5.out.same hs)
 clear hs
 have x6 : w6.cell? ⟨W.heap.size, 0, none⟩ = some (.pointer (some ⟨pb, 0, none⟩)) := cell_blk HE6.out.x
 go_wp2_with fail
 refine (take_some HE6.out.P 0 ⟨#[]⟩ ht).mono ?_
 rintro e w7 ⟨y, rfl, hy, hp, hf⟩
 have HE7 := Lib.hid (HE6.out.far hp hf)
 have HY := Lib.hid hy
 clear hp hf hy
 have x7 : w7.cell? ⟨W.heap.size, 0, none⟩ = some (.pointer (some ⟨pb, 0, none⟩)) := cell_blk HE7.out.x
 have e1 : (y.toList == [110, 117, 108, 108]) = false := by rw [Lib.toList_data, HY.out]; simpa using h1
 have e2 : (y.toList == [116, 114, 117, 101]) = false := by rw [Lib.toList_data, HY.out]; simpa using h2
 have e3 : (y.toList == [102, 97, 108, 115, 101]) = false := by rw [Lib.toList_data, HY.out]; simpa using h3
 go_wp2_with fail
 exact ⟨rfl, rfl, HE7.out.fp⟩
theorem value_none {W : World} {pb k : Nat} {T : List Lx} {d : Int} (hp : PAt W pb T k) {x : Lx} {r : List Lx} (hx : T.drop k = x :: r) (k2 : x.kind ≠ 2) (k3 : x.kind ≠ 3) (hm0 : takeL 4 [45] (T.drop k) = none) (hm1 : takeL 4 [63] (T.drop k) = none) (hm2 : takeL 4 [91] (T.drop k) = none) (ht : takeL 0 [] (T.drop k) = none) :
  Calls Tryz.prog 48 #[.pointer (some ⟨pb, 0, none⟩), .int .i64 d] W (ValEnd W pb T k none) := by
 obtain ⟨hlt, hr, hgx⟩ := drop_next hx
 have i2 : isL 2 [] (T.drop k) = false := by rw [hx]; simp [isL, k2]
 have i3 : isL 3 [] (T.drop k) = false := by rw [hx]; simp [isL, k3]
 have HE := Lib.hid (VE.new (d := d) hp)
 clear hp
 go_enter Tryz.func48, Tryz.ntmps48
 go_wp2_with fail
 refine (is_ret HE.out.P 2 ⟨#[]⟩ i2).mono ?_
 rintro e w1 ⟨rfl, hs⟩
 have HE1 := Lib.hid (HE.out.same hs)
 clear hs
 have x1 : w1.cell? ⟨W.heap.size, 0, none⟩ = some (.pointer (some ⟨pb, 0, none⟩)) := cell_blk HE1.out.x
 go_wp2_with fail
 refine (is_ret HE1.out.P 3 ⟨#[]⟩ i3).mono ?_
 rintro e w2 ⟨rfl, hs⟩
 have HE2 := Lib.hid (HE1.out.same hs)
 clear hs
 have x2 : w2.cell? ⟨W.heap.size, 0, none⟩ = some (.pointer (some ⟨pb, 0, none⟩)) := cell_blk HE2.out.x
 go_wp2_with fail
 obtain ⟨g, off, cap, y, h1, h2, h3, h4, h5, h6⟩ := HE2.out.P.next hlt
 have hl := HE2.out.P.good.len
 have hxk : T[k] = x := by rw [List.getElem?_eq_getElem hlt] at hgx; cases hgx; rfl
 rw [hxk] at h4
 obtain ⟨N, hN⟩ : ∃ N, T.length = N := ⟨_, rfl⟩
 rw [hN] at h1 h3 hl
 have g0 : w2.cell? ⟨pb, 0, none⟩ = some (.slice (some ⟨g, off, none⟩) N cap) := cell_blk h1
 have g1 : w2.cell? ⟨pb, 1, none⟩ = some (.int .i64 k) := cell_blk h1
 have hkN : k < N := by rw [← hN]; exact hlt
 have g2 : (0 : Int) ≤ (k : Int) := by omega
 have g3 : (k : Int) < (N : Int) := by omega
 have g4 : ((x.kind : Nat) : Int) ≠ 3 := by omega
 have HN := Lib.hid hN
 have HX := Lib.hid hxk
 clear h1 h2 h5 h6 hN hxk
 go_quiet (fail)
 go_wp2_with fail
 have HE3 : Hid (VE W pb k T d (w2.drewN nq)) := Lib.hid (HE2.out.same (same_drewN w2 nq))
 generalize w2.drewN nq = w3 at HE3 ⊢
 clear g0 g1 g2 g3 g4 h3 h4
 have x3 : w3.cell? ⟨W.heap.size, 0, none⟩ = some (.pointer (some ⟨pb, 0, none⟩)) := cell_blk HE3.out.x
 refine (mark_none HE3.out.P ⟨#[45]⟩ hm0).mono ?_
 rintro e w4 ⟨rfl, hs⟩
 have HE4 := Lib.hid (HE3.out.same hs)
 clear hs
 have x4 : w4.cell? ⟨W.heap.size, 0, none⟩ = some (.pointer (some ⟨pb, 0, none⟩)) := cell_blk HE4.out.x
 go_wp2_with fail
 refine (mark_none HE4.out.P ⟨#[63]⟩ hm1).mono ?_
 rintro e w5 ⟨rfl, hs⟩
 have HE5 := Lib.hid (HE4.out.same hs)
 clear hs
 have x5 : w5.cell? ⟨W.heap.size, 0, none⟩ = some (.pointer (some ⟨pb, 0, none⟩)) := cell_blk HE5.out.x
 go_wp2_with fail
 refine (mark_none HE5.out.P ⟨#[91]⟩ hm2).mono ?_
 rintro e w6 ⟨rfl, hs⟩
 have HE6 := Lib.hid (HE5.out.same hs)
 clear hs
 have x6 : w6.cell? ⟨W.heap.size, 0, none⟩ = some (.pointer (some ⟨pb, 0, none⟩)) := cell_blk HE6.out.x
 go_wp2_with fail
 refine (take_none HE6.out.P 0 ⟨#[]⟩ ht).mono ?_
 rintro e w9 ⟨rfl, hf⟩
 exact ⟨rfl, rfl, HE6.out.fp.trans hf (fun i hi => .inl hi)⟩
theorem value_end {W : World} {pb k : Nat} {T : List Lx} {d : Int} (hp : PAt W pb T k) (hx : T.drop k = []) :
  Calls Tryz.prog 48 #[.pointer (some ⟨pb, 0, none⟩), .int .i64 d] W (ValEnd W pb T k none) := by
 have hge : T.length ≤ k := by
  rcases Nat.lt_or_ge k T.length with h' | h'
  ·rw [drop_cons h'] at hx; cases hx
  ·exact h'
 have i2 : isL 2 [] (T.drop k) = false := by rw [hx]; rfl
 have i3 : isL 3 [] (T.drop k) = false := by rw [hx]; rfl
 have hm0 : takeL 4 [45] (T.drop k) = none := by rw [hx]; rfl
 have hm1 : takeL 4 [63] (T.drop k) = none := by rw [hx]; rfl
 have hm2 : takeL 4 [91] (T.drop k) = none := by rw [hx]; rfl
 have ht : takeL 0 [] (T.drop k) = none := by rw [hx]; rfl
 have HE := Lib.hid (VE.new (d := d) hp)
 clear hp
 go_enter Tryz.func48, Tryz.ntmps48
 go_wp2_with fail
 refine (is_ret HE.out.P 2 ⟨#[]⟩ i2).mono ?_
 rintro e w1 ⟨rfl, hs⟩
 have HE1 := Lib.hid (HE.out.same hs)
 clear hs
 have x1 : w1.cell? ⟨W.heap.size, 0, none⟩ = some (.pointer (some ⟨pb, 0, none⟩)) := cell_blk HE1.out.x
 go_wp2_with fail
 refine (is_ret HE1.out.P 3 ⟨#[]⟩ i3).mono ?_
 rintro e w2 ⟨rfl, hs⟩
 have HE2 := Lib.hid (HE1.out.same hs)
 clear hs
 have x2 : w2.cell? ⟨W.heap.size, 0, none⟩ = some (.pointer (some ⟨pb, 0, none⟩)) := cell_blk HE2.out.x
 go_wp2_with fail
 obtain ⟨sl, xs, h1, h2, h3⟩ := HE2.out.P.box
 obtain ⟨_, ao, cap, rfl, _⟩ := h2
 have hl := HE2.out.P.good.len
 obtain ⟨N, hN⟩ : ∃ N, T.length = N := ⟨_, rfl⟩
 rw [hN] at h1 hl hge
 have g0 : w2.cell? ⟨pb, 0, none⟩ = some (.slice ao N cap) := cell_blk h1
 have g1 : w2.cell? ⟨pb, 1, none⟩ = some (.int .i64 k) := cell_blk h1
 have g3 : decide ((k : Int) < (N : Int)) = false := by simp; omega
 have g4 : ¬ ((k : Int) < (N : Int)) := by omega
 clear h1 h3 hN
 go_quiet (fail)
 go_wp2_with fail
 have HE3 : Hid (VE W pb k T d (w2.drewN nq)) := Lib.hid (HE2.out.same (same_drewN w2 nq))
 generalize w2.drewN nq = w3 at HE3 ⊢
 clear g0 g1 g3 g4
 have x3 : w3.cell? ⟨W.heap.size, 0, none⟩ = some (.pointer (some ⟨pb, 0, none⟩)) := cell_blk HE3.out.x
 refine (mark_none HE3.out.P ⟨#[45]⟩ hm0).mono ?_
 rintro e w4 ⟨rfl, hs⟩
 have HE4 := Lib.hid (HE3.out.same hs)
 clear hs
 have x4 : w4.cell? ⟨W.heap.size, 0, none⟩ = some (.pointer (some ⟨pb, 0, none⟩)) := cell_blk HE4.out.x
 go_wp2_with fail
 refine (mark_none HE4.out.P ⟨#[63]⟩ hm1).mono ?_
 rintro e w5 ⟨rfl, hs⟩
 have HE5 := Lib.hid (HE4.out.same hs)
 clear hs
 have x5 : w5.cell? ⟨W.heap.size, 0, none⟩ = some (.pointer (some ⟨pb, 0, none⟩)) := cell_blk HE5.out.x
 go_wp2_with fail
 refine (mark_none HE5.out.P ⟨#[91]⟩ hm2).mono ?_
 rintro e w6 ⟨rfl, hs⟩
 have HE6 := Lib.hid (HE5.out.same hs)
 clear hs
 have x6 : w6.cell? ⟨W.heap.size, 0, none⟩ = some (.pointer (some ⟨pb, 0, none⟩)) := cell_blk HE6.out.x
 go_wp2_with fail
 refine (take_none HE6.out.P 0 ⟨#[]⟩ ht).mono ?_
 rintro e w9 ⟨rfl, hf⟩
 exact ⟨rfl, rfl, HE6.out.fp.trans hf (fun i hi => .inl hi)⟩
end Go.Proofs.YtnpkdiffpgcbhaaGreatDoor
