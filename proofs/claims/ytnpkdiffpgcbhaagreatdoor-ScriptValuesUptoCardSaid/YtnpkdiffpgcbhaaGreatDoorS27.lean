/- The parser, walked (ParI). Conditions: each theorem's own. -/
import Derived.Test.YtnpkdiffpgcbhaaGreatDoorS26
set_option maxRecDepth 100000
set_option maxHeartbeats 1600000
namespace Go.Proofs.YtnpkdiffpgcbhaaGreatDoor
open Go.RowKit
attribute [local go_sem] Oper.semAt_some
theorem list_rd {W w8 wf w0 : World} {pb h vb k : Nat} {T : List Lx} {d : Int} {l : List GV} {xs : List Value} {ao : Option Addr} {m cap : Nat} (hs : RowSt (vC pb h vb d) w0 T l xs k (.slice ao l.length cap) (.slice ao l.length cap) l.length xs none w8)
  (hk : ∀ b', b' < w8.heap.size → b' ≠ W.heap.size + 1 + 1 → wf.heap[b']? = w8.heap[b']?) (hvb : W.heap.size + 1 + 1 < vb) (hm : l.length = m) : RdV wf (fun b => W.heap.size ≤ b) [.int .i64 4, .bool false, .int .i64 0, .string ⟨#[]⟩, .slice ao m cap] (listV l) := by
 subst hm
 have hsl : SliceAt w8 (fun b => vb + 1 ≤ b) (.slice ao l.length cap) l.length (l.length * 5) xs := SliceAt.own hs.row
 exact .mk 4 false 0 ⟨#[]⟩ _ xs l (hsl.trans' (fun g hg hl => ⟨hk g hl (by omega), by omega⟩)) ((hs.old.vals).imp (fun v _ c hc => RdV.trans' (fun g hg hl => by have h1 : vb < g := hg.1; exact ⟨hk g hl (by omega), by omega⟩) v c hc))
theorem value_deep {W : World} {pb k : Nat} {T : List Lx} {d : Int} (hp : PAt W pb T k) {x : Lx} {r : List Lx} (hx : T.drop k = x :: r) (k2 : x.kind ≠ 2) (k3 : x.kind ≠ 3) {t : Bs} {r1 : List Lx} (hm0 : takeL 4 [45] (T.drop k) = none) (hm1 : takeL 4 [63] (T.drop k) = none) (hm : takeL 4 [91] (T.drop k) = some (t, r1)) (hd : d = 30) :
  Calls Tryz.prog 48 #[.pointer (some ⟨pb, 0, none⟩), .int .i64 d] W (ValEnd W pb T k none) := by
 obtain ⟨hlt, hr, hgx⟩ := drop_next hx
 have i2 : isL 2 [] (T.drop k) = false := by rw [hx]; simp [isL, k2]
 have i3 : isL 3 [] (T.drop k) = false := by rw [hx]; simp [isL, k3]
 obtain ⟨hlt1, hmA, rfl, hm2⟩ := takeL_drop hm
 clear hmA hm2
 have HD := Lib.hid hd
 clear hd
 have HE := Lib.hid (VE.new (d := d) hp)
 clear hp
 go_enter Tryz.func48, Tryz.ntmps48
 go_wp2_with fail
 refine (is_ret HE.out.P 2 ⟨#[]⟩ i2).mono ?_
 rintro e w1 ⟨rfl, hs⟩
 have HE1 := Lib.hid (HE.out.same hs)
 clear hs
 have x1 : w1.cell? ⟨W.heap.size, 0, none⟩ = some (.pointer (some ⟨pb, 0, none⟩)) := cell_blk HE1.out.x
 go_wp2_with fail
 refine (is_ret HE1.out.P 3 ⟨#[]⟩ i3).mono ?_
 rintro e w2 ⟨rfl, hs⟩
 have HE2 := Lib.hid (HE1.out.same hs)
 clear hs
 have x2 : w2.cell? ⟨W.heap.size, 0, none⟩ = some (.pointer (some ⟨pb, 0, none⟩)) := cell_blk HE2.out.x
 go_wp2_with fail
 obtain ⟨g, off, cap, y, h1, h2, h3, h4, h5, h6⟩ := HE2.out.P.next hlt
 have hl := HE2.out.P.good.len
 have hxk : T[k] = x := by rw [List.getElem?_eq_getElem hlt] at hgx; cases hgx; rfl
 rw [hxk] at h4
 obtain ⟨N, hN⟩ : ∃ N, T.length = N := ⟨_, rfl⟩
 rw [hN] at h1 h3 hl
 have g0 : w2.cell? ⟨pb, 0, none⟩ = some (.slice (some ⟨g, off, none⟩) N cap) := cell_blk h1
 have g1 : w2.cell? ⟨pb, 1, none⟩ = some (.int .i64 k) := cell_blk h1
 have hkN : k < N := by rw [← hN]; exact hlt
 have g2 : (0 : Int) ≤ (k : Int) := by omega
 have g3 : (k : Int) < (N : Int) := by omega
 have g4 : ((x.kind : Nat) : Int) ≠ 3 := by omega
 have HN := Lib.hid hN
 have HX := Lib.hid hxk
 clear h1 h2 h5 h6 hN hxk
 go_quiet (fail)
 go_wp2_with fail
 have HE3 : Hid (VE W pb k T d (w2.drewN nq)) := Lib.hid (HE2.out.same (same_drewN w2 nq))
 generalize w2.drewN nq = w3 at HE3 ⊢
 clear g0 g1 g2 g3 g4 h3 h4
 have x3 : w3.cell? ⟨W.heap.size, 0, none⟩ = some (.pointer (some ⟨pb, 0, none⟩)) := cell_blk HE3.out.x
 refine (mark_none HE3.out.P ⟨#[45]⟩ hm0).mono ?_
 rintro e w4 ⟨rfl, hs⟩
 have HE4 := Lib.hid (HE3.out.same hs)
 clear hs
 have x4 : w4.cell? ⟨W.heap.size, 0, none⟩ = some (.pointer (some ⟨pb, 0, none⟩)) := cell_blk HE4.out.x
 go_wp2_with fail
 refine (mark_none HE4.out.P ⟨#[63]⟩ hm1).mono ?_
 rintro e w5 ⟨rfl, hs⟩
 have HE5 := Lib.hid (HE4.out.same hs)
 clear hs
 have x5 : w5.cell? ⟨W.heap.size, 0, none⟩ = some (.pointer (some ⟨pb, 0, none⟩)) := cell_blk HE5.out.x
 go_wp2_with fail
 refine (mark_some HE5.out.P ⟨#[91]⟩ hm).mono ?_
 rintro e w6 ⟨rfl, hp, hf⟩
 have HE6 := Lib.hid (HE5.out.far hp hf)
 clear hp hf
 have x6 : w6.cell? ⟨W.heap.size, 0, none⟩ = some (.pointer (some ⟨pb, 0, none⟩)) := cell_blk HE6.out.x
 have dd : w6.cell? ⟨W.heap.size + 1, 0, none⟩ = some (.int .i64 d) := cell_blk HE6.out.dd
 have hdl : decide (d < 30) = false := by rw [HD.out]; rfl
 go_wp2_with fail
 refine (need_false _).mono ?_
 rintro e w9 ⟨rfl, rfl⟩
 exact ⟨rfl, rfl, HE6.out.fp⟩
theorem value_list_none {W : World} {pb k : Nat} {T : List Lx} {d : Int} (hp : PAt W pb T k) {x : Lx} {r : List Lx} (hx : T.drop k = x :: r) (k2 : x.kind ≠ 2) (k3 : x.kind ≠ 3) {t : Bs} {r1 : List Lx} (hm0 : takeL 4 [45] (T.drop k) = none) (hm1 : takeL 4 [63] (T.drop k) = none) (hm : takeL 4 [91] (T.drop k) = some (t, r1)) (dn : Nat) (hd : d = (dn : Int)) (hdn : dn < 30) (n : Nat) (HV : ∀ W k, PAt W pb T k → Calls Tryz.prog 48 #[.pointer (some ⟨pb, 0, none⟩), .int .i64 (d + 1)] W (ValEnd W pb T k (pVal n (T.drop k)))) (hres : listL (pVal n) [93] (r1.length + 1) true r1 = none) :
  Calls Tryz.prog 48 #[.pointer (some ⟨pb, 0, none⟩), .int .i64 d] W (ValEnd W pb T k none) := by
 obtain ⟨hlt, hr, hgx⟩ := drop_next hx
 have i2 : isL 2 [] (T.drop k) = false := by rw [hx]; simp [isL, k2]
 have i3 : isL 3 [] (T.drop k) = false := by rw [hx]; simp [isL, k3]
 obtain ⟨hlt1, hmA, rfl, hm2⟩ := takeL_drop hm
 clear hmA hm2
 have HD := Lib.hid hd
 have HV' := Lib.hid HV
 have HRES := Lib.hid hres
 clear HV hd hres
 have HE := Lib.hid (VE.new (d := d) hp)
 clear hp
 go_enter Tryz.func48, Tryz.ntmps48
 go_wp2_with fail
 refine (is_ret HE.out.P 2 ⟨#[]⟩ i2).mono ?_
 rintro e w1 ⟨rfl, hs⟩
 have HE1 := Lib.hid (HE.out.same hs)
 clear hs
 have x1 : w1.cell? ⟨W.heap.size, 0, none⟩ = some (.pointer (some ⟨pb, 0, none⟩)) := cell_blk HE1.out.x
 go_wp2_with fail
 refine (is_ret HE1.out.P 3 ⟨#[]⟩ i3).mono ?_
 rintro e w2 ⟨rfl, hs⟩
 have HE2 := Lib.hid (HE1.out.same hs)
 clear hs
 have x2 : w2.cell? ⟨W.heap.size, 0, none⟩ = some (.pointer (some ⟨pb, 0, none⟩)) := cell_blk HE2.out.x
 go_wp2_with fail
 obtain ⟨g, off, cap, y, h1, h2, h3, h4, h5, h6⟩ := HE2.out.P.next hlt
 have hl := HE2.out.P.good.len
 have hxk : T[k] = x := by rw [List.getElem?_eq_getElem hlt] at hgx; cases hgx; rfl
 rw [hxk] at h4
 obtain ⟨N, hN⟩ : ∃ N, T.length = N := ⟨_, rfl⟩
 rw [hN] at h1 h3 hl
 have g0 : w2.cell? ⟨pb, 0, none⟩ = some (.slice (some ⟨g, off, none⟩) N cap) := cell_blk h1
 have g1 : w2.cell? ⟨pb, 1, none⟩ = some (.int .i64 k) := cell_blk h1
 have hkN : k < N := by rw [← hN]; exact hlt
 have g2 : (0 : Int) ≤ (k : Int) := by omega
 have g3 : (k : Int) < (N : Int) := by omega
 have g4 : ((x.kind : Nat) : Int) ≠ 3 := by omega
 have HN := Lib.hid hN
 have HX := Lib.hid hxk
 clear h1 h2 h5 h6 hN hxk
 go_quiet (fail)
 go_wp2_with fail
 have HE3 : Hid (VE W pb k T d (w2.drewN nq)) := Lib.hid (HE2.out.same (same_drewN w2 nq))
 generalize w2.drewN nq = w3 at HE3 ⊢
 clear g0 g1 g2 g3 g4 h3 h4
 have x3 : w3.cell? ⟨W.heap.size, 0, none⟩ = some (.pointer (some ⟨pb, 0, none⟩)) := cell_blk HE3.out.x
 refine (mark_none HE3.out.P ⟨#[45]⟩ hm0).mono ?_
 rintro e w4 ⟨rfl, hs⟩
 have HE4 := Lib.hid (HE3.out.same hs)
 clear hs
 have x4 : w4.cell? ⟨W.heap.size, 0, none⟩ = some (.pointer (some ⟨pb, 0, none⟩)) := cell_blk HE4.out.x
 go_wp2_with fail
 refine (mark_none HE4.out.P ⟨#[63]⟩ hm1).mono ?_
 rintro e w5 ⟨rfl, hs⟩
 have HE5 := Lib.hid (HE4.out.same hs)
 clear hs
 have x5 : w5.cell? ⟨W.heap.size, 0, none⟩ = some (.pointer (some ⟨pb, 0, none⟩)) := cell_blk HE5.out.x
 go_wp2_with fail
 refine (mark_some HE5.out.P ⟨#[91]⟩ hm).mono ?_
 rintro e w6 ⟨rfl, hp, hf⟩
 have HE6 := Lib.hid (HE5.out.far hp hf)
 clear hp hf
 have x6 : w6.cell? ⟨W.heap.size, 0, none⟩ = some (.pointer (some ⟨pb, 0, none⟩)) := cell_blk HE6.out.x
 have dd : w6.cell? ⟨W.heap.size + 1, 0, none⟩ = some (.int .i64 d) := cell_blk HE6.out.dd
 have hdl : decide (d < 30) = true := by rw [HD.out]; simp; omega
 go_upto_region 18 with (go_at_call 57; refine (need_true _).mono ?_; rintro e w9 ⟨rfl, rfl⟩)
 have HE7 : Hid (VE W pb (k + 1) T d (w6.alloc (.cells #[.int .i64 4, .bool false, .int .i64 0, .string ⟨#[]⟩, .slice none 0 0] 52))) := Lib.hid (HE6.out.far (HE6.out.P.fp (S := nob) ((FP.refl _ w6).alloc _) (fun _ h => h.elim)) ((FP.refl _ w6).alloc _))
 have HS0 : Hid (VI W pb W.heap.size w6.heap.size T d [] (k + 1) (w6.alloc (.cells #[.int .i64 4, .bool false, .int .i64 0, .string ⟨#[]⟩, .slice none 0 0] 52))) := Lib.hid ⟨.slice none 0 0, [], ⟨HE7.out.P, fun y hy => (by
   simp only [vC, List.mem_cons, List.not_mem_nil, or_false] at hy
   rcases hy with rfl | rfl | rfl
   ·exact HE7.out.x
   ·exact HE7.out.dd
   ·exact HE7.out.rr), heap_new_at rfl _, World.ownsRow_nil _ _ _ _, .nil, fun x hx => (by cases hx), HE7.out.fp, HE6.out.fp.size⟩, Nat.zero_le _⟩
 have hvb : W.heap.size + 1 + 1 < w6.heap.size := lt_blk HE6.out.rr
 have hlow : pb < W.heap.size := HE6.out.lt
 have x7 : (w6.alloc (.cells #[.int .i64 4, .bool false, .int .i64 0, .string ⟨#[]⟩, .slice none 0 0] 52)).cell? ⟨W.heap.size, 0, none⟩ = some (.pointer (some ⟨pb, 0, none⟩)) := cell_blk HE7.out.x
 obtain ⟨vb, hvbe⟩ : ∃ vb, w6.heap.size = vb := ⟨_, rfl⟩
 rw [hvbe] at HS0 hvb ⊢
 generalize (w6.alloc (.cells #[.int .i64 4, .bool false, .int .i64 0, .string ⟨#[]⟩, .slice none 0 0] 52)) = w7 at HE7 HS0 x7 ⊢
 have HVB := Lib.hid hvb
 have HLOW := Lib.hid hlow
 have h3 : ∀ (acc : List GV) (k : Nat) (W1 : World), VI W pb W.heap.size vb T d acc k W1 → Calls Tryz.prog 77 #[.pointer (some ⟨vb, 0, none⟩), .pointer (some ⟨W.heap.size, 0, none⟩), .pointer (some ⟨W.heap.size + 1, 0, none⟩)] W1 (OneEnd T k (fun a k' W' => VI W pb W.heap.size vb T d (acc ++ [a]) k' W') (FP (fun i => i = pb) W) (pVal n (T.drop k))) := by
  have hv := HV'.out
  rw [HD.out] at hv ⊢
  exact fun acc k W1 hi => value1_any (by omega) HLOW.out HVB.out n hv acc k W1 hi
 have hl := list_any (pb := pb) (T := T) (pVal n) ⟨#[93]⟩ 77 #[.pointer (some ⟨vb, 0, none⟩), .pointer (some ⟨W.heap.size, 0, none⟩), .pointer (some ⟨W.heap.size + 1, 0, none⟩)] (VI W pb W.heap.size vb T d) (FP (fun i => i = pb) W) (fun _ _ => rfl)
  (fun acc k W1 ⟨v, xs, hs, _⟩ => hs.p) (fun acc k k' W1 W2 hk ⟨v, xs, hs, hc⟩ hp hf => ⟨v, xs, hs.far (vC_ok HLOW.out HVB.out) hf hp, Nat.le_trans hc hk⟩) h3
  (fun acc k W1 W2 ⟨v, xs, hs, _⟩ hf => hs.fp.trans hf (fun i hi => .inl hi)) HS0.out
 rw [HRES.out] at hl
 have HLI := Lib.hid hl
 clear hl h3 hvb hlow hvbe x1 x2 x3 x4 x5 x6 dd hdl hx k2 k3 hm0 hm1 hm i2 i3 hgx
 go_wp2_with fail
 refine HLI.out.mono ?_
 rintro e w8 hend
 obtain ⟨rfl, hf⟩ := hend
 exact ⟨rfl, rfl, hf⟩
theorem value_list_ok {W : World} {pb k : Nat} {T : List Lx} {d : Int} (hp : PAt W pb T k) {x : Lx} {r : List Lx} (hx : T.drop k = x :: r) (k2 : x.kind ≠ 2) (k3 : x.kind ≠ 3) {t : Bs} {r1 : List Lx} (hm0 : takeL 4 [45] (T.drop k) = none) (hm1 : takeL 4 [63] (T.drop k) = none) (hm : takeL 4 [91] (T.drop k) = some (t, r1)) (dn : Nat) (hd : d = (dn : Int)) (hdn : dn < 30) (n : Nat) (HV : ∀ W k, PAt W pb T k → Calls Tryz.prog 48 #[.pointer (some ⟨pb, 0, none⟩), .int .i64 (d + 1)] W (ValEnd W pb T k (pVal n (T.drop k)))) {l : List GV} {r2 : List Lx} (hres : listL (pVal n) [93] (r1.length + 1) true r1 = some (l, r2)) :
  Calls Tryz.prog 48 #[.pointer (some ⟨pb, 0, none⟩), .int .i64 d] W (ValEnd W pb T k (some (listV l, r2))) := by
 obtain ⟨hlt, hr, hgx⟩ := drop_next hx
 have i2 : isL 2 [] (T.drop k) = false := by rw [hx]; simp [isL, k2]
 have i3 : isL 3 [] (T.drop k) = false := by rw [hx]; simp [isL, k3]
 obtain ⟨hlt1, hmA, rfl, hm2⟩ := takeL_drop hm
 clear hmA hm2
 have HD := Lib.hid hd
 have HV' := Lib.hid HV
 have HRES := Lib.hid hres
 clear HV hd hres
 have HE := Lib.hid (VE.new (d := d) hp)
 clear hp
 go_enter Tryz.func48, Tryz.ntmps48
 go_wp2_with fail
 refine (is_ret HE.out.P 2 ⟨#[]⟩ i2).mono ?_
 rintro e w1 ⟨rfl, hs⟩
 have HE1 := Lib.hid (HE.out.same hs)
 clear hs
 have x1 : w1.cell? ⟨W.heap.size, 0, none⟩ = some (.pointer (some ⟨pb, 0, none⟩)) := cell_blk HE1.out.x
 go_wp2_with fail
 refine (is_ret HE1.out.P 3 ⟨#[]⟩ i3).mono ?_
 rintro e w2 ⟨rfl, hs⟩
 have HE2 := Lib.hid (HE1.out.same hs)
 clear hs
 have x2 : w2.cell? ⟨W.heap.size, 0, none⟩ = some (.pointer (some ⟨pb, 0, none⟩)) := cell_blk HE2.out.x
 go_wp2_with fail
 obtain ⟨g, off, cap, y, h1, h2, h3, h4, h5, h6⟩ := HE2.out.P.next hlt
 have hl := HE2.out.P.good.len
 have hxk : T[k] = x := by rw [List.getElem?_eq_getElem hlt] at hgx; cases hgx; rfl
 rw [hxk] at h4
 obtain ⟨N, hN⟩ : ∃ N, T.length = N := ⟨_, rfl⟩
 rw [hN] at h1 h3 hl
 have g0 : w2.cell? ⟨pb, 0, none⟩ = some (.slice (some ⟨g, off, none⟩) N cap) := cell_blk h1
 have g1 : w2.cell? ⟨pb, 1, none⟩ = some (.int .i64 k) := cell_blk h1
 have hkN : k < N := by rw [← hN]; exact hlt
 have g2 : (0 : Int) ≤ (k : Int) := by omega
 have g3 : (k : Int) < (N : Int) := by omega
 have g4 : ((x.kind : Nat) : Int) ≠ 3 := by omega
 have HN := Lib.hid hN
 have HX := Lib.hid hxk
 clear h1 h2 h5 h6 hN hxk
 go_quiet (fail)
 go_wp2_with fail
 have HE3 : Hid (VE W pb k T d (w2.drewN nq)) := Lib.hid (HE2.out.same (same_drewN w2 nq))
 generalize w2.drewN nq = w3 at HE3 ⊢
 clear g0 g1 g2 g3 g4 h3 h4
 have x3 : w3.cell? ⟨W.heap.size, 0, none⟩ = some (.pointer (some ⟨pb, 0, none⟩)) := cell_blk HE3.out.x
 refine (mark_none HE3.out.P ⟨#[45]⟩ hm0).mono ?_
 rintro e w4 ⟨rfl, hs⟩
 have HE4 := Lib.hid (HE3.out.same hs)
 clear hs
 have x4 : w4.cell? ⟨W.heap.size, 0, none⟩ = some (.pointer (some ⟨pb, 0, none⟩)) := cell_blk HE4.out.x
 go_wp2_with fail
 refine (mark_none HE4.out.P ⟨#[63]⟩ hm1).mono ?_
 rintro e w5 ⟨rfl, hs⟩
 have HE5 := Lib.hid (HE4.out.same hs)
 clear hs
 have x5 : w5.cell? ⟨W.heap.size, 0, none⟩ = some (.pointer (some ⟨pb, 0, none⟩)) := cell_blk HE5.out.x
 go_wp2_with fail
 refine (mark_some HE5.out.P ⟨#[91]⟩ hm).mono ?_
 rintro e w6 ⟨rfl, hp, hf⟩
 have HE6 := Lib.hid (HE5.out.far hp hf)
 clear hp hf
 have x6 : w6.cell? ⟨W.heap.size, 0, none⟩ = some (.pointer (some ⟨pb, 0, none⟩)) := cell_blk HE6.out.x
 have dd : w6.cell? ⟨W.heap.size + 1, 0, none⟩ = some (.int .i64 d) := cell_blk HE6.out.dd
 have hdl : decide (d < 30) = true := by rw [HD.out]; simp; omega
 go_upto_region 18 with (go_at_call 57; refine (need_true _).mono ?_; rintro e w9 ⟨rfl, rfl⟩)
 have HE7 : Hid (VE W pb (k + 1) T d (w6.alloc (.cells #[.int .i64 4, .bool false, .int .i64 0, .string ⟨#[]⟩, .slice none 0 0] 52))) := Lib.hid (HE6.out.far (HE6.out.P.fp (S := nob) ((FP.refl _ w6).alloc _) (fun _ h => h.elim)) ((FP.refl _ w6).alloc _))
 have HS0 : Hid (VI W pb W.heap.size w6.heap.size T d [] (k + 1) (w6.alloc (.cells #[.int .i64 4, .bool false, .int .i64 0, .string ⟨#[]⟩, .slice none 0 0] 52))) := Lib.hid ⟨.slice none 0 0, [], ⟨HE7.out.P, fun y hy => (by
   simp only [vC, List.mem_cons, List.not_mem_nil, or_false] at hy
   rcases hy with rfl | rfl | rfl
   ·exact HE7.out.x
   ·exact HE7.out.dd
   ·exact HE7.out.rr), heap_new_at rfl _, World.ownsRow_nil _ _ _ _, .nil, fun x hx => (by cases hx), HE7.out.fp, HE6.out.fp.size⟩, Nat.zero_le _⟩
 have hvb : W.heap.size + 1 + 1 < w6.heap.size := lt_blk HE6.out.rr
 have hlow : pb < W.heap.size := HE6.out.lt
 have x7 : (w6.alloc (.cells #[.int .i64 4, .bool false, .int .i64 0, .string ⟨#[]⟩, .slice none 0 0] 52)).cell? ⟨W.heap.size, 0, none⟩ = some (.pointer (some ⟨pb, 0, none⟩)) := cell_blk HE7.out.x
 obtain ⟨vb, hvbe⟩ : ∃ vb, w6.heap.size = vb := ⟨_, rfl⟩
 rw [hvbe] at HS0 hvb ⊢
 generalize (w6.alloc (.cells #[.int .i64 4, .bool false, .int .i64 0, .string ⟨#[]⟩, .slice none 0 0] 52)) = w7 at HE7 HS0 x7 ⊢
 have HVB := Lib.hid hvb
 have HLOW := Lib.hid hlow
 have h3 : ∀ (acc : List GV) (k : Nat) (W1 : World), VI W pb W.heap.size vb T d acc k W1 → Calls Tryz.prog 77 #[.pointer (some ⟨vb, 0, none⟩), .pointer (some ⟨W.heap.size, 0, none⟩), .pointer (some ⟨W.heap.size + 1, 0, none⟩)] W1 (OneEnd T k (fun a k' W' => VI W pb W.heap.size vb T d (acc ++ [a]) k' W') (FP (fun i => i = pb) W) (pVal n (T.drop k))) := by
  have hv := HV'.out
  rw [HD.out] at hv ⊢
  exact fun acc k W1 hi => value1_any (by omega) HLOW.out HVB.out n hv acc k W1 hi
 have hl := list_any (pb := pb) (T := T) (pVal n) ⟨#[93]⟩ 77 #[.pointer (some ⟨vb, 0, none⟩), .pointer (some ⟨W.heap.size, 0, none⟩), .pointer (some ⟨W.heap.size + 1, 0, none⟩)] (VI W pb W.heap.size vb T d) (FP (fun i => i = pb) W) (fun _ _ => rfl)
  (fun acc k W1 ⟨v, xs, hs, _⟩ => hs.p) (fun acc k k' W1 W2 hk ⟨v, xs, hs, hc⟩ hp hf => ⟨v, xs, hs.far (vC_ok HLOW.out HVB.out) hf hp, Nat.le_trans hc hk⟩) h3
  (fun acc k W1 W2 ⟨v, xs, hs, _⟩ hf => hs.fp.trans hf (fun i hi => .inl hi)) HS0.out
 rw [HRES.out] at hl
 have HLI := Lib.hid hl
 clear hl h3 hvb hlow hvbe x1 x2 x3 x4 x5 x6 dd hdl hx k2 k3 hm0 hm1 hm i2 i3 hgx
 go_wp2_with fail
 refine HLI.out.mono ?_
 rintro e w8 hend
 obtain ⟨rfl, k', hr2, hk1, hk2, v, xs, hs, hcnt⟩ := hend
 have hl4 := hs.p.good.len
 obtain ⟨ao, cap2, rfl⟩ := own_shape1 hs.row
 obtain ⟨m, hm⟩ : ∃ m, l.length = m := ⟨_, rfl⟩
 have HS := Lib.hid hs
 have HE8 : Hid (VE W pb k' T d w8) := Lib.hid ⟨hs.p, hs.kp _ (List.mem_cons_self ..), hs.kp _ (List.mem_cons_of_mem _ (List.mem_cons_self ..)), hs.kp _ (List.mem_cons_of_mem _ (List.mem_cons_of_mem _ (List.mem_cons_self ..))), hs.fp, HLOW.out⟩
 have hb8 : w8.heap[vb]? = some (.cells #[.int .i64 4, .bool false, .int .i64 0, .string ⟨#[]⟩, .slice ao l.length cap2] 52 (0,0)) := hs.hd
 rw [hm] at hb8
 have v0 : w8.cell? ⟨vb, 0, none⟩ = some (.int .i64 4) := cell_blk hb8
 have v1 : w8.cell? ⟨vb, 1, none⟩ = some (.bool false) := cell_blk hb8
 have v2 : w8.cell? ⟨vb, 2, none⟩ = some (.int .i64 0) := cell_blk hb8
 have v3 : w8.cell? ⟨vb, 3, none⟩ = some (.string ⟨#[]⟩) := cell_blk hb8
 have v4 : w8.cell? ⟨vb, 4, none⟩ = some (.slice ao m cap2) := cell_blk hb8
 have hmle : decide ((m : Int) ≤ 4096) = true := by simp; omega
 have HM := Lib.hid hm
 have HRR : Hid (r2 = T.drop k' ∧ k + 1 < k' ∧ k' ≤ T.length) := Lib.hid ⟨hr2, hk1, hk2⟩
 clear hs hb8 hm hr2 hk1 hk2 hcnt
 have c0 : w8.cell? ⟨W.heap.size + 1 + 1, 0, none⟩ = some (.int .i64 0) := cell_blk HE8.out.rr
 have f0 : w8.frozen? ⟨W.heap.size + 1 + 1, 0, none⟩ = false := frz_blk HE8.out.rr
 have c1 : w8.cell? ⟨W.heap.size + 1 + 1, 1, none⟩ = some (.bool false) := cell_blk HE8.out.rr
 have f1 : w8.frozen? ⟨W.heap.size + 1 + 1, 1, none⟩ = false := frz_blk HE8.out.rr
 have c2 : w8.cell? ⟨W.heap.size + 1 + 1, 2, none⟩ = some (.int .i64 0) := cell_blk HE8.out.rr
 have f2 : w8.frozen? ⟨W.heap.size + 1 + 1, 2, none⟩ = false := frz_blk HE8.out.rr
 have c3 : w8.cell? ⟨W.heap.size + 1 + 1, 3, none⟩ = some (.string ⟨#[]⟩) := cell_blk HE8.out.rr
 have f3 : w8.frozen? ⟨W.heap.size + 1 + 1, 3, none⟩ = false := frz_blk HE8.out.rr
 have c4 : w8.cell? ⟨W.heap.size + 1 + 1, 4, none⟩ = some (.slice none 0 0) := cell_blk HE8.out.rr
 have f4 : w8.frozen? ⟨W.heap.size + 1 + 1, 4, none⟩ = false := frz_blk HE8.out.rr
 go_wp2_with (go_at_call 57; refine (need_true _).mono ?_; rintro e w9 ⟨rfl, rfl⟩)
 have HF := Lib.hid (HE8.out.done (.int .i64 4) (.bool false) (.int .i64 0) (.string ⟨#[]⟩) (.slice ao m cap2))
 change bodyPost _ _ _ _ _ (put5 w8 (W.heap.size + 1 + 1) 0 (.int .i64 4) (.bool false) (.int .i64 0) (.string ⟨#[]⟩) (.slice ao m cap2))
 generalize put5 w8 (W.heap.size + 1 + 1) 0 (.int .i64 4) (.bool false) (.int .i64 0) (.string ⟨#[]⟩) (.slice ao m cap2) = wf at HF ⊢
 have r0 : wf.cell? ⟨W.heap.size + 1 + 1, 0, none⟩ = some (.int .i64 4) := cell_blk HF.out.1
 have r1 : wf.cell? ⟨W.heap.size + 1 + 1, 1, none⟩ = some (.bool false) := cell_blk HF.out.1
 have r2 : wf.cell? ⟨W.heap.size + 1 + 1, 2, none⟩ = some (.int .i64 0) := cell_blk HF.out.1
 have r3 : wf.cell? ⟨W.heap.size + 1 + 1, 3, none⟩ = some (.string ⟨#[]⟩) := cell_blk HF.out.1
 have r4 : wf.cell? ⟨W.heap.size + 1 + 1, 4, none⟩ = some (.slice ao m cap2) := cell_blk HF.out.1
 refine bodyPost_ret (v := .agg #[.int .i64 4, .bool false, .int .i64 0, .string ⟨#[]⟩, .slice ao m cap2]) (by simp [results, go_sem, r0, r1, r2, r3, r4]) rfl ?_
 exact ⟨4, false, 0, ⟨#[]⟩, .slice ao m cap2, k', rfl, list_rd HS.out HF.out.2.2.2 HVB.out HM.out, HRR.out.1, by have := HRR.out.2.1; omega, HRR.out.2.2, HF.out.2.1, HF.out.2.2.1⟩
end Go.Proofs.YtnpkdiffpgcbhaaGreatDoor
