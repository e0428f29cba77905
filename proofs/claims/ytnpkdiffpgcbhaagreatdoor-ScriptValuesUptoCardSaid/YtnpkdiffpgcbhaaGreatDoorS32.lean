/- The parser, walked (ParO). Conditions: each theorem's own. -/
import Derived.Test.YtnpkdiffpgcbhaaGreatDoorS30
import Derived.Test.YtnpkdiffpgcbhaaGreatDoorS31
import Derived.Test.YtnpkdiffpgcbhaaGreatDoorS23
set_option maxRecDepth 100000
set_option maxHeartbeats 1600000
namespace Go.Proofs.YtnpkdiffpgcbhaaGreatDoor
open Go.RowKit
attribute [local go_sem] Oper.semAt_some
theorem text_any {w : World} {pb k : Nat} {T : List Lx} (h : PAt w pb T k) : Calls Tryz.prog 87 #[.pointer (some ⟨pb, 0, none⟩)] w (REnd w pb T k (fun t v _ => ∃ x : ByteArray, v = .string x ∧ x.data.toList = t) (pText (T.drop k))) := by
 rcases hx : T.drop k with _ | ⟨x, r⟩
 ·exact text_end h hx
 ·by_cases k3 : x.kind = 3
  ·have : pText (x :: r) = some (x.text, r) := by simp [pText, k3]
   rw [this]
   exact text_is h hx k3
  ·have : pText (x :: r) = none := by simp [pText, k3]
   rw [this]
   exact text_not h hx k3
theorem value_top {w : World} {pb k : Nat} {T : List Lx} (h : PAt w pb T k) : Calls Tryz.prog 48 #[.pointer (some ⟨pb, 0, none⟩), .int .i64 0] w (ValEnd w pb T k (pVal maxDeep (T.drop k))) := value_any 30 (Nat.le_refl _) w k h
def sC (pb h : Nat) : RowC (Bs × GV) where
 pb := pb
 hb := h + 1
 ho := 0
 ht := 55
 hcs := fun v => #[v]
 e := 54
 sz := 6
 R := RdG
 keep := [(h, .cells #[.pointer (some ⟨pb, 0, none⟩)] 104 (0,0))]
theorem sC_ok {pb h : Nat} (h1 : pb < h) : RowOk (sC pb h) where
 get := fun v => rfl
 set := fun v u => rfl
 tr := fun _ _ _ _ c a hw hc => RdG.trans' hw hc
 pbhb := by show pb < h + 1; omega
 kp := fun y hy => by
  simp only [sC, List.mem_cons, List.not_mem_nil, or_false] at hy
  subst hy
  exact ⟨by show h < h + 1; omega, by show h ≠ pb; omega⟩
def RI {α : Type} (C : RowC α) (w0 : World) (T : List Lx) (acc : List α) (k : Nat) (W : World) : Prop :=
 ∃ v xs, RowSt C w0 T acc xs k v v acc.length xs none W ∧ acc.length ≤ k
theorem RI.ofSt {α : Type} {C : RowC α} {w0 : World} {T : List Lx} {acc : List α} {k : Nat} {W : World} {v : Value} {xs ys c : List Value} {a : α} (hk : acc.length + 1 ≤ k)
  (hs : RowSt C w0 T acc xs k v v (acc.length + 1) ys (some (c, a)) W) (hy : ys = xs ++ c) : RI C w0 T (acc ++ [a]) k W := by
 subst hy
 refine ⟨v, xs ++ c, ⟨hs.p, hs.kp, hs.hd, ?_, hs.done rfl, fun x hx => (by cases hx), hs.fp, hs.w0s⟩, by rw [List.length_append]; exact hk⟩
 rw [List.length_append]
 exact hs.row
theorem infoG : (Tryz.prog.info? 54).map (fun i => (i.zero, i.size, i.bytes)) = some (some (.agg #[.string ⟨#[]⟩, .int .i64 0, .bool false, .int .i64 0, .string ⟨#[]⟩, .slice none 0 0]), 6, 80) := by kernel_rfl
theorem set1_none0 {w0 : World} {pb h : Nat} {T : List Lx} (_hl : pb < h) (acc : List (Bs × GV)) (k : Nat) (W : World) (hi : RI (sC pb h) w0 T acc k W) (h0 : takeL 0 [] (T.drop k) = none) :
  Calls Tryz.prog 113 #[.pointer (some ⟨h, 0, none⟩), .pointer (some ⟨h + 1, 0, none⟩)] W (OneEnd T k (fun a k' W' => RI (sC pb h) w0 T (acc ++ [a]) k' W') (FP (fun i => i = pb) w0) none) := by
 obtain ⟨v, xs, hst, hcnt⟩ := hi
 have x0 : W.cell? ⟨h, 0, none⟩ = some (.pointer (some ⟨pb, 0, none⟩)) := cell_blk (hst.kp _ (List.mem_cons_self ..))
 have HST := Lib.hid hst
 clear hst hcnt
 go_enter Tryz.func113, Tryz.ntmps113
 go_wp2_with fail
 refine (take_none HST.out.p 0 ⟨#[]⟩ h0).mono ?_
 rintro e w9 ⟨rfl, hf⟩
 exact ⟨rfl, rfl, HST.out.fp.trans hf (fun i hi => .inl hi)⟩
theorem set1_none1 {w0 : World} {pb h : Nat} {T : List Lx} (hl : pb < h) (acc : List (Bs × GV)) (k : Nat) (W : World) (hi : RI (sC pb h) w0 T acc k W) {f : Bs} {r : List Lx} (h0 : takeL 0 [] (T.drop k) = some (f, r)) (h1 : takeL 4 [61] r = none) :
  Calls Tryz.prog 113 #[.pointer (some ⟨h, 0, none⟩), .pointer (some ⟨h + 1, 0, none⟩)] W (OneEnd T k (fun a k' W' => RI (sC pb h) w0 T (acc ++ [a]) k' W') (FP (fun i => i = pb) w0) none) := by
 obtain ⟨v, xs, hst, hcnt⟩ := hi
 obtain ⟨hlt, t1, rfl, t2⟩ := takeL_drop h0
 have x0 : W.cell? ⟨h, 0, none⟩ = some (.pointer (some ⟨pb, 0, none⟩)) := cell_blk (hst.kp _ (List.mem_cons_self ..))
 have HST := Lib.hid hst
 have OK := Lib.hid (sC_ok hl)
 clear hst hcnt t1 t2
 go_enter Tryz.func113, Tryz.ntmps113
 go_wp2_with fail
 refine (take_some HST.out.p 0 ⟨#[]⟩ h0).mono ?_
 rintro e w1 ⟨y, rfl, hy, hp, hf⟩
 have HS1 := Lib.hid ((HST.out.far OK.out hf hp).alloc OK.out (.cells #[.string y, .int .i64 0, .bool false, .int .i64 0, .string ⟨#[]⟩, .slice none 0 0] 54))
 have x1 : (w1.alloc (.cells #[.string y, .int .i64 0, .bool false, .int .i64 0, .string ⟨#[]⟩, .slice none 0 0] 54)).cell? ⟨h, 0, none⟩ = some (.pointer (some ⟨pb, 0, none⟩)) := cell_blk (HS1.out.kp _ (List.mem_cons_self ..))
 clear hy hp hf
 go_wp2_with fail
 refine (take_none HS1.out.p 4 ⟨#[61]⟩ h1).mono ?_
 rintro e w9 ⟨rfl, hf⟩
 exact ⟨rfl, rfl, HS1.out.fp.trans hf (fun i hi => .inl hi)⟩
theorem put5_at {w : World} {g : Nat} {y u0 u1 u2 u3 u4 : Value} {ty : TypeId} (h : w.heap[g]? = some (.cells #[y, u0, u1, u2, u3, u4] ty (0,0))) (a b c d e : Value) : (put5 w g 1 a b c d e).heap[g]? = some (.cells #[y, a, b, c, d, e] ty (0,0)) := by
 unfold put5
 have h0 := heap_set h (o := 1) a g
 rw [if_pos rfl] at h0
 have h1 := heap_set h0 (o := 1 + 1) b g
 rw [if_pos rfl] at h1
 have h2 := heap_set h1 (o := 1 + 1 + 1) c g
 rw [if_pos rfl] at h2
 have h3 := heap_set h2 (o := 1 + 1 + 1 + 1) d g
 rw [if_pos rfl] at h3
 have h4 := heap_set h3 (o := 1 + 1 + 1 + 1 + 1) e g
 rw [if_pos rfl] at h4
 rw [h4]
 rfl
theorem alloc_cells6 {W : World} {cs : Array Value} {t : TypeId} : ∀ j u, cs.toList[j]? = some u → (W.alloc (.cells cs t)).cell? ((⟨W.heap.size, 0, none⟩ : Addr).add j) = some u := by
 intro j u hu
 rw [Addr.add_lit, Nat.zero_add]
 have := cell_blk (heap_new_at (w := W) rfl (.cells cs t)) (o := j)
 rw [this]
 simpa using hu
theorem set1_none2 {w0 : World} {pb h : Nat} {T : List Lx} (hl : pb < h) (acc : List (Bs × GV)) (k : Nat) (W : World) (hi : RI (sC pb h) w0 T acc k W) {f t : Bs} {r r1 : List Lx} (h0 : takeL 0 [] (T.drop k) = some (f, r)) (h1 : takeL 4 [61] r = some (t, r1)) (h2 : pVal maxDeep r1 = none) :
  Calls Tryz.prog 113 #[.pointer (some ⟨h, 0, none⟩), .pointer (some ⟨h + 1, 0, none⟩)] W (OneEnd T k (fun a k' W' => RI (sC pb h) w0 T (acc ++ [a]) k' W') (FP (fun i => i = pb) w0) none) := by
 obtain ⟨v, xs, hst, hcnt⟩ := hi
 obtain ⟨hlt, t1, rfl, t2⟩ := takeL_drop h0
 obtain ⟨hlt1, t3, rfl, t4⟩ := takeL_drop h1
 obtain ⟨ao, cap, rfl⟩ := own_shape1 hst.row
 obtain ⟨m, hm⟩ : ∃ m, acc.length = m := ⟨_, rfl⟩
 rw [hm] at hst hcnt
 have x0 : W.cell? ⟨h, 0, none⟩ = some (.pointer (some ⟨pb, 0, none⟩)) := cell_blk (hst.kp _ (List.mem_cons_self ..))
 have HST := Lib.hid hst
 have OK := Lib.hid (sC_ok hl)
 have HM : Hid (acc.length = m ∧ m ≤ k) := Lib.hid ⟨hm, hcnt⟩
 clear hst hcnt t1 t2 t3 t4 hm
 go_enter Tryz.func113, Tryz.ntmps113
 go_wp2_with fail
 refine (take_some HST.out.p 0 ⟨#[]⟩ h0).mono ?_
 rintro e w1 ⟨y, rfl, hy, hp, hf⟩
 have HY := Lib.hid hy
 have HS0 := Lib.hid (HST.out.far OK.out hf hp)
 have HS1 := Lib.hid (HS0.out.alloc OK.out (.cells #[.string y, .int .i64 0, .bool false, .int .i64 0, .string ⟨#[]⟩, .slice none 0 0] 54))
 have x1 : (w1.alloc (.cells #[.string y, .int .i64 0, .bool false, .int .i64 0, .string ⟨#[]⟩, .slice none 0 0] 54)).cell? ⟨h, 0, none⟩ = some (.pointer (some ⟨pb, 0, none⟩)) := cell_blk (HS1.out.kp _ (List.mem_cons_self ..))
 clear hy hp hf
 go_wp2_with fail
 refine (take_some HS1.out.p 4 ⟨#[61]⟩ h1).mono ?_
 rintro e w2 ⟨y2, rfl, _, hp, hf⟩
 have HS2 := Lib.hid (HS1.out.far OK.out hf hp)
 have HF2 : Hid (FP (fun i => i = pb) w1 w2) := Lib.hid (((FP.refl _ w1).alloc _).trans hf (fun i hi => .inl hi))
 have x2 : w2.cell? ⟨h, 0, none⟩ = some (.pointer (some ⟨pb, 0, none⟩)) := cell_blk (HS2.out.kp _ (List.mem_cons_self ..))
 have hgp : w1.heap.size ≠ pb := by have h0 : pb < w1.heap.size := HS0.out.p.lt; omega
 have HG2 : Hid (w2.heap[w1.heap.size]? = some (.cells #[.string y, .int .i64 0, .bool false, .int .i64 0, .string ⟨#[]⟩, .slice none 0 0] 54 (0,0))) := Lib.hid ((hf.blk _ (lt_blk (heap_new_at rfl _)) hgp).trans (heap_new_at rfl _))
 clear hp hf
 go_wp2_with fail
 have hv := value_top HS2.out.p
 rw [h2] at hv
 refine hv.mono ?_
 rintro e w9 ⟨rfl, hf⟩
 exact ⟨rfl, rfl, HS2.out.fp.trans hf (fun i hi => .inl hi)⟩
theorem set1_some {w0 : World} {pb h : Nat} {T : List Lx} (hl : pb < h) (acc : List (Bs × GV)) (k : Nat) (W : World) (hi : RI (sC pb h) w0 T acc k W) {f t : Bs} {r r1 : List Lx} (h0 : takeL 0 [] (T.drop k) = some (f, r)) (h1 : takeL 4 [61] r = some (t, r1)) {gv : GV} {r2 : List Lx} (h2 : pVal maxDeep r1 = some (gv, r2)) :
  Calls Tryz.prog 113 #[.pointer (some ⟨h, 0, none⟩), .pointer (some ⟨h + 1, 0, none⟩)] W (OneEnd T k (fun a k' W' => RI (sC pb h) w0 T (acc ++ [a]) k' W') (FP (fun i => i = pb) w0) (some ((f, gv), r2))) := by
 obtain ⟨v, xs, hst, hcnt⟩ := hi
 obtain ⟨hlt, t1, rfl, t2⟩ := takeL_drop h0
 obtain ⟨hlt1, t3, rfl, t4⟩ := takeL_drop h1
 obtain ⟨ao, cap, rfl⟩ := own_shape1 hst.row
 obtain ⟨m, hm⟩ : ∃ m, acc.length = m := ⟨_, rfl⟩
 rw [hm] at hst hcnt
 have x0 : W.cell? ⟨h, 0, none⟩ = some (.pointer (some ⟨pb, 0, none⟩)) := cell_blk (hst.kp _ (List.mem_cons_self ..))
 have HST := Lib.hid hst
 have OK := Lib.hid (sC_ok hl)
 have HM : Hid (acc.length = m ∧ m ≤ k) := Lib.hid ⟨hm, hcnt⟩
 clear hst hcnt t1 t2 t3 t4 hm
 go_enter Tryz.func113, Tryz.ntmps113
 go_wp2_with fail
 refine (take_some HST.out.p 0 ⟨#[]⟩ h0).mono ?_
 rintro e w1 ⟨y, rfl, hy, hp, hf⟩
 have HY := Lib.hid hy
 have HS0 := Lib.hid (HST.out.far OK.out hf hp)
 have HS1 := Lib.hid (HS0.out.alloc OK.out (.cells #[.string y, .int .i64 0, .bool false, .int .i64 0, .string ⟨#[]⟩, .slice none 0 0] 54))
 have x1 : (w1.alloc (.cells #[.string y, .int .i64 0, .bool false, .int .i64 0, .string ⟨#[]⟩, .slice none 0 0] 54)).cell? ⟨h, 0, none⟩ = some (.pointer (some ⟨pb, 0, none⟩)) := cell_blk (HS1.out.kp _ (List.mem_cons_self ..))
 clear hy hp hf
 go_wp2_with fail
 refine (take_some HS1.out.p 4 ⟨#[61]⟩ h1).mono ?_
 rintro e w2 ⟨y2, rfl, _, hp, hf⟩
 have HS2 := Lib.hid (HS1.out.far OK.out hf hp)
 have HF2 : Hid (FP (fun i => i = pb) w1 w2) := Lib.hid (((FP.refl _ w1).alloc _).trans hf (fun i hi => .inl hi))
 have x2 : w2.cell? ⟨h, 0, none⟩ = some (.pointer (some ⟨pb, 0, none⟩)) := cell_blk (HS2.out.kp _ (List.mem_cons_self ..))
 have hgp : w1.heap.size ≠ pb := by have h0 : pb < w1.heap.size := HS0.out.p.lt; omega
 have HG2 : Hid (w2.heap[w1.heap.size]? = some (.cells #[.string y, .int .i64 0, .bool false, .int .i64 0, .string ⟨#[]⟩, .slice none 0 0] 54 (0,0))) := Lib.hid ((hf.blk _ (lt_blk (heap_new_at rfl _)) hgp).trans (heap_new_at rfl _))
 clear hp hf
 go_wp2_with fail
 have hv := value_top HS2.out.p
 rw [h2] at hv
 refine hv.mono ?_
 rintro e w3 ⟨kd, b, i, t5, sl, k', rfl, hrd, hr, hk1, hk2, hp, hf⟩
 obtain ⟨sa, sn, sc, rfl⟩ := rdv_slice hrd
 have hg3 : w3.heap[w1.heap.size]? = some (.cells #[.string y, .int .i64 0, .bool false, .int .i64 0, .string ⟨#[]⟩, .slice none 0 0] 54 (0,0)) := (hf.blk _ (lt_blk HG2.out) hgp).trans HG2.out
 have c0 : w3.cell? ⟨w1.heap.size, 1, none⟩ = some (.int .i64 0) := cell_blk hg3
 have f0 : w3.frozen? ⟨w1.heap.size, 1, none⟩ = false := frz_blk hg3
 have c1 : w3.cell? ⟨w1.heap.size, 2, none⟩ = some (.bool false) := cell_blk hg3
 have f1 : w3.frozen? ⟨w1.heap.size, 2, none⟩ = false := frz_blk hg3
 have c2 : w3.cell? ⟨w1.heap.size, 3, none⟩ = some (.int .i64 0) := cell_blk hg3
 have f2 : w3.frozen? ⟨w1.heap.size, 3, none⟩ = false := frz_blk hg3
 have c3 : w3.cell? ⟨w1.heap.size, 4, none⟩ = some (.string ⟨#[]⟩) := cell_blk hg3
 have f3 : w3.frozen? ⟨w1.heap.size, 4, none⟩ = false := frz_blk hg3
 have c4 : w3.cell? ⟨w1.heap.size, 5, none⟩ = some (.slice none 0 0) := cell_blk hg3
 have f4 : w3.frozen? ⟨w1.heap.size, 5, none⟩ = false := frz_blk hg3
 have HG3 := Lib.hid hg3
 have HP3 := Lib.hid hp
 have HF3 := Lib.hid hf
 have HRD := Lib.hid hrd
 have HR : Hid (r2 = T.drop k' ∧ k + 1 + 1 < k' ∧ k' ≤ T.length) := Lib.hid ⟨hr, hk1, hk2⟩
 clear hg3 hp hf hrd hr hk1 hk2
 go_upto_region 3 with fail
 change Code.wp _ _ _ _ (put5 w3 w1.heap.size 1 (.int .i64 kd) (.bool b) (.int .i64 i) (.string t5) (.slice sa sn sc))
 have hlt2 : w1.heap.size < w2.heap.size := lt_blk HG2.out
 have HF4 : Hid (FP (fun i => i = pb) w1 (put5 w3 w1.heap.size 1 (.int .i64 kd) (.bool b) (.int .i64 i) (.string t5) (.slice sa sn sc))) := Lib.hid ((HF2.out.trans HF3.out (fun i hi => .inl hi)).trans (put5_fp (S := fun i => i = w1.heap.size) w3 _ 1 (.int .i64 kd) (.bool b) (.int .i64 i) (.string t5) (.slice sa sn sc) rfl) (fun i hi => .inr (by omega)))
 have hpw : pb < w1.heap.size := HS0.out.p.lt
 have HP4 : Hid (PAt (put5 w3 w1.heap.size 1 (.int .i64 kd) (.bool b) (.int .i64 i) (.string t5) (.slice sa sn sc)) pb T k') := Lib.hid (HP3.out.same (fun b hb => put5_ne _ _ _ _ _ _ _ _ (by have hb' : b ≤ pb := hb; omega)))
 have HC4 : Hid (RdG (put5 w3 w1.heap.size 1 (.int .i64 kd) (.bool b) (.int .i64 i) (.string t5) (.slice sa sn sc)) (fun b => w1.heap.size ≤ b) (.string y :: [.int .i64 kd, .bool b, .int .i64 i, .string t5, .slice sa sn sc]) (f, gv)) := Lib.hid (by
  have := RdG.mk (w := put5 w3 w1.heap.size 1 (.int .i64 kd) (.bool b) (.int .i64 i) (.string t5) (.slice sa sn sc)) (F := fun b => w1.heap.size ≤ b) y [.int .i64 kd, .bool b, .int .i64 i, .string t5, .slice sa sn sc] gv (RdV.trans' (fun g hg hgl => by have hg' : w2.heap.size ≤ g := hg; exact ⟨put5_ne _ _ _ _ _ _ _ _ (by omega), by omega⟩) _ _ HRD.out)
  rw [HY.out] at this
  exact this)
 have HG4 : Hid ((put5 w3 w1.heap.size 1 (.int .i64 kd) (.bool b) (.int .i64 i) (.string t5) (.slice sa sn sc)).heap[w1.heap.size]? = some (.cells #[.string y, .int .i64 kd, .bool b, .int .i64 i, .string t5, .slice sa sn sc] 54 (0,0))) := Lib.hid (put5_at HG3.out (.int .i64 kd) (.bool b) (.int .i64 i) (.string t5) (.slice sa sn sc))
 generalize put5 w3 w1.heap.size 1 (.int .i64 kd) (.bool b) (.int .i64 i) (.string t5) (.slice sa sn sc) = w4 at HF4 HP4 HC4 HG4 ⊢
 have HS4 := Lib.hid (HS0.out.call OK.out HC4.out HP4.out HF4.out)
 have v0 : w4.cell? ⟨h + 1, 0, none⟩ = some (.slice ao m cap) := (HS4.out.hcell OK.out).1
 have d0 : w4.cell? ⟨w1.heap.size, 0, none⟩ = some (.string y) := cell_blk HG4.out
 have d1 : w4.cell? ⟨w1.heap.size, 1, none⟩ = some (.int .i64 kd) := cell_blk HG4.out
 have d2 : w4.cell? ⟨w1.heap.size, 2, none⟩ = some (.bool b) := cell_blk HG4.out
 have d3 : w4.cell? ⟨w1.heap.size, 3, none⟩ = some (.int .i64 i) := cell_blk HG4.out
 have d4 : w4.cell? ⟨w1.heap.size, 4, none⟩ = some (.string t5) := cell_blk HG4.out
 have d5 : w4.cell? ⟨w1.heap.size, 5, none⟩ = some (.slice sa sn sc) := cell_blk HG4.out
 clear c0 c1 c2 c3 c4 f0 f1 f2 f3 f4 x0 x1 x2
 have HS5 := Lib.hid (HS4.out.alloc OK.out (.cells #[.string y, .int .i64 kd, .bool b, .int .i64 i, .string t5, .slice sa sn sc] 54))
 have HONE : Hid (∀ u ∈ ([.string y, .int .i64 kd, .bool b, .int .i64 i, .string t5, .slice sa sn sc] : List Value), u.oneCell' = true) := Lib.hid (by
  intro u hu
  simp at hu
  rcases hu with rfl | rfl | rfl | rfl | rfl | rfl <;> rfl)
 have HAL : Hid (∀ (j : Nat) (u : Value), ([.string y, .int .i64 kd, .bool b, .int .i64 i, .string t5, .slice sa sn sc] : List Value)[j]? = some u → (w4.alloc (.cells #[.string y, .int .i64 kd, .bool b, .int .i64 i, .string t5, .slice sa sn sc] 54)).cell? ((⟨w4.heap.size, 0, none⟩ : Addr).add j) = some u) := Lib.hid alloc_cells6
 obtain ⟨i0, hi0, hz0, hz1, hz2⟩ := info_parts infoG
 have hm4 : m ≤ 4096 := by have := HM.out.2; have := HST.out.p.le; have := HST.out.p.good.len; omega
 have hbs : h + 1 + 1 ≤ (w4.alloc (.cells #[.string y, .int .i64 kd, .bool b, .int .i64 i, .string t5, .slice sa sn sc] 54)).heap.size := lt_blk HS5.out.hd
 go_wp2_with (at_builtin; refine wpList_append_lies _ rfl (.tmp 11) (.tmp 13) 55 rfl (h + 1 + 1) 54 i0 (.agg #[.string ⟨#[]⟩, .int .i64 0, .bool false, .int .i64 0, .string ⟨#[]⟩, .slice none 0 0]) 6 80 Tryz.underlying55 hi0 hz0 hz1 hz2 rfl (by decide) (.slice ao m cap) m xs rfl HS5.out.row ⟨w4.heap.size, 0, none⟩ 1 1 [.string y, .int .i64 kd, .bool b, .int .i64 i, .string t5, .slice sa sn sc] rfl rfl HAL.out HONE.out (by decide) (by unfold maxLen; omega) (by omega) hbs _ rfl ?_)
 intro g cp w5 hr2 hg2 hat hgl
 have HS6 := Lib.hid (HS5.out.append OK.out hg2 (by simpa using hat) hr2)
 obtain ⟨v5, v6⟩ := HS6.out.hcell OK.out
 have v5 : w5.cell? ⟨h + 1, 0, none⟩ = some (.slice ao m cap) := v5
 have v6 : w5.frozen? ⟨h + 1, 0, none⟩ = false := v6
 have HS7 := Lib.hid (HS6.out.head OK.out (.slice (some ⟨g, 0, none⟩) (m + 1) cp))
 clear hr2 hg2 hat hgl v0 d0 d1 d2 d3 d4 d5 hbs
 go_wp2_with fail
 change Hid (RowSt _ _ _ _ _ _ _ _ _ _ _ (w5.setCell ⟨h + 1, 0, none⟩ (.slice (some ⟨g, 0, none⟩) (m + 1) cp))) at HS7
 generalize w5.setCell ⟨h + 1, 0, none⟩ (.slice (some ⟨g, 0, none⟩) (m + 1) cp) = w6 at HS7 ⊢
 have hfin := HS7.out
 refine bodyPost_end (v := .tuple #[]) (by simp [results, Tryz.results113]) rfl ⟨rfl, k', HR.out.1, by have := HR.out.2.1; omega, HR.out.2.2, ?_⟩
 rw [← HM.out.1] at hfin
 exact RI.ofSt (by have := HM.out; have := HR.out.2.1; omega) hfin rfl
end Go.Proofs.YtnpkdiffpgcbhaaGreatDoor
