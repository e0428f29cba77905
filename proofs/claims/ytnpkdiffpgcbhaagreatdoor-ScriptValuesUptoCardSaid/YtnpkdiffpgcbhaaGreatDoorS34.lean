/- The parser, walked (ParQ). Conditions: each theorem's own. -/
import Derived.Test.YtnpkdiffpgcbhaaGreatDoorS33
set_option maxRecDepth 100000
set_option maxHeartbeats 1600000
namespace Go.Proofs.YtnpkdiffpgcbhaaGreatDoor
open Go.RowKit
attribute [local go_sem] Oper.semAt_some
def qC (pb h ob : Nat) (nm : ByteArray) : RowC (Bool × GV) where
 pb := pb
 hb := ob
 ho := 7
 ht := 58
 hcs := fun v => #[.int .i64 7, .string ⟨#[]⟩, .slice none 0 0, .int .i64 0, .string nm, .bool false, .int .i64 0, v]
 e := 66
 sz := 6
 R := RdO
 keep := [(h, .cells #[.pointer (some ⟨pb, 0, none⟩)] 104 (0,0)), (h + 1, .cells #[.int .i64 0, .string ⟨#[]⟩, .slice none 0 0, .int .i64 0, .string ⟨#[]⟩, .bool false, .int .i64 0, .slice none 0 0] 58 (0,0))]
theorem qC_ok {pb h ob : Nat} {nm : ByteArray} (h1 : pb < h) (h2 : h + 1 < ob) : RowOk (qC pb h ob nm) where
 get := fun v => rfl
 set := fun v u => rfl
 tr := fun _ _ _ _ c a hw hc => RdO.trans' hw hc
 pbhb := by show pb < ob; omega
 kp := fun y hy => by
  simp only [qC, List.mem_cons, List.not_mem_nil, or_false] at hy
  rcases hy with rfl | rfl
  ·exact ⟨by show h < ob; omega, by show h ≠ pb; omega⟩
  ·exact ⟨by show h + 1 < ob; omega, by show h + 1 ≠ pb; omega⟩
theorem infoO : (Tryz.prog.info? 66).map (fun i => (i.zero, i.size, i.bytes)) = some (some (.agg #[.bool false, .int .i64 0, .bool false, .int .i64 0, .string ⟨#[]⟩, .slice none 0 0]), 6, 72) := by kernel_rfl
theorem query1_star {w0 : World} {pb h ob : Nat} {nm : ByteArray} {T : List Lx} (hl : pb < h) (hob : h + 1 < ob) (acc : List (Bool × GV)) (k : Nat) (W : World) (hi : RI (qC pb h ob nm) w0 T acc k W) {t : Bs} {r : List Lx} (h0 : takeL 4 [42] (T.drop k) = some (t, r)) :
  Calls Tryz.prog 91 #[.pointer (some ⟨h, 0, none⟩), .pointer (some ⟨ob, 0, none⟩)] W (OneEnd T k (fun a k' W' => RI (qC pb h ob nm) w0 T (acc ++ [a]) k' W') (FP (fun i => i = pb) w0) (some ((false, nullV), r))) := by
 obtain ⟨v, xs, hst, hcnt⟩ := hi
 obtain ⟨ao, cap, rfl⟩ := own_shape1 hst.row
 obtain ⟨m, hm⟩ : ∃ m, acc.length = m := ⟨_, rfl⟩
 rw [hm] at hst hcnt
 have x0 : W.cell? ⟨h, 0, none⟩ = some (.pointer (some ⟨pb, 0, none⟩)) := cell_blk (hst.kp _ (List.mem_cons_self ..))
 have HST := Lib.hid hst
 have OK := Lib.hid (qC_ok (nm := nm) hl hob)
 have HM : Hid (acc.length = m ∧ m ≤ k) := Lib.hid ⟨hm, hcnt⟩
 have hm4 : m ≤ 4096 := by have := hcnt; have := hst.p.le; have := hst.p.good.len; omega
 clear hst hcnt hm
 obtain ⟨hlt, t1, rfl, t2⟩ := takeL_drop h0
 clear t1 t2
 go_enter Tryz.func91, Tryz.ntmps91
 go_wp2_with fail
 refine (mark_some HST.out.p ⟨#[42]⟩ h0).mono ?_
 rintro e w1 ⟨rfl, hp, hf⟩
 have HS0 := Lib.hid (HST.out.far OK.out hf hp)
 have HF0 := Lib.hid hf
 have v0 : w1.cell? ⟨ob, 7, none⟩ = some (.slice ao m cap) := (HS0.out.hcell OK.out).1
 clear hp hf
 have HS1 := Lib.hid (HS0.out.alloc OK.out (.cells #[.bool false, .int .i64 0, .bool false, .int .i64 0, .string ⟨#[]⟩, .slice none 0 0] 66))
 have HONE : Hid (∀ u ∈ ([.bool false, .int .i64 0, .bool false, .int .i64 0, .string ⟨#[]⟩, .slice none 0 0] : List Value), u.oneCell' = true) := Lib.hid (by
  intro u hu
  simp at hu
  rcases hu with rfl | rfl | rfl | rfl | rfl | rfl <;> rfl)
 have HAL : Hid (∀ (j : Nat) (u : Value), ([.bool false, .int .i64 0, .bool false, .int .i64 0, .string ⟨#[]⟩, .slice none 0 0] : List Value)[j]? = some u → (w1.alloc (.cells #[.bool false, .int .i64 0, .bool false, .int .i64 0, .string ⟨#[]⟩, .slice none 0 0] 66)).cell? ((⟨w1.heap.size, 0, none⟩ : Addr).add j) = some u) := Lib.hid alloc_cells6
 obtain ⟨i0, hi0, hz0, hz1, hz2⟩ := info_parts infoO
 have hbs : ob + 1 ≤ (w1.alloc (.cells #[.bool false, .int .i64 0, .bool false, .int .i64 0, .string ⟨#[]⟩, .slice none 0 0] 66)).heap.size := lt_blk HS1.out.hd
 go_wp2_with (at_builtin; refine wpList_append_lies _ rfl (.tmp 5) (.tmp 7) 56 rfl (ob + 1) 66 i0 (.agg #[.bool false, .int .i64 0, .bool false, .int .i64 0, .string ⟨#[]⟩, .slice none 0 0]) 6 72 Tryz.underlying56 hi0 hz0 hz1 hz2 rfl (by decide) (.slice ao m cap) m xs rfl HS1.out.row ⟨w1.heap.size, 0, none⟩ 1 1 [.bool false, .int .i64 0, .bool false, .int .i64 0, .string ⟨#[]⟩, .slice none 0 0] rfl rfl HAL.out HONE.out (by decide) (by unfold maxLen; omega) (by omega) hbs _ rfl ?_)
 intro g cp w5 hr2 hg2 hat hgl
 have HS6 := Lib.hid (HS1.out.append OK.out hg2 (by simpa using hat) hr2)
 obtain ⟨v5, v6⟩ := HS6.out.hcell OK.out
 have v5 : w5.cell? ⟨ob, 7, none⟩ = some (.slice ao m cap) := v5
 have v6 : w5.frozen? ⟨ob, 7, none⟩ = false := v6
 have HS7 := Lib.hid (HS6.out.head OK.out (.slice (some ⟨g, 0, none⟩) (m + 1) cp))
 clear hr2 hg2 hat hgl v0 hbs
 go_wp2_with fail
 change Hid (RowSt _ _ _ _ _ _ _ _ _ _ _ (w5.setCell ⟨ob, 7, none⟩ (.slice (some ⟨g, 0, none⟩) (m + 1) cp))) at HS7
 generalize w5.setCell ⟨ob, 7, none⟩ (.slice (some ⟨g, 0, none⟩) (m + 1) cp) = w6 at HS7 ⊢
 have hfin := HS7.out
 refine bodyPost_end (v := .tuple #[]) (by simp [results, Tryz.results91]) rfl ⟨rfl, k + 1, rfl, Nat.lt_succ_self k, hlt, ?_⟩
 rw [← HM.out.1] at hfin
 have hnew : RowSt (qC pb h ob nm) w0 T acc xs (k + 1) (.slice (some ⟨g, 0, none⟩) (acc.length + 1) cp) (.slice (some ⟨g, 0, none⟩) (acc.length + 1) cp) (acc.length + 1) (xs ++ [.bool false, .int .i64 0, .bool false, .int .i64 0, .string ⟨#[]⟩, .slice none 0 0]) (some ([.bool false, .int .i64 0, .bool false, .int .i64 0, .string ⟨#[]⟩, .slice none 0 0], (false, nullV))) w6 :=
  ⟨hfin.p, hfin.kp, hfin.hd, hfin.row, hfin.old, fun x hx => (by cases hx; exact RdO.mk false _ nullV (rdv_flat 0 false 0 ⟨#[]⟩)), hfin.fp, hfin.w0s⟩
 exact RI.ofSt (by have := HM.out; omega) hnew rfl
theorem query1_none {w0 : World} {pb h ob : Nat} {nm : ByteArray} {T : List Lx} (hl : pb < h) (hob : h + 1 < ob) (acc : List (Bool × GV)) (k : Nat) (W : World) (hi : RI (qC pb h ob nm) w0 T acc k W) (h0 : takeL 4 [42] (T.drop k) = none) (h2 : pVal maxDeep (T.drop k) = none) :
  Calls Tryz.prog 91 #[.pointer (some ⟨h, 0, none⟩), .pointer (some ⟨ob, 0, none⟩)] W (OneEnd T k (fun a k' W' => RI (qC pb h ob nm) w0 T (acc ++ [a]) k' W') (FP (fun i => i = pb) w0) none) := by
 obtain ⟨v, xs, hst, hcnt⟩ := hi
 obtain ⟨ao, cap, rfl⟩ := own_shape1 hst.row
 obtain ⟨m, hm⟩ : ∃ m, acc.length = m := ⟨_, rfl⟩
 rw [hm] at hst hcnt
 have x0 : W.cell? ⟨h, 0, none⟩ = some (.pointer (some ⟨pb, 0, none⟩)) := cell_blk (hst.kp _ (List.mem_cons_self ..))
 have HST := Lib.hid hst
 have OK := Lib.hid (qC_ok (nm := nm) hl hob)
 have HM : Hid (acc.length = m ∧ m ≤ k) := Lib.hid ⟨hm, hcnt⟩
 have hm4 : m ≤ 4096 := by have := hcnt; have := hst.p.le; have := hst.p.good.len; omega
 clear hst hcnt hm
 go_enter Tryz.func91, Tryz.ntmps91
 go_wp2_with fail
 refine (mark_none HST.out.p ⟨#[42]⟩ h0).mono ?_
 rintro e w1 ⟨rfl, hs⟩
 have HS0 := Lib.hid (HST.out.same OK.out hs)
 have x1 : w1.cell? ⟨h, 0, none⟩ = some (.pointer (some ⟨pb, 0, none⟩)) := cell_blk (HS0.out.kp _ (List.mem_cons_self ..))
 have v1 : w1.cell? ⟨ob, 7, none⟩ = some (.slice ao m cap) := (HS0.out.hcell OK.out).1
 clear hs
 go_wp2_with fail
 refine wp_region_U (fun w' => w'.cell? ⟨h, 0, none⟩ = some (.pointer (some ⟨pb, 0, none⟩)) ∧ w'.cell? ⟨ob, 7, none⟩ = some (.slice ao m cap)) [8] (by kernel_rfl) (by go_keep) (fun hHeld => ?_)
 have HS1 := Lib.hid (HS0.out.same OK.out (same_drewN w1 1))
 refine wpU_take 0 (oi := ?o0_1) (v := ?v0_1) ?p0_1 (by kernel_rfl) (by kernel_rfl) (by kernel_rfl) (by kernel_rfl) ?q0_1 (Or.inl ⟨?w0_1, ?y0_1⟩) (by assumption) ?_
 case p0_1 => ((simp only [List.getElem?_toArray, List.getElem?_cons_zero]); try rfl)
 case q0_1 => exact fun _ _ _ h => h
 case w0_1 => rfl
 case y0_1 => ((intro w hSw); (try dsimp only at hSw); go_simp; try with_reducible rfl)
 (try simp only [Act.put, List.setIfInBounds_toArray, List.set_cons_zero, List.set_cons_succ])
 refine wpU_take 1 (oi := ?o1_2) (v := ?v1_2) ?p1_2 (by kernel_rfl) (by kernel_rfl) (by kernel_rfl) (by kernel_rfl) ?q1_2 (Or.inl ⟨?w1_2, ?y1_2⟩) (by assumption) ?_
 case p1_2 => ((simp only [List.getElem?_toArray, List.getElem?_cons_succ, List.getElem?_cons_zero]); try rfl)
 case q1_2 => exact fun _ _ _ h => h
 case w1_2 => rfl
 case y1_2 => ((intro w hSw); (try dsimp only at hSw); go_simp; try with_reducible rfl)
 (try simp only [Act.put, List.setIfInBounds_toArray, List.set_cons_zero, List.set_cons_succ])
 refine wpU_take 2 (oi := ?o2_3) (v := ?v2_3) ?p2_3 (by kernel_rfl) (by kernel_rfl) (by kernel_rfl) (by kernel_rfl) ?q2_3 (Or.inl ⟨?w2_3, ?y2_3⟩) (by assumption) ?_
 case p2_3 => ((simp only [List.getElem?_toArray, List.getElem?_cons_succ, List.getElem?_cons_zero]); try rfl)
 case q2_3 => exact fun _ _ _ h => h
 case w2_3 => rfl
 case y2_3 => ((intro w hSw); (try dsimp only at hSw); go_simp; try with_reducible rfl)
 (try simp only [Act.put, List.setIfInBounds_toArray, List.set_cons_zero, List.set_cons_succ])
 refine wpU_ready (rs := [3]) (by kernel_rfl) (by simp) ?_
 refine AllU.cons (o := ?o3_4) ?p3_4 (fun KK hKK => ?s3_4) AllU.nil
 case p3_4 => ((simp only [List.getElem?_toArray, List.getElem?_cons_succ, List.getElem?_cons_zero]); try rfl)
 go_simp
 go_at_call 48
 have hv := value_top HS1.out.p
 rw [h2] at hv
 refine Calls.mono hv ?_
 rintro e w2 ⟨rfl, hf⟩
 go_wp2_with fail
 exact ⟨rfl, rfl, HS1.out.fp.trans hf (fun i hi => .inl hi)⟩
theorem query1_some {w0 : World} {pb h ob : Nat} {nm : ByteArray} {T : List Lx} (hl : pb < h) (hob : h + 1 < ob) (acc : List (Bool × GV)) (k : Nat) (W : World) (hi : RI (qC pb h ob nm) w0 T acc k W) (h0 : takeL 4 [42] (T.drop k) = none) {gv : GV} {r2 : List Lx} (h2 : pVal maxDeep (T.drop k) = some (gv, r2)) :
  Calls Tryz.prog 91 #[.pointer (some ⟨h, 0, none⟩), .pointer (some ⟨ob, 0, none⟩)] W (OneEnd T k (fun a k' W' => RI (qC pb h ob nm) w0 T (acc ++ [a]) k' W') (FP (fun i => i = pb) w0) (some ((true, gv), r2))) := by
 obtain ⟨v, xs, hst, hcnt⟩ := hi
 obtain ⟨ao, cap, rfl⟩ := own_shape1 hst.row
 obtain ⟨m, hm⟩ : ∃ m, acc.length = m := ⟨_, rfl⟩
 rw [hm] at hst hcnt
 have x0 : W.cell? ⟨h, 0, none⟩ = some (.pointer (some ⟨pb, 0, none⟩)) := cell_blk (hst.kp _ (List.mem_cons_self ..))
 have HST := Lib.hid hst
 have OK := Lib.hid (qC_ok (nm := nm) hl hob)
 have HM : Hid (acc.length = m ∧ m ≤ k) := Lib.hid ⟨hm, hcnt⟩
 have hm4 : m ≤ 4096 := by have := hcnt; have := hst.p.le; have := hst.p.good.len; omega
 clear hst hcnt hm
 go_enter Tryz.func91, Tryz.ntmps91
 go_wp2_with fail
 refine (mark_none HST.out.p ⟨#[42]⟩ h0).mono ?_
 rintro e w1 ⟨rfl, hs⟩
 have HS0 := Lib.hid (HST.out.same OK.out hs)
 have x1 : w1.cell? ⟨h, 0, none⟩ = some (.pointer (some ⟨pb, 0, none⟩)) := cell_blk (HS0.out.kp _ (List.mem_cons_self ..))
 have v1 : w1.cell? ⟨ob, 7, none⟩ = some (.slice ao m cap) := (HS0.out.hcell OK.out).1
 clear hs
 go_wp2_with fail
 refine wp_region_U (fun w' => w'.cell? ⟨h, 0, none⟩ = some (.pointer (some ⟨pb, 0, none⟩)) ∧ w'.cell? ⟨ob, 7, none⟩ = some (.slice ao m cap)) [8] (by kernel_rfl) (by go_keep) (fun hHeld => ?_)
 have HS1 := Lib.hid (HS0.out.same OK.out (same_drewN w1 1))
 refine wpU_take 0 (oi := ?o0_5) (v := ?v0_5) ?p0_5 (by kernel_rfl) (by kernel_rfl) (by kernel_rfl) (by kernel_rfl) ?q0_5 (Or.inl ⟨?w0_5, ?y0_5⟩) (by assumption) ?_
 case p0_5 => ((simp only [List.getElem?_toArray, List.getElem?_cons_zero]); try rfl)
 case q0_5 => exact fun _ _ _ h => h
 case w0_5 => rfl
 case y0_5 => ((intro w hSw); (try dsimp only at hSw); go_simp; try with_reducible rfl)
 (try simp only [Act.put, List.setIfInBounds_toArray, List.set_cons_zero, List.set_cons_succ])
 refine wpU_take 1 (oi := ?o1_6) (v := ?v1_6) ?p1_6 (by kernel_rfl) (by kernel_rfl) (by kernel_rfl) (by kernel_rfl) ?q1_6 (Or.inl ⟨?w1_6, ?y1_6⟩) (by assumption) ?_
 case p1_6 => ((simp only [List.getElem?_toArray, List.getElem?_cons_succ, List.getElem?_cons_zero]); try rfl)
 case q1_6 => exact fun _ _ _ h => h
 case w1_6 => rfl
 case y1_6 => ((intro w hSw); (try dsimp only at hSw); go_simp; try with_reducible rfl)
 (try simp only [Act.put, List.setIfInBounds_toArray, List.set_cons_zero, List.set_cons_succ])
 refine wpU_take 2 (oi := ?o2_7) (v := ?v2_7) ?p2_7 (by kernel_rfl) (by kernel_rfl) (by kernel_rfl) (by kernel_rfl) ?q2_7 (Or.inl ⟨?w2_7, ?y2_7⟩) (by assumption) ?_
 case p2_7 => ((simp only [List.getElem?_toArray, List.getElem?_cons_succ, List.getElem?_cons_zero]); try rfl)
 case q2_7 => exact fun _ _ _ h => h
 case w2_7 => rfl
 case y2_7 => ((intro w hSw); (try dsimp only at hSw); go_simp; try with_reducible rfl)
 (try simp only [Act.put, List.setIfInBounds_toArray, List.set_cons_zero, List.set_cons_succ])
 refine wpU_ready (rs := [3]) (by kernel_rfl) (by simp) ?_
 refine AllU.cons (o := ?o3_8) ?p3_8 (fun KK hKK => ?s3_8) AllU.nil
 case p3_8 => ((simp only [List.getElem?_toArray, List.getElem?_cons_succ, List.getElem?_cons_zero]); try rfl)
 go_simp
 go_at_call 48
 have hv := value_top HS1.out.p
 rw [h2] at hv
 refine Calls.mono hv ?_
 rintro e w2 ⟨kd, b, i, t5, sl, k', rfl, hrd, hr, hk1, hk2, hp, hf⟩
 obtain ⟨sa, sn, sc, rfl⟩ := rdv_slice hrd
 have HS2 := Lib.hid (HS1.out.call OK.out (c := [.bool true, .int .i64 kd, .bool b, .int .i64 i, .string t5, .slice sa sn sc]) (a := (true, gv)) (RdO.mk true _ gv hrd) hp hf)
 have HR : Hid (r2 = T.drop k' ∧ k < k' ∧ k' ≤ T.length) := Lib.hid ⟨hr, hk1, hk2⟩
 clear hrd hr hk1 hk2 hp hf hv
 go_wp2_with fail
 have hS2 : w2.cell? ⟨h, 0, none⟩ = some (.pointer (some ⟨pb, 0, none⟩)) ∧ w2.cell? ⟨ob, 7, none⟩ = some (.slice ao m cap) := ⟨cell_blk (HS2.out.kp _ (List.mem_cons_self ..)), (HS2.out.hcell OK.out).1⟩
 refine hKK.out _ _ (fun _ => hS2) ?_
 clear hKK KK
 (try simp only [Act.put, List.setIfInBounds_toArray, List.set_cons_zero, List.set_cons_succ])
 refine wpU_take0 4 (oi := ?o4_9) (v := ?v4_9) ?p4_9 (by kernel_rfl) (by kernel_rfl) (by kernel_rfl) (by kernel_rfl) ?q4_9 (Or.inl ⟨?w4_9, ?y4_9⟩) (fun _ => by assumption) ?_
 case p4_9 => ((simp only [List.getElem?_toArray, List.getElem?_cons_succ, List.getElem?_cons_zero]); try rfl)
 case q4_9 => exact fun _ _ _ h => h
 case w4_9 => rfl
 case y4_9 => ((intro w _); go_simp; try with_reducible rfl)
 (try simp only [Act.put, List.setIfInBounds_toArray, List.set_cons_zero, List.set_cons_succ])
 refine wpU_ready (rs := [5]) (by kernel_rfl) (by simp) ?_
 refine AllU.cons (o := ?o5_10) ?p5_10 (fun KK hKK => ?s5_10) AllU.nil
 case p5_10 => ((simp only [List.getElem?_toArray, List.getElem?_cons_succ, List.getElem?_cons_zero]); try rfl)
 go_simp
 have HS3 := Lib.hid (HS2.out.alloc OK.out (.cells #[.bool true, .int .i64 kd, .bool b, .int .i64 i, .string t5, .slice sa sn sc] 66))
 have HONE : Hid (∀ u ∈ ([.bool true, .int .i64 kd, .bool b, .int .i64 i, .string t5, .slice sa sn sc] : List Value), u.oneCell' = true) := Lib.hid (by
  intro u hu
  simp at hu
  rcases hu with rfl | rfl | rfl | rfl | rfl | rfl <;> rfl)
 have HAL : Hid (∀ (j : Nat) (u : Value), ([.bool true, .int .i64 kd, .bool b, .int .i64 i, .string t5, .slice sa sn sc] : List Value)[j]? = some u → (w2.alloc (.cells #[.bool true, .int .i64 kd, .bool b, .int .i64 i, .string t5, .slice sa sn sc] 66)).cell? ((⟨w2.heap.size, 0, none⟩ : Addr).add j) = some u) := Lib.hid alloc_cells6
 obtain ⟨i0, hi0, hz0, hz1, hz2⟩ := info_parts infoO
 have hbs : ob + 1 ≤ (w2.alloc (.cells #[.bool true, .int .i64 kd, .bool b, .int .i64 i, .string t5, .slice sa sn sc] 66)).heap.size := lt_blk HS3.out.hd
 refine hKK.out _ _ (fun _ => ⟨cell_blk (HS3.out.kp _ (List.mem_cons_self ..)), (HS3.out.hcell OK.out).1⟩) ?_
 clear hKK KK
 (try simp only [Act.put, List.setIfInBounds_toArray, List.set_cons_zero, List.set_cons_succ])
 refine wpU_ready (rs := [6]) (by kernel_rfl) (by simp) ?_
 refine AllU.cons (o := ?o6_11) ?p6_11 (fun KK hKK => ?s6_11) AllU.nil
 case p6_11 => ((simp only [List.getElem?_toArray, List.getElem?_cons_succ, List.getElem?_cons_zero]); try rfl)
 refine step_append_lies _ rfl (.tmp 11) (.tmp 15) 56 rfl (ob + 1) 66 i0 (.agg #[.bool false, .int .i64 0, .bool false, .int .i64 0, .string ⟨#[]⟩, .slice none 0 0]) 6 72 Tryz.underlying56 hi0 hz0 hz1 hz2 rfl (by decide) (.slice ao m cap) m xs rfl HS3.out.row ⟨w2.heap.size, 0, none⟩ 1 1 [.bool true, .int .i64 kd, .bool b, .int .i64 i, .string t5, .slice sa sn sc] rfl rfl HAL.out HONE.out (by decide) (by unfold maxLen; omega) (by omega) hbs _ rfl ?_
 intro g cp w5 hr2 hg2 hat hgl
 have HS6 := Lib.hid (HS3.out.append OK.out hg2 (by simpa using hat) hr2)
 have hS5 : w5.cell? ⟨h, 0, none⟩ = some (.pointer (some ⟨pb, 0, none⟩)) ∧ w5.cell? ⟨ob, 7, none⟩ = some (.slice ao m cap) := ⟨cell_blk (HS6.out.kp _ (List.mem_cons_self ..)), (HS6.out.hcell OK.out).1⟩
 clear hr2 hg2 hat hgl
 refine hKK.out _ _ (fun _ => hS5) ?_
 clear hKK KK
 (try simp only [Act.put, List.setIfInBounds_toArray, List.set_cons_zero, List.set_cons_succ])
 refine wpU_take0 7 (oi := ?o7_12) (v := ?v7_12) ?p7_12 (by kernel_rfl) (by kernel_rfl) (by kernel_rfl) (by kernel_rfl) ?q7_12 (Or.inl ⟨?w7_12, ?y7_12⟩) (fun _ => by assumption) ?_
 case p7_12 => ((simp only [List.getElem?_toArray, List.getElem?_cons_succ, List.getElem?_cons_zero]); try rfl)
 case q7_12 => exact fun _ _ _ h => h
 case w7_12 => rfl
 case y7_12 => ((intro w _); go_simp; try with_reducible rfl)
 (try simp only [Act.put, List.setIfInBounds_toArray, List.set_cons_zero, List.set_cons_succ])
 refine wpU_ready (rs := [8]) (by kernel_rfl) (by simp) ?_
 refine AllU.cons (o := ?o8_13) ?p8_13 (fun KK hKK => ?s8_13) AllU.nil
 case p8_13 => ((simp only [List.getElem?_toArray, List.getElem?_cons_succ, List.getElem?_cons_zero]); try rfl)
 obtain ⟨v5, v6⟩ := HS6.out.hcell OK.out
 have v5 : w5.cell? ⟨ob, 7, none⟩ = some (.slice ao m cap) := v5
 have v6 : w5.frozen? ⟨ob, 7, none⟩ = false := v6
 go_simp
 have HS7 := Lib.hid (HS6.out.head OK.out (.slice (some ⟨g, 0, none⟩) (m + 1) cp))
 refine hKK.out _ _ (fun hn => by cases hn 8 (List.mem_singleton.2 rfl)) ?_
 clear hKK KK v5 v6
 (try simp only [Act.put, List.setIfInBounds_toArray, List.set_cons_zero, List.set_cons_succ])
 change wpU _ _ _ _ _ _ _ _ _ (w5.setCell ⟨ob, 7, none⟩ (.slice (some ⟨g, 0, none⟩) (m + 1) cp))
 change Hid (RowSt _ _ _ _ _ _ _ _ _ _ _ (w5.setCell ⟨ob, 7, none⟩ (.slice (some ⟨g, 0, none⟩) (m + 1) cp))) at HS7
 generalize w5.setCell ⟨ob, 7, none⟩ (.slice (some ⟨g, 0, none⟩) (m + 1) cp) = w6 at HS7 ⊢
 refine wpU_done (by kernel_rfl) ?_
 have hfin := HS7.out
 refine bodyPost_end (v := .tuple #[]) (by simp [results, Tryz.results91]) rfl ⟨rfl, k', HR.out.1, HR.out.2.1, HR.out.2.2, ?_⟩
 rw [← HM.out.1] at hfin
 exact RI.ofSt (by have := HM.out; have := HR.out.2.1; omega) hfin rfl
theorem query1_any {w0 : World} {pb h ob : Nat} {nm : ByteArray} {T : List Lx} (hl : pb < h) (hob : h + 1 < ob) (acc : List (Bool × GV)) (k : Nat) (W : World) (hi : RI (qC pb h ob nm) w0 T acc k W) :
  Calls Tryz.prog 91 #[.pointer (some ⟨h, 0, none⟩), .pointer (some ⟨ob, 0, none⟩)] W (OneEnd T k (fun a k' W' => RI (qC pb h ob nm) w0 T (acc ++ [a]) k' W') (FP (fun i => i = pb) w0) (pOpt (T.drop k))) := by
 unfold pOpt
 rcases h0 : takeL 4 [42] (T.drop k) with _ | ⟨t, r⟩
 ·simp only
  rcases h2 : pVal maxDeep (T.drop k) with _ | ⟨gv, r2⟩
  ·exact query1_none hl hob acc k W hi h0 h2
  ·exact query1_some hl hob acc k W hi h0 h2
 ·exact query1_star hl hob acc k W hi h0
end Go.Proofs.YtnpkdiffpgcbhaaGreatDoor
