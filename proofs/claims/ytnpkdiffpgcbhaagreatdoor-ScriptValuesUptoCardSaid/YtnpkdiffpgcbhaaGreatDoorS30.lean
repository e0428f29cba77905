/- The parser, walked (ParM). Conditions: each theorem's own. -/
import Derived.Test.YtnpkdiffpgcbhaaGreatDoorS29
set_option maxRecDepth 100000
set_option maxHeartbeats 1600000
namespace Go.Proofs.YtnpkdiffpgcbhaaGreatDoor
open Go.RowKit
attribute [local go_sem] Oper.semAt_some
theorem text_end {w : World} {pb k : Nat} {T : List Lx} (h : PAt w pb T k) (hx : T.drop k = []) : Calls Tryz.prog 87 #[.pointer (some ⟨pb, 0, none⟩)] w (REnd w pb T k (fun t v _ => ∃ x : ByteArray, v = .string x ∧ x.data.toList = t) none) := by
 have hge : T.length ≤ k := by
  rcases Nat.lt_or_ge k T.length with h' | h'
  ·rw [drop_cons h'] at hx; cases hx
  ·exact h'
 obtain ⟨sl, xs, h1, h2, h3⟩ := h.box
 obtain ⟨_, ao, cap, rfl, _⟩ := h2
 have hl := h.good.len
 obtain ⟨N, hN⟩ : ∃ N, T.length = N := ⟨_, rfl⟩
 rw [hN] at h1 hl hge
 have g0 : w.cell? ⟨pb, 0, none⟩ = some (.slice ao N cap) := cell_blk h1
 have g1 : w.cell? ⟨pb, 1, none⟩ = some (.int .i64 k) := cell_blk h1
 have g3 : decide (k < N) = false := by simp; omega
 have g4 : ¬ ((k : Int) < (N : Int)) := by omega
 clear h h1 h3 hN hx
 have HF0 : Hid (FP (fun i => i = pb) w w.drew) := Lib.hid (FP.ofSame (same_drewN w 1))
 go_enter Tryz.func87, Tryz.ntmps87
 go_wp2_with fail
 refine wp_region_U (fun w' => w'.cell? ⟨pb, 0, none⟩ = some (.slice ao N cap) ∧ w'.cell? ⟨pb, 1, none⟩ = some (.int .i64 k)) [] (by kernel_rfl) (by go_keep) (fun hHeld => ?_)
 refine wpU_take 0 (oi := ?o0_1) (v := ?v0_1) ?p0_1 (by kernel_rfl) (by kernel_rfl) (by kernel_rfl) (by kernel_rfl) ?q0_1 (Or.inl ⟨?w0_1, ?y0_1⟩) (by assumption) ?_
 case p0_1 => ((simp only [List.getElem?_toArray, List.getElem?_cons_zero]); try rfl)
 case q0_1 => exact fun _ _ _ h => h
 case w0_1 => rfl
 case y0_1 => ((intro w hSw); (try dsimp only at hSw); go_simp; try with_reducible rfl)
 (try simp only [Act.put, List.setIfInBounds_toArray, List.set_cons_zero, List.set_cons_succ])
 refine wpU_take 1 (oi := ?o1_2) (v := ?v1_2) ?p1_2 (by kernel_rfl) (by kernel_rfl) (by kernel_rfl) (by kernel_rfl) ?q1_2 (Or.inl ⟨?w1_2, ?y1_2⟩) (by assumption) ?_
 case p1_2 => ((simp only [List.getElem?_toArray, List.getElem?_cons_succ, List.getElem?_cons_zero]); try rfl)
 case q1_2 => exact fun _ _ _ h => h
 case w1_2 => rfl
 case y1_2 => ((intro w hSw); (try dsimp only at hSw); go_simp; try with_reducible rfl)
 (try simp only [Act.put, List.setIfInBounds_toArray, List.set_cons_zero, List.set_cons_succ])
 refine wpU_take 2 (oi := ?o2_3) (v := ?v2_3) ?p2_3 (by kernel_rfl) (by kernel_rfl) (by kernel_rfl) (by kernel_rfl) ?q2_3 (Or.inl ⟨?w2_3, ?y2_3⟩) (by assumption) ?_
 case p2_3 => ((simp only [List.getElem?_toArray, List.getElem?_cons_succ, List.getElem?_cons_zero]); try rfl)
 case q2_3 => exact fun _ _ _ h => h
 case w2_3 => rfl
 case y2_3 => ((intro w hSw); (try dsimp only at hSw); go_simp; try with_reducible rfl)
 (try simp only [Act.put, List.setIfInBounds_toArray, List.set_cons_zero, List.set_cons_succ])
 refine wpU_take 3 (oi := ?o3_4) (v := ?v3_4) ?p3_4 (by kernel_rfl) (by kernel_rfl) (by kernel_rfl) (by kernel_rfl) ?q3_4 (Or.inl ⟨?w3_4, ?y3_4⟩) (by assumption) ?_
 case p3_4 => ((simp only [List.getElem?_toArray, List.getElem?_cons_succ, List.getElem?_cons_zero]); try rfl)
 case q3_4 => exact fun _ _ _ h => h
 case w3_4 => rfl
 case y3_4 => ((intro w hSw); (try dsimp only at hSw); go_simp; try with_reducible rfl)
 (try simp only [Act.put, List.setIfInBounds_toArray, List.set_cons_zero, List.set_cons_succ])
 refine wpU_take 4 (oi := ?o4_5) (v := ?v4_5) ?p4_5 (by kernel_rfl) (by kernel_rfl) (by kernel_rfl) (by kernel_rfl) ?q4_5 (Or.inl ⟨?w4_5, ?y4_5⟩) (by assumption) ?_
 case p4_5 => ((simp only [List.getElem?_toArray, List.getElem?_cons_succ, List.getElem?_cons_zero]); try rfl)
 case q4_5 => exact fun _ _ _ h => h
 case w4_5 => rfl
 case y4_5 => ((intro w hSw); (try dsimp only at hSw); go_simp; try with_reducible rfl)
 (try simp only [Act.put, List.setIfInBounds_toArray, List.set_cons_zero, List.set_cons_succ])
 refine wpU_take 5 (oi := ?o5_6) (v := ?v5_6) ?p5_6 (by kernel_rfl) (by kernel_rfl) (by kernel_rfl) (by kernel_rfl) ?q5_6 (Or.inl ⟨?w5_6, ?y5_6⟩) (by assumption) ?_
 case p5_6 => ((simp only [List.getElem?_toArray, List.getElem?_cons_succ, List.getElem?_cons_zero]); try rfl)
 case q5_6 => exact fun _ _ _ h => h
 case w5_6 => rfl
 case y5_6 => ((intro w hSw); (try dsimp only at hSw); go_simp; try with_reducible rfl)
 (try simp only [Act.put, List.setIfInBounds_toArray, List.set_cons_zero, List.set_cons_succ])
 refine wpU_take 6 (oi := ?o6_7) (v := ?v6_7) ?p6_7 (by kernel_rfl) (by kernel_rfl) (by kernel_rfl) (by kernel_rfl) ?q6_7 (Or.inl ⟨?w6_7, ?y6_7⟩) (by assumption) ?_
 case p6_7 => ((simp only [List.getElem?_toArray, List.getElem?_cons_succ, List.getElem?_cons_zero]); try rfl)
 case q6_7 => exact fun _ _ _ h => h
 case w6_7 => rfl
 case y6_7 => ((intro w hSw); (try dsimp only at hSw); go_simp; try with_reducible rfl)
 (try simp only [Act.put, List.setIfInBounds_toArray, List.set_cons_zero, List.set_cons_succ])
 refine wpU_take 7 (oi := ?o7_8) (v := ?v7_8) ?p7_8 (by kernel_rfl) (by kernel_rfl) (by kernel_rfl) (by kernel_rfl) ?q7_8 (Or.inl ⟨?w7_8, ?y7_8⟩) (by assumption) ?_
 case p7_8 => ((simp only [List.getElem?_toArray, List.getElem?_cons_succ, List.getElem?_cons_zero]); try rfl)
 case q7_8 => exact fun _ _ _ h => h
 case w7_8 => rfl
 case y7_8 => ((intro w hSw); (try dsimp only at hSw); go_simp; try with_reducible rfl)
 (try simp only [Act.put, List.setIfInBounds_toArray, List.set_cons_zero, List.set_cons_succ])
 refine wpU_take 8 (oi := ?o8_9) (v := ?v8_9) ?p8_9 (by kernel_rfl) (by kernel_rfl) (by kernel_rfl) (by kernel_rfl) ?q8_9 (Or.inl ⟨?w8_9, ?y8_9⟩) (by assumption) ?_
 case p8_9 => ((simp only [List.getElem?_toArray, List.getElem?_cons_succ, List.getElem?_cons_zero]); try rfl)
 case q8_9 => exact fun _ _ _ h => h
 case w8_9 => rfl
 case y8_9 => ((intro w hSw); (try dsimp only at hSw); go_simp; try with_reducible rfl)
 (try simp only [Act.put, List.setIfInBounds_toArray, List.set_cons_zero, List.set_cons_succ])
 refine wpU_take 9 (oi := ?o9_10) (v := ?v9_10) ?p9_10 (by kernel_rfl) (by kernel_rfl) (by kernel_rfl) (by kernel_rfl) ?q9_10 (Or.inl ⟨?w9_10, ?y9_10⟩) (by assumption) ?_
 case p9_10 => ((simp only [List.getElem?_toArray, List.getElem?_cons_succ, List.getElem?_cons_zero]); try rfl)
 case q9_10 => exact fun _ _ _ h => h
 case w9_10 => rfl
 case y9_10 => ((intro w hSw); (try dsimp only at hSw); go_simp; try with_reducible rfl)
 (try simp only [Act.put, List.setIfInBounds_toArray, List.set_cons_zero, List.set_cons_succ])
 (try simp only [g3])
 refine wpU_take 10 (oi := ?o10_11) (v := ?v10_11) ?p10_11 (by kernel_rfl) (by kernel_rfl) (by kernel_rfl) (by kernel_rfl) ?q10_11 (Or.inl ⟨?w10_11, ?y10_11⟩) (by assumption) ?_
 case p10_11 => ((simp only [List.getElem?_toArray, List.getElem?_cons_succ, List.getElem?_cons_zero]); try rfl)
 case q10_11 => exact fun _ _ _ h => h
 case w10_11 => rfl
 case y10_11 => ((intro w hSw); (try dsimp only at hSw); go_simp; try with_reducible rfl)
 (try simp only [Act.put, List.setIfInBounds_toArray, List.set_cons_zero, List.set_cons_succ])
 refine wpU_take 11 (oi := ?o11_12) (v := undef) ?p11_12 (by kernel_rfl) (by kernel_rfl) (by kernel_rfl) (by kernel_rfl) ?q11_12 (Or.inr ⟨?w11_12, rfl⟩) (by assumption) ?_
 case p11_12 => ((simp only [List.getElem?_toArray, List.getElem?_cons_succ, List.getElem?_cons_zero]); try rfl)
 case q11_12 => exact fun _ _ _ h => h
 case w11_12 => rfl
 (try simp only [Act.put, List.setIfInBounds_toArray, List.set_cons_zero, List.set_cons_succ])
 refine wpU_take 12 (oi := ?o12_13) (v := undef) ?p12_13 (by kernel_rfl) (by kernel_rfl) (by kernel_rfl) (by kernel_rfl) ?q12_13 (Or.inr ⟨?w12_13, rfl⟩) (by assumption) ?_
 case p12_13 => ((simp only [List.getElem?_toArray, List.getElem?_cons_succ, List.getElem?_cons_zero]); try rfl)
 case q12_13 => exact fun _ _ _ h => h
 case w12_13 => rfl
 (try simp only [Act.put, List.setIfInBounds_toArray, List.set_cons_zero, List.set_cons_succ])
 refine wpU_take 13 (oi := ?o13_14) (v := undef) ?p13_14 (by kernel_rfl) (by kernel_rfl) (by kernel_rfl) (by kernel_rfl) ?q13_14 (Or.inr ⟨?w13_14, rfl⟩) (by assumption) ?_
 case p13_14 => ((simp only [List.getElem?_toArray, List.getElem?_cons_succ, List.getElem?_cons_zero]); try rfl)
 case q13_14 => exact fun _ _ _ h => h
 case w13_14 => rfl
 (try simp only [Act.put, List.setIfInBounds_toArray, List.set_cons_zero, List.set_cons_succ])
 refine wpU_take 14 (oi := ?o14_15) (v := undef) ?p14_15 (by kernel_rfl) (by kernel_rfl) (by kernel_rfl) (by kernel_rfl) ?q14_15 (Or.inr ⟨?w14_15, rfl⟩) (by assumption) ?_
 case p14_15 => ((simp only [List.getElem?_toArray, List.getElem?_cons_succ, List.getElem?_cons_zero]); try rfl)
 case q14_15 => exact fun _ _ _ h => h
 case w14_15 => rfl
 (try simp only [Act.put, List.setIfInBounds_toArray, List.set_cons_zero, List.set_cons_succ])
 refine wpU_take 15 (oi := ?o15_16) (v := undef) ?p15_16 (by kernel_rfl) (by kernel_rfl) (by kernel_rfl) (by kernel_rfl) ?q15_16 (Or.inr ⟨?w15_16, rfl⟩) (by assumption) ?_
 case p15_16 => ((simp only [List.getElem?_toArray, List.getElem?_cons_succ, List.getElem?_cons_zero]); try rfl)
 case q15_16 => exact fun _ _ _ h => h
 case w15_16 => rfl
 (try simp only [Act.put, List.setIfInBounds_toArray, List.set_cons_zero, List.set_cons_succ])
 refine wpU_take 16 (oi := ?o16_17) (v := undef) ?p16_17 (by kernel_rfl) (by kernel_rfl) (by kernel_rfl) (by kernel_rfl) ?q16_17 (Or.inr ⟨?w16_17, rfl⟩) (by assumption) ?_
 case p16_17 => ((simp only [List.getElem?_toArray, List.getElem?_cons_succ, List.getElem?_cons_zero]); try rfl)
 case q16_17 => exact fun _ _ _ h => h
 case w16_17 => rfl
 (try simp only [Act.put, List.setIfInBounds_toArray, List.set_cons_zero, List.set_cons_succ])
 refine wpU_take 17 (oi := ?o17_18) (v := undef) ?p17_18 (by kernel_rfl) (by kernel_rfl) (by kernel_rfl) (by kernel_rfl) ?q17_18 (Or.inr ⟨?w17_18, rfl⟩) (by assumption) ?_
 case p17_18 => ((simp only [List.getElem?_toArray, List.getElem?_cons_succ, List.getElem?_cons_zero]); try rfl)
 case q17_18 => exact fun _ _ _ h => h
 case w17_18 => rfl
 (try simp only [Act.put, List.setIfInBounds_toArray, List.set_cons_zero, List.set_cons_succ])
 refine wpU_take 18 (oi := ?o18_19) (v := undef) ?p18_19 (by kernel_rfl) (by kernel_rfl) (by kernel_rfl) (by kernel_rfl) ?q18_19 (Or.inr ⟨?w18_19, rfl⟩) (by assumption) ?_
 case p18_19 => ((simp only [List.getElem?_toArray, List.getElem?_cons_succ, List.getElem?_cons_zero]); try rfl)
 case q18_19 => exact fun _ _ _ h => h
 case w18_19 => rfl
 (try simp only [Act.put, List.setIfInBounds_toArray, List.set_cons_zero, List.set_cons_succ])
 refine wpU_take 19 (oi := ?o19_20) (v := undef) ?p19_20 (by kernel_rfl) (by kernel_rfl) (by kernel_rfl) (by kernel_rfl) ?q19_20 (Or.inr ⟨?w19_20, rfl⟩) (by assumption) ?_
 case p19_20 => ((simp only [List.getElem?_toArray, List.getElem?_cons_succ, List.getElem?_cons_zero]); try rfl)
 case q19_20 => exact fun _ _ _ h => h
 case w19_20 => rfl
 (try simp only [Act.put, List.setIfInBounds_toArray, List.set_cons_zero, List.set_cons_succ])
 refine wpU_take 20 (oi := ?o20_21) (v := undef) ?p20_21 (by kernel_rfl) (by kernel_rfl) (by kernel_rfl) (by kernel_rfl) ?q20_21 (Or.inr ⟨?w20_21, rfl⟩) (by assumption) ?_
 case p20_21 => ((simp only [List.getElem?_toArray, List.getElem?_cons_succ, List.getElem?_cons_zero]); try rfl)
 case q20_21 => exact fun _ _ _ h => h
 case w20_21 => rfl
 (try simp only [Act.put, List.setIfInBounds_toArray, List.set_cons_zero, List.set_cons_succ])
 refine wpU_take 21 (oi := ?o21_22) (v := undef) ?p21_22 (by kernel_rfl) (by kernel_rfl) (by kernel_rfl) (by kernel_rfl) ?q21_22 (Or.inr ⟨?w21_22, rfl⟩) (by assumption) ?_
 case p21_22 => ((simp only [List.getElem?_toArray, List.getElem?_cons_succ, List.getElem?_cons_zero]); try rfl)
 case q21_22 => exact fun _ _ _ h => h
 case w21_22 => rfl
 (try simp only [Act.put, List.setIfInBounds_toArray, List.set_cons_zero, List.set_cons_succ])
 refine wpU_take 22 (oi := ?o22_23) (v := undef) ?p22_23 (by kernel_rfl) (by kernel_rfl) (by kernel_rfl) (by kernel_rfl) ?q22_23 (Or.inr ⟨?w22_23, rfl⟩) (by assumption) ?_
 case p22_23 => ((simp only [List.getElem?_toArray, List.getElem?_cons_succ, List.getElem?_cons_zero]); try rfl)
 case q22_23 => exact fun _ _ _ h => h
 case w22_23 => rfl
 (try simp only [Act.put, List.setIfInBounds_toArray, List.set_cons_zero, List.set_cons_succ])
 refine wpU_take 23 (oi := ?o23_24) (v := ?v23_24) ?p23_24 (by kernel_rfl) (by kernel_rfl) (by kernel_rfl) (by kernel_rfl) ?q23_24 (Or.inl ⟨?w23_24, ?y23_24⟩) (by assumption) ?_
 case p23_24 => ((simp only [List.getElem?_toArray, List.getElem?_cons_succ, List.getElem?_cons_zero]); try rfl)
 case q23_24 => exact fun _ _ _ h => h
 case w23_24 => rfl
 case y23_24 => ((intro w hSw); (try dsimp only at hSw); go_simp; try with_reducible rfl)
 (try simp only [Act.put, List.setIfInBounds_toArray, List.set_cons_zero, List.set_cons_succ])
 refine wpU_ready (rs := [24]) (by kernel_rfl) (by simp) ?_
 refine AllU.cons (o := ?o24_25) ?p24_25 (fun KK hKK => ?s24_25) AllU.nil
 case p24_25 => ((simp only [List.getElem?_toArray, List.getElem?_cons_succ, List.getElem?_cons_zero]); try rfl)
 go_simp
 refine (need_false _).mono ?_
 rintro e w' ⟨rfl, rfl⟩
 exact ⟨rfl, rfl, HF0.out⟩
theorem text_not {w : World} {pb k : Nat} {T : List Lx} (h : PAt w pb T k) {x : Lx} {r : List Lx} (hx : T.drop k = x :: r) (k3 : x.kind ≠ 3) : Calls Tryz.prog 87 #[.pointer (some ⟨pb, 0, none⟩)] w (REnd w pb T k (fun t v _ => ∃ x : ByteArray, v = .string x ∧ x.data.toList = t) none) := by
 have h0 := h
 obtain ⟨hlt, hr, hgx⟩ := drop_next hx
 obtain ⟨g, off, cap, y, hb, hgb, hc, hg4, hg5, hg6⟩ := h.next hlt
 have hxk : T[k] = x := by rw [List.getElem?_eq_getElem hlt] at hgx; cases hgx; rfl
 rw [hxk] at hg4 hg6
 have hl := h.good.len
 obtain ⟨N, hN⟩ : ∃ N, T.length = N := ⟨_, rfl⟩
 have hN' := hN
 have hy := hg6
 rw [hN] at hb hl hlt hc
 have g0 : w.cell? ⟨pb, 0, none⟩ = some (.slice (some ⟨g, off, none⟩) N cap) := cell_blk hb
 have g1 : w.cell? ⟨pb, 1, none⟩ = some (.int .i64 k) := cell_blk hb
 have g2 : w.cell? ⟨g, off + k * 4, none⟩ = some (.int .i64 ((x.kind : Nat) : Int)) := hg4
 have g3 : (0 : Int) ≤ (k : Int) := by omega
 have g4 : (k : Int) < (N : Int) := by omega
 have g6 : decide (k < N) = true := by simp; omega
 clear h hN hx hgx hxk hg4 hg6
 have HF0 : Hid (FP (fun i => i = pb) w w.drew) := Lib.hid (FP.ofSame (same_drewN w 1))
 have g5 : (((x.kind : Nat) : Int) == 3) = false := by simp; omega
 go_enter Tryz.func87, Tryz.ntmps87
 go_wp2_with fail
 refine wp_region_U (fun w' => w'.cell? ⟨pb, 0, none⟩ = some (.slice (some ⟨g, off, none⟩) N cap) ∧ w'.cell? ⟨pb, 1, none⟩ = some (.int .i64 k) ∧ w'.cell? ⟨g, off + k * 4, none⟩ = some (.int .i64 (x.kind : Int))) [] (by kernel_rfl) (by go_keep) (fun hHeld => ?_)
 refine wpU_take 0 (oi := ?o0_26) (v := ?v0_26) ?p0_26 (by kernel_rfl) (by kernel_rfl) (by kernel_rfl) (by kernel_rfl) ?q0_26 (Or.inl ⟨?w0_26, ?y0_26⟩) (by assumption) ?_
 case p0_26 => ((simp only [List.getElem?_toArray, List.getElem?_cons_zero]); try rfl)
 case q0_26 => exact fun _ _ _ h => h
 case w0_26 => rfl
 case y0_26 => ((intro w hSw); (try dsimp only at hSw); go_simp; try with_reducible rfl)
 (try simp only [Act.put, List.setIfInBounds_toArray, List.set_cons_zero, List.set_cons_succ])
 refine wpU_take 1 (oi := ?o1_27) (v := ?v1_27) ?p1_27 (by kernel_rfl) (by kernel_rfl) (by kernel_rfl) (by kernel_rfl) ?q1_27 (Or.inl ⟨?w1_27, ?y1_27⟩) (by assumption) ?_
 case p1_27 => ((simp only [List.getElem?_toArray, List.getElem?_cons_succ, List.getElem?_cons_zero]); try rfl)
 case q1_27 => exact fun _ _ _ h => h
 case w1_27 => rfl
 case y1_27 => ((intro w hSw); (try dsimp only at hSw); go_simp; try with_reducible rfl)
 (try simp only [Act.put, List.setIfInBounds_toArray, List.set_cons_zero, List.set_cons_succ])
 refine wpU_take 2 (oi := ?o2_28) (v := ?v2_28) ?p2_28 (by kernel_rfl) (by kernel_rfl) (by kernel_rfl) (by kernel_rfl) ?q2_28 (Or.inl ⟨?w2_28, ?y2_28⟩) (by assumption) ?_
 case p2_28 => ((simp only [List.getElem?_toArray, List.getElem?_cons_succ, List.getElem?_cons_zero]); try rfl)
 case q2_28 => exact fun _ _ _ h => h
 case w2_28 => rfl
 case y2_28 => ((intro w hSw); (try dsimp only at hSw); go_simp; try with_reducible rfl)
 (try simp only [Act.put, List.setIfInBounds_toArray, List.set_cons_zero, List.set_cons_succ])
 refine wpU_take 3 (oi := ?o3_29) (v := ?v3_29) ?p3_29 (by kernel_rfl) (by kernel_rfl) (by kernel_rfl) (by kernel_rfl) ?q3_29 (Or.inl ⟨?w3_29, ?y3_29⟩) (by assumption) ?_
 case p3_29 => ((simp only [List.getElem?_toArray, List.getElem?_cons_succ, List.getElem?_cons_zero]); try rfl)
 case q3_29 => exact fun _ _ _ h => h
 case w3_29 => rfl
 case y3_29 => ((intro w hSw); (try dsimp only at hSw); go_simp; try with_reducible rfl)
 (try simp only [Act.put, List.setIfInBounds_toArray, List.set_cons_zero, List.set_cons_succ])
 refine wpU_take 4 (oi := ?o4_30) (v := ?v4_30) ?p4_30 (by kernel_rfl) (by kernel_rfl) (by kernel_rfl) (by kernel_rfl) ?q4_30 (Or.inl ⟨?w4_30, ?y4_30⟩) (by assumption) ?_
 case p4_30 => ((simp only [List.getElem?_toArray, List.getElem?_cons_succ, List.getElem?_cons_zero]); try rfl)
 case q4_30 => exact fun _ _ _ h => h
 case w4_30 => rfl
 case y4_30 => ((intro w hSw); (try dsimp only at hSw); go_simp; try with_reducible rfl)
 (try simp only [Act.put, List.setIfInBounds_toArray, List.set_cons_zero, List.set_cons_succ])
 refine wpU_take 5 (oi := ?o5_31) (v := ?v5_31) ?p5_31 (by kernel_rfl) (by kernel_rfl) (by kernel_rfl) (by kernel_rfl) ?q5_31 (Or.inl ⟨?w5_31, ?y5_31⟩) (by assumption) ?_
 case p5_31 => ((simp only [List.getElem?_toArray, List.getElem?_cons_succ, List.getElem?_cons_zero]); try rfl)
 case q5_31 => exact fun _ _ _ h => h
 case w5_31 => rfl
 case y5_31 => ((intro w hSw); (try dsimp only at hSw); go_simp; try with_reducible rfl)
 (try simp only [Act.put, List.setIfInBounds_toArray, List.set_cons_zero, List.set_cons_succ])
 refine wpU_take 6 (oi := ?o6_32) (v := ?v6_32) ?p6_32 (by kernel_rfl) (by kernel_rfl) (by kernel_rfl) (by kernel_rfl) ?q6_32 (Or.inl ⟨?w6_32, ?y6_32⟩) (by assumption) ?_
 case p6_32 => ((simp only [List.getElem?_toArray, List.getElem?_cons_succ, List.getElem?_cons_zero]); try rfl)
 case q6_32 => exact fun _ _ _ h => h
 case w6_32 => rfl
 case y6_32 => ((intro w hSw); (try dsimp only at hSw); go_simp; try with_reducible rfl)
 (try simp only [Act.put, List.setIfInBounds_toArray, List.set_cons_zero, List.set_cons_succ])
 refine wpU_take 7 (oi := ?o7_33) (v := ?v7_33) ?p7_33 (by kernel_rfl) (by kernel_rfl) (by kernel_rfl) (by kernel_rfl) ?q7_33 (Or.inl ⟨?w7_33, ?y7_33⟩) (by assumption) ?_
 case p7_33 => ((simp only [List.getElem?_toArray, List.getElem?_cons_succ, List.getElem?_cons_zero]); try rfl)
 case q7_33 => exact fun _ _ _ h => h
 case w7_33 => rfl
 case y7_33 => ((intro w hSw); (try dsimp only at hSw); go_simp; try with_reducible rfl)
 (try simp only [Act.put, List.setIfInBounds_toArray, List.set_cons_zero, List.set_cons_succ])
 refine wpU_take 8 (oi := ?o8_34) (v := ?v8_34) ?p8_34 (by kernel_rfl) (by kernel_rfl) (by kernel_rfl) (by kernel_rfl) ?q8_34 (Or.inl ⟨?w8_34, ?y8_34⟩) (by assumption) ?_
 case p8_34 => ((simp only [List.getElem?_toArray, List.getElem?_cons_succ, List.getElem?_cons_zero]); try rfl)
 case q8_34 => exact fun _ _ _ h => h
 case w8_34 => rfl
 case y8_34 => ((intro w hSw); (try dsimp only at hSw); go_simp; try with_reducible rfl)
 (try simp only [Act.put, List.setIfInBounds_toArray, List.set_cons_zero, List.set_cons_succ])
 refine wpU_take 9 (oi := ?o9_35) (v := ?v9_35) ?p9_35 (by kernel_rfl) (by kernel_rfl) (by kernel_rfl) (by kernel_rfl) ?q9_35 (Or.inl ⟨?w9_35, ?y9_35⟩) (by assumption) ?_
 case p9_35 => ((simp only [List.getElem?_toArray, List.getElem?_cons_succ, List.getElem?_cons_zero]); try rfl)
 case q9_35 => exact fun _ _ _ h => h
 case w9_35 => rfl
 case y9_35 => ((intro w hSw); (try dsimp only at hSw); go_simp; try with_reducible rfl)
 (try simp only [Act.put, List.setIfInBounds_toArray, List.set_cons_zero, List.set_cons_succ])
 (try simp only [g6])
 refine wpU_take 10 (oi := ?o10_36) (v := ?v10_36) ?p10_36 (by kernel_rfl) (by kernel_rfl) (by kernel_rfl) (by kernel_rfl) ?q10_36 (Or.inl ⟨?w10_36, ?y10_36⟩) (by assumption) ?_
 case p10_36 => ((simp only [List.getElem?_toArray, List.getElem?_cons_succ, List.getElem?_cons_zero]); try rfl)
 case q10_36 => exact fun _ _ _ h => h
 case w10_36 => rfl
 case y10_36 => ((intro w hSw); (try dsimp only at hSw); go_simp; try with_reducible rfl)
 (try simp only [Act.put, List.setIfInBounds_toArray, List.set_cons_zero, List.set_cons_succ])
 refine wpU_take 11 (oi := ?o11_37) (v := ?v11_37) ?p11_37 (by kernel_rfl) (by kernel_rfl) (by kernel_rfl) (by kernel_rfl) ?q11_37 (Or.inl ⟨?w11_37, ?y11_37⟩) (by assumption) ?_
 case p11_37 => ((simp only [List.getElem?_toArray, List.getElem?_cons_succ, List.getElem?_cons_zero]); try rfl)
 case q11_37 => exact fun _ _ _ h => h
 case w11_37 => rfl
 case y11_37 => ((intro w hSw); (try dsimp only at hSw); go_simp; try with_reducible rfl)
 (try simp only [Act.put, List.setIfInBounds_toArray, List.set_cons_zero, List.set_cons_succ])
 refine wpU_take 12 (oi := ?o12_38) (v := ?v12_38) ?p12_38 (by kernel_rfl) (by kernel_rfl) (by kernel_rfl) (by kernel_rfl) ?q12_38 (Or.inl ⟨?w12_38, ?y12_38⟩) (by assumption) ?_
 case p12_38 => ((simp only [List.getElem?_toArray, List.getElem?_cons_succ, List.getElem?_cons_zero]); try rfl)
 case q12_38 => exact fun _ _ _ h => h
 case w12_38 => rfl
 case y12_38 => ((intro w hSw); (try dsimp only at hSw); go_simp; try with_reducible rfl)
 (try simp only [Act.put, List.setIfInBounds_toArray, List.set_cons_zero, List.set_cons_succ])
 refine wpU_take 13 (oi := ?o13_39) (v := ?v13_39) ?p13_39 (by kernel_rfl) (by kernel_rfl) (by kernel_rfl) (by kernel_rfl) ?q13_39 (Or.inl ⟨?w13_39, ?y13_39⟩) (by assumption) ?_
 case p13_39 => ((simp only [List.getElem?_toArray, List.getElem?_cons_succ, List.getElem?_cons_zero]); try rfl)
 case q13_39 => exact fun _ _ _ h => h
 case w13_39 => rfl
 case y13_39 => ((intro w hSw); (try dsimp only at hSw); go_simp; try with_reducible rfl)
 (try simp only [Act.put, List.setIfInBounds_toArray, List.set_cons_zero, List.set_cons_succ])
 refine wpU_take 14 (oi := ?o14_40) (v := ?v14_40) ?p14_40 (by kernel_rfl) (by kernel_rfl) (by kernel_rfl) (by kernel_rfl) ?q14_40 (Or.inl ⟨?w14_40, ?y14_40⟩) (by assumption) ?_
 case p14_40 => ((simp only [List.getElem?_toArray, List.getElem?_cons_succ, List.getElem?_cons_zero]); try rfl)
 case q14_40 => exact fun _ _ _ h => h
 case w14_40 => rfl
 case y14_40 => ((intro w hSw); (try dsimp only at hSw); go_simp; try with_reducible rfl)
 (try simp only [Act.put, List.setIfInBounds_toArray, List.set_cons_zero, List.set_cons_succ])
 refine wpU_take 15 (oi := ?o15_41) (v := ?v15_41) ?p15_41 (by kernel_rfl) (by kernel_rfl) (by kernel_rfl) (by kernel_rfl) ?q15_41 (Or.inl ⟨?w15_41, ?y15_41⟩) (by assumption) ?_
 case p15_41 => ((simp only [List.getElem?_toArray, List.getElem?_cons_succ, List.getElem?_cons_zero]); try rfl)
 case q15_41 => exact fun _ _ _ h => h
 case w15_41 => rfl
 case y15_41 => ((intro w hSw); (try dsimp only at hSw); go_simp; try with_reducible rfl)
 (try simp only [Act.put, List.setIfInBounds_toArray, List.set_cons_zero, List.set_cons_succ])
 refine wpU_take 16 (oi := ?o16_42) (v := ?v16_42) ?p16_42 (by kernel_rfl) (by kernel_rfl) (by kernel_rfl) (by kernel_rfl) ?q16_42 (Or.inl ⟨?w16_42, ?y16_42⟩) (by assumption) ?_
 case p16_42 => ((simp only [List.getElem?_toArray, List.getElem?_cons_succ, List.getElem?_cons_zero]); try rfl)
 case q16_42 => exact fun _ _ _ h => h
 case w16_42 => rfl
 case y16_42 => ((intro w hSw); (try dsimp only at hSw); go_simp; try with_reducible rfl)
 (try simp only [Act.put, List.setIfInBounds_toArray, List.set_cons_zero, List.set_cons_succ])
 refine wpU_take 17 (oi := ?o17_43) (v := ?v17_43) ?p17_43 (by kernel_rfl) (by kernel_rfl) (by kernel_rfl) (by kernel_rfl) ?q17_43 (Or.inl ⟨?w17_43, ?y17_43⟩) (by assumption) ?_
 case p17_43 => ((simp only [List.getElem?_toArray, List.getElem?_cons_succ, List.getElem?_cons_zero]); try rfl)
 case q17_43 => exact fun _ _ _ h => h
 case w17_43 => rfl
 case y17_43 => ((intro w hSw); (try dsimp only at hSw); go_simp; try with_reducible rfl)
 (try simp only [Act.put, List.setIfInBounds_toArray, List.set_cons_zero, List.set_cons_succ])
 refine wpU_take 18 (oi := ?o18_44) (v := ?v18_44) ?p18_44 (by kernel_rfl) (by kernel_rfl) (by kernel_rfl) (by kernel_rfl) ?q18_44 (Or.inl ⟨?w18_44, ?y18_44⟩) (by assumption) ?_
 case p18_44 => ((simp only [List.getElem?_toArray, List.getElem?_cons_succ, List.getElem?_cons_zero]); try rfl)
 case q18_44 => exact fun _ _ _ h => h
 case w18_44 => rfl
 case y18_44 => ((intro w hSw); (try dsimp only at hSw); go_simp; try with_reducible rfl)
 (try simp only [Act.put, List.setIfInBounds_toArray, List.set_cons_zero, List.set_cons_succ])
 refine wpU_take 19 (oi := ?o19_45) (v := ?v19_45) ?p19_45 (by kernel_rfl) (by kernel_rfl) (by kernel_rfl) (by kernel_rfl) ?q19_45 (Or.inl ⟨?w19_45, ?y19_45⟩) (by assumption) ?_
 case p19_45 => ((simp only [List.getElem?_toArray, List.getElem?_cons_succ, List.getElem?_cons_zero]); try rfl)
 case q19_45 => exact fun _ _ _ h => h
 case w19_45 => rfl
 case y19_45 => ((intro w hSw); (try dsimp only at hSw); go_simp; try with_reducible rfl)
 (try simp only [Act.put, List.setIfInBounds_toArray, List.set_cons_zero, List.set_cons_succ])
 refine wpU_take 20 (oi := ?o20_46) (v := ?v20_46) ?p20_46 (by kernel_rfl) (by kernel_rfl) (by kernel_rfl) (by kernel_rfl) ?q20_46 (Or.inl ⟨?w20_46, ?y20_46⟩) (by assumption) ?_
 case p20_46 => ((simp only [List.getElem?_toArray, List.getElem?_cons_succ, List.getElem?_cons_zero]); try rfl)
 case q20_46 => exact fun _ _ _ h => h
 case w20_46 => rfl
 case y20_46 => ((intro w hSw); (try dsimp only at hSw); go_simp; try with_reducible rfl)
 (try simp only [Act.put, List.setIfInBounds_toArray, List.set_cons_zero, List.set_cons_succ])
 refine wpU_take 21 (oi := ?o21_47) (v := ?v21_47) ?p21_47 (by kernel_rfl) (by kernel_rfl) (by kernel_rfl) (by kernel_rfl) ?q21_47 (Or.inl ⟨?w21_47, ?y21_47⟩) (by assumption) ?_
 case p21_47 => ((simp only [List.getElem?_toArray, List.getElem?_cons_succ, List.getElem?_cons_zero]); try rfl)
 case q21_47 => exact fun _ _ _ h => h
 case w21_47 => rfl
 case y21_47 => ((intro w hSw); (try dsimp only at hSw); go_simp; try with_reducible rfl)
 (try simp only [Act.put, List.setIfInBounds_toArray, List.set_cons_zero, List.set_cons_succ])
 refine wpU_take 22 (oi := ?o22_48) (v := ?v22_48) ?p22_48 (by kernel_rfl) (by kernel_rfl) (by kernel_rfl) (by kernel_rfl) ?q22_48 (Or.inl ⟨?w22_48, ?y22_48⟩) (by assumption) ?_
 case p22_48 => ((simp only [List.getElem?_toArray, List.getElem?_cons_succ, List.getElem?_cons_zero]); try rfl)
 case q22_48 => exact fun _ _ _ h => h
 case w22_48 => rfl
 case y22_48 => ((intro w hSw); (try dsimp only at hSw); go_simp; try with_reducible rfl)
 (try simp only [Act.put, List.setIfInBounds_toArray, List.set_cons_zero, List.set_cons_succ])
 refine wpU_take 23 (oi := ?o23_49) (v := ?v23_49) ?p23_49 (by kernel_rfl) (by kernel_rfl) (by kernel_rfl) (by kernel_rfl) ?q23_49 (Or.inl ⟨?w23_49, ?y23_49⟩) (by assumption) ?_
 case p23_49 => ((simp only [List.getElem?_toArray, List.getElem?_cons_succ, List.getElem?_cons_zero]); try rfl)
 case q23_49 => exact fun _ _ _ h => h
 case w23_49 => rfl
 case y23_49 => ((intro w hSw); (try dsimp only at hSw); go_simp; try with_reducible rfl)
 (try simp only [Act.put, List.setIfInBounds_toArray, List.set_cons_zero, List.set_cons_succ])
 refine wpU_ready (rs := [24]) (by kernel_rfl) (by simp) ?_
 refine AllU.cons (o := ?o24_50) ?p24_50 (fun KK hKK => ?s24_50) AllU.nil
 case p24_50 => ((simp only [List.getElem?_toArray, List.getElem?_cons_succ, List.getElem?_cons_zero]); try rfl)
 go_simp
 refine (need_false _).mono ?_
 rintro e w' ⟨rfl, rfl⟩
 exact ⟨rfl, rfl, HF0.out⟩
end Go.Proofs.YtnpkdiffpgcbhaaGreatDoor
