/- The parser, walked (ParN). Conditions: each theorem's own. -/
import Derived.Test.YtnpkdiffpgcbhaaGreatDoorS29
set_option maxRecDepth 100000
set_option maxHeartbeats 1600000
namespace Go.Proofs.YtnpkdiffpgcbhaaGreatDoor
open Go.RowKit
attribute [local go_sem] Oper.semAt_some
theorem text_is {w : World} {pb k : Nat} {T : List Lx} (h : PAt w pb T k) {x : Lx} {r : List Lx} (hx : T.drop k = x :: r) (k3 : x.kind = 3) : Calls Tryz.prog 87 #[.pointer (some ⟨pb, 0, none⟩)] w (REnd w pb T k (fun t v _ => ∃ x : ByteArray, v = .string x ∧ x.data.toList = t) (some (x.text, r))) := by
 have h0 := h
 obtain ⟨hlt, hr, hgx⟩ := drop_next hx
 obtain ⟨g, off, cap, y, hb, hgb, hc, hg4, hg5, hg6⟩ := h.next hlt
 have hxk : T[k] = x := by rw [List.getElem?_eq_getElem hlt] at hgx; cases hgx; rfl
 rw [hxk] at hg4 hg6
 have hl := h.good.len
 obtain ⟨N, hN⟩ : ∃ N, T.length = N := ⟨_, rfl⟩
 have hN' := hN
 have hy := hg6
 rw [hN] at hb hl hlt hc
 have g0 : w.cell? ⟨pb, 0, none⟩ = some (.slice (some ⟨g, off, none⟩) N cap) := cell_blk hb
 have g1 : w.cell? ⟨pb, 1, none⟩ = some (.int .i64 k) := cell_blk hb
 have g2 : w.cell? ⟨g, off + k * 4, none⟩ = some (.int .i64 ((x.kind : Nat) : Int)) := hg4
 have g3 : (0 : Int) ≤ (k : Int) := by omega
 have g4 : (k : Int) < (N : Int) := by omega
 have g6 : decide (k < N) = true := by simp; omega
 clear h hN hx hgx hxk hg4 hg6
 have HP := Lib.hid h0
 have HF0 : Hid (FP (fun i => i = pb) w w.drew) := Lib.hid (FP.ofSame (same_drewN w 1))
 have HX : Hid (y.data.toList = x.text ∧ r = T.drop (k + 1) ∧ T.length = N) := Lib.hid ⟨hy, hr, hN'⟩
 have HG := Lib.hid hg5
 have HB := Lib.hid hb
 have hkw : IntKind.i64.wrap ((k : Int) + 1) = (k : Int) + 1 := IntWalk.i64_in _ (by omega)
 have e1 : IntKind.i64.wrap ((k : Int) + 1 - 1) = (k : Int) := by
  rw [show (k : Int) + 1 - 1 = (k : Int) by omega]; exact IntWalk.i64_in _ (by omega)
 have e4 : IntKind.i64.wrap (k : Int) = (k : Int) := IntWalk.i64_in _ (by omega)
 clear hy hr hN' hg5 hb
 rw [k3] at g2
 go_enter Tryz.func87, Tryz.ntmps87
 go_wp2_with fail
 refine wp_region_U (fun w' => w'.cell? ⟨pb, 0, none⟩ = some (.slice (some ⟨g, off, none⟩) N cap) ∧ w'.cell? ⟨pb, 1, none⟩ = some (.int .i64 k) ∧ w'.cell? ⟨g, off + k * 4, none⟩ = some (.int .i64 ((3 : Nat) : Int))) [] (by kernel_rfl) (by go_keep) (fun hHeld => ?_)
 refine wpU_take 0 (oi := ?o0_51) (v := ?v0_51) ?p0_51 (by kernel_rfl) (by kernel_rfl) (by kernel_rfl) (by kernel_rfl) ?q0_51 (Or.inl ⟨?w0_51, ?y0_51⟩) (by assumption) ?_
 case p0_51 => ((simp only [List.getElem?_toArray, List.getElem?_cons_zero]); try rfl)
 case q0_51 => exact fun _ _ _ h => h
 case w0_51 => rfl
 case y0_51 => ((intro w hSw); (try dsimp only at hSw); go_simp; try with_reducible rfl)
 (try simp only [Act.put, List.setIfInBounds_toArray, List.set_cons_zero, List.set_cons_succ])
 refine wpU_take 1 (oi := ?o1_52) (v := ?v1_52) ?p1_52 (by kernel_rfl) (by kernel_rfl) (by kernel_rfl) (by kernel_rfl) ?q1_52 (Or.inl ⟨?w1_52, ?y1_52⟩) (by assumption) ?_
 case p1_52 => ((simp only [List.getElem?_toArray, List.getElem?_cons_succ, List.getElem?_cons_zero]); try rfl)
 case q1_52 => exact fun _ _ _ h => h
 case w1_52 => rfl
 case y1_52 => ((intro w hSw); (try dsimp only at hSw); go_simp; try with_reducible rfl)
 (try simp only [Act.put, List.setIfInBounds_toArray, List.set_cons_zero, List.set_cons_succ])
 refine wpU_take 2 (oi := ?o2_53) (v := ?v2_53) ?p2_53 (by kernel_rfl) (by kernel_rfl) (by kernel_rfl) (by kernel_rfl) ?q2_53 (Or.inl ⟨?w2_53, ?y2_53⟩) (by assumption) ?_
 case p2_53 => ((simp only [List.getElem?_toArray, List.getElem?_cons_succ, List.getElem?_cons_zero]); try rfl)
 case q2_53 => exact fun _ _ _ h => h
 case w2_53 => rfl
 case y2_53 => ((intro w hSw); (try dsimp only at hSw); go_simp; try with_reducible rfl)
 (try simp only [Act.put, List.setIfInBounds_toArray, List.set_cons_zero, List.set_cons_succ])
 refine wpU_take 3 (oi := ?o3_54) (v := ?v3_54) ?p3_54 (by kernel_rfl) (by kernel_rfl) (by kernel_rfl) (by kernel_rfl) ?q3_54 (Or.inl ⟨?w3_54, ?y3_54⟩) (by assumption) ?_
 case p3_54 => ((simp only [List.getElem?_toArray, List.getElem?_cons_succ, List.getElem?_cons_zero]); try rfl)
 case q3_54 => exact fun _ _ _ h => h
 case w3_54 => rfl
 case y3_54 => ((intro w hSw); (try dsimp only at hSw); go_simp; try with_reducible rfl)
 (try simp only [Act.put, List.setIfInBounds_toArray, List.set_cons_zero, List.set_cons_succ])
 refine wpU_take 4 (oi := ?o4_55) (v := ?v4_55) ?p4_55 (by kernel_rfl) (by kernel_rfl) (by kernel_rfl) (by kernel_rfl) ?q4_55 (Or.inl ⟨?w4_55, ?y4_55⟩) (by assumption) ?_
 case p4_55 => ((simp only [List.getElem?_toArray, List.getElem?_cons_succ, List.getElem?_cons_zero]); try rfl)
 case q4_55 => exact fun _ _ _ h => h
 case w4_55 => rfl
 case y4_55 => ((intro w hSw); (try dsimp only at hSw); go_simp; try with_reducible rfl)
 (try simp only [Act.put, List.setIfInBounds_toArray, List.set_cons_zero, List.set_cons_succ])
 refine wpU_take 5 (oi := ?o5_56) (v := ?v5_56) ?p5_56 (by kernel_rfl) (by kernel_rfl) (by kernel_rfl) (by kernel_rfl) ?q5_56 (Or.inl ⟨?w5_56, ?y5_56⟩) (by assumption) ?_
 case p5_56 => ((simp only [List.getElem?_toArray, List.getElem?_cons_succ, List.getElem?_cons_zero]); try rfl)
 case q5_56 => exact fun _ _ _ h => h
 case w5_56 => rfl
 case y5_56 => ((intro w hSw); (try dsimp only at hSw); go_simp; try with_reducible rfl)
 (try simp only [Act.put, List.setIfInBounds_toArray, List.set_cons_zero, List.set_cons_succ])
 refine wpU_take 6 (oi := ?o6_57) (v := ?v6_57) ?p6_57 (by kernel_rfl) (by kernel_rfl) (by kernel_rfl) (by kernel_rfl) ?q6_57 (Or.inl ⟨?w6_57, ?y6_57⟩) (by assumption) ?_
 case p6_57 => ((simp only [List.getElem?_toArray, List.getElem?_cons_succ, List.getElem?_cons_zero]); try rfl)
 case q6_57 => exact fun _ _ _ h => h
 case w6_57 => rfl
 case y6_57 => ((intro w hSw); (try dsimp only at hSw); go_simp; try with_reducible rfl)
 (try simp only [Act.put, List.setIfInBounds_toArray, List.set_cons_zero, List.set_cons_succ])
 refine wpU_take 7 (oi := ?o7_58) (v := ?v7_58) ?p7_58 (by kernel_rfl) (by kernel_rfl) (by kernel_rfl) (by kernel_rfl) ?q7_58 (Or.inl ⟨?w7_58, ?y7_58⟩) (by assumption) ?_
 case p7_58 => ((simp only [List.getElem?_toArray, List.getElem?_cons_succ, List.getElem?_cons_zero]); try rfl)
 case q7_58 => exact fun _ _ _ h => h
 case w7_58 => rfl
 case y7_58 => ((intro w hSw); (try dsimp only at hSw); go_simp; try with_reducible rfl)
 (try simp only [Act.put, List.setIfInBounds_toArray, List.set_cons_zero, List.set_cons_succ])
 refine wpU_take 8 (oi := ?o8_59) (v := ?v8_59) ?p8_59 (by kernel_rfl) (by kernel_rfl) (by kernel_rfl) (by kernel_rfl) ?q8_59 (Or.inl ⟨?w8_59, ?y8_59⟩) (by assumption) ?_
 case p8_59 => ((simp only [List.getElem?_toArray, List.getElem?_cons_succ, List.getElem?_cons_zero]); try rfl)
 case q8_59 => exact fun _ _ _ h => h
 case w8_59 => rfl
 case y8_59 => ((intro w hSw); (try dsimp only at hSw); go_simp; try with_reducible rfl)
 (try simp only [Act.put, List.setIfInBounds_toArray, List.set_cons_zero, List.set_cons_succ])
 refine wpU_take 9 (oi := ?o9_60) (v := ?v9_60) ?p9_60 (by kernel_rfl) (by kernel_rfl) (by kernel_rfl) (by kernel_rfl) ?q9_60 (Or.inl ⟨?w9_60, ?y9_60⟩) (by assumption) ?_
 case p9_60 => ((simp only [List.getElem?_toArray, List.getElem?_cons_succ, List.getElem?_cons_zero]); try rfl)
 case q9_60 => exact fun _ _ _ h => h
 case w9_60 => rfl
 case y9_60 => ((intro w hSw); (try dsimp only at hSw); go_simp; try with_reducible rfl)
 (try simp only [Act.put, List.setIfInBounds_toArray, List.set_cons_zero, List.set_cons_succ])
 (try simp only [g6])
 refine wpU_take 10 (oi := ?o10_61) (v := ?v10_61) ?p10_61 (by kernel_rfl) (by kernel_rfl) (by kernel_rfl) (by kernel_rfl) ?q10_61 (Or.inl ⟨?w10_61, ?y10_61⟩) (by assumption) ?_
 case p10_61 => ((simp only [List.getElem?_toArray, List.getElem?_cons_succ, List.getElem?_cons_zero]); try rfl)
 case q10_61 => exact fun _ _ _ h => h
 case w10_61 => rfl
 case y10_61 => ((intro w hSw); (try dsimp only at hSw); go_simp; try with_reducible rfl)
 (try simp only [Act.put, List.setIfInBounds_toArray, List.set_cons_zero, List.set_cons_succ])
 refine wpU_take 11 (oi := ?o11_62) (v := ?v11_62) ?p11_62 (by kernel_rfl) (by kernel_rfl) (by kernel_rfl) (by kernel_rfl) ?q11_62 (Or.inl ⟨?w11_62, ?y11_62⟩) (by assumption) ?_
 case p11_62 => ((simp only [List.getElem?_toArray, List.getElem?_cons_succ, List.getElem?_cons_zero]); try rfl)
 case q11_62 => exact fun _ _ _ h => h
 case w11_62 => rfl
 case y11_62 => ((intro w hSw); (try dsimp only at hSw); go_simp; try with_reducible rfl)
 (try simp only [Act.put, List.setIfInBounds_toArray, List.set_cons_zero, List.set_cons_succ])
 refine wpU_take 12 (oi := ?o12_63) (v := ?v12_63) ?p12_63 (by kernel_rfl) (by kernel_rfl) (by kernel_rfl) (by kernel_rfl) ?q12_63 (Or.inl ⟨?w12_63, ?y12_63⟩) (by assumption) ?_
 case p12_63 => ((simp only [List.getElem?_toArray, List.getElem?_cons_succ, List.getElem?_cons_zero]); try rfl)
 case q12_63 => exact fun _ _ _ h => h
 case w12_63 => rfl
 case y12_63 => ((intro w hSw); (try dsimp only at hSw); go_simp; try with_reducible rfl)
 (try simp only [Act.put, List.setIfInBounds_toArray, List.set_cons_zero, List.set_cons_succ])
 refine wpU_take 13 (oi := ?o13_64) (v := ?v13_64) ?p13_64 (by kernel_rfl) (by kernel_rfl) (by kernel_rfl) (by kernel_rfl) ?q13_64 (Or.inl ⟨?w13_64, ?y13_64⟩) (by assumption) ?_
 case p13_64 => ((simp only [List.getElem?_toArray, List.getElem?_cons_succ, List.getElem?_cons_zero]); try rfl)
 case q13_64 => exact fun _ _ _ h => h
 case w13_64 => rfl
 case y13_64 => ((intro w hSw); (try dsimp only at hSw); go_simp; try with_reducible rfl)
 (try simp only [Act.put, List.setIfInBounds_toArray, List.set_cons_zero, List.set_cons_succ])
 refine wpU_take 14 (oi := ?o14_65) (v := ?v14_65) ?p14_65 (by kernel_rfl) (by kernel_rfl) (by kernel_rfl) (by kernel_rfl) ?q14_65 (Or.inl ⟨?w14_65, ?y14_65⟩) (by assumption) ?_
 case p14_65 => ((simp only [List.getElem?_toArray, List.getElem?_cons_succ, List.getElem?_cons_zero]); try rfl)
 case q14_65 => exact fun _ _ _ h => h
 case w14_65 => rfl
 case y14_65 => ((intro w hSw); (try dsimp only at hSw); go_simp; try with_reducible rfl)
 (try simp only [Act.put, List.setIfInBounds_toArray, List.set_cons_zero, List.set_cons_succ])
 refine wpU_take 15 (oi := ?o15_66) (v := ?v15_66) ?p15_66 (by kernel_rfl) (by kernel_rfl) (by kernel_rfl) (by kernel_rfl) ?q15_66 (Or.inl ⟨?w15_66, ?y15_66⟩) (by assumption) ?_
 case p15_66 => ((simp only [List.getElem?_toArray, List.getElem?_cons_succ, List.getElem?_cons_zero]); try rfl)
 case q15_66 => exact fun _ _ _ h => h
 case w15_66 => rfl
 case y15_66 => ((intro w hSw); (try dsimp only at hSw); go_simp; try with_reducible rfl)
 (try simp only [Act.put, List.setIfInBounds_toArray, List.set_cons_zero, List.set_cons_succ])
 refine wpU_take 16 (oi := ?o16_67) (v := ?v16_67) ?p16_67 (by kernel_rfl) (by kernel_rfl) (by kernel_rfl) (by kernel_rfl) ?q16_67 (Or.inl ⟨?w16_67, ?y16_67⟩) (by assumption) ?_
 case p16_67 => ((simp only [List.getElem?_toArray, List.getElem?_cons_succ, List.getElem?_cons_zero]); try rfl)
 case q16_67 => exact fun _ _ _ h => h
 case w16_67 => rfl
 case y16_67 => ((intro w hSw); (try dsimp only at hSw); go_simp; try with_reducible rfl)
 (try simp only [Act.put, List.setIfInBounds_toArray, List.set_cons_zero, List.set_cons_succ])
 refine wpU_take 17 (oi := ?o17_68) (v := ?v17_68) ?p17_68 (by kernel_rfl) (by kernel_rfl) (by kernel_rfl) (by kernel_rfl) ?q17_68 (Or.inl ⟨?w17_68, ?y17_68⟩) (by assumption) ?_
 case p17_68 => ((simp only [List.getElem?_toArray, List.getElem?_cons_succ, List.getElem?_cons_zero]); try rfl)
 case q17_68 => exact fun _ _ _ h => h
 case w17_68 => rfl
 case y17_68 => ((intro w hSw); (try dsimp only at hSw); go_simp; try with_reducible rfl)
 (try simp only [Act.put, List.setIfInBounds_toArray, List.set_cons_zero, List.set_cons_succ])
 refine wpU_take 18 (oi := ?o18_69) (v := ?v18_69) ?p18_69 (by kernel_rfl) (by kernel_rfl) (by kernel_rfl) (by kernel_rfl) ?q18_69 (Or.inl ⟨?w18_69, ?y18_69⟩) (by assumption) ?_
 case p18_69 => ((simp only [List.getElem?_toArray, List.getElem?_cons_succ, List.getElem?_cons_zero]); try rfl)
 case q18_69 => exact fun _ _ _ h => h
 case w18_69 => rfl
 case y18_69 => ((intro w hSw); (try dsimp only at hSw); go_simp; try with_reducible rfl)
 (try simp only [Act.put, List.setIfInBounds_toArray, List.set_cons_zero, List.set_cons_succ])
 refine wpU_take 19 (oi := ?o19_70) (v := ?v19_70) ?p19_70 (by kernel_rfl) (by kernel_rfl) (by kernel_rfl) (by kernel_rfl) ?q19_70 (Or.inl ⟨?w19_70, ?y19_70⟩) (by assumption) ?_
 case p19_70 => ((simp only [List.getElem?_toArray, List.getElem?_cons_succ, List.getElem?_cons_zero]); try rfl)
 case q19_70 => exact fun _ _ _ h => h
 case w19_70 => rfl
 case y19_70 => ((intro w hSw); (try dsimp only at hSw); go_simp; try with_reducible rfl)
 (try simp only [Act.put, List.setIfInBounds_toArray, List.set_cons_zero, List.set_cons_succ])
 refine wpU_take 20 (oi := ?o20_71) (v := ?v20_71) ?p20_71 (by kernel_rfl) (by kernel_rfl) (by kernel_rfl) (by kernel_rfl) ?q20_71 (Or.inl ⟨?w20_71, ?y20_71⟩) (by assumption) ?_
 case p20_71 => ((simp only [List.getElem?_toArray, List.getElem?_cons_succ, List.getElem?_cons_zero]); try rfl)
 case q20_71 => exact fun _ _ _ h => h
 case w20_71 => rfl
 case y20_71 => ((intro w hSw); (try dsimp only at hSw); go_simp; try with_reducible rfl)
 (try simp only [Act.put, List.setIfInBounds_toArray, List.set_cons_zero, List.set_cons_succ])
 refine wpU_take 21 (oi := ?o21_72) (v := ?v21_72) ?p21_72 (by kernel_rfl) (by kernel_rfl) (by kernel_rfl) (by kernel_rfl) ?q21_72 (Or.inl ⟨?w21_72, ?y21_72⟩) (by assumption) ?_
 case p21_72 => ((simp only [List.getElem?_toArray, List.getElem?_cons_succ, List.getElem?_cons_zero]); try rfl)
 case q21_72 => exact fun _ _ _ h => h
 case w21_72 => rfl
 case y21_72 => ((intro w hSw); (try dsimp only at hSw); go_simp; try with_reducible rfl)
 (try simp only [Act.put, List.setIfInBounds_toArray, List.set_cons_zero, List.set_cons_succ])
 refine wpU_take 22 (oi := ?o22_73) (v := ?v22_73) ?p22_73 (by kernel_rfl) (by kernel_rfl) (by kernel_rfl) (by kernel_rfl) ?q22_73 (Or.inl ⟨?w22_73, ?y22_73⟩) (by assumption) ?_
 case p22_73 => ((simp only [List.getElem?_toArray, List.getElem?_cons_succ, List.getElem?_cons_zero]); try rfl)
 case q22_73 => exact fun _ _ _ h => h
 case w22_73 => rfl
 case y22_73 => ((intro w hSw); (try dsimp only at hSw); go_simp; try with_reducible rfl)
 (try simp only [Act.put, List.setIfInBounds_toArray, List.set_cons_zero, List.set_cons_succ])
 refine wpU_take 23 (oi := ?o23_74) (v := ?v23_74) ?p23_74 (by kernel_rfl) (by kernel_rfl) (by kernel_rfl) (by kernel_rfl) ?q23_74 (Or.inl ⟨?w23_74, ?y23_74⟩) (by assumption) ?_
 case p23_74 => ((simp only [List.getElem?_toArray, List.getElem?_cons_succ, List.getElem?_cons_zero]); try rfl)
 case q23_74 => exact fun _ _ _ h => h
 case w23_74 => rfl
 case y23_74 => ((intro w hSw); (try dsimp only at hSw); go_simp; try with_reducible rfl)
 (try simp only [Act.put, List.setIfInBounds_toArray, List.set_cons_zero, List.set_cons_succ])
 refine wpU_ready (rs := [24]) (by kernel_rfl) (by simp) ?_
 refine AllU.cons (o := ?o24_75) ?p24_75 (fun KK hKK => ?s24_75) AllU.nil
 case p24_75 => ((simp only [List.getElem?_toArray, List.getElem?_cons_succ, List.getElem?_cons_zero]); try rfl)
 go_simp
 refine (need_true _).mono ?_
 rintro e w' ⟨rfl, rfl⟩
 go_wp2_with fail
 refine hKK.out _ _ (fun _ => hHeld) ?_
 clear hKK KK
 (try simp only [Act.put, List.setIfInBounds_toArray, List.set_cons_zero, List.set_cons_succ])
 refine wpU_done (by kernel_rfl) ?_
 obtain ⟨d0, d1, d2⟩ := hHeld
 have q1 : w.drew.frozen? ⟨pb, 1, none⟩ = false := frz_blk HB.out
 go_wp2_with fail
 obtain ⟨w2, hw2⟩ : ∃ w2, (w.setCell ⟨pb, 1, none⟩ (.int .i64 ((k : Int) + 1))).drew = w2 := ⟨_, rfl⟩
 rw [hw2]
 have hp2 : PAt w2 pb T (k + 1) := by
  rw [← hw2]
  exact (HP.out.same (w' := w.drew) (fun _ _ => rfl)).put (k' := k + 1) (by rw [HX.out.2.2]; omega)
 have hf2 : FP (fun i => i = pb) w w2 := by
  rw [← hw2]
  exact HF0.out.set _ (.inl rfl)
 have b2 : w2.heap[pb]? = some (.cells #[.slice (some ⟨g, off, none⟩) N cap, .int .i64 ((k : Int) + 1)] 135 (0,0)) := by
  rw [← hw2]; exact (heap_set (w := w.drew) HB.out _ _).trans (if_pos rfl)
 have c0 : w2.cell? ⟨pb, 0, none⟩ = some (.slice (some ⟨g, off, none⟩) N cap) := cell_blk b2
 have c1 : w2.cell? ⟨pb, 1, none⟩ = some (.int .i64 ((k : Int) + 1)) := cell_blk b2
 have c2 : w2.cell? ⟨g, off + k * 4 + 1, none⟩ = some (.string y) := by
  refine Eq.trans ?_ HG.out
  rw [← hw2]
  exact World.cell?_of_block (heap_set_ne (w := w.drew) (by simp; omega))
 have HP2 := Lib.hid hp2
 have HF2 := Lib.hid hf2
 clear hw2 b2 hp2 hf2 d0 d1 d2 q1 g0 g1 g2
 go_quiet (fail)
 go_wp2_with fail
 go_ret
 exact ⟨_, k + 1, rfl, ⟨y, rfl, HX.out.1⟩, HX.out.2.1, Nat.lt_succ_self k, by rw [HX.out.2.2]; omega, HP2.out.same (fun _ _ => rfl), HF2.out.same (same_drewN _ _)⟩
end Go.Proofs.YtnpkdiffpgcbhaaGreatDoor
