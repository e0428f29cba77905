/- The parser, walked (ParF). Conditions: each theorem's own. -/
import Derived.Test.YtnpkdiffpgcbhaaGreatDoorS21
import Derived.Test.YtnpkdiffpgcbhaaGreatDoorS22
import Derived.Test.YtnpkdiffpgcbhaaGreatDoorS23
set_option maxRecDepth 100000
set_option maxHeartbeats 3200000
namespace Go.Proofs.YtnpkdiffpgcbhaaGreatDoor
open Go.RowKit
attribute [local go_sem] Oper.semAt_some
def vC (pb h vb : Nat) (d : Int) : RowC GV where
 pb := pb
 hb := vb
 ho := 4
 ht := 52
 hcs := fun v => #[.int .i64 4, .bool false, .int .i64 0, .string ⟨#[]⟩, v]
 e := 52
 sz := 5
 R := RdV
 keep := [(h, .cells #[.pointer (some ⟨pb, 0, none⟩)] 104 (0,0)), (h + 1, .cells #[.int .i64 d] 3 (0,0)), (h + 1 + 1, .cells #[.int .i64 0, .bool false, .int .i64 0, .string ⟨#[]⟩, .slice none 0 0] 52 (0,0))]
theorem vC_ok {pb h vb : Nat} {d : Int} (h1 : pb < h) (h2 : h + 1 + 1 < vb) : RowOk (vC pb h vb d) where
 get := fun v => rfl
 set := fun v u => rfl
 tr := fun _ _ _ _ c a hw hc => RdV.trans' hw a c hc
 pbhb := by show pb < vb; omega
 kp := fun y hy => by
  simp only [vC, List.mem_cons, List.not_mem_nil, or_false] at hy
  rcases hy with rfl | rfl | rfl
  ·exact ⟨by show h < vb; omega, by show h ≠ pb; omega⟩
  ·exact ⟨by show h + 1 < vb; omega, by show h + 1 ≠ pb; omega⟩
  ·exact ⟨by show h + 1 + 1 < vb; omega, by show h + 1 + 1 ≠ pb; omega⟩
def VI (w0 : World) (pb h vb : Nat) (T : List Lx) (d : Int) (acc : List GV) (k : Nat) (W : World) : Prop :=
 ∃ v xs, RowSt (vC pb h vb d) w0 T acc xs k v v acc.length xs none W ∧ acc.length ≤ k
theorem VI.ofSt {w0 : World} {pb h vb : Nat} {T : List Lx} {d : Int} {acc : List GV} {k : Nat} {W : World} {v : Value} {xs ys c : List Value} {a : GV} (hk : acc.length + 1 ≤ k)
  (hs : RowSt (vC pb h vb d) w0 T acc xs k v v (acc.length + 1) ys (some (c, a)) W) (hy : ys = xs ++ c) : VI w0 pb h vb T d (acc ++ [a]) k W := by
 subst hy
 refine ⟨v, xs ++ c, ⟨hs.p, hs.kp, hs.hd, ?_, hs.done rfl, fun x hx => (by cases hx), hs.fp, hs.w0s⟩, by rw [List.length_append]; exact hk⟩
 rw [List.length_append]
 exact hs.row
theorem rdv_slice {w : World} {F : Nat → Prop} {kd : Int} {b : Bool} {i : Int} {t : ByteArray} {sl : Value} {gv : GV} (h : RdV w F [.int .i64 kd, .bool b, .int .i64 i, .string t, sl] gv) : ∃ sa sn sc, sl = .slice sa sn sc := by
 cases h with
 | mk _ _ _ _ _ xs l hs hl =>
  obtain ⟨_, a, c, e, _⟩ := hs
  exact ⟨_, _, _, e⟩
theorem value1_any {w0 : World} {pb h vb : Nat} {T : List Lx} {d : Nat} (hd : d ≤ 30) (hlow : pb < h) (hvb : h + 1 + 1 < vb) (n : Nat)
  (HV : ∀ W k, PAt W pb T k → Calls Tryz.prog 48 #[.pointer (some ⟨pb, 0, none⟩), .int .i64 ((d : Int) + 1)] W (ValEnd W pb T k (pVal n (T.drop k))))
  (acc : List GV) (k : Nat) (W : World) (hi : VI w0 pb h vb T d acc k W) :
  Calls Tryz.prog 77 #[.pointer (some ⟨vb, 0, none⟩), .pointer (some ⟨h, 0, none⟩), .pointer (some ⟨h + 1, 0, none⟩)] W (OneEnd T k (fun a k' W' => VI w0 pb h vb T d (acc ++ [a]) k' W') (FP (fun i => i = pb) w0) (pVal n (T.drop k))) := by
 obtain ⟨v, xs, hst, hcnt⟩ := hi
 have ok := vC_ok (d := (d : Int)) hlow hvb
 obtain ⟨ao, cap, rfl⟩ := own_shape1 hst.row
 obtain ⟨m, hm⟩ : ∃ m, acc.length = m := ⟨_, rfl⟩
 rw [hm] at hst
 have x0 : W.cell? ⟨h, 0, none⟩ = some (.pointer (some ⟨pb, 0, none⟩)) := cell_blk (hst.kp _ (List.mem_cons_self ..))
 have d0 : W.cell? ⟨h + 1, 0, none⟩ = some (.int .i64 d) := cell_blk (hst.kp _ (List.mem_cons_of_mem _ (List.mem_cons_self ..)))
 have v4 : W.cell? ⟨vb, 4, none⟩ = some (.slice ao m cap) := (hst.hcell ok).1
 have hw : IntKind.i64.wrap ((d : Int) + 1) = (d : Int) + 1 := IntWalk.i64_in _ (by omega)
 obtain ⟨ro, hro⟩ : ∃ ro, pVal n (T.drop k) = ro := ⟨_, rfl⟩
 have HV' : Hid (∀ W, PAt W pb T k → Calls Tryz.prog 48 #[.pointer (some ⟨pb, 0, none⟩), .int .i64 ((d : Int) + 1)] W (ValEnd W pb T k ro)) := Lib.hid (fun W hp => by have := HV W k hp; rw [hro] at this; exact this)
 rw [hro]
 have HST := Lib.hid hst
 have OK := Lib.hid ok
 have HK : Hid (m ≤ k) := Lib.hid (by rw [← hm]; exact hcnt)
 have HM := Lib.hid hm
 obtain ⟨i0, hi0, hz0, hz1, hz2⟩ := info_parts infoV
 clear HV hst ok hro hd hm hcnt hlow hvb
 have HONE : Hid (∀ u ∈ ([.int .i64 0, .bool false, .int .i64 0, .string ⟨#[]⟩, .slice none 0 0] : List Value), u.oneCell' = true) := Lib.hid (by
  intro u hu
  simp at hu
  rcases hu with rfl | rfl | rfl | rfl | rfl <;> rfl)
 have HPW : Hid (pb < W.heap.size) := Lib.hid HST.out.p.lt
 have hix : (m : Int) < (m : Int) + 1 := by omega
 have hix0 : (0 : Int) ≤ (m : Int) := by omega
 have HXL : Hid (xs.length = m * 5) := Lib.hid HST.out.row.1
 have hm4 : m ≤ 4096 := by have := HK.out; have := HST.out.p.le; have := HST.out.p.good.len; omega
 cases ro with
 | none =>
  go_enter Tryz.func77, Tryz.ntmps77
  refine wp_region_U (fun w' => w'.cell? ⟨h, 0, none⟩ = some (.pointer (some ⟨pb, 0, none⟩)) ∧ w'.cell? ⟨h + 1, 0, none⟩ = some (.int .i64 d) ∧ w'.cell? ⟨vb, 4, none⟩ = some (.slice ao m cap)) [12] (by kernel_rfl) (by go_keep) (fun hHeld => ?_)
  have HS0 := Lib.hid (HST.out.same OK.out (same_drewN W 1))
  refine wpU_take 0 (oi := ?o0_1) (v := ?v0_1) ?p0_1 (by kernel_rfl) (by kernel_rfl) (by kernel_rfl) (by kernel_rfl) ?q0_1 (Or.inl ⟨?w0_1, ?y0_1⟩) (by assumption) ?_
  case p0_1 => ((simp only [List.getElem?_toArray, List.getElem?_cons_zero]); try rfl)
  case q0_1 => exact fun _ _ _ h => h
  case w0_1 => rfl
  case y0_1 => ((intro w hSw); (try dsimp only at hSw); go_simp; try with_reducible rfl)
  (try simp only [Act.put, List.setIfInBounds_toArray, List.set_cons_zero, List.set_cons_succ])
  refine wpU_take 1 (oi := ?o1_2) (v := ?v1_2) ?p1_2 (by kernel_rfl) (by kernel_rfl) (by kernel_rfl) (by kernel_rfl) ?q1_2 (Or.inl ⟨?w1_2, ?y1_2⟩) (by assumption) ?_
  case p1_2 => ((simp only [List.getElem?_toArray, List.getElem?_cons_succ, List.getElem?_cons_zero]); try rfl)
  case q1_2 => exact fun _ _ _ h => h
  case w1_2 => rfl
  case y1_2 => ((intro w hSw); (try dsimp only at hSw); go_simp; try with_reducible rfl)
  (try simp only [Act.put, List.setIfInBounds_toArray, List.set_cons_zero, List.set_cons_succ])
  refine wpU_take 2 (oi := ?o2_3) (v := ?v2_3) ?p2_3 (by kernel_rfl) (by kernel_rfl) (by kernel_rfl) (by kernel_rfl) ?q2_3 (Or.inl ⟨?w2_3, ?y2_3⟩) (by assumption) ?_
  case p2_3 => ((simp only [List.getElem?_toArray, List.getElem?_cons_succ, List.getElem?_cons_zero]); try rfl)
  case q2_3 => exact fun _ _ _ h => h
  case w2_3 => rfl
  case y2_3 => ((intro w hSw); (try dsimp only at hSw); go_simp; try with_reducible rfl)
  (try simp only [Act.put, List.setIfInBounds_toArray, List.set_cons_zero, List.set_cons_succ])
  refine wpU_take 3 (oi := ?o3_4) (v := ?v3_4) ?p3_4 (by kernel_rfl) (by kernel_rfl) (by kernel_rfl) (by kernel_rfl) ?q3_4 (Or.inl ⟨?w3_4, ?y3_4⟩) (by assumption) ?_
  case p3_4 => ((simp only [List.getElem?_toArray, List.getElem?_cons_succ, List.getElem?_cons_zero]); try rfl)
  case q3_4 => exact fun _ _ _ h => h
  case w3_4 => rfl
  case y3_4 => ((intro w hSw); (try dsimp only at hSw); go_simp; try with_reducible rfl)
  (try simp only [Act.put, List.setIfInBounds_toArray, List.set_cons_zero, List.set_cons_succ])
  refine wpU_take 4 (oi := ?o4_5) (v := ?v4_5) ?p4_5 (by kernel_rfl) (by kernel_rfl) (by kernel_rfl) (by kernel_rfl) ?q4_5 (Or.inl ⟨?w4_5, ?y4_5⟩) (by assumption) ?_
  case p4_5 => ((simp only [List.getElem?_toArray, List.getElem?_cons_succ, List.getElem?_cons_zero]); try rfl)
  case q4_5 => exact fun _ _ _ h => h
  case w4_5 => rfl
  case y4_5 => ((intro w hSw); (try dsimp only at hSw); go_simp; try with_reducible rfl)
  (try simp only [Act.put, List.setIfInBounds_toArray, List.set_cons_zero, List.set_cons_succ])
  refine wpU_take 6 (oi := ?o6_6) (v := ?v6_6) ?p6_6 (by kernel_rfl) (by kernel_rfl) (by kernel_rfl) (by kernel_rfl) ?q6_6 (Or.inl ⟨?w6_6, ?y6_6⟩) (by assumption) ?_
  case p6_6 => ((simp only [List.getElem?_toArray, List.getElem?_cons_succ, List.getElem?_cons_zero]); try rfl)
  case q6_6 => exact fun _ _ _ h => h
  case w6_6 => rfl
  case y6_6 => ((intro w hSw); (try dsimp only at hSw); go_simp; try with_reducible rfl)
  (try simp only [Act.put, List.setIfInBounds_toArray, List.set_cons_zero, List.set_cons_succ])
  refine wpU_ready (rs := [5, 7]) (by kernel_rfl) (by simp) ?_
  refine AllU.cons (o := ?o5_7) ?p5_7 (fun KK hKK => ?s5_7) ?m5_7
  case p5_7 => ((simp only [List.getElem?_toArray, List.getElem?_cons_succ, List.getElem?_cons_zero]); try rfl)
  case s5_7 =>
   go_simp
   go_at_call 48
   refine Calls.mono (HV'.out _ HS0.out.p) ?_
   rintro e w1 hend
   obtain ⟨rfl, hf⟩ := hend
   go_wp2_with fail
   exact ⟨rfl, rfl, HS0.out.fp.trans hf (fun i hi => .inl hi)⟩
  case m5_7 =>
   refine AllU.cons (o := ?o7_8) ?p7_8 (fun KK hKK => ?s7_8) ?m7_8
   case p7_8 => ((simp only [List.getElem?_toArray, List.getElem?_cons_succ, List.getElem?_cons_zero]); try rfl)
   case s7_8 =>
    go_simp
    have HS2 := Lib.hid (HS0.out.alloc OK.out (.cells #[.int .i64 0, .bool false, .int .i64 0, .string ⟨#[]⟩, .slice none 0 0] 52))
    have AL : Hid ((W.alloc (.cells #[.int .i64 0, .bool false, .int .i64 0, .string ⟨#[]⟩, .slice none 0 0] 52)).heap[W.heap.size]? = some (.cells #[.int .i64 0, .bool false, .int .i64 0, .string ⟨#[]⟩, .slice none 0 0] 52 (0,0))) := Lib.hid (heap_new_at rfl _)
    refine hKK.out _ _ (fun _ => ⟨cell_blk (HS2.out.kp _ (List.mem_cons_self ..)), cell_blk (HS2.out.kp _ (List.mem_cons_of_mem _ (List.mem_cons_self ..))), (HS2.out.hcell OK.out).1⟩) ?_
    clear hKK KK
    (try simp only [Act.put, List.setIfInBounds_toArray, List.set_cons_zero, List.set_cons_succ])
    refine wpU_ready (rs := [5]) (by kernel_rfl) (by simp) ?_
    refine AllU.cons (o := ?o5_9) ?p5_9 (fun KK hKK => ?s5_9) ?m5_9
    case p5_9 => ((simp only [List.getElem?_toArray, List.getElem?_cons_succ, List.getElem?_cons_zero]); try rfl)
    case s5_9 =>
     go_simp
     go_at_call 48
     refine Calls.mono (HV'.out _ HS2.out.p) ?_
     rintro e w1 hend
     obtain ⟨rfl, hf⟩ := hend
     go_wp2_with fail
     exact ⟨rfl, rfl, HS2.out.fp.trans hf (fun i hi => .inl hi)⟩
    case m5_9 =>
     exact AllU.nil
   case m7_8 =>
    exact AllU.nil
 | some p =>
  obtain ⟨gv, r⟩ := p
  go_enter Tryz.func77, Tryz.ntmps77
  refine wp_region_U (fun w' => w'.cell? ⟨h, 0, none⟩ = some (.pointer (some ⟨pb, 0, none⟩)) ∧ w'.cell? ⟨h + 1, 0, none⟩ = some (.int .i64 d) ∧ w'.cell? ⟨vb, 4, none⟩ = some (.slice ao m cap)) [12] (by kernel_rfl) (by go_keep) (fun hHeld => ?_)
  have HS0 := Lib.hid (HST.out.same OK.out (same_drewN W 1))
  refine wpU_take 0 (oi := ?o0_10) (v := ?v0_10) ?p0_10 (by kernel_rfl) (by kernel_rfl) (by kernel_rfl) (by kernel_rfl) ?q0_10 (Or.inl ⟨?w0_10, ?y0_10⟩) (by assumption) ?_
  case p0_10 => ((simp only [List.getElem?_toArray, List.getElem?_cons_zero]); try rfl)
  case q0_10 => exact fun _ _ _ h => h
  case w0_10 => rfl
  case y0_10 => ((intro w hSw); (try dsimp only at hSw); go_simp; try with_reducible rfl)
  (try simp only [Act.put, List.setIfInBounds_toArray, List.set_cons_zero, List.set_cons_succ])
  refine wpU_take 1 (oi := ?o1_11) (v := ?v1_11) ?p1_11 (by kernel_rfl) (by kernel_rfl) (by kernel_rfl) (by kernel_rfl) ?q1_11 (Or.inl ⟨?w1_11, ?y1_11⟩) (by assumption) ?_
  case p1_11 => ((simp only [List.getElem?_toArray, List.getElem?_cons_succ, List.getElem?_cons_zero]); try rfl)
  case q1_11 => exact fun _ _ _ h => h
  case w1_11 => rfl
  case y1_11 => ((intro w hSw); (try dsimp only at hSw); go_simp; try with_reducible rfl)
  (try simp only [Act.put, List.setIfInBounds_toArray, List.set_cons_zero, List.set_cons_succ])
  refine wpU_take 2 (oi := ?o2_12) (v := ?v2_12) ?p2_12 (by kernel_rfl) (by kernel_rfl) (by kernel_rfl) (by kernel_rfl) ?q2_12 (Or.inl ⟨?w2_12, ?y2_12⟩) (by assumption) ?_
  case p2_12 => ((simp only [List.getElem?_toArray, List.getElem?_cons_succ, List.getElem?_cons_zero]); try rfl)
  case q2_12 => exact fun _ _ _ h => h
  case w2_12 => rfl
  case y2_12 => ((intro w hSw); (try dsimp only at hSw); go_simp; try with_reducible rfl)
  (try simp only [Act.put, List.setIfInBounds_toArray, List.set_cons_zero, List.set_cons_succ])
  refine wpU_take 3 (oi := ?o3_13) (v := ?v3_13) ?p3_13 (by kernel_rfl) (by kernel_rfl) (by kernel_rfl) (by kernel_rfl) ?q3_13 (Or.inl ⟨?w3_13, ?y3_13⟩) (by assumption) ?_
  case p3_13 => ((simp only [List.getElem?_toArray, List.getElem?_cons_succ, List.getElem?_cons_zero]); try rfl)
  case q3_13 => exact fun _ _ _ h => h
  case w3_13 => rfl
  case y3_13 => ((intro w hSw); (try dsimp only at hSw); go_simp; try with_reducible rfl)
  (try simp only [Act.put, List.setIfInBounds_toArray, List.set_cons_zero, List.set_cons_succ])
  refine wpU_take 4 (oi := ?o4_14) (v := ?v4_14) ?p4_14 (by kernel_rfl) (by kernel_rfl) (by kernel_rfl) (by kernel_rfl) ?q4_14 (Or.inl ⟨?w4_14, ?y4_14⟩) (by assumption) ?_
  case p4_14 => ((simp only [List.getElem?_toArray, List.getElem?_cons_succ, List.getElem?_cons_zero]); try rfl)
  case q4_14 => exact fun _ _ _ h => h
  case w4_14 => rfl
  case y4_14 => ((intro w hSw); (try dsimp only at hSw); go_simp; try with_reducible rfl)
  (try simp only [Act.put, List.setIfInBounds_toArray, List.set_cons_zero, List.set_cons_succ])
  refine wpU_take 6 (oi := ?o6_15) (v := ?v6_15) ?p6_15 (by kernel_rfl) (by kernel_rfl) (by kernel_rfl) (by kernel_rfl) ?q6_15 (Or.inl ⟨?w6_15, ?y6_15⟩) (by assumption) ?_
  case p6_15 => ((simp only [List.getElem?_toArray, List.getElem?_cons_succ, List.getElem?_cons_zero]); try rfl)
  case q6_15 => exact fun _ _ _ h => h
  case w6_15 => rfl
  case y6_15 => ((intro w hSw); (try dsimp only at hSw); go_simp; try with_reducible rfl)
  (try simp only [Act.put, List.setIfInBounds_toArray, List.set_cons_zero, List.set_cons_succ])
  refine wpU_ready (rs := [5, 7]) (by kernel_rfl) (by simp) ?_
  refine AllU.cons (o := ?o5_16) ?p5_16 (fun KK hKK => ?s5_16) ?m5_16
  case p5_16 => ((simp only [List.getElem?_toArray, List.getElem?_cons_succ, List.getElem?_cons_zero]); try rfl)
  case s5_16 =>
   go_simp
   go_at_call 48
   refine Calls.mono (HV'.out _ HS0.out.p) ?_
   rintro e w1 hend
   obtain ⟨kd, b, i, t, sl, k', rfl, hrd, hr, hk1, hk2, hp1, hf1⟩ := hend
   obtain ⟨sa, sn, sc, rfl⟩ := rdv_slice hrd
   have HS1 := Lib.hid (HS0.out.call OK.out hrd hp1 hf1)
   have HR1 : Hid (r = T.drop k' ∧ k < k' ∧ k' ≤ T.length) := Lib.hid ⟨hr, hk1, hk2⟩
   clear hrd hr hk1 hk2 hp1 hf1
   go_wp2_with fail
   refine hKK.out _ _ (fun _ => ⟨cell_blk (HS1.out.kp _ (List.mem_cons_self ..)), cell_blk (HS1.out.kp _ (List.mem_cons_of_mem _ (List.mem_cons_self ..))), (HS1.out.hcell OK.out).1⟩) ?_
   clear hKK KK
   (try simp only [Act.put, List.setIfInBounds_toArray, List.set_cons_zero, List.set_cons_succ])
   refine wpU_ready (rs := [7]) (by kernel_rfl) (by simp) ?_
   refine AllU.cons (o := ?o7_17) ?p7_17 (fun KK hKK => ?s7_17) ?m7_17
   case p7_17 => ((simp only [List.getElem?_toArray, List.getElem?_cons_succ, List.getElem?_cons_zero]); try rfl)
   case s7_17 =>
    go_simp
    have HS2 := Lib.hid (HS1.out.alloc OK.out (.cells #[.int .i64 0, .bool false, .int .i64 0, .string ⟨#[]⟩, .slice none 0 0] 52))
    have AL1 : Hid ((w1.alloc (.cells #[.int .i64 0, .bool false, .int .i64 0, .string ⟨#[]⟩, .slice none 0 0] 52)).heap[w1.heap.size]? = some (.cells #[.int .i64 0, .bool false, .int .i64 0, .string ⟨#[]⟩, .slice none 0 0] 52 (0,0))) := Lib.hid (heap_new_at rfl _)
    refine hKK.out _ _ (fun _ => ⟨cell_blk (HS2.out.kp _ (List.mem_cons_self ..)), cell_blk (HS2.out.kp _ (List.mem_cons_of_mem _ (List.mem_cons_self ..))), (HS2.out.hcell OK.out).1⟩) ?_
    clear hKK KK
    (try simp only [Act.put, List.setIfInBounds_toArray, List.set_cons_zero, List.set_cons_succ])
    refine wpU_ready (rs := [8]) (by kernel_rfl) (by simp) ?_
    refine AllU.cons (o := ?o8_18) ?p8_18 (fun KK hKK => ?s8_18) ?m8_18
    case p8_18 => ((simp only [List.getElem?_toArray, List.getElem?_cons_succ, List.getElem?_cons_zero]); try rfl)
    case s8_18 =>
     refine step_append_lies _ rfl (.tmp 4) (.tmp 10) 38 rfl (vb + 1) 52 i0 (.agg #[.int .i64 0, .bool false, .int .i64 0, .string ⟨#[]⟩, .slice none 0 0]) 5 64 Tryz.underlying38 hi0 hz0 hz1 hz2 rfl (by decide) (.slice ao m cap) m xs rfl HS2.out.row ⟨w1.heap.size, 0, none⟩ 1 1 [.int .i64 0, .bool false, .int .i64 0, .string ⟨#[]⟩, .slice none 0 0] rfl rfl ?nz3 HONE.out (by decide) (by unfold maxLen; omega) (by omega) ?nb3 _ rfl ?_
     case nz3 =>
      intro j u hu
      rw [Addr.add_lit, Nat.zero_add]
      refine (cell_blk AL1.out).trans ?_
      simpa using hu
     case nb3 => exact lt_blk HS2.out.hd
     intro g cp w2 hr2 hg2 hat hgl
     have HS3 := Lib.hid (HS2.out.append OK.out hg2 hat hr2)
     clear hr2 hg2 hat hgl
     have hS2 : w2.cell? ⟨h, 0, none⟩ = some (.pointer (some ⟨pb, 0, none⟩)) ∧ w2.cell? ⟨h + 1, 0, none⟩ = some (.int .i64 d) ∧ w2.cell? ⟨vb, 4, none⟩ = some (.slice ao m cap) := ⟨cell_blk (HS3.out.kp _ (List.mem_cons_self ..)), cell_blk (HS3.out.kp _ (List.mem_cons_of_mem _ (List.mem_cons_self ..))), (HS3.out.hcell OK.out).1⟩
     refine hKK.out _ _ (fun _ => hS2) ?_
     clear hKK KK
     (try simp only [Act.put, List.setIfInBounds_toArray, List.set_cons_zero, List.set_cons_succ])
     refine wpU_take0 9 (oi := ?o9_19) (v := ?v9_19) ?p9_19 (by kernel_rfl) (by kernel_rfl) (by kernel_rfl) (by kernel_rfl) ?q9_19 (Or.inl ⟨?w9_19, ?y9_19⟩) (fun _ => by assumption) ?_
     case p9_19 => ((simp only [List.getElem?_toArray, List.getElem?_cons_succ, List.getElem?_cons_zero]); try rfl)
     case q9_19 => exact fun _ _ _ h => h
     case w9_19 => rfl
     case y9_19 => ((intro w _); go_simp; try with_reducible rfl)
     (try simp only [Act.put, List.setIfInBounds_toArray, List.set_cons_zero, List.set_cons_succ])
     refine wpU_take0 11 (oi := ?o11_20) (v := ?v11_20) ?p11_20 (by kernel_rfl) (by kernel_rfl) (by kernel_rfl) (by kernel_rfl) ?q11_20 (Or.inl ⟨?w11_20, ?y11_20⟩) (fun _ => by assumption) ?_
     case p11_20 => ((simp only [List.getElem?_toArray, List.getElem?_cons_succ, List.getElem?_cons_zero]); try rfl)
     case q11_20 => exact fun _ _ _ h => h
     case w11_20 => rfl
     case y11_20 => ((intro w _); go_simp; try with_reducible rfl)
     (try simp only [Act.put, List.setIfInBounds_toArray, List.set_cons_zero, List.set_cons_succ])
     refine wpU_ready (rs := [10, 12]) (by kernel_rfl) (by simp) ?_
     refine AllU.cons (o := ?o10_21) ?p10_21 (fun KK hKK => ?s10_21) ?m10_21
     case p10_21 => ((simp only [List.getElem?_toArray, List.getElem?_cons_succ, List.getElem?_cons_zero]); try rfl)
     case s10_21 =>
      have c0 : w2.cell? ⟨g, m * 5, none⟩ = some (.int .i64 0) := own_cell HS3.out.row (by rw [List.getElem?_append_right (by rw [HXL.out]; omega), HXL.out]; simp [])
      have f0 : w2.frozen? ⟨g, m * 5, none⟩ = false := own_frozen HS3.out.row _
      have c1 : w2.cell? ⟨g, m * 5 + 1, none⟩ = some (.bool false) := own_cell HS3.out.row (by rw [List.getElem?_append_right (by rw [HXL.out]; omega), HXL.out]; simp [])
      have f1 : w2.frozen? ⟨g, m * 5 + 1, none⟩ = false := own_frozen HS3.out.row _
      have c2 : w2.cell? ⟨g, m * 5 + 2, none⟩ = some (.int .i64 0) := own_cell HS3.out.row (by rw [List.getElem?_append_right (by rw [HXL.out]; omega), HXL.out]; simp [])
      have f2 : w2.frozen? ⟨g, m * 5 + 2, none⟩ = false := own_frozen HS3.out.row _
      have c3 : w2.cell? ⟨g, m * 5 + 3, none⟩ = some (.string ⟨#[]⟩) := own_cell HS3.out.row (by rw [List.getElem?_append_right (by rw [HXL.out]; omega), HXL.out]; simp [])
      have f3 : w2.frozen? ⟨g, m * 5 + 3, none⟩ = false := own_frozen HS3.out.row _
      have c4 : w2.cell? ⟨g, m * 5 + 4, none⟩ = some (.slice none 0 0) := own_cell HS3.out.row (by rw [List.getElem?_append_right (by rw [HXL.out]; omega), HXL.out]; simp [])
      have f4 : w2.frozen? ⟨g, m * 5 + 4, none⟩ = false := own_frozen HS3.out.row _
      go_simp
      have HS4 := Lib.hid (HS3.out.elem OK.out (put5_fp (S := fun i => i = g) w2 g (m * 5) (.int .i64 kd) (.bool b) (.int .i64 i) (.string t) (.slice sa sn sc) rfl) (put5_own HS3.out.row HXL.out (.int .i64 kd) (.bool b) (.int .i64 i) (.string t) (.slice sa sn sc)))
      refine hKK.out _ _ (fun _ => ⟨cell_blk (HS4.out.kp _ (List.mem_cons_self ..)), cell_blk (HS4.out.kp _ (List.mem_cons_of_mem _ (List.mem_cons_self ..))), (HS4.out.hcell OK.out).1⟩) ?_
      clear hKK KK c0 c1 c2 c3 c4 f0 f1 f2 f3 f4
      (try simp only [Act.put, List.setIfInBounds_toArray, List.set_cons_zero, List.set_cons_succ])
      change wpU _ _ _ _ _ _ _ _ _ (put5 w2 g (m * 5) (.int .i64 kd) (.bool b) (.int .i64 i) (.string t) (.slice sa sn sc))
      generalize put5 w2 g (m * 5) (.int .i64 kd) (.bool b) (.int .i64 i) (.string t) (.slice sa sn sc) = w24 at HS4 ⊢
      refine wpU_ready (rs := [12]) (by kernel_rfl) (by simp) ?_
      refine AllU.cons (o := ?o12_22) ?p12_22 (fun KK hKK => ?s12_22) ?m12_22
      case p12_22 => ((simp only [List.getElem?_toArray, List.getElem?_cons_succ, List.getElem?_cons_zero]); try rfl)
      case s12_22 =>
       obtain ⟨v1, v2⟩ := HS4.out.hcell OK.out
       have v1 : w24.cell? ⟨vb, 4, none⟩ = some (.slice ao m cap) := v1
       have v2 : w24.frozen? ⟨vb, 4, none⟩ = false := v2
       go_simp
       have HS5 := Lib.hid (HS4.out.head OK.out (.slice (some ⟨g, 0, none⟩) (m + 1) cp))
       refine hKK.out _ _ (fun hn => by cases hn 12 (List.mem_singleton.2 rfl)) ?_
       clear hKK KK v1 v2
       (try simp only [Act.put, List.setIfInBounds_toArray, List.set_cons_zero, List.set_cons_succ])
       change wpU _ _ _ _ _ _ _ _ _ (w24.setCell ⟨vb, 4, none⟩ (.slice (some ⟨g, 0, none⟩) (m + 1) cp))
       change Hid (RowSt _ _ _ _ _ _ _ _ _ _ _ (w24.setCell ⟨vb, 4, none⟩ (.slice (some ⟨g, 0, none⟩) (m + 1) cp))) at HS5
       generalize w24.setCell ⟨vb, 4, none⟩ (.slice (some ⟨g, 0, none⟩) (m + 1) cp) = w25 at HS5 ⊢
       refine wpU_done (by kernel_rfl) ?_
       have hfin := HS5.out
       rw [← HM.out] at hfin
       refine bodyPost_end (v := .tuple #[]) (by simp [results, Tryz.results77]) rfl ?_
       exact ⟨rfl, k', HR1.out.1, HR1.out.2.1, HR1.out.2.2, VI.ofSt (by have := HK.out; have := HM.out; have := HR1.out.2.1; omega) hfin rfl⟩
      case m12_22 =>
       exact AllU.nil
     case m10_21 =>
      refine AllU.cons (o := ?o12_23) ?p12_23 (fun KK hKK => ?s12_23) ?m12_23
      case p12_23 => ((simp only [List.getElem?_toArray, List.getElem?_cons_succ, List.getElem?_cons_zero]); try rfl)
      case s12_23 =>
       obtain ⟨v1, v2⟩ := HS3.out.hcell OK.out
       have v1 : w2.cell? ⟨vb, 4, none⟩ = some (.slice ao m cap) := v1
       have v2 : w2.frozen? ⟨vb, 4, none⟩ = false := v2
       go_simp
       have HS6 := Lib.hid (HS3.out.head OK.out (.slice (some ⟨g, 0, none⟩) (m + 1) cp))
       refine hKK.out _ _ (fun hn => by cases hn 12 (List.mem_singleton.2 rfl)) ?_
       clear hKK KK v1 v2
       (try simp only [Act.put, List.setIfInBounds_toArray, List.set_cons_zero, List.set_cons_succ])
       change wpU _ _ _ _ _ _ _ _ _ (w2.setCell ⟨vb, 4, none⟩ (.slice (some ⟨g, 0, none⟩) (m + 1) cp))
       change Hid (RowSt _ _ _ _ _ _ _ _ _ _ _ (w2.setCell ⟨vb, 4, none⟩ (.slice (some ⟨g, 0, none⟩) (m + 1) cp))) at HS6
       generalize w2.setCell ⟨vb, 4, none⟩ (.slice (some ⟨g, 0, none⟩) (m + 1) cp) = w26 at HS6 ⊢
       refine wpU_ready (rs := [10]) (by kernel_rfl) (by simp) ?_
       refine AllU.cons (o := ?o10_24) ?p10_24 (fun KK hKK => ?s10_24) ?m10_24
       case p10_24 => ((simp only [List.getElem?_toArray, List.getElem?_cons_succ, List.getElem?_cons_zero]); try rfl)
       case s10_24 =>
        have c0 : w26.cell? ⟨g, m * 5, none⟩ = some (.int .i64 0) := own_cell HS6.out.row (by rw [List.getElem?_append_right (by rw [HXL.out]; omega), HXL.out]; simp [])
        have f0 : w26.frozen? ⟨g, m * 5, none⟩ = false := own_frozen HS6.out.row _
        have c1 : w26.cell? ⟨g, m * 5 + 1, none⟩ = some (.bool false) := own_cell HS6.out.row (by rw [List.getElem?_append_right (by rw [HXL.out]; omega), HXL.out]; simp [])
        have f1 : w26.frozen? ⟨g, m * 5 + 1, none⟩ = false := own_frozen HS6.out.row _
        have c2 : w26.cell? ⟨g, m * 5 + 2, none⟩ = some (.int .i64 0) := own_cell HS6.out.row (by rw [List.getElem?_append_right (by rw [HXL.out]; omega), HXL.out]; simp [])
        have f2 : w26.frozen? ⟨g, m * 5 + 2, none⟩ = false := own_frozen HS6.out.row _
        have c3 : w26.cell? ⟨g, m * 5 + 3, none⟩ = some (.string ⟨#[]⟩) := own_cell HS6.out.row (by rw [List.getElem?_append_right (by rw [HXL.out]; omega), HXL.out]; simp [])
        have f3 : w26.frozen? ⟨g, m * 5 + 3, none⟩ = false := own_frozen HS6.out.row _
        have c4 : w26.cell? ⟨g, m * 5 + 4, none⟩ = some (.slice none 0 0) := own_cell HS6.out.row (by rw [List.getElem?_append_right (by rw [HXL.out]; omega), HXL.out]; simp [])
        have f4 : w26.frozen? ⟨g, m * 5 + 4, none⟩ = false := own_frozen HS6.out.row _
        go_simp
        have HS7 := Lib.hid (HS6.out.elem OK.out (put5_fp (S := fun i => i = g) w26 g (m * 5) (.int .i64 kd) (.bool b) (.int .i64 i) (.string t) (.slice sa sn sc) rfl) (put5_own HS6.out.row HXL.out (.int .i64 kd) (.bool b) (.int .i64 i) (.string t) (.slice sa sn sc)))
        refine hKK.out _ _ (fun hn => by cases hn 12 (List.mem_singleton.2 rfl)) ?_
        clear hKK KK c0 c1 c2 c3 c4 f0 f1 f2 f3 f4
        (try simp only [Act.put, List.setIfInBounds_toArray, List.set_cons_zero, List.set_cons_succ])
        change wpU _ _ _ _ _ _ _ _ _ (put5 w26 g (m * 5) (.int .i64 kd) (.bool b) (.int .i64 i) (.string t) (.slice sa sn sc))
        generalize put5 w26 g (m * 5) (.int .i64 kd) (.bool b) (.int .i64 i) (.string t) (.slice sa sn sc) = w27 at HS7 ⊢
        refine wpU_done (by kernel_rfl) ?_
        have hfin := HS7.out
        rw [← HM.out] at hfin
        refine bodyPost_end (v := .tuple #[]) (by simp [results, Tryz.results77]) rfl ?_
        exact ⟨rfl, k', HR1.out.1, HR1.out.2.1, HR1.out.2.2, VI.ofSt (by have := HK.out; have := HM.out; have := HR1.out.2.1; omega) hfin rfl⟩
       case m10_24 =>
        exact AllU.nil
      case m12_23 =>
       exact AllU.nil
    case m8_18 =>
     exact AllU.nil
   case m7_17 =>
    exact AllU.nil
  case m5_16 =>
   refine AllU.cons (o := ?o7_25) ?p7_25 (fun KK hKK => ?s7_25) ?m7_25
   case p7_25 => ((simp only [List.getElem?_toArray, List.getElem?_cons_succ, List.getElem?_cons_zero]); try rfl)
   case s7_25 =>
    go_simp
    have HS8 := Lib.hid (HS0.out.alloc OK.out (.cells #[.int .i64 0, .bool false, .int .i64 0, .string ⟨#[]⟩, .slice none 0 0] 52))
    have AL : Hid ((W.alloc (.cells #[.int .i64 0, .bool false, .int .i64 0, .string ⟨#[]⟩, .slice none 0 0] 52)).heap[W.heap.size]? = some (.cells #[.int .i64 0, .bool false, .int .i64 0, .string ⟨#[]⟩, .slice none 0 0] 52 (0,0))) := Lib.hid (heap_new_at rfl _)
    refine hKK.out _ _ (fun _ => ⟨cell_blk (HS8.out.kp _ (List.mem_cons_self ..)), cell_blk (HS8.out.kp _ (List.mem_cons_of_mem _ (List.mem_cons_self ..))), (HS8.out.hcell OK.out).1⟩) ?_
    clear hKK KK
    (try simp only [Act.put, List.setIfInBounds_toArray, List.set_cons_zero, List.set_cons_succ])
    refine wpU_ready (rs := [5]) (by kernel_rfl) (by simp) ?_
    refine AllU.cons (o := ?o5_26) ?p5_26 (fun KK hKK => ?s5_26) ?m5_26
    case p5_26 => ((simp only [List.getElem?_toArray, List.getElem?_cons_succ, List.getElem?_cons_zero]); try rfl)
    case s5_26 =>
     go_simp
     go_at_call 48
     refine Calls.mono (HV'.out _ HS8.out.p) ?_
     rintro e w1 hend
     obtain ⟨kd, b, i, t, sl, k', rfl, hrd, hr, hk1, hk2, hp1, hf1⟩ := hend
     obtain ⟨sa, sn, sc, rfl⟩ := rdv_slice hrd
     have HS9 := Lib.hid (HS8.out.call OK.out hrd hp1 hf1)
     have HR1 : Hid (r = T.drop k' ∧ k < k' ∧ k' ≤ T.length) := Lib.hid ⟨hr, hk1, hk2⟩
     have AL1 : Hid (w1.heap[W.heap.size]? = some (.cells #[.int .i64 0, .bool false, .int .i64 0, .string ⟨#[]⟩, .slice none 0 0] 52 (0,0))) := Lib.hid ((hf1.blk _ (lt_blk AL.out) (Nat.ne_of_gt HPW.out)).trans AL.out)
     clear hrd hr hk1 hk2 hp1 hf1
     go_wp2_with fail
     refine hKK.out _ _ (fun _ => ⟨cell_blk (HS9.out.kp _ (List.mem_cons_self ..)), cell_blk (HS9.out.kp _ (List.mem_cons_of_mem _ (List.mem_cons_self ..))), (HS9.out.hcell OK.out).1⟩) ?_
     clear hKK KK
     (try simp only [Act.put, List.setIfInBounds_toArray, List.set_cons_zero, List.set_cons_succ])
     refine wpU_ready (rs := [8]) (by kernel_rfl) (by simp) ?_
     refine AllU.cons (o := ?o8_27) ?p8_27 (fun KK hKK => ?s8_27) ?m8_27
     case p8_27 => ((simp only [List.getElem?_toArray, List.getElem?_cons_succ, List.getElem?_cons_zero]); try rfl)
     case s8_27 =>
      refine step_append_lies _ rfl (.tmp 4) (.tmp 10) 38 rfl (vb + 1) 52 i0 (.agg #[.int .i64 0, .bool false, .int .i64 0, .string ⟨#[]⟩, .slice none 0 0]) 5 64 Tryz.underlying38 hi0 hz0 hz1 hz2 rfl (by decide) (.slice ao m cap) m xs rfl HS9.out.row ⟨W.heap.size, 0, none⟩ 1 1 [.int .i64 0, .bool false, .int .i64 0, .string ⟨#[]⟩, .slice none 0 0] rfl rfl ?nz10 HONE.out (by decide) (by unfold maxLen; omega) (by omega) ?nb10 _ rfl ?_
      case nz10 =>
       intro j u hu
       rw [Addr.add_lit, Nat.zero_add]
       refine (cell_blk AL1.out).trans ?_
       simpa using hu
      case nb10 => exact lt_blk HS9.out.hd
      intro g cp w2 hr2 hg2 hat hgl
      have HS10 := Lib.hid (HS9.out.append OK.out hg2 hat hr2)
      clear hr2 hg2 hat hgl
      have hS2 : w2.cell? ⟨h, 0, none⟩ = some (.pointer (some ⟨pb, 0, none⟩)) ∧ w2.cell? ⟨h + 1, 0, none⟩ = some (.int .i64 d) ∧ w2.cell? ⟨vb, 4, none⟩ = some (.slice ao m cap) := ⟨cell_blk (HS10.out.kp _ (List.mem_cons_self ..)), cell_blk (HS10.out.kp _ (List.mem_cons_of_mem _ (List.mem_cons_self ..))), (HS10.out.hcell OK.out).1⟩
      refine hKK.out _ _ (fun _ => hS2) ?_
      clear hKK KK
      (try simp only [Act.put, List.setIfInBounds_toArray, List.set_cons_zero, List.set_cons_succ])
      refine wpU_take0 9 (oi := ?o9_28) (v := ?v9_28) ?p9_28 (by kernel_rfl) (by kernel_rfl) (by kernel_rfl) (by kernel_rfl) ?q9_28 (Or.inl ⟨?w9_28, ?y9_28⟩) (fun _ => by assumption) ?_
      case p9_28 => ((simp only [List.getElem?_toArray, List.getElem?_cons_succ, List.getElem?_cons_zero]); try rfl)
      case q9_28 => exact fun _ _ _ h => h
      case w9_28 => rfl
      case y9_28 => ((intro w _); go_simp; try with_reducible rfl)
      (try simp only [Act.put, List.setIfInBounds_toArray, List.set_cons_zero, List.set_cons_succ])
      refine wpU_take0 11 (oi := ?o11_29) (v := ?v11_29) ?p11_29 (by kernel_rfl) (by kernel_rfl) (by kernel_rfl) (by kernel_rfl) ?q11_29 (Or.inl ⟨?w11_29, ?y11_29⟩) (fun _ => by assumption) ?_
      case p11_29 => ((simp only [List.getElem?_toArray, List.getElem?_cons_succ, List.getElem?_cons_zero]); try rfl)
      case q11_29 => exact fun _ _ _ h => h
      case w11_29 => rfl
      case y11_29 => ((intro w _); go_simp; try with_reducible rfl)
      (try simp only [Act.put, List.setIfInBounds_toArray, List.set_cons_zero, List.set_cons_succ])
      refine wpU_ready (rs := [10, 12]) (by kernel_rfl) (by simp) ?_
      refine AllU.cons (o := ?o10_30) ?p10_30 (fun KK hKK => ?s10_30) ?m10_30
      case p10_30 => ((simp only [List.getElem?_toArray, List.getElem?_cons_succ, List.getElem?_cons_zero]); try rfl)
      case s10_30 =>
       have c0 : w2.cell? ⟨g, m * 5, none⟩ = some (.int .i64 0) := own_cell HS10.out.row (by rw [List.getElem?_append_right (by rw [HXL.out]; omega), HXL.out]; simp [])
       have f0 : w2.frozen? ⟨g, m * 5, none⟩ = false := own_frozen HS10.out.row _
       have c1 : w2.cell? ⟨g, m * 5 + 1, none⟩ = some (.bool false) := own_cell HS10.out.row (by rw [List.getElem?_append_right (by rw [HXL.out]; omega), HXL.out]; simp [])
       have f1 : w2.frozen? ⟨g, m * 5 + 1, none⟩ = false := own_frozen HS10.out.row _
       have c2 : w2.cell? ⟨g, m * 5 + 2, none⟩ = some (.int .i64 0) := own_cell HS10.out.row (by rw [List.getElem?_append_right (by rw [HXL.out]; omega), HXL.out]; simp [])
       have f2 : w2.frozen? ⟨g, m * 5 + 2, none⟩ = false := own_frozen HS10.out.row _
       have c3 : w2.cell? ⟨g, m * 5 + 3, none⟩ = some (.string ⟨#[]⟩) := own_cell HS10.out.row (by rw [List.getElem?_append_right (by rw [HXL.out]; omega), HXL.out]; simp [])
       have f3 : w2.frozen? ⟨g, m * 5 + 3, none⟩ = false := own_frozen HS10.out.row _
       have c4 : w2.cell? ⟨g, m * 5 + 4, none⟩ = some (.slice none 0 0) := own_cell HS10.out.row (by rw [List.getElem?_append_right (by rw [HXL.out]; omega), HXL.out]; simp [])
       have f4 : w2.frozen? ⟨g, m * 5 + 4, none⟩ = false := own_frozen HS10.out.row _
       go_simp
       have HS11 := Lib.hid (HS10.out.elem OK.out (put5_fp (S := fun i => i = g) w2 g (m * 5) (.int .i64 kd) (.bool b) (.int .i64 i) (.string t) (.slice sa sn sc) rfl) (put5_own HS10.out.row HXL.out (.int .i64 kd) (.bool b) (.int .i64 i) (.string t) (.slice sa sn sc)))
       refine hKK.out _ _ (fun _ => ⟨cell_blk (HS11.out.kp _ (List.mem_cons_self ..)), cell_blk (HS11.out.kp _ (List.mem_cons_of_mem _ (List.mem_cons_self ..))), (HS11.out.hcell OK.out).1⟩) ?_
       clear hKK KK c0 c1 c2 c3 c4 f0 f1 f2 f3 f4
       (try simp only [Act.put, List.setIfInBounds_toArray, List.set_cons_zero, List.set_cons_succ])
       change wpU _ _ _ _ _ _ _ _ _ (put5 w2 g (m * 5) (.int .i64 kd) (.bool b) (.int .i64 i) (.string t) (.slice sa sn sc))
       generalize put5 w2 g (m * 5) (.int .i64 kd) (.bool b) (.int .i64 i) (.string t) (.slice sa sn sc) = w31 at HS11 ⊢
       refine wpU_ready (rs := [12]) (by kernel_rfl) (by simp) ?_
       refine AllU.cons (o := ?o12_31) ?p12_31 (fun KK hKK => ?s12_31) ?m12_31
       case p12_31 => ((simp only [List.getElem?_toArray, List.getElem?_cons_succ, List.getElem?_cons_zero]); try rfl)
       case s12_31 =>
        obtain ⟨v1, v2⟩ := HS11.out.hcell OK.out
        have v1 : w31.cell? ⟨vb, 4, none⟩ = some (.slice ao m cap) := v1
        have v2 : w31.frozen? ⟨vb, 4, none⟩ = false := v2
        go_simp
        have HS12 := Lib.hid (HS11.out.head OK.out (.slice (some ⟨g, 0, none⟩) (m + 1) cp))
        refine hKK.out _ _ (fun hn => by cases hn 12 (List.mem_singleton.2 rfl)) ?_
        clear hKK KK v1 v2
        (try simp only [Act.put, List.setIfInBounds_toArray, List.set_cons_zero, List.set_cons_succ])
        change wpU _ _ _ _ _ _ _ _ _ (w31.setCell ⟨vb, 4, none⟩ (.slice (some ⟨g, 0, none⟩) (m + 1) cp))
        change Hid (RowSt _ _ _ _ _ _ _ _ _ _ _ (w31.setCell ⟨vb, 4, none⟩ (.slice (some ⟨g, 0, none⟩) (m + 1) cp))) at HS12
        generalize w31.setCell ⟨vb, 4, none⟩ (.slice (some ⟨g, 0, none⟩) (m + 1) cp) = w32 at HS12 ⊢
        refine wpU_done (by kernel_rfl) ?_
        have hfin := HS12.out
        rw [← HM.out] at hfin
        refine bodyPost_end (v := .tuple #[]) (by simp [results, Tryz.results77]) rfl ?_
        exact ⟨rfl, k', HR1.out.1, HR1.out.2.1, HR1.out.2.2, VI.ofSt (by have := HK.out; have := HM.out; have := HR1.out.2.1; omega) hfin rfl⟩
       case m12_31 =>
        exact AllU.nil
      case m10_30 =>
       refine AllU.cons (o := ?o12_32) ?p12_32 (fun KK hKK => ?s12_32) ?m12_32
       case p12_32 => ((simp only [List.getElem?_toArray, List.getElem?_cons_succ, List.getElem?_cons_zero]); try rfl)
       case s12_32 =>
        obtain ⟨v1, v2⟩ := HS10.out.hcell OK.out
        have v1 : w2.cell? ⟨vb, 4, none⟩ = some (.slice ao m cap) := v1
        have v2 : w2.frozen? ⟨vb, 4, none⟩ = false := v2
        go_simp
        have HS13 := Lib.hid (HS10.out.head OK.out (.slice (some ⟨g, 0, none⟩) (m + 1) cp))
        refine hKK.out _ _ (fun hn => by cases hn 12 (List.mem_singleton.2 rfl)) ?_
        clear hKK KK v1 v2
        (try simp only [Act.put, List.setIfInBounds_toArray, List.set_cons_zero, List.set_cons_succ])
        change wpU _ _ _ _ _ _ _ _ _ (w2.setCell ⟨vb, 4, none⟩ (.slice (some ⟨g, 0, none⟩) (m + 1) cp))
        change Hid (RowSt _ _ _ _ _ _ _ _ _ _ _ (w2.setCell ⟨vb, 4, none⟩ (.slice (some ⟨g, 0, none⟩) (m + 1) cp))) at HS13
        generalize w2.setCell ⟨vb, 4, none⟩ (.slice (some ⟨g, 0, none⟩) (m + 1) cp) = w33 at HS13 ⊢
        refine wpU_ready (rs := [10]) (by kernel_rfl) (by simp) ?_
        refine AllU.cons (o := ?o10_33) ?p10_33 (fun KK hKK => ?s10_33) ?m10_33
        case p10_33 => ((simp only [List.getElem?_toArray, List.getElem?_cons_succ, List.getElem?_cons_zero]); try rfl)
        case s10_33 =>
         have c0 : w33.cell? ⟨g, m * 5, none⟩ = some (.int .i64 0) := own_cell HS13.out.row (by rw [List.getElem?_append_right (by rw [HXL.out]; omega), HXL.out]; simp [])
         have f0 : w33.frozen? ⟨g, m * 5, none⟩ = false := own_frozen HS13.out.row _
         have c1 : w33.cell? ⟨g, m * 5 + 1, none⟩ = some (.bool false) := own_cell HS13.out.row (by rw [List.getElem?_append_right (by rw [HXL.out]; omega), HXL.out]; simp [])
         have f1 : w33.frozen? ⟨g, m * 5 + 1, none⟩ = false := own_frozen HS13.out.row _
         have c2 : w33.cell? ⟨g, m * 5 + 2, none⟩ = some (.int .i64 0) := own_cell HS13.out.row (by rw [List.getElem?_append_right (by rw [HXL.out]; omega), HXL.out]; simp [])
         have f2 : w33.frozen? ⟨g, m * 5 + 2, none⟩ = false := own_frozen HS13.out.row _
         have c3 : w33.cell? ⟨g, m * 5 + 3, none⟩ = some (.string ⟨#[]⟩) := own_cell HS13.out.row (by rw [List.getElem?_append_right (by rw [HXL.out]; omega), HXL.out]; simp [])
         have f3 : w33.frozen? ⟨g, m * 5 + 3, none⟩ = false := own_frozen HS13.out.row _
         have c4 : w33.cell? ⟨g, m * 5 + 4, none⟩ = some (.slice none 0 0) := own_cell HS13.out.row (by rw [List.getElem?_append_right (by rw [HXL.out]; omega), HXL.out]; simp [])
         have f4 : w33.frozen? ⟨g, m * 5 + 4, none⟩ = false := own_frozen HS13.out.row _
         go_simp
         have HS14 := Lib.hid (HS13.out.elem OK.out (put5_fp (S := fun i => i = g) w33 g (m * 5) (.int .i64 kd) (.bool b) (.int .i64 i) (.string t) (.slice sa sn sc) rfl) (put5_own HS13.out.row HXL.out (.int .i64 kd) (.bool b) (.int .i64 i) (.string t) (.slice sa sn sc)))
         refine hKK.out _ _ (fun hn => by cases hn 12 (List.mem_singleton.2 rfl)) ?_
         clear hKK KK c0 c1 c2 c3 c4 f0 f1 f2 f3 f4
         (try simp only [Act.put, List.setIfInBounds_toArray, List.set_cons_zero, List.set_cons_succ])
         change wpU _ _ _ _ _ _ _ _ _ (put5 w33 g (m * 5) (.int .i64 kd) (.bool b) (.int .i64 i) (.string t) (.slice sa sn sc))
         generalize put5 w33 g (m * 5) (.int .i64 kd) (.bool b) (.int .i64 i) (.string t) (.slice sa sn sc) = w34 at HS14 ⊢
         refine wpU_done (by kernel_rfl) ?_
         have hfin := HS14.out
         rw [← HM.out] at hfin
         refine bodyPost_end (v := .tuple #[]) (by simp [results, Tryz.results77]) rfl ?_
         exact ⟨rfl, k', HR1.out.1, HR1.out.2.1, HR1.out.2.2, VI.ofSt (by have := HK.out; have := HM.out; have := HR1.out.2.1; omega) hfin rfl⟩
        case m10_33 =>
         exact AllU.nil
       case m12_32 =>
        exact AllU.nil
     case m8_27 =>
      exact AllU.nil
    case m5_26 =>
     exact AllU.nil
   case m7_25 =>
    exact AllU.nil
end Go.Proofs.YtnpkdiffpgcbhaaGreatDoor
