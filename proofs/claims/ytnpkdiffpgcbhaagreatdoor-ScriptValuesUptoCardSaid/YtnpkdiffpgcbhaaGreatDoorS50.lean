/- ScriptLines, walked. Conditions: each theorem's own. -/
import Derived.Test.YtnpkdiffpgcbhaaGreatDoorS49
set_option maxRecDepth 100000
set_option maxHeartbeats 3200000
namespace Go.Proofs.YtnpkdiffpgcbhaaGreatDoor
open Go.RowKit
attribute [local go_sem] Oper.semAt_some
def Strs (w : World) (v : Value) (ts : List ByteArray) : Prop := ∃ ao cap, v = .slice ao ts.length cap ∧ ts.length ≤ cap ∧ (ts = [] ∨ ∃ g off, ao = some ⟨g, off, none⟩ ∧ g < w.heap.size ∧ ∀ (j : Nat) (t : ByteArray), ts[j]? = some t → w.cell? ⟨g, off + j, none⟩ = some (.string t))
theorem cat_list (s0 s1 : ByteArray) : (s0 ++ { data := #[10] } ++ s1).data.toList = s0.data.toList ++ 10 :: s1.data.toList := by
 simp [ByteArray.data_append]
theorem around_list (s0 : ByteArray) : (({ data := #[47, 47, 32, 120, 10, 10] } : ByteArray) ++ s0 ++ { data := #[10, 32, 9, 10] }).data.toList = headB ++ (s0.data.toList ++ tailB) := by
 simp [ByteArray.data_append, headB, tailB]
theorem PRes.det_err {w w' : World} {s : Bs} {v : Value} {n c d : Int} {j : Nat} (h : PRes w s w' v n c) (hp : parseA s = .error (j, d)) : c = d ∧ n = j := by
 rcases h.2 with ⟨i, h1, h2, _⟩ | ⟨ops, h1, _⟩
 ·rw [h1] at hp; cases hp; exact ⟨rfl, h2⟩
 ·rw [h1] at hp; cases hp
theorem PRes.det_ok {w w' : World} {s : Bs} {v : Value} {n c : Int} {o : List OpV} (h : PRes w s w' v n c) (hp : parseA s = .ok o) : c = 0 ∧ n = 0 ∧ Got w' v o := by
 rcases h.2 with ⟨i, h1, h2, _⟩ | ⟨ops, h1, h2, h3, h4⟩
 ·rw [h1] at hp; cases hp
 ·rw [h1] at hp; cases hp; exact ⟨h3, h2, h4⟩
theorem parseLs_err (l : List Bs) : ∀ (i j : Nat), parseLs i l = .error j → j < i + l.length := by
 induction l with
 | nil => intro i j h; simp [parseLs] at h
 | cons s r ih =>
  intro i j h
  simp only [parseLs] at h
  rw [List.length_cons]
  cases hs : lineF s with
  | none => rw [hs] at h; cases h; omega
  | some x =>
   rw [hs] at h
   simp only at h
   cases hr : parseLs (i + 1) r with
   | error j' => rw [hr] at h; cases h; have := ih _ _ hr; omega
   | ok m => rw [hr] at h; cases h
theorem parseA_line {s : Bs} {j : Nat} {c : Int} (h : parseA s = .error (j, c)) : j ≤ s.length + 1 := by
 unfold parseA at h
 split at h
 ·cases h; omega
 ·split at h
  ·rename_i hp
   cases h
   have := parseLs_err _ _ _ hp
   have := linesOf_len s
   omega
  ·split at h
   ·cases h; omega
   ·cases h
theorem linesN_le {s : Bs} (h : s.length ≤ 3000) : linesN s ≤ 3001 := by
 have := List.count_le_length (a := (10 : UInt8)) (l := s)
 unfold linesN
 omega
theorem law_any {w : World} {v : Value} {ts : List ByteArray} (h : Strs w v ts) (hsz : ∀ t ∈ ts, t.size ≤ 140737488351232) (hn : ts.length ≤ 140737488351232)
  (hP : ∀ W, FP nob w W → ∀ s : ByteArray, Calls Tryz.prog 14 #[.string s] W fun e w' => ∃ v n c, e = .returned (.tuple #[v, .int .i64 n, .int .i64 c]) ∧ PRes W s.data.toList w' v n c)
  (hN : ∀ (W : World) (s : ByteArray), s.size ≤ 3000 → Calls Tryz.prog 16 #[.string s] W fun e w' => e = .returned (.int .i64 (linesN s.data.toList : Nat)) ∧ w' = W)
  (hK : ∀ W, FP nob w W → YesC 9 #[] W) : YesC 5 #[v] w := by
 obtain ⟨ao, cap, rfl, hcap, hcl⟩ := h
 obtain ⟨n, hnn⟩ : ∃ n, ts.length = n := ⟨_, rfl⟩
 rw [hnn] at hcap hn ⊢
 have HC := Lib.hid hcl
 have HS := Lib.hid hsz
 have HP := Lib.hid hP
 have HN := Lib.hid hN
 have HK := Lib.hid hK
 have HL := Lib.hid hnn
 clear hcl hsz hP hN hK hnn
 unfold YesC at *
 go_enter Tryz.func5, Tryz.ntmps5
 go_wp2_with fail
 go_loopg [3] 8 (fun m i wr => ∃ k q : Nat, i = .int .i64 (k : Nat) ∧ Hid (k = q + 1) ∧ k ≤ 6 ∧ 7 - k < m ∧ n ≤ 140737488351232 ∧ Hid (FP nob w wr))
 case atStart => exact ⟨1, 0, rfl, Lib.hid rfl, by omega, by omega, hn, Lib.hid (FP.refl _ _)⟩
 case round =>
  obtain ⟨k, q, rfl, HKQ, hk6, hm, hn, hF⟩ := hrel
  have hk1 : 1 ≤ k := by have := HKQ.out; omega
  obtain ⟨wo, hwo⟩ : ∃ wo, wo = wr := ⟨_, rfl⟩
  subst hwo
  by_cases hlt : k < n
  ·by_cases h6 : k < 6
   ·have hi0 : (0 : Int) ≤ (k : Int) := by omega
    have hi1 : (k : Int) < (n : Int) := by omega
    have hi6 : (k : Int) < 6 := by omega
    have hq0 : (0 : Int) ≤ (q : Int) := by omega
    have hq1 : (q : Int) < (n : Int) := by have := HKQ.out; omega
    have hw1 : IntKind.i64.wrap ((k : Int) + 1) = (k : Int) + 1 := IntWalk.i64_in _ (by omega)
    have hw0 : IntKind.i64.wrap ((k : Int) - 1) = (q : Int) := by rw [show (k : Int) - 1 = (q : Int) by have := HKQ.out; omega]; exact IntWalk.i64_in _ (by omega)
    have hcl := HC.out
    have e0 : ts[q]? = some (ts[q]'(by rw [HL.out]; have := HKQ.out; omega)) := List.getElem?_eq_getElem _
    have e1 : ts[k]? = some (ts[k]'(by rw [HL.out]; omega)) := List.getElem?_eq_getElem _
    have z0 := HS.out _ (List.getElem_mem (l := ts) (n := q) (by rw [HL.out]; have := HKQ.out; omega))
    have z1 := HS.out _ (List.getElem_mem (l := ts) (n := k) (by rw [HL.out]; omega))
    generalize ts[q]'(by rw [HL.out]; have := HKQ.out; omega) = s0 at e0 z0
    generalize ts[k]'(by rw [HL.out]; omega) = s1 at e1 z1
    rcases hcl with rfl | ⟨g, off, rfl, hg, hcells⟩
    ·simp at e0
    have HX0 := Lib.hid (hcells _ _ e0)
    have HX1 := Lib.hid (hcells _ _ e1)
    have x0 := hF.out.cell HX0.out
    have x1 := hF.out.cell HX1.out
    clear hcells e0 e1
    have hws : IntKind.i64.wrap ((s0.size : Int) + (s1.size : Int)) = (s0.size : Int) + (s1.size : Int) := IntWalk.i64_in _ (by omega)
    go_upto_region 4 with fail
    go_region
    have HFd : Hid (FP nob w wo.drew) := Lib.hid (FP.trans (S := nob) hF.out (FP.ofSame (same_drewN wo 1)) (fun _ x => False.elim x))
    by_cases hlen : (3000 : Int) < (s0.size : Int) + (s1.size : Int)
    ·go_wp2_with fail
     go_roundg (7 - (k + 1) + 1)
     case measure => omega
     case rel => exact ⟨k + 1, k, rfl, Lib.hid rfl, by omega, by omega, hn, HFd⟩
    ·go_wp2_with fail
     refine (HP.out _ HFd.out s0).mono ?_
     rintro e w1 ⟨v1, n1, c1, rfl, hr1⟩
     have HR1 := Lib.hid hr1
     have f1 := FP.trans (S := nob) HFd.out hr1.1 (fun _ x => False.elim x)
     have x0' := f1.cell (HX0.out)
     have x1' := f1.cell (HX1.out)
     have HF1 := Lib.hid f1
     clear hr1 f1
     go_wp2_with fail
     refine (HP.out _ HF1.out s1).mono ?_
     rintro e w2 ⟨v2, n2, c2, rfl, hr2⟩
     have HR2 := Lib.hid hr2
     have f2 := FP.trans (S := nob) HF1.out hr2.1 (fun _ x => False.elim x)
     have x0'' := f2.cell (HX0.out)
     have x1'' := f2.cell (HX1.out)
     have HF2 := Lib.hid f2
     clear hr2 f2 x0 x1 x0' x1'
     have hqd : ∀ s : ByteArray, Calls Tryz.prog 14 #[.string s] w2.drew (fun e w' => (∃ v n c, e = .returned (.tuple #[v, .int .i64 n, .int .i64 c]) ∧ PRes w2.drew s.data.toList w' v n c) ∧ w'.cell? ⟨g, off + q, none⟩ = some (.string s0) ∧ w'.cell? ⟨g, off + k, none⟩ = some (.string s1)) := fun s =>
      (HP.out w2.drew (FP.trans (S := nob) HF2.out (FP.ofSame (same_drewN w2 1)) (fun _ x => False.elim x)) s).mono (fun e w' h => ⟨h, by
       obtain ⟨_, _, _, _, hp⟩ := h
       exact ⟨(FP.trans (S := nob) (FP.ofSame (same_drewN w2 1)) hp.1 (fun _ x => False.elim x)).cell x0'', (FP.trans (S := nob) (FP.ofSame (same_drewN w2 1)) hp.1 (fun _ x => False.elim x)).cell x1''⟩⟩)
     have HQD := Lib.hid hqd
     clear hqd
     have hz0 : s0.size ≤ 3000 := by omega
     have hz1 : s1.size ≤ 3000 := by omega
     have hcat1 : ¬ 9223372036854775807 < s0.size + 1 := by omega
     have hcat2 : ¬ 9223372036854775807 < s0.size + 1 + s1.size := by omega
     go_upto_region 7 with fail
     go_region_held3 (fun w' => w'.cell? ⟨g, off + q, none⟩ = some (.string s0) ∧ w'.cell? ⟨g, off + k, none⟩ = some (.string s1)) (go_keep) ((go_at_call 14; refine (HQD.out _).mono ?_; rintro e w3 ⟨⟨v3, n3, c3, rfl, hr3⟩, y0, y1⟩))
     have fw : FP nob w2 w3 := FP.trans (S := nob) (FP.ofSame (same_drewN w2 1)) hr3.1 (fun _ x => False.elim x)
     have HF3 : Hid (FP nob w w3) := Lib.hid (FP.trans (S := nob) HF2.out fw (fun _ x => False.elim x))
     have HFW := Lib.hid fw
     have HR3 := Lib.hid hr3
     clear hr3 fw x0'' x1''
     by_cases hc1 : c1 = 0
     ·obtain ⟨o1, p1, _, g1⟩ := HR1.out.got hc1
      subst hc1
      by_cases hc2 : c2 = 0
      ·obtain ⟨o2, p2, _, g2⟩ := HR2.out.got hc2
       subst hc2
       have p3 := parseA_both p1 p2 (by show s0.size + s1.size ≤ 3000; omega)
       rw [← cat_list] at p3
       obtain ⟨rfl, _, g3⟩ := HR3.out.det_ok p3
       have HG1 := Lib.hid ((g1.far HR2.out.1).far HFW.out)
       have HG2 := Lib.hid (g2.far HFW.out)
       have HG3 := Lib.hid g3
       clear g1 g2 g3
       have l1 : o1.length ≤ 3001 := Nat.le_trans (parseS_len (parseA_ok p1)) (by show s0.size + 1 ≤ 3001; omega)
       have l2 : o2.length ≤ 3001 := Nat.le_trans (parseS_len (parseA_ok p2)) (by show s1.size + 1 ≤ 3001; omega)
       obtain ⟨bs1, xs1, own1, rd1⟩ := HG1.out
       obtain ⟨bs2, xs2, own2, rd2⟩ := HG2.out
       have HO1 := Lib.hid own1
       have HO2 := Lib.hid own2
       have HD1 := Lib.hid rd1
       have HD2 := Lib.hid rd2
       obtain ⟨m1, hm1⟩ : ∃ m, o1.length = m := ⟨_, rfl⟩
       obtain ⟨m2, hm2⟩ : ∃ m, o2.length = m := ⟨_, rfl⟩
       have HM1 := Lib.hid hm1
       have HM2 := Lib.hid hm2
       rw [hm1] at l1
       rw [hm2] at l2
       clear own1 own2 rd1 rd2 hm1 hm2
       go_wp2_with (at_builtin; refine wpList_append_row rfl (.tmp 94) (.tmp 95) rfl w3.heap.size (.slice none 0 0) 0 m1 [] rfl (World.ownsRow_nil _ _ _ _) v1 rfl bs1 xs1 (by rw [← HM1.out]; exact HO1.out) (rd_one HD1.out) (by omega) (Nat.le_refl _) ?_)
       intro vb w4 b1 b3
       have f4 : FP nob w3 w4 := FP.grown (FP.refl nob w3) b3 (fun k hk => by simp [Value.ownBlock] at hk)
       have HB1 := Lib.hid b1
       have HO2' := Lib.hid (own_far HO2.out f4)
       have HF4 := Lib.hid f4
       clear b1 b3 f4
       go_wp2_with (at_builtin; refine wpList_append_row rfl (.tmp 96) (.tmp 97) rfl w3.heap.size vb m1 m2 xs1 rfl HB1.out v2 rfl bs2 xs2 (by rw [← HM2.out]; exact HO2'.out) (rd_one HD2.out) (by omega) HF4.out.size ?_)
       intro vc w5 b1 b3
       have f5 : FP nob w3 w5 := FP.grown HF4.out b3 (fun k hk => Or.inr (HB1.out.lt k hk).1)
       have HB := Lib.hid (show Got w5 vc (o1 ++ o2) from ⟨_, _, by rw [List.length_append, HM1.out, HM2.out]; exact b1, (rd_far HD1.out f5).append (rd_far HD2.out f5)⟩)
       have HF5 : Hid (FP nob w w5) := Lib.hid (FP.trans (S := nob) HF3.out f5 (fun _ x => False.elim x))
       have HG1' := Lib.hid (HG1.out.far f5)
       have HG3' := Lib.hid (HG3.out.far f5)
       have x0 := f5.cell y0
       clear b1 b3 f5 y1 y0
       have hcat3 : ¬ 9223372036854775807 < 6 + s0.size := by omega
       have hcat4 : ¬ 9223372036854775807 < 6 + s0.size + 4 := by omega
       go_wp2_with fail
       refine (HP.out w5 HF5.out _).mono ?_
       rintro e w6 ⟨v4, n4, c4, rfl, hr4⟩
       have p4 := parseA_around p1 (by show s0.size ≤ 3000; omega)
       rw [← around_list] at p4
       obtain ⟨rfl, _, g4⟩ := hr4.det_ok p4
       have HF6 : Hid (FP nob w w6) := Lib.hid (FP.trans (S := nob) HF5.out hr4.1 (fun _ x => False.elim x))
       have s1' := parseS_sh (parseA_ok p1)
       have s2' := parseS_sh (parseA_ok p2)
       have HE := Lib.hid ((HG3'.out.far hr4.1).eq (HB.out.far hr4.1) (fun o ho => (List.mem_append.1 ho).elim (s1' o) (s2' o)) (by rw [List.length_append, HM1.out, HM2.out]; omega))
       have HE2 := Lib.hid (fun (W : World) (hW : FP nob w6 W) => (g4.far hW).eq ((HG1'.out.far hr4.1).far hW) s1' (by rw [HM1.out]; omega))
       clear hr4 g4 p4 s1' s2' p1 p2 p3 x0
       go_wp2_with fail
       refine HE.out.mono ?_
       rintro e w7 ⟨rfl, f7⟩
       have HF7 : Hid (FP nob w w7) := Lib.hid (FP.trans (S := nob) HF6.out f7 (fun _ x => False.elim x))
       have HE3 := Lib.hid (HE2.out w7 f7)
       clear f7
       go_wp2_with fail
       refine HE3.out.mono ?_
       rintro e w8 ⟨rfl, f8⟩
       have HF8 : Hid (FP nob w w8) := Lib.hid (FP.trans (S := nob) HF7.out f8 (fun _ x => False.elim x))
       clear f8
       go_wp2_with fail
       go_roundg (7 - (k + 1) + 1)
       case measure => omega
       case rel => exact ⟨k + 1, k, rfl, Lib.hid rfl, by omega, by omega, hn, HF8⟩
      ·obtain ⟨j, p2, rfl⟩ := HR2.out.bad hc2
       have p3 := parseA_bad p1 p2 (by show s0.size + s1.size ≤ 3000; omega)
       have hj := parseA_line p2
       have hjl : linesN s0.data.toList ≤ 3001 := linesN_le (by show s0.size ≤ 3000; omega)
       rw [← cat_list] at p3
       obtain ⟨rfl, rfl⟩ := HR3.out.det_err p3
       obtain ⟨L, hL⟩ : ∃ L, linesN s0.data.toList = L := ⟨_, rfl⟩
       rw [hL] at hjl
       have HLN := Lib.hid hL
       have hj3 : j ≤ 3001 := Nat.le_trans hj (by show s1.size + 1 ≤ 3001; omega)
       have hwj : IntKind.i64.wrap ((j : Int) + (L : Int)) = (j : Int) + (L : Int) := IntWalk.i64_in _ (by omega)
       clear hL hj p1 p2 p3
       rw [HLN.out]
       go_wp2_with fail
       refine (HN.out w3 s0 (by omega)).mono ?_
       rintro e w4 ⟨rfl, rfl⟩
       rw [HLN.out]
       go_wp2_with fail
       go_roundg (7 - (k + 1) + 1)
       case measure => omega
       case rel => exact ⟨k + 1, k, rfl, Lib.hid rfl, by omega, by omega, hn, HF3⟩
     ·go_wp2_with fail
      go_roundg (7 - (k + 1) + 1)
      case measure => omega
      case rel => exact ⟨k + 1, k, rfl, Lib.hid rfl, by omega, by omega, hn, HF3⟩
   ·have h6' : ¬ (k : Int) < 6 := by omega
    have hi1 : (k : Int) < (n : Int) := by omega
    go_wp2_with fail
    refine (HK.out wo hF.out).mono ?_
    rintro e w9 ⟨rfl, f9⟩
    have HF9 : Hid (FP nob w w9) := Lib.hid (FP.trans (S := nob) hF.out f9 (fun _ x => False.elim x))
    go_wp2_with fail
    exact bodyPost_ret (v := .bool true) (by simp [results, Tryz.results5]) rfl (And.intro rfl HF9.out)
  ·have hi1 : ¬ (k : Int) < (n : Int) := by omega
   go_wp2_with fail
   refine (HK.out wo hF.out).mono ?_
   rintro e w9 ⟨rfl, f9⟩
   have HF9 : Hid (FP nob w w9) := Lib.hid (FP.trans (S := nob) hF.out f9 (fun _ x => False.elim x))
   go_wp2_with fail
   exact bodyPost_ret (v := .bool true) (by simp [results, Tryz.results5]) rfl (And.intro rfl HF9.out)
end Go.Proofs.YtnpkdiffpgcbhaaGreatDoor
