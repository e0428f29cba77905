/- Deep, Same of any values, walked. Conditions: each theorem's own. -/
import Derived.Test.YtnpkdiffpgcbhaaGreatDoorC2
import Derived.Test.YtnpkdiffpgcbhaaGreatDoorS07
import Derived.Test.YtnpkdiffpgcbhaaGreatDoorS48
set_option maxRecDepth 100000
set_option maxHeartbeats 6400000
namespace Go.Proofs.YtnpkdiffpgcbhaaGreatDoor
open Go.RowKit
attribute [local go_sem] Oper.semAt_some
def deepG (n : Nat) : GV → Bool
 | .mk _ _ _ _ l => decide (n ≤ 30) && l.attach.all fun x => deepG (n + 1) x.1
decreasing_by
 simp_wf
 have := List.sizeOf_lt_of_mem x.2
 omega
theorem deepG_mk (n : Nat) (k : Int) (b : Bool) (i : Int) (t : Bs) (l : List GV) : deepG n (.mk k b i t l) = (decide (n ≤ 30) && l.all (deepG (n + 1))) := by
 rw [deepG]
 congr 1
 rw [Bool.eq_iff_iff, List.all_eq_true, List.all_eq_true]
 exact ⟨fun h x hx => h ⟨x, hx⟩ (List.mem_attach _ _), fun h x _ => h x.1 x.2⟩
theorem deepG_ok {d : Nat} {v : GV} (h : OkV d v) : ∀ n, n + d ≤ 30 → deepG n v = true := by
 induction h with
 | null d => intro n hn; rw [nullV, deepG_mk]; simp; omega
 | bool d b => intro n hn; rw [boolV, deepG_mk]; simp; omega
 | nat d n h => intro n hn; rw [intV, deepG_mk]; simp; omega
 | neg d n h => intro n hn; rw [intV, deepG_mk]; simp; omega
 | text d t h => intro n hn; rw [textV, deepG_mk]; simp; omega
 | fact d n h => intro n hn; rw [factV, deepG_mk]; simp; omega
 | list d l h hl ih =>
  intro n hn
  rw [listV, deepG_mk, Bool.and_eq_true, List.all_eq_true]
  exact ⟨by simp; omega, fun v hv => ih v hv (n + 1) (by omega)⟩
def DepC (c : List Value) (n : Nat) (v : GV) (w : World) : Prop := Calls Tryz.prog 22 #[.agg c.toArray, .int .i64 (n : Nat)] w fun e w' => e = .returned (.bool (deepG n v)) ∧ FP nob w w'
theorem deep_no {w : World} {k i : Int} {b : Bool} {t : ByteArray} {sl : Value} {l : List GV} {d : Nat} (h : 30 < d) (hd : d ≤ 1000) : DepC [.int .i64 k, .bool b, .int .i64 i, .string t, sl] d (.mk k b i t.data.toList l) w := by
 unfold DepC
 rw [deepG_mk, show decide (d ≤ 30) = false by simp; omega]
 have hi : (30 : Int) < (d : Int) := by omega
 go_enter Tryz.func22, Tryz.ntmps22
 go_wp2_with fail
 exact bodyPost_ret (v := .bool false) (by simp [results, Tryz.results22]) rfl ⟨rfl, (FP.refl nob w).alloc _⟩
theorem deep_step {w : World} {F : Nat → Prop} {k i : Int} {b : Bool} {t : ByteArray} {sl : Value} {xs : List Value} {l : List GV} {d : Nat} (hs : SliceAt w F sl l.length (l.length * 5) xs) (hl : RdVs w F xs l) (hn : l.length ≤ 4096) (hd : d ≤ 30)
  (ih : ∀ v ∈ l, ∀ W c, RdV W F c v → FP nob w W → DepC c (d + 1) v W) : DepC [.int .i64 k, .bool b, .int .i64 i, .string t, sl] d (.mk k b i t.data.toList l) w := by
 obtain ⟨a0, cap0, rfl⟩ := hs.shape
 obtain ⟨n, hnn⟩ : ∃ n, l.length = n := ⟨_, rfl⟩
 rw [hnn] at hs hn ⊢
 have HS := Lib.hid hs
 have HL := Lib.hid hl
 have HI := Lib.hid ih
 have HN := Lib.hid hnn
 have hD : deepG d (.mk k b i t.data.toList l) = l.all (deepG (d + 1)) := by rw [deepG_mk, show decide (d ≤ 30) = true by simp; omega, Bool.true_and]
 clear hs hl ih hnn
 have hi : ¬ (30 : Int) < (d : Int) := by omega
 have hwd : IntKind.i64.wrap ((d : Int) + 1) = (d : Int) + 1 := IntWalk.i64_in _ (by omega)
 unfold DepC at *
 rw [hD]
 clear hD
 go_enter Tryz.func22, Tryz.ntmps22
 go_wp2_with fail
 go_loopg [12] (n + 1) (fun m i wr => ∃ (q : Nat), i = .int .i64 (q : Nat) ∧ q ≤ n ∧ n - q < m ∧ n ≤ 4096 ∧ Hid ((l.take q).all (deepG (d + 1)) = true) ∧ Hid (FP nob w wr))
 case atStart => exact ⟨0, rfl, Nat.zero_le _, by omega, hn, Lib.hid (by simp), Lib.hid ((FP.refl nob w).alloc _)⟩
 case round =>
  obtain ⟨q, rfl, hk, hm, hn, HA, HF⟩ := hrel
  by_cases hlt : q < n
  ·have hi0 : (0 : Int) ≤ (q : Int) := by omega
   have hi1 : (q : Int) < (n : Int) := by omega
   have hw1 : IntKind.i64.wrap ((q : Int) + 1) = (q : Int) + 1 := IntWalk.i64_in _ (by omega)
   have hfr : ∀ b, b < w.heap.size → wr.heap[b]? = w.heap[b]? := fun b hl => HF.out.blk b hl (fun x => x.elim)
   obtain ⟨g0, o0, cp0, he0, hle0, _, _, hc0⟩ := (HS.out.frame (fun g _ hl => hfr g hl)).cell (by omega)
   cases he0
   have hv : l[q]? = some (l[q]'(by rw [HN.out]; exact hlt)) := List.getElem?_eq_getElem _
   have hmem : l[q]'(by rw [HN.out]; exact hlt) ∈ l := List.getElem_mem _
   generalize l[q]'(by rw [HN.out]; exact hlt) = v1 at hv hmem
   obtain ⟨c, hrc, hxc⟩ := (HL.out.frame (fun g _ hl => hfr g hl)).get hv
   obtain ⟨kk, bb, ii, tt, e0, l0, z0, rfl⟩ := rdv_shape hrc
   have hq := HI.out v1 hmem (wr.alloc (.cells #[.int .i64 kk, .bool bb, .int .i64 ii, .string tt, .slice e0 l0 z0] 52)) _ (hrc.frame (fun g _ hl => heap_alloc_ne (by omega))) (HF.out.alloc _)
   rw [show ((d + 1 : Nat) : Int) = (d : Int) + 1 by omega] at hq
   have HQ := Lib.hid hq
   have x0 : wr.cell? ⟨g0, o0 + q * 5, none⟩ = some (.int .i64 kk) := by rw [show o0 + q * 5 = o0 + (q * 5 + 0) from rfl]; exact hc0 _ _ (hxc 0 (by omega))
   have x1 : wr.cell? ⟨g0, o0 + q * 5 + 1, none⟩ = some (.bool bb) := by rw [Nat.add_assoc]; exact hc0 _ _ (hxc 1 (by omega))
   have x2 : wr.cell? ⟨g0, o0 + q * 5 + 2, none⟩ = some (.int .i64 ii) := by rw [Nat.add_assoc]; exact hc0 _ _ (hxc 2 (by omega))
   have x3 : wr.cell? ⟨g0, o0 + q * 5 + 3, none⟩ = some (.string tt) := by rw [Nat.add_assoc]; exact hc0 _ _ (hxc 3 (by omega))
   have x4 : wr.cell? ⟨g0, o0 + q * 5 + 4, none⟩ = some (.slice e0 l0 z0) := by rw [Nat.add_assoc]; exact hc0 _ _ (hxc 4 (by omega))
   have HV := Lib.hid hv
   have HM := Lib.hid hmem
   clear hc0 hxc hrc hv hmem hfr hq
   go_wp2_with fail
   refine HQ.out.mono ?_
   rintro e w2 ⟨rfl, f2⟩
   have HF2 : Hid (FP nob w w2) := Lib.hid (FP.trans (S := nob) (HF.out.alloc _) f2 (fun _ x => x.elim))
   clear f2
   obtain ⟨r, hr⟩ : ∃ r, deepG (d + 1) v1 = r := ⟨_, rfl⟩
   rw [hr]
   have HR := Lib.hid hr
   clear hr
   cases r with
   | true =>
    go_wp2_with fail
    go_roundg (n - (q + 1) + 1)
    case measure => omega
    case rel => exact ⟨q + 1, rfl, by omega, by omega, hn, Lib.hid (by rw [List.take_add_one, HV.out, List.all_append, HA.out]; simp [HR.out]), HF2⟩
   | false =>
    go_wp2_with fail
    refine bodyPost_ret (v := .bool false) (by simp [results, Tryz.results22]) rfl ⟨?_, HF2.out⟩
    have : l.all (deepG (d + 1)) = false := by
     rw [List.all_eq_false]
     exact ⟨v1, HM.out, by rw [HR.out]; decide⟩
    rw [this]
  ·have hi1 : ¬ (q : Int) < (n : Int) := by omega
   have hke : q = n := by omega
   have hall : l.all (deepG (d + 1)) = true := by
    have := HA.out
    rwa [hke, ← HN.out, List.take_length] at this
   have HALL := Lib.hid hall
   clear hke hall
   go_wp2_with fail
   refine bodyPost_ret (v := .bool true) (by simp [results, Tryz.results22]) rfl ⟨by rw [HALL.out], HF.out⟩
theorem deep_any (v : GV) : Sh v → ∀ (d : Nat) (w : World) (F : Nat → Prop) (c : List Value), d ≤ 31 → RdV w F c v → DepC c d v w := by
 induction v using GV.ind with
 | h k b i t l ih =>
  intro hsh d w F c hd h
  have hl4 : l.length ≤ 4096 := by cases hsh; assumption
  have hsh' : ∀ x ∈ l, Sh x := by cases hsh; assumption
  cases h with
  | mk k b i t sl xs l hs hl =>
   by_cases h30 : d ≤ 30
   ·exact deep_step hs hl hl4 h30 (fun v hv W c hr _ => ih v hv (hsh' v hv) (d + 1) W F c (by omega) hr)
   ·exact deep_no (by omega) (by omega)
end Go.Proofs.YtnpkdiffpgcbhaaGreatDoor
namespace Go.Proofs.YtnpkdiffpgcbhaaGreatDoor
open Go.RowKit
attribute [local go_sem] Oper.semAt_some
theorem vsame_step {w : World} {k i : Int} {b : Bool} {t : ByteArray} {s0 s1 : Value} (h : ∀ W, FP nob w W → YesC 93 #[s0, s1, .func (.func 59) #[] #[]] W) : YesC 59 #[.agg #[.int .i64 k, .bool b, .int .i64 i, .string t, s0], .agg #[.int .i64 k, .bool b, .int .i64 i, .string t, s1]] w := by
 have HC := Lib.hid h
 clear h
 unfold YesC at *
 go_enter Tryz.func59, Tryz.ntmps59
 go_wp2_with fail
 refine (HC.out _ (((FP.refl _ w).alloc _).alloc _)).mono ?_
 rintro e w1 ⟨rfl, hf⟩
 have HF := Lib.hid (FP.trans (S := nob) (((FP.refl nob w).alloc _).alloc _) hf (fun _ x => x.elim))
 clear hf
 go_wp2_with fail
 exact bodyPost_ret (v := .bool true) (by simp [results, Tryz.results59]) rfl (And.intro rfl HF.out)
theorem eqf_step {w : World} {F F' : Nat → Prop} {s0 s1 : Value} {l : List GV} {xs ys : List Value} (h0 : SliceAt w F s0 l.length (l.length * 5) xs) (h1 : RdVs w F xs l) (h2 : SliceAt w F' s1 l.length (l.length * 5) ys) (h3 : RdVs w F' ys l)
  (hnb : l.length < 4611686018427387904) (h : ∀ v ∈ l, ∀ W c c', RdV W F c v → RdV W F' c' v → YesC 59 #[.agg c.toArray, .agg c'.toArray] W) : YesC 93 #[s0, s1, .func (.func 59) #[] #[]] w := by
 obtain ⟨a0, cap0, rfl⟩ : ∃ a0 cap0, s0 = .slice a0 l.length cap0 := by obtain ⟨_, a, c, e, _⟩ := h0; exact ⟨a, c, e⟩
 obtain ⟨a1, cap1, rfl⟩ : ∃ a1 cap1, s1 = .slice a1 l.length cap1 := by obtain ⟨_, a, c, e, _⟩ := h2; exact ⟨a, c, e⟩
 obtain ⟨n, hn⟩ : ∃ n, l.length = n := ⟨_, rfl⟩
 rw [hn] at h0 h2 hnb ⊢
 have HC := Lib.hid h
 have H0 := Lib.hid h0
 have H1 := Lib.hid h1
 have H2 := Lib.hid h2
 have H3 := Lib.hid h3
 have HN := Lib.hid hn
 clear h h0 h1 h2 h3 hn
 unfold YesC at *
 go_enter Tryz.func93, Tryz.ntmps93
 go_wp2_with fail
 go_loopg [17] (n + 1) (fun m i wr => ∃ k : Nat, i = .int .i64 (k : Nat) ∧ k ≤ n ∧ n - k < m ∧ n < 4611686018427387904 ∧ Hid (FP nob w wr))
 case atStart => exact ⟨0, rfl, Nat.zero_le _, by omega, hnb, Lib.hid (FP.refl _ _)⟩
 case round =>
  obtain ⟨k, rfl, hk, hm, hnb, hF⟩ := hrel
  by_cases hlt : k < n
  ·have hi0 : (0 : Int) ≤ (k : Int) := by omega
   have hi1 : (k : Int) < (n : Int) := by omega
   have hw1 : IntKind.i64.wrap ((k : Int) + 1) = (k : Int) + 1 := IntWalk.i64_in _ (by omega)
   have hn0 : n ≠ 0 := by omega
   have hfr : ∀ b, b < w.heap.size → wr.heap[b]? = w.heap[b]? := fun b hl => hF.out.blk b hl (fun x => x.elim)
   obtain ⟨g0, o0, cp0, he0, hle0, _, _, hc0⟩ := (H0.out.frame (fun g _ hl => hfr g hl)).cell hn0
   obtain ⟨g1, o1, cp1, he1, hle1, _, _, hc1⟩ := (H2.out.frame (fun g _ hl => hfr g hl)).cell hn0
   cases he0
   cases he1
   have hv : l[k]? = some (l[k]'(by rw [HN.out]; exact hlt)) := List.getElem?_eq_getElem _
   have hmem : l[k]'(by rw [HN.out]; exact hlt) ∈ l := List.getElem_mem _
   generalize l[k]'(by rw [HN.out]; exact hlt) = v at hv hmem
   obtain ⟨c, hrc, hxc⟩ := (H1.out.frame (fun g _ hl => hfr g hl)).get hv
   obtain ⟨c', hrc', hyc⟩ := (H3.out.frame (fun g _ hl => hfr g hl)).get hv
   have HQ := Lib.hid (fun (W : World) (hW : FP nob wr W) => HC.out v hmem W c c' (hrc.frame (fun g _ hl => hW.blk g hl (fun x => x.elim))) (hrc'.frame (fun g _ hl => hW.blk g hl (fun x => x.elim))))
   obtain ⟨kk, b, i, t, b0, n0, q0, b1, n1, q1, rfl, rfl⟩ := hrc.two hrc'
   have x0 : wr.cell? ⟨g0, o0 + k * 5, none⟩ = some (.int .i64 kk) := by rw [show o0 + k * 5 = o0 + (k * 5 + 0) from rfl]; exact hc0 _ _ (hxc 0 (by omega))
   have y0 : wr.cell? ⟨g1, o1 + k * 5, none⟩ = some (.int .i64 kk) := by rw [show o1 + k * 5 = o1 + (k * 5 + 0) from rfl]; exact hc1 _ _ (hyc 0 (by omega))
   have x1 : wr.cell? ⟨g0, o0 + k * 5 + 1, none⟩ = some (.bool b) := by rw [Nat.add_assoc]; exact hc0 _ _ (hxc 1 (by omega))
   have y1 : wr.cell? ⟨g1, o1 + k * 5 + 1, none⟩ = some (.bool b) := by rw [Nat.add_assoc]; exact hc1 _ _ (hyc 1 (by omega))
   have x2 : wr.cell? ⟨g0, o0 + k * 5 + 2, none⟩ = some (.int .i64 i) := by rw [Nat.add_assoc]; exact hc0 _ _ (hxc 2 (by omega))
   have y2 : wr.cell? ⟨g1, o1 + k * 5 + 2, none⟩ = some (.int .i64 i) := by rw [Nat.add_assoc]; exact hc1 _ _ (hyc 2 (by omega))
   have x3 : wr.cell? ⟨g0, o0 + k * 5 + 3, none⟩ = some (.string t) := by rw [Nat.add_assoc]; exact hc0 _ _ (hxc 3 (by omega))
   have y3 : wr.cell? ⟨g1, o1 + k * 5 + 3, none⟩ = some (.string t) := by rw [Nat.add_assoc]; exact hc1 _ _ (hyc 3 (by omega))
   have x4 : wr.cell? ⟨g0, o0 + k * 5 + 4, none⟩ = some (.slice b0 n0 q0) := by rw [Nat.add_assoc]; exact hc0 _ _ (hxc 4 (by omega))
   have y4 : wr.cell? ⟨g1, o1 + k * 5 + 4, none⟩ = some (.slice b1 n1 q1) := by rw [Nat.add_assoc]; exact hc1 _ _ (hyc 4 (by omega))
   clear hc0 hc1 hxc hyc hrc hrc' hv hmem hfr
   go_wp2_with fail
   refine (HQ.out _ (by first | exact FP.refl nob wr | exact (FP.refl nob wr).alloc _ | exact ((FP.refl nob wr).alloc _).alloc _)).mono ?_
   rintro e w2 ⟨rfl, hf⟩
   have HF2 : Hid (FP nob w w2) := Lib.hid (FP.trans (S := nob) (FP.trans (S := nob) hF.out (by first | exact FP.refl nob wr | exact (FP.refl nob wr).alloc _ | exact ((FP.refl nob wr).alloc _).alloc _) (fun _ x => False.elim x)) hf (fun _ x => False.elim x))
   clear hf
   go_wp2_with fail
   go_roundg (n - (k + 1) + 1)
   case measure => omega
   case rel => exact ⟨k + 1, rfl, by omega, by omega, hnb, HF2⟩
  ·have hi1 : ¬ (k : Int) < (n : Int) := by omega
   go_wp2_with fail
   exact bodyPost_ret (v := .bool true) (by simp [results, Tryz.results93]) rfl (And.intro rfl hF.out)
theorem vsame_any (v : GV) : Sh v → ∀ (w : World) (F F' : Nat → Prop) (c c' : List Value), RdV w F c v → RdV w F' c' v → YesC 59 #[.agg c.toArray, .agg c'.toArray] w := by
 induction v using GV.ind with
 | h k b i t l ih =>
  intro hsh w F F' c c' h h'
  have hl4 : l.length ≤ 4096 := by cases hsh; assumption
  have hsh' : ∀ x ∈ l, Sh x := by cases hsh; assumption
  cases h with
  | mk k b i t sl xs l hs hl =>
   generalize hv : GV.mk k b i t.data.toList l = v at h'
   cases h' with
   | mk k' b' i' t' sl' xs' l' hs' hl' =>
    injection hv with e1 e2 e3 e4 e5
    have := data_inj e4
    subst e1 e2 e3 e5 this
    refine vsame_step (fun W hW => ?_)
    have hfr : ∀ (G : Nat → Prop) g, G g → g < w.heap.size → W.heap[g]? = w.heap[g]? := fun _ g _ hl => hW.blk g hl (fun x => x.elim)
    exact eqf_step (hs.frame (hfr F)) (hl.frame (hfr F)) (hs'.frame (hfr F')) (hl'.frame (hfr F')) (by omega) (fun v hv W c c' h h' => ih v hv (hsh' v hv) W F F' c c' h h')
end Go.Proofs.YtnpkdiffpgcbhaaGreatDoor
namespace Go.Proofs.YtnpkdiffpgcbhaaGreatDoor
open Go.RowKit
attribute [local go_sem] Oper.semAt_some
theorem same_ops {w : World} {F F' : Nat → Prop} {c c' : List Value} {o : OpV} (h : RdOp w F c o) (h' : RdOp w F' c' o) (hsh : ShOp o) : YesC 27 #[.agg c.toArray, .agg c'.toArray] w := by
 have HSO := Lib.hid hsh
 obtain ⟨kd, cl, hd, tx, on, nn, b0, p0, d0, q0, b1, p1, d1, q1, us, vs, us', vs', rfl, rfl, OA, OB⟩ := h.two h'
 have HOA := Lib.hid OA
 have HOB := Lib.hid OB
 clear h h' OA OB hsh
 obtain ⟨ns, hns⟩ : ∃ ns, o.set.length = ns := ⟨_, rfl⟩
 obtain ⟨na, hna⟩ : ∃ na, o.args.length = na := ⟨_, rfl⟩
 rw [hns, hna]
 have hls : ns ≤ 5000 := hns ▸ HSO.out.set.1
 have hla : na ≤ 5000 := hna ▸ HSO.out.args.1
 have HNS := Lib.hid hns
 have HNA := Lib.hid hna
 clear hns hna
 unfold YesC at *
 go_enter Tryz.func27, Tryz.ntmps27
 go_wp2_with fail
 go_loopg [68] (ns + 1) (fun m i wr => ∃ j : Nat, i = .int .i64 (j : Nat) ∧ j ≤ ns ∧ ns - j < m ∧ Hid (FP nob w wr) ∧ Hid (wr.cell? ⟨w.heap.size, 2, none⟩ = some (.slice b0 ns p0) ∧ wr.cell? ⟨w.heap.size + 1, 2, none⟩ = some (.slice b1 ns p1) ∧ wr.cell? ⟨w.heap.size, 7, none⟩ = some (.slice d0 na q0) ∧ wr.cell? ⟨w.heap.size + 1, 7, none⟩ = some (.slice d1 na q1)))
 case atStart =>
  exact ⟨0, rfl, Nat.zero_le _, by omega, Lib.hid (((FP.refl nob w).alloc _).alloc _), Lib.hid ⟨(box_cells _ _ _ _ _ _).1, (box_cells _ _ _ _ _ _).2, (box_cells _ _ _ _ _ _).1, (box_cells _ _ _ _ _ _).2⟩⟩
 case round =>
  obtain ⟨j, rfl, hj, hjm, hF1, HBX⟩ := hrel
  by_cases hjl : j < ns
  ·have hji0 : (0 : Int) ≤ (j : Int) := by omega
   have hji1 : (j : Int) < (ns : Int) := by omega
   have hjw : IntKind.i64.wrap ((j : Int) + 1) = (j : Int) + 1 := IntWalk.i64_in _ (by omega)
   have hfr : ∀ b, b < w.heap.size → wr.heap[b]? = w.heap[b]? := fun b hl => hF1.out.blk b hl (fun x => x.elim)
   obtain ⟨g2, r2, g3, r3, f, e, e', pp, hpm, rfl, hle2, rfl, hle3, R0, R1, u0, v0, hu, hv⟩ := (HOA.out.frame hfr).field (HOB.out.frame hfr) (i := j) (by rw [HNS.out]; exact hjl)
   have HQ := Lib.hid (fun (W : World) (hW : FP nob wr W) => vsame_any pp.2 (HSO.out.set.2 pp hpm) W _ _ e e' (R0.frame (fun g _ hl => hW.blk g hl (fun x => x.elim))) (R1.frame (fun g _ hl => hW.blk g hl (fun x => x.elim))))
   obtain ⟨kk, bb, ii, t, e0, l0, z0, e1, l1, z1, rfl, rfl⟩ := R0.two R1
   rw [HNS.out] at hle2 hle3
   obtain ⟨zx, zy, zx7, zy7⟩ := HBX.out
   have u1 := hu 0 _ rfl
   have v1 := hv 0 _ rfl
   have u2 := hu 1 _ rfl
   have v2 := hv 1 _ rfl
   have u3 := hu 2 _ rfl
   have v3 := hv 2 _ rfl
   have u4 := hu 3 _ rfl
   have v4 := hv 3 _ rfl
   have u5 := hu 4 _ rfl
   have v5 := hv 4 _ rfl
   clear hu hv R0 R1 hfr hpm
   have hqd : Calls Tryz.prog 59 #[.agg #[.int .i64 kk, .bool bb, .int .i64 ii, .string t, .slice e0 l0 z0], .agg #[.int .i64 kk, .bool bb, .int .i64 ii, .string t, .slice e1 l1 z1]] wr.drew (fun e w' => e = .returned (.bool true) ∧ FP nob wr.drew w' ∧ w'.cell? ⟨w.heap.size, 2, none⟩ = some (.slice (some ⟨g2, r2, none⟩) ns p0) ∧ w'.cell? ⟨w.heap.size + 1, 2, none⟩ = some (.slice (some ⟨g3, r3, none⟩) ns p1) ∧ w'.cell? ⟨g2, r2 + j * 6, none⟩ = some (.string f) ∧ w'.cell? ⟨g2, r2 + j * 6 + 1, none⟩ = some (.int .i64 kk) ∧ w'.cell? ⟨g2, r2 + j * 6 + 1 + 1, none⟩ = some (.bool bb) ∧ w'.cell? ⟨g2, r2 + j * 6 + 1 + 2, none⟩ = some (.int .i64 ii) ∧ w'.cell? ⟨g2, r2 + j * 6 + 1 + 3, none⟩ = some (.string t) ∧ w'.cell? ⟨g2, r2 + j * 6 + 1 + 4, none⟩ = some (.slice e0 l0 z0) ∧ w'.cell? ⟨g3, r3 + j * 6, none⟩ = some (.string f) ∧ w'.cell? ⟨g3, r3 + j * 6 + 1, none⟩ = some (.int .i64 kk) ∧ w'.cell? ⟨g3, r3 + j * 6 + 1 + 1, none⟩ = some (.bool bb) ∧ w'.cell? ⟨g3, r3 + j * 6 + 1 + 2, none⟩ = some (.int .i64 ii) ∧ w'.cell? ⟨g3, r3 + j * 6 + 1 + 3, none⟩ = some (.string t) ∧ w'.cell? ⟨g3, r3 + j * 6 + 1 + 4, none⟩ = some (.slice e1 l1 z1)) := (HQ.out wr.drew (FP.ofSame (same_drewN wr 1))).mono (fun e w' h => ⟨h.1, h.2, h.2.cell zx, h.2.cell zy, h.2.cell u0, h.2.cell u1, h.2.cell u2, h.2.cell u3, h.2.cell u4, h.2.cell u5, h.2.cell v0, h.2.cell v1, h.2.cell v2, h.2.cell v3, h.2.cell v4, h.2.cell v5⟩)
   have HQD := Lib.hid hqd
   clear hqd
   go_upto_region 6 with fail
   go_region_held3 (fun w' => w'.cell? ⟨w.heap.size, 2, none⟩ = some (.slice (some ⟨g2, r2, none⟩) ns p0) ∧ w'.cell? ⟨w.heap.size + 1, 2, none⟩ = some (.slice (some ⟨g3, r3, none⟩) ns p1) ∧ w'.cell? ⟨g2, r2 + j * 6, none⟩ = some (.string f) ∧ w'.cell? ⟨g2, r2 + j * 6 + 1, none⟩ = some (.int .i64 kk) ∧ w'.cell? ⟨g2, r2 + j * 6 + 1 + 1, none⟩ = some (.bool bb) ∧ w'.cell? ⟨g2, r2 + j * 6 + 1 + 2, none⟩ = some (.int .i64 ii) ∧ w'.cell? ⟨g2, r2 + j * 6 + 1 + 3, none⟩ = some (.string t) ∧ w'.cell? ⟨g2, r2 + j * 6 + 1 + 4, none⟩ = some (.slice e0 l0 z0) ∧ w'.cell? ⟨g3, r3 + j * 6, none⟩ = some (.string f) ∧ w'.cell? ⟨g3, r3 + j * 6 + 1, none⟩ = some (.int .i64 kk) ∧ w'.cell? ⟨g3, r3 + j * 6 + 1 + 1, none⟩ = some (.bool bb) ∧ w'.cell? ⟨g3, r3 + j * 6 + 1 + 2, none⟩ = some (.int .i64 ii) ∧ w'.cell? ⟨g3, r3 + j * 6 + 1 + 3, none⟩ = some (.string t) ∧ w'.cell? ⟨g3, r3 + j * 6 + 1 + 4, none⟩ = some (.slice e1 l1 z1)) (go_keep) ((go_at_call 59; refine HQD.out.mono ?_; rintro e w2 ⟨rfl, hf, y0, y1, y2, y3, y4, y5, y6, y7, y8, y9, y10, y11, y12, y13⟩))
   have hwr : FP nob wr w2 := FP.trans (S := nob) (FP.ofSame (same_drewN wr 1)) hf (fun _ x => False.elim x)
   have HF2 : Hid (FP nob w w2) := Lib.hid (FP.trans (S := nob) hF1.out hwr (fun _ x => False.elim x))
   have HB2 := Lib.hid (And.intro (hwr.cell zx) (And.intro (hwr.cell zy) (And.intro (hwr.cell zx7) (hwr.cell zy7))))
   clear hf hwr
   go_wp2_with fail
   go_roundg (ns - (j + 1) + 1)
   case measure => omega
   case rel => exact ⟨j + 1, rfl, by omega, by omega, HF2, HB2⟩
  ·have hji1 : ¬ (j : Int) < (ns : Int) := by omega
   obtain ⟨zx, zy, zx7, zy7⟩ := HBX.out
   go_wp2_with fail
   go_loopg [104] (na + 1) (fun m i wr => ∃ j : Nat, i = .int .i64 (j : Nat) ∧ j ≤ na ∧ na - j < m ∧ Hid (FP nob w wr) ∧ Hid (wr.cell? ⟨w.heap.size, 2, none⟩ = some (.slice b0 ns p0) ∧ wr.cell? ⟨w.heap.size + 1, 2, none⟩ = some (.slice b1 ns p1) ∧ wr.cell? ⟨w.heap.size, 7, none⟩ = some (.slice d0 na q0) ∧ wr.cell? ⟨w.heap.size + 1, 7, none⟩ = some (.slice d1 na q1)))
   case atStart => exact ⟨0, rfl, Nat.zero_le _, by omega, hF1, HBX⟩
   case round =>
    clear hj hjm hji1 zx zy zx7 zy7 hF1 HBX
    obtain ⟨j, rfl, hj, hjm, hF1, HBX⟩ := hrel
    by_cases hjl : j < na
    ·have hji0 : (0 : Int) ≤ (j : Int) := by omega
     have hji1 : (j : Int) < (na : Int) := by omega
     have hjw : IntKind.i64.wrap ((j : Int) + 1) = (j : Int) + 1 := IntWalk.i64_in _ (by omega)
     have hfr : ∀ b, b < w.heap.size → wr.heap[b]? = w.heap[b]? := fun b hl => hF1.out.blk b hl (fun x => x.elim)
     obtain ⟨g2, r2, g3, r3, f, e, e', pp, hpm, rfl, hle2, rfl, hle3, R0, R1, u0, v0, hu, hv⟩ := (HOA.out.frame hfr).arg (HOB.out.frame hfr) (i := j) (by rw [HNA.out]; exact hjl)
     have HQ := Lib.hid (fun (W : World) (hW : FP nob wr W) => vsame_any pp.2 (HSO.out.args.2 pp hpm) W _ _ e e' (R0.frame (fun g _ hl => hW.blk g hl (fun x => x.elim))) (R1.frame (fun g _ hl => hW.blk g hl (fun x => x.elim))))
     obtain ⟨kk, bb, ii, t, e0, l0, z0, e1, l1, z1, rfl, rfl⟩ := R0.two R1
     rw [HNA.out] at hle2 hle3
     obtain ⟨zx2, zy2, zx, zy⟩ := HBX.out
     have u1 := hu 0 _ rfl
     have v1 := hv 0 _ rfl
     have u2 := hu 1 _ rfl
     have v2 := hv 1 _ rfl
     have u3 := hu 2 _ rfl
     have v3 := hv 2 _ rfl
     have u4 := hu 3 _ rfl
     have v4 := hv 3 _ rfl
     have u5 := hu 4 _ rfl
     have v5 := hv 4 _ rfl
     clear hu hv R0 R1 hfr hpm
     have hqd : Calls Tryz.prog 59 #[.agg #[.int .i64 kk, .bool bb, .int .i64 ii, .string t, .slice e0 l0 z0], .agg #[.int .i64 kk, .bool bb, .int .i64 ii, .string t, .slice e1 l1 z1]] wr.drew (fun e w' => e = .returned (.bool true) ∧ FP nob wr.drew w' ∧ w'.cell? ⟨w.heap.size, 7, none⟩ = some (.slice (some ⟨g2, r2, none⟩) na q0) ∧ w'.cell? ⟨w.heap.size + 1, 7, none⟩ = some (.slice (some ⟨g3, r3, none⟩) na q1) ∧ w'.cell? ⟨g2, r2 + j * 6, none⟩ = some (.bool f) ∧ w'.cell? ⟨g2, r2 + j * 6 + 1, none⟩ = some (.int .i64 kk) ∧ w'.cell? ⟨g2, r2 + j * 6 + 1 + 1, none⟩ = some (.bool bb) ∧ w'.cell? ⟨g2, r2 + j * 6 + 1 + 2, none⟩ = some (.int .i64 ii) ∧ w'.cell? ⟨g2, r2 + j * 6 + 1 + 3, none⟩ = some (.string t) ∧ w'.cell? ⟨g2, r2 + j * 6 + 1 + 4, none⟩ = some (.slice e0 l0 z0) ∧ w'.cell? ⟨g3, r3 + j * 6, none⟩ = some (.bool f) ∧ w'.cell? ⟨g3, r3 + j * 6 + 1, none⟩ = some (.int .i64 kk) ∧ w'.cell? ⟨g3, r3 + j * 6 + 1 + 1, none⟩ = some (.bool bb) ∧ w'.cell? ⟨g3, r3 + j * 6 + 1 + 2, none⟩ = some (.int .i64 ii) ∧ w'.cell? ⟨g3, r3 + j * 6 + 1 + 3, none⟩ = some (.string t) ∧ w'.cell? ⟨g3, r3 + j * 6 + 1 + 4, none⟩ = some (.slice e1 l1 z1)) := (HQ.out wr.drew (FP.ofSame (same_drewN wr 1))).mono (fun e w' h => ⟨h.1, h.2, h.2.cell zx, h.2.cell zy, h.2.cell u0, h.2.cell u1, h.2.cell u2, h.2.cell u3, h.2.cell u4, h.2.cell u5, h.2.cell v0, h.2.cell v1, h.2.cell v2, h.2.cell v3, h.2.cell v4, h.2.cell v5⟩)
     have HQD := Lib.hid hqd
     clear hqd
     go_upto_region 12 with fail
     go_region_held3 (fun w' => w'.cell? ⟨w.heap.size, 7, none⟩ = some (.slice (some ⟨g2, r2, none⟩) na q0) ∧ w'.cell? ⟨w.heap.size + 1, 7, none⟩ = some (.slice (some ⟨g3, r3, none⟩) na q1) ∧ w'.cell? ⟨g2, r2 + j * 6, none⟩ = some (.bool f) ∧ w'.cell? ⟨g2, r2 + j * 6 + 1, none⟩ = some (.int .i64 kk) ∧ w'.cell? ⟨g2, r2 + j * 6 + 1 + 1, none⟩ = some (.bool bb) ∧ w'.cell? ⟨g2, r2 + j * 6 + 1 + 2, none⟩ = some (.int .i64 ii) ∧ w'.cell? ⟨g2, r2 + j * 6 + 1 + 3, none⟩ = some (.string t) ∧ w'.cell? ⟨g2, r2 + j * 6 + 1 + 4, none⟩ = some (.slice e0 l0 z0) ∧ w'.cell? ⟨g3, r3 + j * 6, none⟩ = some (.bool f) ∧ w'.cell? ⟨g3, r3 + j * 6 + 1, none⟩ = some (.int .i64 kk) ∧ w'.cell? ⟨g3, r3 + j * 6 + 1 + 1, none⟩ = some (.bool bb) ∧ w'.cell? ⟨g3, r3 + j * 6 + 1 + 2, none⟩ = some (.int .i64 ii) ∧ w'.cell? ⟨g3, r3 + j * 6 + 1 + 3, none⟩ = some (.string t) ∧ w'.cell? ⟨g3, r3 + j * 6 + 1 + 4, none⟩ = some (.slice e1 l1 z1)) (go_keep) ((go_at_call 59; refine HQD.out.mono ?_; rintro e w2 ⟨rfl, hf, y0, y1, y2, y3, y4, y5, y6, y7, y8, y9, y10, y11, y12, y13⟩))
     have hwr : FP nob wr w2 := FP.trans (S := nob) (FP.ofSame (same_drewN wr 1)) hf (fun _ x => False.elim x)
     have HF2 : Hid (FP nob w w2) := Lib.hid (FP.trans (S := nob) hF1.out hwr (fun _ x => False.elim x))
     have HB2 := Lib.hid (And.intro (hwr.cell zx2) (And.intro (hwr.cell zy2) (And.intro (hwr.cell zx) (hwr.cell zy))))
     clear hf hwr
     go_wp2_with fail
     go_roundg (na - (j + 1) + 1)
     case measure => omega
     case rel => exact ⟨j + 1, rfl, by omega, by omega, HF2, HB2⟩
    ·have hji1 : ¬ (j : Int) < (na : Int) := by omega
     obtain ⟨zx2, zy2, zx, zy⟩ := HBX.out
     go_wp2_with fail
     exact bodyPost_ret (v := .bool true) (by simp [results, Tryz.results27]) rfl (And.intro rfl hF1.out)
end Go.Proofs.YtnpkdiffpgcbhaaGreatDoor
namespace Go.Proofs.YtnpkdiffpgcbhaaGreatDoor
open Go.RowKit
attribute [local go_sem] Oper.semAt_some
mutual
def eqG : GV → GV → Bool
 | .mk k b i t l, .mk k' b' i' t' l' => (((k == k' && b == b') && i == i') && t == t') && eqsG l l'
def eqsG : List GV → List GV → Bool
 | [], [] => true
 | a :: l, b :: m => eqG a b && eqsG l m
 | [], _ :: _ => false
 | _ :: _, [] => false
end
mutual
theorem eqG_iff : ∀ a b : GV, eqG a b = true ↔ a = b
 | .mk k b i t l, .mk k' b' i' t' l' => by
  rw [eqG, Bool.and_eq_true, Bool.and_eq_true, Bool.and_eq_true, Bool.and_eq_true, eqsG_iff l l', beq_iff_eq, beq_iff_eq, beq_iff_eq, beq_iff_eq]
  constructor
  ·rintro ⟨⟨⟨⟨rfl, rfl⟩, rfl⟩, rfl⟩, rfl⟩; rfl
  ·intro h; injection h with h1 h2 h3 h4 h5; exact ⟨⟨⟨⟨h1, h2⟩, h3⟩, h4⟩, h5⟩
theorem eqsG_iff : ∀ l m : List GV, eqsG l m = true ↔ l = m
 | [], [] => by simp [eqsG]
 | [], _ :: _ => by simp [eqsG]
 | _ :: _, [] => by simp [eqsG]
 | a :: l, b :: m => by rw [eqsG, Bool.and_eq_true, eqG_iff a b, eqsG_iff l m, List.cons.injEq]
end
theorem eqsG_len : ∀ {l m : List GV}, l.length ≠ m.length → eqsG l m = false
 | [], [], h => absurd rfl h
 | [], _ :: _, _ => by simp [eqsG]
 | _ :: _, [], _ => by simp [eqsG]
 | a :: l, b :: m, h => by rw [eqsG, eqsG_len (l := l) (m := m) (by simpa using h), Bool.and_false]
theorem eqsG_step {l m : List GV} {k : Nat} {a b : GV} (ha : l[k]? = some a) (hb : m[k]? = some b) : eqsG (l.drop k) (m.drop k) = (eqG a b && eqsG (l.drop (k + 1)) (m.drop (k + 1))) := by
 obtain ⟨h1, rfl⟩ := List.getElem?_eq_some_iff.1 ha
 obtain ⟨h2, rfl⟩ := List.getElem?_eq_some_iff.1 hb
 rw [List.drop_eq_getElem_cons h1, List.drop_eq_getElem_cons h2, eqsG]
theorem rdv_shp {w : World} {F : Nat → Prop} {c : List Value} {v : GV} (h : RdV w F c v) : ∃ (k : Int) (b : Bool) (i : Int) (t : ByteArray) (a : Option Addr) (n cp : Nat), c = [.int .i64 k, .bool b, .int .i64 i, .string t, .slice a n cp] := by
 cases h with
 | mk k b i t sl xs l hs hl =>
  obtain ⟨_, a, cp, rfl, _⟩ := hs
  exact ⟨k, b, i, t, a, _, cp, rfl⟩
abbrev AnsC (f : Nat) (vs : Array Value) (r : Bool) (w : World) : Prop := Calls Tryz.prog f vs w fun e w' => e = .returned (.bool r) ∧ FP nob w w'
theorem vsm_step {w : World} {k i k' i' : Int} {b b' : Bool} {t t' : ByteArray} {s0 s1 : Value} {r : Bool} (h : ∀ W, FP nob w W → AnsC 93 #[s0, s1, .func (.func 59) #[] #[]] r W) :
  AnsC 59 #[.agg #[.int .i64 k, .bool b, .int .i64 i, .string t, s0], .agg #[.int .i64 k', .bool b', .int .i64 i', .string t', s1]] ((((k == k' && b == b') && i == i') && t.data.toList == t'.data.toList) && r) w := by
 have HC := Lib.hid h
 clear h
 by_cases e1 : k = k'
 ·by_cases e2 : b = b'
  ·by_cases e3 : i = i'
   ·by_cases e4 : t = t'
    ·subst e1 e2 e3 e4
     have hr : ((((k == k && b == b) && i == i) && t.data.toList == t.data.toList) && r) = r := by simp
     rw [hr]
     clear hr
     go_enter Tryz.func59, Tryz.ntmps59
     go_wp2_with fail
     refine (HC.out _ (((FP.refl _ w).alloc _).alloc _)).mono ?_
     rintro e w1 ⟨rfl, hf⟩
     have HF := Lib.hid (FP.trans (S := nob) (((FP.refl nob w).alloc _).alloc _) hf (fun _ x => x.elim))
     clear hf
     go_wp2_with fail
     exact bodyPost_ret (v := .bool r) (by simp [results, Tryz.results59]) rfl (And.intro rfl HF.out)
    ·subst e1 e2 e3
     have f4 : (t.toList == t'.toList) = false := by
      have : ¬ t.data.toList = t'.data.toList := fun h => e4 (data_inj h)
      simpa [ByteArray.toList_eq] using this
     have f4' : (t.data.toList == t'.data.toList) = false := by simpa using fun h => e4 (data_inj h)
     have hr : ((((k == k && b == b) && i == i) && t.data.toList == t'.data.toList) && r) = false := by rw [f4']; simp
     rw [hr]
     clear hr f4' e4
     go_enter Tryz.func59, Tryz.ntmps59
     go_wp2_with fail
     exact bodyPost_ret (v := .bool false) (by simp [results, Tryz.results59]) rfl (And.intro rfl (((FP.refl nob w).alloc _).alloc _))
   ·subst e1 e2
    have f3 : (i == i') = false := by simpa using e3
    have hr : ((((k == k && b == b) && i == i') && t.data.toList == t'.data.toList) && r) = false := by rw [f3]; simp
    rw [hr]
    clear hr e3
    go_enter Tryz.func59, Tryz.ntmps59
    go_wp2_with fail
    exact bodyPost_ret (v := .bool false) (by simp [results, Tryz.results59]) rfl (And.intro rfl (((FP.refl nob w).alloc _).alloc _))
  ·subst e1
   have f2 : (b == b') = false := by simpa using e2
   have hr : ((((k == k && b == b') && i == i') && t.data.toList == t'.data.toList) && r) = false := by rw [f2]; simp
   rw [hr]
   clear hr e2
   go_enter Tryz.func59, Tryz.ntmps59
   go_wp2_with fail
   exact bodyPost_ret (v := .bool false) (by simp [results, Tryz.results59]) rfl (And.intro rfl (((FP.refl nob w).alloc _).alloc _))
 ·have f1 : (k == k') = false := by simpa using e1
  have hr : ((((k == k' && b == b') && i == i') && t.data.toList == t'.data.toList) && r) = false := by rw [f1]; simp
  rw [hr]
  clear hr e1
  go_enter Tryz.func59, Tryz.ntmps59
  go_wp2_with fail
  exact bodyPost_ret (v := .bool false) (by simp [results, Tryz.results59]) rfl (And.intro rfl (((FP.refl nob w).alloc _).alloc _))
theorem eqfm_step {w : World} {F F' : Nat → Prop} {s0 s1 : Value} {l m : List GV} {xs ys : List Value} (h0 : SliceAt w F s0 l.length (l.length * 5) xs) (h1 : RdVs w F xs l) (h2 : SliceAt w F' s1 m.length (m.length * 5) ys) (h3 : RdVs w F' ys m)
  (hnb : l.length < 4611686018427387904) (h : ∀ v ∈ l, ∀ v' W c c', RdV W F c v → RdV W F' c' v' → AnsC 59 #[.agg c.toArray, .agg c'.toArray] (eqG v v') W) : AnsC 93 #[s0, s1, .func (.func 59) #[] #[]] (eqsG l m) w := by
 obtain ⟨a0, cap0, rfl⟩ : ∃ a0 cap0, s0 = .slice a0 l.length cap0 := by obtain ⟨_, a, c, e, _⟩ := h0; exact ⟨a, c, e⟩
 obtain ⟨a1, cap1, rfl⟩ : ∃ a1 cap1, s1 = .slice a1 m.length cap1 := by obtain ⟨_, a, c, e, _⟩ := h2; exact ⟨a, c, e⟩
 by_cases hlm : l.length = m.length
 ·obtain ⟨n, hn⟩ : ∃ n, l.length = n := ⟨_, rfl⟩
  have hn' : m.length = n := by omega
  rw [hn] at h0 hnb ⊢
  rw [hn'] at h2 ⊢
  have HC := Lib.hid h
  have H0 := Lib.hid h0
  have H1 := Lib.hid h1
  have H2 := Lib.hid h2
  have H3 := Lib.hid h3
  have HN := Lib.hid hn
  have HN' := Lib.hid hn'
  clear h h0 h1 h2 h3 hn hn' hlm
  go_enter Tryz.func93, Tryz.ntmps93
  go_wp2_with fail
  go_loopg [17] (n + 1) (fun q i wr => ∃ k : Nat, i = .int .i64 (k : Nat) ∧ k ≤ n ∧ n - k < q ∧ n < 4611686018427387904 ∧ Hid (FP nob w wr) ∧ Hid (eqsG l m = eqsG (l.drop k) (m.drop k)))
  case atStart => exact ⟨0, rfl, Nat.zero_le _, by omega, hnb, Lib.hid (FP.refl _ _), Lib.hid rfl⟩
  case round =>
   obtain ⟨k, rfl, hk, hm, hnb, hF, HE⟩ := hrel
   by_cases hlt : k < n
   ·have hi0 : (0 : Int) ≤ (k : Int) := by omega
    have hi1 : (k : Int) < (n : Int) := by omega
    have hw1 : IntKind.i64.wrap ((k : Int) + 1) = (k : Int) + 1 := IntWalk.i64_in _ (by omega)
    have hn0 : n ≠ 0 := by omega
    have hfr : ∀ b, b < w.heap.size → wr.heap[b]? = w.heap[b]? := fun b hl => hF.out.blk b hl (fun x => x.elim)
    obtain ⟨g0, o0, cp0, he0, hle0, _, _, hc0⟩ := (H0.out.frame (fun g _ hl => hfr g hl)).cell hn0
    obtain ⟨g1, o1, cp1, he1, hle1, _, _, hc1⟩ := (H2.out.frame (fun g _ hl => hfr g hl)).cell hn0
    cases he0
    cases he1
    have hv : l[k]? = some (l[k]'(by rw [HN.out]; exact hlt)) := List.getElem?_eq_getElem _
    have hmem : l[k]'(by rw [HN.out]; exact hlt) ∈ l := List.getElem_mem _
    generalize l[k]'(by rw [HN.out]; exact hlt) = v at hv hmem
    have hv' : m[k]? = some (m[k]'(by rw [HN'.out]; exact hlt)) := List.getElem?_eq_getElem _
    generalize m[k]'(by rw [HN'.out]; exact hlt) = v' at hv'
    obtain ⟨c, hrc, hxc⟩ := (H1.out.frame (fun g _ hl => hfr g hl)).get hv
    obtain ⟨c', hrc', hyc⟩ := (H3.out.frame (fun g _ hl => hfr g hl)).get hv'
    have HQ := Lib.hid (fun (W : World) (hW : FP nob wr W) => HC.out v hmem v' W c c' (hrc.frame (fun g _ hl => hW.blk g hl (fun x => x.elim))) (hrc'.frame (fun g _ hl => hW.blk g hl (fun x => x.elim))))
    obtain ⟨kk, b, i, t, b0, n0, q0, rfl⟩ := rdv_shp hrc
    obtain ⟨kk', b', i', t', b1, n1, q1, rfl⟩ := rdv_shp hrc'
    have x0 : wr.cell? ⟨g0, o0 + k * 5, none⟩ = some (.int .i64 kk) := by rw [show o0 + k * 5 = o0 + (k * 5 + 0) from rfl]; exact hc0 _ _ (hxc 0 (by omega))
    have y0 : wr.cell? ⟨g1, o1 + k * 5, none⟩ = some (.int .i64 kk') := by rw [show o1 + k * 5 = o1 + (k * 5 + 0) from rfl]; exact hc1 _ _ (hyc 0 (by omega))
    have x1 : wr.cell? ⟨g0, o0 + k * 5 + 1, none⟩ = some (.bool b) := by rw [Nat.add_assoc]; exact hc0 _ _ (hxc 1 (by omega))
    have y1 : wr.cell? ⟨g1, o1 + k * 5 + 1, none⟩ = some (.bool b') := by rw [Nat.add_assoc]; exact hc1 _ _ (hyc 1 (by omega))
    have x2 : wr.cell? ⟨g0, o0 + k * 5 + 2, none⟩ = some (.int .i64 i) := by rw [Nat.add_assoc]; exact hc0 _ _ (hxc 2 (by omega))
    have y2 : wr.cell? ⟨g1, o1 + k * 5 + 2, none⟩ = some (.int .i64 i') := by rw [Nat.add_assoc]; exact hc1 _ _ (hyc 2 (by omega))
    have x3 : wr.cell? ⟨g0, o0 + k * 5 + 3, none⟩ = some (.string t) := by rw [Nat.add_assoc]; exact hc0 _ _ (hxc 3 (by omega))
    have y3 : wr.cell? ⟨g1, o1 + k * 5 + 3, none⟩ = some (.string t') := by rw [Nat.add_assoc]; exact hc1 _ _ (hyc 3 (by omega))
    have x4 : wr.cell? ⟨g0, o0 + k * 5 + 4, none⟩ = some (.slice b0 n0 q0) := by rw [Nat.add_assoc]; exact hc0 _ _ (hxc 4 (by omega))
    have y4 : wr.cell? ⟨g1, o1 + k * 5 + 4, none⟩ = some (.slice b1 n1 q1) := by rw [Nat.add_assoc]; exact hc1 _ _ (hyc 4 (by omega))
    have HV := Lib.hid (And.intro hv hv')
    clear hc0 hc1 hxc hyc hrc hrc' hv hv' hmem hfr
    go_wp2_with fail
    refine (HQ.out _ (by first | exact FP.refl nob wr | exact (FP.refl nob wr).alloc _ | exact ((FP.refl nob wr).alloc _).alloc _)).mono ?_
    rintro e w2 ⟨rfl, hf⟩
    have HF2 : Hid (FP nob w w2) := Lib.hid (FP.trans (S := nob) (FP.trans (S := nob) hF.out (by first | exact FP.refl nob wr | exact (FP.refl nob wr).alloc _ | exact ((FP.refl nob wr).alloc _).alloc _) (fun _ x => False.elim x)) hf (fun _ x => False.elim x))
    clear hf
    obtain ⟨r, hr⟩ : ∃ r, eqG v v' = r := ⟨_, rfl⟩
    rw [hr]
    have HR := Lib.hid hr
    clear hr
    cases r with
    | true =>
     go_wp2_with fail
     go_roundg (n - (k + 1) + 1)
     case measure => omega
     case rel => exact ⟨k + 1, rfl, by omega, by omega, hnb, HF2, Lib.hid (by rw [HE.out, eqsG_step HV.out.1 HV.out.2, HR.out, Bool.true_and])⟩
    | false =>
     go_wp2_with fail
     refine bodyPost_ret (v := .bool false) (by simp [results, Tryz.results93]) rfl (And.intro ?_ HF2.out)
     rw [HE.out, eqsG_step HV.out.1 HV.out.2, HR.out, Bool.false_and]
   ·have hi1 : ¬ (k : Int) < (n : Int) := by omega
    have hke : k = n := by omega
    have HKE := Lib.hid hke
    clear hke
    go_wp2_with fail
    refine bodyPost_ret (v := .bool true) (by simp [results, Tryz.results93]) rfl (And.intro ?_ hF.out)
    rw [HE.out, HKE.out, List.drop_eq_nil_of_le (by rw [HN.out]; exact Nat.le_refl _), List.drop_eq_nil_of_le (by rw [HN'.out]; exact Nat.le_refl _), eqsG]
 ·have hli : (l.length : Int) ≠ (m.length : Int) := by omega
  have t1 : ((l.length : Int) == (m.length : Int)) = false := by simpa only [beq_eq_false_iff_ne] using hli
  have t2 : ((l.length : Int) != (m.length : Int)) = true := by simpa only [bne_iff_ne] using hli
  have HN := Lib.hid (eqsG_len hlm)
  rw [HN.out]
  clear h h0 h1 h2 h3 hlm hli
  go_enter Tryz.func93, Tryz.ntmps93
  go_wp2_with fail
  exact bodyPost_ret (v := .bool false) (by simp [results, Tryz.results93]) rfl (And.intro rfl (FP.refl nob w))
theorem vsm_any (v : GV) : Sh v → ∀ (v' : GV) (w : World) (F F' : Nat → Prop) (c c' : List Value), RdV w F c v → RdV w F' c' v' → AnsC 59 #[.agg c.toArray, .agg c'.toArray] (eqG v v') w := by
 induction v using GV.ind with
 | h k b i t l ih =>
  intro hsh v' w F F' c c' h h'
  have hl4 : l.length ≤ 4096 := by cases hsh; assumption
  have hsh' : ∀ x ∈ l, Sh x := by cases hsh; assumption
  cases h with
  | mk k b i t sl xs l hs hl =>
   cases h' with
   | mk k' b' i' t' sl' xs' l' hs' hl' =>
    rw [eqG]
    refine vsm_step (fun W hW => ?_)
    have hfr : ∀ (G : Nat → Prop) g, G g → g < w.heap.size → W.heap[g]? = w.heap[g]? := fun _ g _ hl => hW.blk g hl (fun x => x.elim)
    exact eqfm_step (hs.frame (hfr F)) (hl.frame (hfr F)) (hs'.frame (hfr F')) (hl'.frame (hfr F')) (by omega) (fun v hv v' W c c' h h' => ih v hv (hsh' v hv) v' W F F' c c' h h')
end Go.Proofs.YtnpkdiffpgcbhaaGreatDoor
namespace Go.Proofs.YtnpkdiffpgcbhaaGreatDoor
open Go.RowKit
attribute [local go_sem] Oper.semAt_some
def allB {α : Type} (f : α → α → Bool) : List α → List α → Bool
 | [], [] => true
 | a :: l, b :: m => f a b && allB f l m
 | [], _ :: _ => false
 | _ :: _, [] => false
theorem allB_step {α : Type} {f : α → α → Bool} {l m : List α} {k : Nat} {a b : α} (ha : l[k]? = some a) (hb : m[k]? = some b) : allB f (l.drop k) (m.drop k) = (f a b && allB f (l.drop (k + 1)) (m.drop (k + 1))) := by
 obtain ⟨h1, rfl⟩ := List.getElem?_eq_some_iff.1 ha
 obtain ⟨h2, rfl⟩ := List.getElem?_eq_some_iff.1 hb
 rw [List.drop_eq_getElem_cons h1, List.drop_eq_getElem_cons h2, allB]
theorem allB_iff {α : Type} {f : α → α → Bool} (hf : ∀ a b, f a b = true ↔ a = b) : ∀ l m, allB f l m = true ↔ l = m
 | [], [] => by simp [allB]
 | [], _ :: _ => by simp [allB]
 | _ :: _, [] => by simp [allB]
 | a :: l, b :: m => by rw [allB, Bool.and_eq_true, hf, allB_iff hf l m, List.cons.injEq]
theorem allB_end {α : Type} {f : α → α → Bool} {l m : List α} {k : Nat} (h : l.length = k) (h' : m.length = k) : allB f (l.drop k) (m.drop k) = true := by
 rw [List.drop_eq_nil_of_le (by omega), List.drop_eq_nil_of_le (by omega), allB]
def eqGv (g g' : Bs × GV) : Bool := g.1 == g'.1 && eqG g.2 g'.2
def eqAv (g g' : Bool × GV) : Bool := g.1 == g'.1 && eqG g.2 g'.2
theorem eqGv_iff (g g' : Bs × GV) : eqGv g g' = true ↔ g = g' := by
 obtain ⟨a, b⟩ := g
 obtain ⟨c, d⟩ := g'
 rw [eqGv, Bool.and_eq_true, eqG_iff, beq_iff_eq, Prod.mk.injEq]
theorem eqAv_iff (g g' : Bool × GV) : eqAv g g' = true ↔ g = g' := by
 obtain ⟨a, b⟩ := g
 obtain ⟨c, d⟩ := g'
 rw [eqAv, Bool.and_eq_true, eqG_iff, beq_iff_eq, Prod.mk.injEq]
def eqO (o o' : OpV) : Bool := ((((((o.kind == o'.kind && o.cls == o'.cls) && o.handle == o'.handle) && o.text == o'.text) && o.on == o'.on) && o.n == o'.n) && allB eqGv o.set o'.set) && allB eqAv o.args o'.args
theorem eqO_iff (o o' : OpV) : eqO o o' = true ↔ o = o' := by
 obtain ⟨a1, a2, a3, a4, a5, a6, a7, a8⟩ := o
 obtain ⟨b1, b2, b3, b4, b5, b6, b7, b8⟩ := o'
 simp only [eqO, Bool.and_eq_true, beq_iff_eq, allB_iff eqGv_iff, allB_iff eqAv_iff, OpV.mk.injEq]
 constructor
 ·rintro ⟨⟨⟨⟨⟨⟨⟨h1, h2⟩, h3⟩, h4⟩, h5⟩, h6⟩, h7⟩, h8⟩; exact ⟨h1, h2, h7, h3, h4, h5, h6, h8⟩
 ·rintro ⟨h1, h2, h7, h3, h4, h5, h6, h8⟩; exact ⟨⟨⟨⟨⟨⟨⟨h1, h2⟩, h3⟩, h4⟩, h5⟩, h6⟩, h7⟩, h8⟩
theorem RdOp.one {w : World} {F : Nat → Prop} {c : List Value} {o : OpV} (h : RdOp w F c o) : ∃ (cl t : ByteArray) (a0 : Option Addr) (c0 : Nat) (b0 : Option Addr) (d0 : Nat) (xs ys : List Value),
  o.cls = cl.data.toList ∧ o.text = t.data.toList ∧ c = [.int .i64 o.kind, .string cl, .slice a0 o.set.length c0, .int .i64 o.handle, .string t, .bool o.on, .int .i64 o.n, .slice b0 o.args.length d0] ∧
  EqAt w F o (.slice a0 o.set.length c0) (.slice b0 o.args.length d0) xs ys := by
 cases h with
 | mk k cl ss h t on n ss2 xs ys set args hs hsl ha hal =>
  obtain ⟨a0, c0, rfl⟩ := hs.shape
  obtain ⟨b0, d0, rfl⟩ := ha.shape
  exact ⟨cl, t, a0, c0, b0, d0, xs, ys, rfl, rfl, rfl, ⟨hs, hsl, ha, hal⟩⟩
theorem EqAt.field1 {w : World} {F : Nat → Prop} {o : OpV} {a0 : Option Addr} {c0 : Nat} {a : Value} {xs ys : List Value} (h : EqAt w F o (.slice a0 o.set.length c0) a xs ys) {i : Nat} (hi : i < o.set.length) :
  ∃ g0 q0 f d p, o.set[i]? = some p ∧ p ∈ o.set ∧ p.1 = f.data.toList ∧ a0 = some ⟨g0, q0, none⟩ ∧ o.set.length ≤ c0 ∧ RdV w F d p.2 ∧ w.cell? ⟨g0, q0 + i * 6, none⟩ = some (.string f) ∧ (∀ j u, d[j]? = some u → w.cell? ⟨g0, q0 + i * 6 + (j + 1), none⟩ = some u) := by
 obtain ⟨g0, q0, cp0, he0, hle0, _, _, hc0⟩ := h.s.cell (by omega)
 cases he0
 have hv : o.set[i]? = some (o.set[i]'hi) := List.getElem?_eq_getElem _
 have hmem : o.set[i]'hi ∈ o.set := List.getElem_mem _
 generalize o.set[i]'hi = p at hv hmem
 obtain ⟨e, hr, hx⟩ := h.sl.get (fun _ _ h => h.len) hv
 cases hr with
 | mk f d v r =>
  have l1 := r.len
  refine ⟨g0, q0, f, d, (f.data.toList, v), hv, hmem, rfl, rfl, hle0, r, ?_, ?_⟩
  ·rw [show q0 + i * 6 = q0 + (i * 6 + 0) from rfl]; exact hc0 _ _ (hx 0 (by omega))
  ·intro j u hj
   have := (List.getElem?_eq_some_iff.1 hj).1
   rw [Nat.add_assoc]; exact hc0 _ _ ((hx (j + 1) (by omega)).trans hj)
theorem EqAt.arg1 {w : World} {F : Nat → Prop} {o : OpV} {a0 : Option Addr} {c0 : Nat} {a : Value} {xs ys : List Value} (h : EqAt w F o a (.slice a0 o.args.length c0) xs ys) {i : Nat} (hi : i < o.args.length) :
  ∃ g0 q0 f d p, o.args[i]? = some p ∧ p ∈ o.args ∧ p.1 = f ∧ a0 = some ⟨g0, q0, none⟩ ∧ o.args.length ≤ c0 ∧ RdV w F d p.2 ∧ w.cell? ⟨g0, q0 + i * 6, none⟩ = some (.bool f) ∧ (∀ j u, d[j]? = some u → w.cell? ⟨g0, q0 + i * 6 + (j + 1), none⟩ = some u) := by
 obtain ⟨g0, q0, cp0, he0, hle0, _, _, hc0⟩ := h.a.cell (by omega)
 cases he0
 have hv : o.args[i]? = some (o.args[i]'hi) := List.getElem?_eq_getElem _
 have hmem : o.args[i]'hi ∈ o.args := List.getElem_mem _
 generalize o.args[i]'hi = p at hv hmem
 obtain ⟨e, hr, hx⟩ := h.al.get (fun _ _ h => h.len) hv
 cases hr with
 | mk f d v r =>
  have l1 := r.len
  refine ⟨g0, q0, f, d, (f, v), hv, hmem, rfl, rfl, hle0, r, ?_, ?_⟩
  ·rw [show q0 + i * 6 = q0 + (i * 6 + 0) from rfl]; exact hc0 _ _ (hx 0 (by omega))
  ·intro j u hj
   have := (List.getElem?_eq_some_iff.1 hj).1
   rw [Nat.add_assoc]; exact hc0 _ _ ((hx (j + 1) (by omega)).trans hj)
theorem same_no {w : World} {kd kd' hd hd' nn nn' : Int} {cl cl' tx tx' : ByteArray} {on on' : Bool} {b0 b1 d0 d1 : Option Addr} {ns ns' na na' p0 p1 q0 q1 : Nat}
  (h : ¬ (kd = kd' ∧ cl = cl' ∧ hd = hd' ∧ tx = tx' ∧ on = on' ∧ nn = nn' ∧ ns = ns' ∧ na = na')) :
  AnsC 27 #[.agg #[.int .i64 kd, .string cl, .slice b0 ns p0, .int .i64 hd, .string tx, .bool on, .int .i64 nn, .slice d0 na q0], .agg #[.int .i64 kd', .string cl', .slice b1 ns' p1, .int .i64 hd', .string tx', .bool on', .int .i64 nn', .slice d1 na' q1]] false w := by
 unfold AnsC
 by_cases e0 : kd = kd'
 case neg =>
  have f0 : (kd == kd') = false := by simpa using e0
  have f1 : (kd != kd') = true := by simpa using e0
  clear h e0
  go_enter Tryz.func27, Tryz.ntmps27
  go_wp2_with fail
  exact bodyPost_ret (v := .bool false) (by simp [results, Tryz.results27]) rfl (And.intro rfl (((FP.refl nob w).alloc _).alloc _))
 subst e0
 by_cases e1 : cl = cl'
 case neg =>
  have f0 : (cl.toList == cl'.toList) = false := by
   have : ¬ cl.data.toList = cl'.data.toList := fun h => e1 (data_inj h)
   simpa [ByteArray.toList_eq] using this
  clear h e1
  go_enter Tryz.func27, Tryz.ntmps27
  go_wp2_with fail
  exact bodyPost_ret (v := .bool false) (by simp [results, Tryz.results27]) rfl (And.intro rfl (((FP.refl nob w).alloc _).alloc _))
 subst e1
 by_cases e2 : hd = hd'
 case neg =>
  have f0 : (hd == hd') = false := by simpa using e2
  have f1 : (hd != hd') = true := by simpa using e2
  clear h e2
  go_enter Tryz.func27, Tryz.ntmps27
  go_wp2_with fail
  exact bodyPost_ret (v := .bool false) (by simp [results, Tryz.results27]) rfl (And.intro rfl (((FP.refl nob w).alloc _).alloc _))
 subst e2
 by_cases e3 : tx = tx'
 case neg =>
  have f0 : (tx.toList == tx'.toList) = false := by
   have : ¬ tx.data.toList = tx'.data.toList := fun h => e3 (data_inj h)
   simpa [ByteArray.toList_eq] using this
  clear h e3
  go_enter Tryz.func27, Tryz.ntmps27
  go_wp2_with fail
  exact bodyPost_ret (v := .bool false) (by simp [results, Tryz.results27]) rfl (And.intro rfl (((FP.refl nob w).alloc _).alloc _))
 subst e3
 by_cases e4 : on = on'
 case neg =>
  have f0 : (on == on') = false := by simpa using e4
  have f1 : (on != on') = true := by simpa using e4
  clear h e4
  go_enter Tryz.func27, Tryz.ntmps27
  go_wp2_with fail
  exact bodyPost_ret (v := .bool false) (by simp [results, Tryz.results27]) rfl (And.intro rfl (((FP.refl nob w).alloc _).alloc _))
 subst e4
 by_cases e5 : nn = nn'
 case neg =>
  have f0 : (nn == nn') = false := by simpa using e5
  have f1 : (nn != nn') = true := by simpa using e5
  clear h e5
  go_enter Tryz.func27, Tryz.ntmps27
  go_wp2_with fail
  exact bodyPost_ret (v := .bool false) (by simp [results, Tryz.results27]) rfl (And.intro rfl (((FP.refl nob w).alloc _).alloc _))
 subst e5
 by_cases e6 : ns = ns'
 case neg =>
  have f0 : ((ns : Int) == (ns' : Int)) = false := by rw [beq_eq_false_iff_ne]; omega
  have f1 : ((ns : Int) != (ns' : Int)) = true := by rw [bne_iff_ne]; omega
  clear h e6
  go_enter Tryz.func27, Tryz.ntmps27
  go_wp2_with fail
  exact bodyPost_ret (v := .bool false) (by simp [results, Tryz.results27]) rfl (And.intro rfl (((FP.refl nob w).alloc _).alloc _))
 subst e6
 by_cases e7 : na = na'
 case neg =>
  have f0 : ((na : Int) == (na' : Int)) = false := by rw [beq_eq_false_iff_ne]; omega
  have f1 : ((na : Int) != (na' : Int)) = true := by rw [bne_iff_ne]; omega
  clear h e7
  go_enter Tryz.func27, Tryz.ntmps27
  go_wp2_with fail
  exact bodyPost_ret (v := .bool false) (by simp [results, Tryz.results27]) rfl (And.intro rfl (((FP.refl nob w).alloc _).alloc _))
 subst e7
 exact absurd ⟨rfl, rfl, rfl, rfl, rfl, rfl, rfl, rfl⟩ h
theorem same_gen {w : World} {F F' : Nat → Prop} {c c' : List Value} {o o' : OpV} (h : RdOp w F c o) (h' : RdOp w F' c' o') (hsh : ShOp o) : AnsC 27 #[.agg c.toArray, .agg c'.toArray] (eqO o o') w := by
 have HSO := Lib.hid hsh
 obtain ⟨cl, tx, b0, p0, d0, q0, us, vs, hcl, htx, rfl, OA⟩ := h.one
 obtain ⟨cl', tx', b1, p1, d1, q1, us', vs', hcl', htx', rfl, OB⟩ := h'.one
 clear h h' hsh
 by_cases hall : o.kind = o'.kind ∧ cl = cl' ∧ o.handle = o'.handle ∧ tx = tx' ∧ o.on = o'.on ∧ o.n = o'.n ∧ o.set.length = o'.set.length ∧ o.args.length = o'.args.length
 case neg =>
  have he : eqO o o' = false := by
   cases hb : eqO o o' with
   | false => rfl
   | true =>
    have := (eqO_iff o o').1 hb
    subst this
    exact absurd ⟨rfl, data_inj (hcl.symm.trans hcl'), rfl, data_inj (htx.symm.trans htx'), rfl, rfl, rfl, rfl⟩ hall
  rw [he]
  exact same_no hall
 obtain ⟨h1, h2, h3, h4, h5, h6, h7, h8⟩ := hall
 subst h2 h4
 have heq : eqO o o' = (allB eqGv o.set o'.set && allB eqAv o.args o'.args) := by
  unfold eqO
  rw [h1, h3, h5, h6, hcl, hcl', htx, htx']
  simp
 rw [heq, ← h1, ← h3, ← h5, ← h6]
 clear heq h1 h3 h5 h6 hcl hcl' htx htx'
 have HOA := Lib.hid OA
 have HOB := Lib.hid OB
 clear OA OB
 obtain ⟨kd, hkd⟩ : ∃ x, o.kind = x := ⟨_, rfl⟩
 obtain ⟨hd, hhd⟩ : ∃ x, o.handle = x := ⟨_, rfl⟩
 obtain ⟨on, hon⟩ : ∃ x, o.on = x := ⟨_, rfl⟩
 obtain ⟨nn, hnn⟩ : ∃ x, o.n = x := ⟨_, rfl⟩
 rw [hkd, hhd, hon, hnn]
 clear hkd hhd hon hnn
 obtain ⟨ns, hns⟩ : ∃ ns, o.set.length = ns := ⟨_, rfl⟩
 obtain ⟨na, hna⟩ : ∃ na, o.args.length = na := ⟨_, rfl⟩
 have hns' : o'.set.length = ns := by omega
 have hna' : o'.args.length = na := by omega
 rw [hns, hna, hns', hna']
 have hls : ns ≤ 5000 := hns ▸ HSO.out.set.1
 have hla : na ≤ 5000 := hna ▸ HSO.out.args.1
 have HNS := Lib.hid hns
 have HNA := Lib.hid hna
 have HNS' := Lib.hid hns'
 have HNA' := Lib.hid hna'
 clear hns hna hns' hna' h7 h8
 unfold AnsC at *
 go_enter Tryz.func27, Tryz.ntmps27
 go_wp2_with fail
 go_loopg [68] (ns + 1) (fun m i wr => ∃ j : Nat, i = .int .i64 (j : Nat) ∧ j ≤ ns ∧ ns - j < m ∧ Hid (FP nob w wr) ∧ Hid (wr.cell? ⟨w.heap.size, 2, none⟩ = some (.slice b0 ns p0) ∧ wr.cell? ⟨w.heap.size + 1, 2, none⟩ = some (.slice b1 ns p1) ∧ wr.cell? ⟨w.heap.size, 7, none⟩ = some (.slice d0 na q0) ∧ wr.cell? ⟨w.heap.size + 1, 7, none⟩ = some (.slice d1 na q1)) ∧ Hid (allB eqGv o.set o'.set = allB eqGv (o.set.drop j) (o'.set.drop j)))
 case atStart =>
  exact ⟨0, rfl, Nat.zero_le _, by omega, Lib.hid (((FP.refl nob w).alloc _).alloc _), Lib.hid ⟨(box_cells _ _ _ _ _ _).1, (box_cells _ _ _ _ _ _).2, (box_cells _ _ _ _ _ _).1, (box_cells _ _ _ _ _ _).2⟩, Lib.hid rfl⟩
 case round =>
  obtain ⟨j, rfl, hj, hjm, hF1, HBX, HE⟩ := hrel
  by_cases hjl : j < ns
  ·have hji0 : (0 : Int) ≤ (j : Int) := by omega
   have hji1 : (j : Int) < (ns : Int) := by omega
   have hjw : IntKind.i64.wrap ((j : Int) + 1) = (j : Int) + 1 := IntWalk.i64_in _ (by omega)
   have hfr : ∀ b, b < w.heap.size → wr.heap[b]? = w.heap[b]? := fun b hl => hF1.out.blk b hl (fun x => x.elim)
   obtain ⟨g2, r2, f, e, pp, hsp, hpm, hf1, rfl, hle2, R0, u0, hu⟩ := (HOA.out.frame hfr).field1 (i := j) (by rw [HNS.out]; exact hjl)
   obtain ⟨g3, r3, f', e', pp', hsp', _, hf1', rfl, hle3, R1, v0, hv⟩ := (HOB.out.frame hfr).field1 (i := j) (by rw [HNS'.out]; exact hjl)
   have HQ := Lib.hid (fun (W : World) (hW : FP nob wr W) => vsm_any pp.2 (HSO.out.set.2 pp hpm) pp'.2 W _ _ e e' (R0.frame (fun g _ hl => hW.blk g hl (fun x => x.elim))) (R1.frame (fun g _ hl => hW.blk g hl (fun x => x.elim))))
   obtain ⟨kk, bb, ii, t, e0, l0, z0, rfl⟩ := rdv_shp R0
   obtain ⟨kk', bb', ii', t', e1, l1, z1, rfl⟩ := rdv_shp R1
   rw [HNS.out] at hle2
   rw [HNS'.out] at hle3
   obtain ⟨zx, zy, zx7, zy7⟩ := HBX.out
   have u1 := hu 0 _ rfl
   have v1 := hv 0 _ rfl
   have u2 := hu 1 _ rfl
   have v2 := hv 1 _ rfl
   have u3 := hu 2 _ rfl
   have v3 := hv 2 _ rfl
   have u4 := hu 3 _ rfl
   have v4 := hv 3 _ rfl
   have u5 := hu 4 _ rfl
   have v5 := hv 4 _ rfl
   clear hu hv R0 R1 hfr
   have HSP := Lib.hid (And.intro hsp hsp')
   have HFF := Lib.hid (And.intro hf1 hf1')
   clear hsp hsp' hf1 hf1' hpm
   by_cases hff : f = f'
   case neg =>
    have f0 : (f.toList == f'.toList) = false := by
     have : ¬ f.data.toList = f'.data.toList := fun h => hff (data_inj h)
     simpa [ByteArray.toList_eq] using this
    have f1 : (f.toList != f'.toList) = true := by rw [bne, f0]; rfl
    have hr : (allB eqGv o.set o'.set && allB eqAv o.args o'.args) = false := by
     have h0 : (f.data.toList == f'.data.toList) = false := by simpa using fun h => hff (data_inj h)
     have h1 : eqGv pp pp' = false := by rw [eqGv, HFF.out.1, HFF.out.2, h0, Bool.false_and]
     rw [HE.out, allB_step HSP.out.1 HSP.out.2, h1]; simp
    have HR := Lib.hid hr
    clear hr hff
    go_upto_region 6 with fail
    go_quiet (fail)
    go_wp2_with fail
    refine bodyPost_ret (v := .bool false) (by simp [results, Tryz.results27]) rfl (And.intro ?_ (FP.trans (S := nob) hF1.out (FP.ofSame (same_drewN wr 1)) (fun _ x => False.elim x)))
    rw [HR.out]
   subst hff
   have hst : eqGv pp pp' = eqG pp.2 pp'.2 := by rw [eqGv, HFF.out.1, HFF.out.2]; simp
   have HST := Lib.hid hst
   clear hst
   have hqd : Calls Tryz.prog 59 #[.agg #[.int .i64 kk, .bool bb, .int .i64 ii, .string t, .slice e0 l0 z0], .agg #[.int .i64 kk', .bool bb', .int .i64 ii', .string t', .slice e1 l1 z1]] wr.drew (fun e w' => e = .returned (.bool (eqG pp.2 pp'.2)) ∧ FP nob wr.drew w' ∧ w'.cell? ⟨w.heap.size, 2, none⟩ = some (.slice (some ⟨g2, r2, none⟩) ns p0) ∧ w'.cell? ⟨w.heap.size + 1, 2, none⟩ = some (.slice (some ⟨g3, r3, none⟩) ns p1) ∧ w'.cell? ⟨g2, r2 + j * 6, none⟩ = some (.string f) ∧ w'.cell? ⟨g2, r2 + j * 6 + 1, none⟩ = some (.int .i64 kk) ∧ w'.cell? ⟨g2, r2 + j * 6 + 1 + 1, none⟩ = some (.bool bb) ∧ w'.cell? ⟨g2, r2 + j * 6 + 1 + 2, none⟩ = some (.int .i64 ii) ∧ w'.cell? ⟨g2, r2 + j * 6 + 1 + 3, none⟩ = some (.string t) ∧ w'.cell? ⟨g2, r2 + j * 6 + 1 + 4, none⟩ = some (.slice e0 l0 z0) ∧ w'.cell? ⟨g3, r3 + j * 6, none⟩ = some (.string f) ∧ w'.cell? ⟨g3, r3 + j * 6 + 1, none⟩ = some (.int .i64 kk') ∧ w'.cell? ⟨g3, r3 + j * 6 + 1 + 1, none⟩ = some (.bool bb') ∧ w'.cell? ⟨g3, r3 + j * 6 + 1 + 2, none⟩ = some (.int .i64 ii') ∧ w'.cell? ⟨g3, r3 + j * 6 + 1 + 3, none⟩ = some (.string t') ∧ w'.cell? ⟨g3, r3 + j * 6 + 1 + 4, none⟩ = some (.slice e1 l1 z1)) := (HQ.out wr.drew (FP.ofSame (same_drewN wr 1))).mono (fun e w' h => ⟨h.1, h.2, h.2.cell zx, h.2.cell zy, h.2.cell u0, h.2.cell u1, h.2.cell u2, h.2.cell u3, h.2.cell u4, h.2.cell u5, h.2.cell v0, h.2.cell v1, h.2.cell v2, h.2.cell v3, h.2.cell v4, h.2.cell v5⟩)
   have HQD := Lib.hid hqd
   clear hqd
   go_upto_region 6 with fail
   go_region_held3 (fun w' => w'.cell? ⟨w.heap.size, 2, none⟩ = some (.slice (some ⟨g2, r2, none⟩) ns p0) ∧ w'.cell? ⟨w.heap.size + 1, 2, none⟩ = some (.slice (some ⟨g3, r3, none⟩) ns p1) ∧ w'.cell? ⟨g2, r2 + j * 6, none⟩ = some (.string f) ∧ w'.cell? ⟨g2, r2 + j * 6 + 1, none⟩ = some (.int .i64 kk) ∧ w'.cell? ⟨g2, r2 + j * 6 + 1 + 1, none⟩ = some (.bool bb) ∧ w'.cell? ⟨g2, r2 + j * 6 + 1 + 2, none⟩ = some (.int .i64 ii) ∧ w'.cell? ⟨g2, r2 + j * 6 + 1 + 3, none⟩ = some (.string t) ∧ w'.cell? ⟨g2, r2 + j * 6 + 1 + 4, none⟩ = some (.slice e0 l0 z0) ∧ w'.cell? ⟨g3, r3 + j * 6, none⟩ = some (.string f) ∧ w'.cell? ⟨g3, r3 + j * 6 + 1, none⟩ = some (.int .i64 kk') ∧ w'.cell? ⟨g3, r3 + j * 6 + 1 + 1, none⟩ = some (.bool bb') ∧ w'.cell? ⟨g3, r3 + j * 6 + 1 + 2, none⟩ = some (.int .i64 ii') ∧ w'.cell? ⟨g3, r3 + j * 6 + 1 + 3, none⟩ = some (.string t') ∧ w'.cell? ⟨g3, r3 + j * 6 + 1 + 4, none⟩ = some (.slice e1 l1 z1)) (go_keep) ((go_at_call 59; refine HQD.out.mono ?_; rintro e w2 ⟨rfl, hf, y0, y1, y2, y3, y4, y5, y6, y7, y8, y9, y10, y11, y12, y13⟩))
   have hwr : FP nob wr w2 := FP.trans (S := nob) (FP.ofSame (same_drewN wr 1)) hf (fun _ x => False.elim x)
   have HF2 : Hid (FP nob w w2) := Lib.hid (FP.trans (S := nob) hF1.out hwr (fun _ x => False.elim x))
   have HB2 := Lib.hid (And.intro (hwr.cell zx) (And.intro (hwr.cell zy) (And.intro (hwr.cell zx7) (hwr.cell zy7))))
   clear hf hwr
   obtain ⟨r, hr⟩ : ∃ r, eqG pp.2 pp'.2 = r := ⟨_, rfl⟩
   rw [hr]
   have HR := Lib.hid hr
   clear hr
   cases r with
   | true =>
    go_wp2_with fail
    go_roundg (ns - (j + 1) + 1)
    case measure => omega
    case rel => exact ⟨j + 1, rfl, by omega, by omega, HF2, HB2, Lib.hid (by rw [HE.out, allB_step HSP.out.1 HSP.out.2, HST.out, HR.out, Bool.true_and])⟩
   | false =>
    go_wp2_with fail
    refine bodyPost_ret (v := .bool false) (by simp [results, Tryz.results27]) rfl (And.intro ?_ HF2.out)
    rw [HE.out, allB_step HSP.out.1 HSP.out.2, HST.out, HR.out]; simp
  ·have hji1 : ¬ (j : Int) < (ns : Int) := by omega
   have hse : allB eqGv o.set o'.set = true := by
    have : j = ns := by omega
    rw [HE.out, this]; exact allB_end HNS.out HNS'.out
   have HEE := Lib.hid hse
   clear hse HE
   obtain ⟨zx, zy, zx7, zy7⟩ := HBX.out
   go_wp2_with fail
   go_loopg [104] (na + 1) (fun m i wr => ∃ j : Nat, i = .int .i64 (j : Nat) ∧ j ≤ na ∧ na - j < m ∧ Hid (FP nob w wr) ∧ Hid (wr.cell? ⟨w.heap.size, 2, none⟩ = some (.slice b0 ns p0) ∧ wr.cell? ⟨w.heap.size + 1, 2, none⟩ = some (.slice b1 ns p1) ∧ wr.cell? ⟨w.heap.size, 7, none⟩ = some (.slice d0 na q0) ∧ wr.cell? ⟨w.heap.size + 1, 7, none⟩ = some (.slice d1 na q1)) ∧ Hid (allB eqGv o.set o'.set = true) ∧ Hid (allB eqAv o.args o'.args = allB eqAv (o.args.drop j) (o'.args.drop j)))
   case atStart => exact ⟨0, rfl, Nat.zero_le _, by omega, hF1, HBX, HEE, Lib.hid rfl⟩
   case round =>
    clear hj hjm hji1 zx zy zx7 zy7 hF1 HBX HEE
    obtain ⟨j, rfl, hj, hjm, hF1, HBX, HE1, HE⟩ := hrel
    by_cases hjl : j < na
    ·have hji0 : (0 : Int) ≤ (j : Int) := by omega
     have hji1 : (j : Int) < (na : Int) := by omega
     have hjw : IntKind.i64.wrap ((j : Int) + 1) = (j : Int) + 1 := IntWalk.i64_in _ (by omega)
     have hfr : ∀ b, b < w.heap.size → wr.heap[b]? = w.heap[b]? := fun b hl => hF1.out.blk b hl (fun x => x.elim)
     obtain ⟨g2, r2, f, e, pp, hsp, hpm, hf1, rfl, hle2, R0, u0, hu⟩ := (HOA.out.frame hfr).arg1 (i := j) (by rw [HNA.out]; exact hjl)
     obtain ⟨g3, r3, f', e', pp', hsp', _, hf1', rfl, hle3, R1, v0, hv⟩ := (HOB.out.frame hfr).arg1 (i := j) (by rw [HNA'.out]; exact hjl)
     have HQ := Lib.hid (fun (W : World) (hW : FP nob wr W) => vsm_any pp.2 (HSO.out.args.2 pp hpm) pp'.2 W _ _ e e' (R0.frame (fun g _ hl => hW.blk g hl (fun x => x.elim))) (R1.frame (fun g _ hl => hW.blk g hl (fun x => x.elim))))
     obtain ⟨kk, bb, ii, t, e0, l0, z0, rfl⟩ := rdv_shp R0
     obtain ⟨kk', bb', ii', t', e1, l1, z1, rfl⟩ := rdv_shp R1
     rw [HNA.out] at hle2
     rw [HNA'.out] at hle3
     obtain ⟨zx2, zy2, zx, zy⟩ := HBX.out
     have u1 := hu 0 _ rfl
     have v1 := hv 0 _ rfl
     have u2 := hu 1 _ rfl
     have v2 := hv 1 _ rfl
     have u3 := hu 2 _ rfl
     have v3 := hv 2 _ rfl
     have u4 := hu 3 _ rfl
     have v4 := hv 3 _ rfl
     have u5 := hu 4 _ rfl
     have v5 := hv 4 _ rfl
     clear hu hv R0 R1 hfr
     have HSP := Lib.hid (And.intro hsp hsp')
     have HFF := Lib.hid (And.intro hf1 hf1')
     clear hsp hsp' hf1 hf1' hpm
     by_cases hff : f = f'
     case neg =>
      have f0 : (f == f') = false := by simpa using hff
      have f1 : (f != f') = true := by simpa using hff
      have hr : (allB eqGv o.set o'.set && allB eqAv o.args o'.args) = false := by
       have h0 : (f == f') = false := by simpa using hff
       have h1 : eqAv pp pp' = false := by rw [eqAv, HFF.out.1, HFF.out.2, h0, Bool.false_and]
       rw [HE1.out, HE.out, allB_step HSP.out.1 HSP.out.2, h1]; simp
      have HR := Lib.hid hr
      clear hr hff
      go_upto_region 12 with fail
      go_quiet (fail)
      go_wp2_with fail
      refine bodyPost_ret (v := .bool false) (by simp [results, Tryz.results27]) rfl (And.intro ?_ (FP.trans (S := nob) hF1.out (FP.ofSame (same_drewN wr 1)) (fun _ x => False.elim x)))
      rw [HR.out]
     subst hff
     have hst : eqAv pp pp' = eqG pp.2 pp'.2 := by rw [eqAv, HFF.out.1, HFF.out.2]; simp
     have HST := Lib.hid hst
     clear hst
     have hqd : Calls Tryz.prog 59 #[.agg #[.int .i64 kk, .bool bb, .int .i64 ii, .string t, .slice e0 l0 z0], .agg #[.int .i64 kk', .bool bb', .int .i64 ii', .string t', .slice e1 l1 z1]] wr.drew (fun e w' => e = .returned (.bool (eqG pp.2 pp'.2)) ∧ FP nob wr.drew w' ∧ w'.cell? ⟨w.heap.size, 7, none⟩ = some (.slice (some ⟨g2, r2, none⟩) na q0) ∧ w'.cell? ⟨w.heap.size + 1, 7, none⟩ = some (.slice (some ⟨g3, r3, none⟩) na q1) ∧ w'.cell? ⟨g2, r2 + j * 6, none⟩ = some (.bool f) ∧ w'.cell? ⟨g2, r2 + j * 6 + 1, none⟩ = some (.int .i64 kk) ∧ w'.cell? ⟨g2, r2 + j * 6 + 1 + 1, none⟩ = some (.bool bb) ∧ w'.cell? ⟨g2, r2 + j * 6 + 1 + 2, none⟩ = some (.int .i64 ii) ∧ w'.cell? ⟨g2, r2 + j * 6 + 1 + 3, none⟩ = some (.string t) ∧ w'.cell? ⟨g2, r2 + j * 6 + 1 + 4, none⟩ = some (.slice e0 l0 z0) ∧ w'.cell? ⟨g3, r3 + j * 6, none⟩ = some (.bool f) ∧ w'.cell? ⟨g3, r3 + j * 6 + 1, none⟩ = some (.int .i64 kk') ∧ w'.cell? ⟨g3, r3 + j * 6 + 1 + 1, none⟩ = some (.bool bb') ∧ w'.cell? ⟨g3, r3 + j * 6 + 1 + 2, none⟩ = some (.int .i64 ii') ∧ w'.cell? ⟨g3, r3 + j * 6 + 1 + 3, none⟩ = some (.string t') ∧ w'.cell? ⟨g3, r3 + j * 6 + 1 + 4, none⟩ = some (.slice e1 l1 z1)) := (HQ.out wr.drew (FP.ofSame (same_drewN wr 1))).mono (fun e w' h => ⟨h.1, h.2, h.2.cell zx, h.2.cell zy, h.2.cell u0, h.2.cell u1, h.2.cell u2, h.2.cell u3, h.2.cell u4, h.2.cell u5, h.2.cell v0, h.2.cell v1, h.2.cell v2, h.2.cell v3, h.2.cell v4, h.2.cell v5⟩)
     have HQD := Lib.hid hqd
     clear hqd
     go_upto_region 12 with fail
     go_region_held3 (fun w' => w'.cell? ⟨w.heap.size, 7, none⟩ = some (.slice (some ⟨g2, r2, none⟩) na q0) ∧ w'.cell? ⟨w.heap.size + 1, 7, none⟩ = some (.slice (some ⟨g3, r3, none⟩) na q1) ∧ w'.cell? ⟨g2, r2 + j * 6, none⟩ = some (.bool f) ∧ w'.cell? ⟨g2, r2 + j * 6 + 1, none⟩ = some (.int .i64 kk) ∧ w'.cell? ⟨g2, r2 + j * 6 + 1 + 1, none⟩ = some (.bool bb) ∧ w'.cell? ⟨g2, r2 + j * 6 + 1 + 2, none⟩ = some (.int .i64 ii) ∧ w'.cell? ⟨g2, r2 + j * 6 + 1 + 3, none⟩ = some (.string t) ∧ w'.cell? ⟨g2, r2 + j * 6 + 1 + 4, none⟩ = some (.slice e0 l0 z0) ∧ w'.cell? ⟨g3, r3 + j * 6, none⟩ = some (.bool f) ∧ w'.cell? ⟨g3, r3 + j * 6 + 1, none⟩ = some (.int .i64 kk') ∧ w'.cell? ⟨g3, r3 + j * 6 + 1 + 1, none⟩ = some (.bool bb') ∧ w'.cell? ⟨g3, r3 + j * 6 + 1 + 2, none⟩ = some (.int .i64 ii') ∧ w'.cell? ⟨g3, r3 + j * 6 + 1 + 3, none⟩ = some (.string t') ∧ w'.cell? ⟨g3, r3 + j * 6 + 1 + 4, none⟩ = some (.slice e1 l1 z1)) (go_keep) ((go_at_call 59; refine HQD.out.mono ?_; rintro e w2 ⟨rfl, hf, y0, y1, y2, y3, y4, y5, y6, y7, y8, y9, y10, y11, y12, y13⟩))
     have hwr : FP nob wr w2 := FP.trans (S := nob) (FP.ofSame (same_drewN wr 1)) hf (fun _ x => False.elim x)
     have HF2 : Hid (FP nob w w2) := Lib.hid (FP.trans (S := nob) hF1.out hwr (fun _ x => False.elim x))
     have HB2 := Lib.hid (And.intro (hwr.cell zx2) (And.intro (hwr.cell zy2) (And.intro (hwr.cell zx) (hwr.cell zy))))
     clear hf hwr
     obtain ⟨r, hr⟩ : ∃ r, eqG pp.2 pp'.2 = r := ⟨_, rfl⟩
     rw [hr]
     have HR := Lib.hid hr
     clear hr
     cases r with
     | true =>
      go_wp2_with fail
      go_roundg (na - (j + 1) + 1)
      case measure => omega
      case rel => exact ⟨j + 1, rfl, by omega, by omega, HF2, HB2, HE1, Lib.hid (by rw [HE.out, allB_step HSP.out.1 HSP.out.2, HST.out, HR.out, Bool.true_and])⟩
     | false =>
      go_wp2_with fail
      refine bodyPost_ret (v := .bool false) (by simp [results, Tryz.results27]) rfl (And.intro ?_ HF2.out)
      rw [HE1.out, HE.out, allB_step HSP.out.1 HSP.out.2, HST.out, HR.out]; simp
    ·have hji1 : ¬ (j : Int) < (na : Int) := by omega
     have hae : (allB eqGv o.set o'.set && allB eqAv o.args o'.args) = true := by
      have : j = na := by omega
      rw [HE1.out, HE.out, this, allB_end HNA.out HNA'.out]; rfl
     have HAE := Lib.hid hae
     clear hae
     obtain ⟨zx2, zy2, zx, zy⟩ := HBX.out
     go_wp2_with fail
     refine bodyPost_ret (v := .bool true) (by simp [results, Tryz.results27]) rfl (And.intro ?_ hF1.out)
     rw [HAE.out]
end Go.Proofs.YtnpkdiffpgcbhaaGreatDoor
