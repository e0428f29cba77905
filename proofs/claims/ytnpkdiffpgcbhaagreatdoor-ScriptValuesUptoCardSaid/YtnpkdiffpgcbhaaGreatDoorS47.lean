/- Same over all values, walked. Conditions: each theorem's own. -/
import Derived.Test.YtnpkdiffpgcbhaaGreatDoorS08
import Derived.Test.YtnpkdiffpgcbhaaGreatDoorS17
import Derived.Deep.LoopGhost
import Derived.Deep.Cut
import Derived.Deep.RegionHeld3
import Derived.Test.YtnpkdiffpgcbhaaGreatDoorS07
set_option maxRecDepth 100000
set_option maxHeartbeats 1600000
namespace Go.Proofs.YtnpkdiffpgcbhaaGreatDoor
open Go.RowKit
attribute [local go_sem] Oper.semAt_some
def YesC (f : Nat) (args : Array Value) (w : World) : Prop := Calls Tryz.prog f args w fun e w' => e = .returned (.bool true) ∧ FP nob w w'
theorem FP.cell {W W' : World} (hf : FP nob W W') {a : Addr} {v : Value} (h : W.cell? a = some v) : W'.cell? a = some v := by
 have hl : a.block < W.heap.size := by
  by_cases hl : a.block < W.heap.size
  ·exact hl
  ·have hn : W.heap[a.block]? = none := by simpa using hl
   simp [World.cell?, hn] at h
 have e := hf.blk a.block hl (fun x => x.elim)
 rw [← h]
 simp only [World.cell?, e]
theorem data_inj {a b : ByteArray} (h : a.data.toList = b.data.toList) : a = b := by
 cases a; cases b; simp at h; simp [h]
theorem same_step {w : World} {k i : Int} {b : Bool} {t : ByteArray} {s0 s1 : Value} (h : ∀ W, FP nob w W → YesC 49 #[s0, s1] W) : YesC 21 #[.agg #[.int .i64 k, .bool b, .int .i64 i, .string t, s0], .agg #[.int .i64 k, .bool b, .int .i64 i, .string t, s1]] w := by
 have HC := Lib.hid h
 clear h
 unfold YesC at *
 go_enter Tryz.func21, Tryz.ntmps21
 go_wp2_with fail
 refine (HC.out _ (((FP.refl _ w).alloc _).alloc _)).mono ?_
 rintro e w1 ⟨rfl, hf⟩
 have HF := Lib.hid (FP.trans (S := nob) (((FP.refl nob w).alloc _).alloc _) hf (fun _ x => x.elim))
 clear hf
 go_wp2_with fail
 exact bodyPost_ret (v := .bool true) (by simp [results, Tryz.results21]) rfl (And.intro rfl HF.out)
theorem RdV.two {w : World} {F F' : Nat → Prop} {c c' : List Value} {v : GV} (h : RdV w F c v) (h' : RdV w F' c' v) : ∃ (k : Int) (b : Bool) (i : Int) (t : ByteArray) (a0 : Option Addr) (n0 c0 : Nat) (a1 : Option Addr) (n1 c1 : Nat), c = [.int .i64 k, .bool b, .int .i64 i, .string t, .slice a0 n0 c0] ∧ c' = [.int .i64 k, .bool b, .int .i64 i, .string t, .slice a1 n1 c1] := by
 cases h with
 | mk k b i t sl xs l hs hl =>
  obtain ⟨_, a0, c0, e0, _⟩ := hs
  subst e0
  generalize hv : GV.mk k b i t.data.toList l = v at h'
  cases h' with
  | mk k' b' i' t' sl' xs' l' hs' hl' =>
   obtain ⟨_, a1, c1, e1, _⟩ := hs'
   subst e1
   injection hv with e1 e2 e3 e4 e5
   have := data_inj e4
   subst e1 e2 e3 this
   exact ⟨k, b, i, t, a0, _, c0, a1, _, c1, rfl, rfl⟩
theorem vals_step {w : World} {F F' : Nat → Prop} {s0 s1 : Value} {l : List GV} {xs ys : List Value} (h0 : SliceAt w F s0 l.length (l.length * 5) xs) (h1 : RdVs w F xs l) (h2 : SliceAt w F' s1 l.length (l.length * 5) ys) (h3 : RdVs w F' ys l)
  (hnb : l.length < 4611686018427387904) (h : ∀ v ∈ l, ∀ W c c', RdV W F c v → RdV W F' c' v → YesC 21 #[.agg c.toArray, .agg c'.toArray] W) : YesC 49 #[s0, s1] w := by
 obtain ⟨a0, cap0, rfl⟩ : ∃ a0 cap0, s0 = .slice a0 l.length cap0 := by obtain ⟨_, a, c, e, _⟩ := h0; exact ⟨a, c, e⟩
 obtain ⟨a1, cap1, rfl⟩ : ∃ a1 cap1, s1 = .slice a1 l.length cap1 := by obtain ⟨_, a, c, e, _⟩ := h2; exact ⟨a, c, e⟩
 obtain ⟨n, hn⟩ : ∃ n, l.length = n := ⟨_, rfl⟩
 rw [hn] at h0 h2 hnb ⊢
 have HC := Lib.hid h
 have H0 := Lib.hid h0
 have H1 := Lib.hid h1
 have H2 := Lib.hid h2
 have H3 := Lib.hid h3
 have HN := Lib.hid hn
 clear h h0 h1 h2 h3 hn
 unfold YesC at *
 go_enter Tryz.func49, Tryz.ntmps49
 go_wp2_with fail
 go_loopg [5] (n + 1) (fun m i wr => ∃ k : Nat, i = .int .i64 (k : Nat) ∧ k ≤ n ∧ n - k < m ∧ n < 4611686018427387904 ∧ Hid (FP nob w wr))
 case atStart => exact ⟨0, rfl, Nat.zero_le _, by omega, hnb, Lib.hid (FP.refl _ _)⟩
 case round =>
  obtain ⟨k, rfl, hk, hm, hnb, hF⟩ := hrel
  by_cases hlt : k < n
  ·have hi0 : (0 : Int) ≤ (k : Int) := by omega
   have hi1 : (k : Int) < (n : Int) := by omega
   have hw1 : IntKind.i64.wrap ((k : Int) + 1) = (k : Int) + 1 := IntWalk.i64_in _ (by omega)
   have hn0 : n ≠ 0 := by omega
   have hfr : ∀ b, b < w.heap.size → wr.heap[b]? = w.heap[b]? := fun b hl => hF.out.blk b hl (fun x => x.elim)
   obtain ⟨g0, o0, cp0, he0, hle0, _, _, hc0⟩ := (H0.out.frame (fun g _ hl => hfr g hl)).cell hn0
   obtain ⟨g1, o1, cp1, he1, hle1, _, _, hc1⟩ := (H2.out.frame (fun g _ hl => hfr g hl)).cell hn0
   cases he0
   cases he1
   have hv : l[k]? = some (l[k]'(by rw [HN.out]; exact hlt)) := List.getElem?_eq_getElem _
   have hmem : l[k]'(by rw [HN.out]; exact hlt) ∈ l := List.getElem_mem _
   generalize l[k]'(by rw [HN.out]; exact hlt) = v at hv hmem
   obtain ⟨c, hrc, hxc⟩ := (H1.out.frame (fun g _ hl => hfr g hl)).get hv
   obtain ⟨c', hrc', hyc⟩ := (H3.out.frame (fun g _ hl => hfr g hl)).get hv
   have HQ := Lib.hid (fun (W : World) (hW : FP nob wr W) => HC.out v hmem W c c' (hrc.frame (fun g _ hl => hW.blk g hl (fun x => x.elim))) (hrc'.frame (fun g _ hl => hW.blk g hl (fun x => x.elim))))
   obtain ⟨kk, b, i, t, b0, n0, q0, b1, n1, q1, rfl, rfl⟩ := hrc.two hrc'
   have x0 : wr.cell? ⟨g0, o0 + k * 5, none⟩ = some (.int .i64 kk) := by rw [show o0 + k * 5 = o0 + (k * 5 + 0) from rfl]; exact hc0 _ _ (hxc 0 (by omega))
   have y0 : wr.cell? ⟨g1, o1 + k * 5, none⟩ = some (.int .i64 kk) := by rw [show o1 + k * 5 = o1 + (k * 5 + 0) from rfl]; exact hc1 _ _ (hyc 0 (by omega))
   have x1 : wr.cell? ⟨g0, o0 + k * 5 + 1, none⟩ = some (.bool b) := by rw [Nat.add_assoc]; exact hc0 _ _ (hxc 1 (by omega))
   have y1 : wr.cell? ⟨g1, o1 + k * 5 + 1, none⟩ = some (.bool b) := by rw [Nat.add_assoc]; exact hc1 _ _ (hyc 1 (by omega))
   have x2 : wr.cell? ⟨g0, o0 + k * 5 + 2, none⟩ = some (.int .i64 i) := by rw [Nat.add_assoc]; exact hc0 _ _ (hxc 2 (by omega))
   have y2 : wr.cell? ⟨g1, o1 + k * 5 + 2, none⟩ = some (.int .i64 i) := by rw [Nat.add_assoc]; exact hc1 _ _ (hyc 2 (by omega))
   have x3 : wr.cell? ⟨g0, o0 + k * 5 + 3, none⟩ = some (.string t) := by rw [Nat.add_assoc]; exact hc0 _ _ (hxc 3 (by omega))
   have y3 : wr.cell? ⟨g1, o1 + k * 5 + 3, none⟩ = some (.string t) := by rw [Nat.add_assoc]; exact hc1 _ _ (hyc 3 (by omega))
   have x4 : wr.cell? ⟨g0, o0 + k * 5 + 4, none⟩ = some (.slice b0 n0 q0) := by rw [Nat.add_assoc]; exact hc0 _ _ (hxc 4 (by omega))
   have y4 : wr.cell? ⟨g1, o1 + k * 5 + 4, none⟩ = some (.slice b1 n1 q1) := by rw [Nat.add_assoc]; exact hc1 _ _ (hyc 4 (by omega))
   clear hc0 hc1 hxc hyc hrc hrc' hv hmem hfr
   have hqd : Calls Tryz.prog 21 #[.agg #[.int .i64 kk, .bool b, .int .i64 i, .string t, .slice b0 n0 q0], .agg #[.int .i64 kk, .bool b, .int .i64 i, .string t, .slice b1 n1 q1]] wr.drew (fun e w' => e = .returned (.bool true) ∧ FP nob wr.drew w' ∧ w'.cell? ⟨g0, o0 + k * 5, none⟩ = some (.int .i64 kk) ∧ w'.cell? ⟨g0, o0 + k * 5 + 1, none⟩ = some (.bool b) ∧ w'.cell? ⟨g0, o0 + k * 5 + 2, none⟩ = some (.int .i64 i) ∧ w'.cell? ⟨g0, o0 + k * 5 + 3, none⟩ = some (.string t) ∧ w'.cell? ⟨g0, o0 + k * 5 + 4, none⟩ = some (.slice b0 n0 q0) ∧ w'.cell? ⟨g1, o1 + k * 5, none⟩ = some (.int .i64 kk) ∧ w'.cell? ⟨g1, o1 + k * 5 + 1, none⟩ = some (.bool b) ∧ w'.cell? ⟨g1, o1 + k * 5 + 2, none⟩ = some (.int .i64 i) ∧ w'.cell? ⟨g1, o1 + k * 5 + 3, none⟩ = some (.string t) ∧ w'.cell? ⟨g1, o1 + k * 5 + 4, none⟩ = some (.slice b1 n1 q1)) := (HQ.out wr.drew (FP.ofSame (same_drewN wr 1))).mono (fun e w' h => ⟨h.1, h.2, h.2.cell x0, h.2.cell x1, h.2.cell x2, h.2.cell x3, h.2.cell x4, h.2.cell y0, h.2.cell y1, h.2.cell y2, h.2.cell y3, h.2.cell y4⟩)
   have HQD := Lib.hid hqd
   clear hqd
   go_upto_region 6 with fail
   go_region_held3 (fun w' => w'.cell? ⟨g0, o0 + k * 5, none⟩ = some (.int .i64 kk) ∧ w'.cell? ⟨g0, o0 + k * 5 + 1, none⟩ = some (.bool b) ∧ w'.cell? ⟨g0, o0 + k * 5 + 2, none⟩ = some (.int .i64 i) ∧ w'.cell? ⟨g0, o0 + k * 5 + 3, none⟩ = some (.string t) ∧ w'.cell? ⟨g0, o0 + k * 5 + 4, none⟩ = some (.slice b0 n0 q0) ∧ w'.cell? ⟨g1, o1 + k * 5, none⟩ = some (.int .i64 kk) ∧ w'.cell? ⟨g1, o1 + k * 5 + 1, none⟩ = some (.bool b) ∧ w'.cell? ⟨g1, o1 + k * 5 + 2, none⟩ = some (.int .i64 i) ∧ w'.cell? ⟨g1, o1 + k * 5 + 3, none⟩ = some (.string t) ∧ w'.cell? ⟨g1, o1 + k * 5 + 4, none⟩ = some (.slice b1 n1 q1)) (go_keep) ((go_at_call 21; refine HQD.out.mono ?_; rintro e w2 ⟨rfl, hf, z0, z1, z2, z3, z4, z5, z6, z7, z8, z9⟩))
   have hd : FP nob wr wr.drew := FP.ofSame (same_drewN wr 1)
   have hd2 : FP nob w wr.drew := FP.trans (S := nob) hF.out hd (fun _ x => x.elim)
   have HF2 : Hid (FP nob w w2) := Lib.hid (FP.trans (S := nob) hd2 hf (fun _ x => x.elim))
   clear hf hd hd2
   go_wp2_with fail
   go_roundg (n - (k + 1) + 1)
   case measure => omega
   case rel => exact ⟨k + 1, rfl, by omega, by omega, hnb, HF2⟩
  ·have hi1 : ¬ (k : Int) < (n : Int) := by omega
   go_wp2_with fail
   exact bodyPost_ret (v := .bool true) (by simp [results, Tryz.results49]) rfl (And.intro rfl hF.out)
end Go.Proofs.YtnpkdiffpgcbhaaGreatDoor
namespace Go.Proofs.YtnpkdiffpgcbhaaGreatDoor
open Go.RowKit
attribute [local go_sem] Oper.semAt_some
theorem SliceAt.shape {w : World} {F : Nat → Prop} {v : Value} {n m : Nat} {xs : List Value} (h : SliceAt w F v n m xs) : ∃ a c, v = .slice a n c := by
 obtain ⟨_, a, c, e, _⟩ := h; exact ⟨a, c, e⟩
theorem same_any (v : GV) : Sh v → ∀ (w : World) (F F' : Nat → Prop) (c c' : List Value), RdV w F c v → RdV w F' c' v → YesC 21 #[.agg c.toArray, .agg c'.toArray] w := by
 induction v using GV.ind with
 | h k b i t l ih =>
  intro hsh w F F' c c' h h'
  have hl4 : l.length ≤ 4096 := by cases hsh; assumption
  have hsh' : ∀ x ∈ l, Sh x := by cases hsh; assumption
  cases h with
  | mk k b i t sl xs l hs hl =>
   generalize hv : GV.mk k b i t.data.toList l = v at h'
   cases h' with
   | mk k' b' i' t' sl' xs' l' hs' hl' =>
    injection hv with e1 e2 e3 e4 e5
    have := data_inj e4
    subst e1 e2 e3 e5 this
    refine same_step (fun W hW => ?_)
    have hfr : ∀ (G : Nat → Prop) g, G g → g < w.heap.size → W.heap[g]? = w.heap[g]? := fun _ g _ hl => hW.blk g hl (fun x => x.elim)
    exact vals_step (hs.frame (hfr F)) (hl.frame (hfr F)) (hs'.frame (hfr F')) (hl'.frame (hfr F')) (by omega) (fun v hv W c c' h h' => ih v hv (hsh' v hv) W F F' c c' h h')
theorem RdG.two {w : World} {F F' : Nat → Prop} {c c' : List Value} {p : Bs × GV} (h : RdG w F c p) (h' : RdG w F' c' p) : ∃ (f : ByteArray) (d d' : List Value), c = .string f :: d ∧ c' = .string f :: d' ∧ RdV w F d p.2 ∧ RdV w F' d' p.2 := by
 cases h with
 | mk f d v hc =>
  generalize hv : (f.data.toList, v) = p at h'
  cases h' with
  | mk f' d' v' hc' =>
   injection hv with e1 e2
   have := data_inj e1
   subst e2 this
   exact ⟨f, d, d', rfl, rfl, hc, hc'⟩
theorem RdO.two {w : World} {F F' : Nat → Prop} {c c' : List Value} {p : Bool × GV} (h : RdO w F c p) (h' : RdO w F' c' p) : ∃ (f : Bool) (d d' : List Value), c = .bool f :: d ∧ c' = .bool f :: d' ∧ RdV w F d p.2 ∧ RdV w F' d' p.2 := by
 cases h with
 | mk f d v hc =>
  generalize hv : (f, v) = p at h'
  cases h' with
  | mk f' d' v' hc' =>
   injection hv with e1 e2
   subst e1 e2
   exact ⟨f, d, d', rfl, rfl, hc, hc'⟩
structure EqAt (w : World) (F : Nat → Prop) (o : OpV) (s a : Value) (xs ys : List Value) : Prop where
 s : SliceAt w F s o.set.length (o.set.length * 6) xs
 sl : RdRow (RdG w F) xs o.set
 a : SliceAt w F a o.args.length (o.args.length * 6) ys
 al : RdRow (RdO w F) ys o.args
theorem EqAt.frame {w w' : World} {F : Nat → Prop} {o : OpV} {s a : Value} {xs ys : List Value} (h : EqAt w F o s a xs ys) (hw : ∀ g, g < w.heap.size → w'.heap[g]? = w.heap[g]?) : EqAt w' F o s a xs ys :=
 ⟨h.s.frame (fun g _ hl => hw g hl), h.sl.imp (fun _ _ _ hc => hc.trans' (fun g hg hl => ⟨hw g hl, hg⟩)), h.a.frame (fun g _ hl => hw g hl), h.al.imp (fun _ _ _ hc => hc.trans' (fun g hg hl => ⟨hw g hl, hg⟩))⟩
theorem RdOp.two {w : World} {F F' : Nat → Prop} {c c' : List Value} {o : OpV} (h : RdOp w F c o) (h' : RdOp w F' c' o) : ∃ (k : Int) (cl : ByteArray) (hd : Int) (t : ByteArray) (on : Bool) (n : Int) (a0 : Option Addr) (c0 : Nat) (b0 : Option Addr) (d0 : Nat) (a1 : Option Addr) (c1 : Nat) (b1 : Option Addr) (d1 : Nat) (xs ys xs' ys' : List Value),
  c = [.int .i64 k, .string cl, .slice a0 o.set.length c0, .int .i64 hd, .string t, .bool on, .int .i64 n, .slice b0 o.args.length d0] ∧ c' = [.int .i64 k, .string cl, .slice a1 o.set.length c1, .int .i64 hd, .string t, .bool on, .int .i64 n, .slice b1 o.args.length d1] ∧
  EqAt w F o (.slice a0 o.set.length c0) (.slice b0 o.args.length d0) xs ys ∧ EqAt w F' o (.slice a1 o.set.length c1) (.slice b1 o.args.length d1) xs' ys' := by
 cases h with
 | mk k cl ss h t on n ss2 xs ys set args hs hsl ha hal =>
  obtain ⟨a0, c0, rfl⟩ := hs.shape
  obtain ⟨b0, d0, rfl⟩ := ha.shape
  generalize hv : OpV.mk k cl.data.toList set h t.data.toList on n args = v at h'
  cases h' with
  | mk k' cl' ss' h' t' on' n' ss2' xs' ys' set' args' hs' hsl' ha' hal' =>
   obtain ⟨a1, c1, rfl⟩ := hs'.shape
   obtain ⟨b1, d1, rfl⟩ := ha'.shape
   injection hv with e1 e2 e3 e4 e5 e6 e7 e8
   have e2 := data_inj e2
   have e5 := data_inj e5
   subst e1 e2 e3 e4 e5 e6 e7 e8
   exact ⟨k, cl, h, t, on, n, a0, c0, b0, d0, a1, c1, b1, d1, xs, ys, xs', ys', rfl, rfl, ⟨hs, hsl, ha, hal⟩, ⟨hs', hsl', ha', hal'⟩⟩
theorem EqAt.field {w : World} {F F' : Nat → Prop} {o : OpV} {a0 a1 : Option Addr} {c0 c1 : Nat} {a a' : Value} {xs ys xs' ys' : List Value} (h : EqAt w F o (.slice a0 o.set.length c0) a xs ys) (h' : EqAt w F' o (.slice a1 o.set.length c1) a' xs' ys') {i : Nat} (hi : i < o.set.length) :
  ∃ g0 q0 g1 q1 f d d' p, p ∈ o.set ∧ a0 = some ⟨g0, q0, none⟩ ∧ o.set.length ≤ c0 ∧ a1 = some ⟨g1, q1, none⟩ ∧ o.set.length ≤ c1 ∧ RdV w F d p.2 ∧ RdV w F' d' p.2 ∧ w.cell? ⟨g0, q0 + i * 6, none⟩ = some (.string f) ∧ w.cell? ⟨g1, q1 + i * 6, none⟩ = some (.string f) ∧ (∀ j u, d[j]? = some u → w.cell? ⟨g0, q0 + i * 6 + (j + 1), none⟩ = some u) ∧ (∀ j u, d'[j]? = some u → w.cell? ⟨g1, q1 + i * 6 + (j + 1), none⟩ = some u) := by
 obtain ⟨g0, q0, cp0, he0, hle0, _, _, hc0⟩ := h.s.cell (by omega)
 obtain ⟨g1, q1, cp1, he1, hle1, _, _, hc1⟩ := h'.s.cell (by omega)
 cases he0
 cases he1
 have hv : o.set[i]? = some (o.set[i]'hi) := List.getElem?_eq_getElem _
 have hmem : o.set[i]'hi ∈ o.set := List.getElem_mem _
 generalize o.set[i]'hi = p at hv hmem
 obtain ⟨e, hr, hx⟩ := h.sl.get (fun _ _ h => h.len) hv
 obtain ⟨e', hr', hx'⟩ := h'.sl.get (fun _ _ h => h.len) hv
 obtain ⟨f, d, d', rfl, rfl, r, r'⟩ := hr.two hr'
 have l1 := r.len
 have l2 := r'.len
 have sh : ∀ (u : Value) (d : List Value) (j : Nat), (u :: d)[j + 1]? = d[j]? := fun _ _ _ => rfl
 refine ⟨g0, q0, g1, q1, f, d, d', p, hmem, rfl, hle0, rfl, hle1, r, r', ?_, ?_, ?_, ?_⟩
 ·rw [show q0 + i * 6 = q0 + (i * 6 + 0) from rfl]; exact hc0 _ _ (hx 0 (by omega))
 ·rw [show q1 + i * 6 = q1 + (i * 6 + 0) from rfl]; exact hc1 _ _ (hx' 0 (by omega))
 ·intro j u hj
  have := (List.getElem?_eq_some_iff.1 hj).1
  rw [Nat.add_assoc]; exact hc0 _ _ ((hx (j + 1) (by omega)).trans hj)
 ·intro j u hj
  have := (List.getElem?_eq_some_iff.1 hj).1
  rw [Nat.add_assoc]; exact hc1 _ _ ((hx' (j + 1) (by omega)).trans hj)
theorem EqAt.arg {w : World} {F F' : Nat → Prop} {o : OpV} {a0 a1 : Option Addr} {c0 c1 : Nat} {a a' : Value} {xs ys xs' ys' : List Value} (h : EqAt w F o a (.slice a0 o.args.length c0) xs ys) (h' : EqAt w F' o a' (.slice a1 o.args.length c1) xs' ys') {i : Nat} (hi : i < o.args.length) :
  ∃ g0 q0 g1 q1 f d d' p, p ∈ o.args ∧ a0 = some ⟨g0, q0, none⟩ ∧ o.args.length ≤ c0 ∧ a1 = some ⟨g1, q1, none⟩ ∧ o.args.length ≤ c1 ∧ RdV w F d p.2 ∧ RdV w F' d' p.2 ∧ w.cell? ⟨g0, q0 + i * 6, none⟩ = some (.bool f) ∧ w.cell? ⟨g1, q1 + i * 6, none⟩ = some (.bool f) ∧ (∀ j u, d[j]? = some u → w.cell? ⟨g0, q0 + i * 6 + (j + 1), none⟩ = some u) ∧ (∀ j u, d'[j]? = some u → w.cell? ⟨g1, q1 + i * 6 + (j + 1), none⟩ = some u) := by
 obtain ⟨g0, q0, cp0, he0, hle0, _, _, hc0⟩ := h.a.cell (by omega)
 obtain ⟨g1, q1, cp1, he1, hle1, _, _, hc1⟩ := h'.a.cell (by omega)
 cases he0
 cases he1
 have hv : o.args[i]? = some (o.args[i]'hi) := List.getElem?_eq_getElem _
 have hmem : o.args[i]'hi ∈ o.args := List.getElem_mem _
 generalize o.args[i]'hi = p at hv hmem
 obtain ⟨e, hr, hx⟩ := h.al.get (fun _ _ h => h.len) hv
 obtain ⟨e', hr', hx'⟩ := h'.al.get (fun _ _ h => h.len) hv
 obtain ⟨f, d, d', rfl, rfl, r, r'⟩ := hr.two hr'
 have l1 := r.len
 have l2 := r'.len
 refine ⟨g0, q0, g1, q1, f, d, d', p, hmem, rfl, hle0, rfl, hle1, r, r', ?_, ?_, ?_, ?_⟩
 ·rw [show q0 + i * 6 = q0 + (i * 6 + 0) from rfl]; exact hc0 _ _ (hx 0 (by omega))
 ·rw [show q1 + i * 6 = q1 + (i * 6 + 0) from rfl]; exact hc1 _ _ (hx' 0 (by omega))
 ·intro j u hj
  have := (List.getElem?_eq_some_iff.1 hj).1
  rw [Nat.add_assoc]; exact hc0 _ _ ((hx (j + 1) (by omega)).trans hj)
 ·intro j u hj
  have := (List.getElem?_eq_some_iff.1 hj).1
  rw [Nat.add_assoc]; exact hc1 _ _ ((hx' (j + 1) (by omega)).trans hj)
end Go.Proofs.YtnpkdiffpgcbhaaGreatDoor
