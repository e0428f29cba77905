/- Check, clean, and the plain laws of a value in a line. Conditions: each theorem's own. -/
import Derived.Test.YtnpkdiffpgcbhaaGreatDoorC5
import Derived.Test.YtnpkdiffpgcbhaaGreatDoorC6
set_option maxRecDepth 100000
set_option maxHeartbeats 3200000
namespace Go.Proofs.YtnpkdiffpgcbhaaGreatDoor
def mayN : Nat → GV → Bool
 | f, .mk k b i t l =>
  if k = 0 then !b && i == 0 && t.isEmpty && l.isEmpty
  else if k = 1 then i == 0 && t.isEmpty && l.isEmpty
  else if k = 2 then !b && t.isEmpty && l.isEmpty
  else if k = 3 then !b && i == 0 && l.isEmpty && decide (t.length ≤ 65536)
  else if k = 5 then !b && t.isEmpty && l.isEmpty && decide (1 ≤ i)
  else if k = 4 then !b && i == 0 && t.isEmpty && decide (l.length ≤ 4096) && (match f with | 0 => false | f + 1 => l.all (mayN f))
  else false
theorem mayN_mk (f : Nat) (k : Int) (b : Bool) (i : Int) (t : Bs) (l : List GV) : mayN f (.mk k b i t l) =
  if k = 0 then !b && i == 0 && t.isEmpty && l.isEmpty
  else if k = 1 then i == 0 && t.isEmpty && l.isEmpty
  else if k = 2 then !b && t.isEmpty && l.isEmpty
  else if k = 3 then !b && i == 0 && l.isEmpty && decide (t.length ≤ 65536)
  else if k = 5 then !b && t.isEmpty && l.isEmpty && decide (1 ≤ i)
  else if k = 4 then !b && i == 0 && t.isEmpty && decide (l.length ≤ 4096) && (match f with | 0 => false | f + 1 => l.all (mayN f))
  else false := by cases f <;> rfl
def cleanG : GV → Bool
 | .mk _ _ _ t l => t.all cleanB && l.attach.all fun x => cleanG x.1
decreasing_by
 all_goals simp_wf
 have := List.sizeOf_lt_of_mem x.2
 omega
abbrev anyB : Nat → Prop := fun _ => True
def cleanL (l : List GV) : Bool := l.all cleanG
theorem cleanG_mk (k : Int) (b : Bool) (i : Int) (t : Bs) (l : List GV) : cleanG (.mk k b i t l) = (t.all cleanB && cleanL l) := by
 rw [cleanG, cleanL]
 congr 1
 rw [Bool.eq_iff_iff, List.all_eq_true, List.all_eq_true]
 exact ⟨fun h x hx => h ⟨x, hx⟩ (List.mem_attach _ _), fun h x _ => h x.1 x.2⟩
inductive Rng : GV → Prop where
 | mk (k : Int) (b : Bool) (i : Int) (t : Bs) (l : List GV) (h0 : -9223372036854775808 ≤ i) (h1 : i ≤ 9223372036854775807) (h : ∀ x ∈ l, Rng x) : Rng (.mk k b i t l)
theorem size_one (f : Nat) (k : Int) (b : Bool) (i : Int) (t : Bs) (l : List GV) : sizeN (f + 1) [.mk k b i t l] = 1 + t.length / 64 + sizeN f l := by
 show ([GV.mk k b i t l].map fun v => 1 + (gText v).length / 64 + sizeN f (gList v)).sum = _
 simp [gText, gList]
theorem size_each {f : Nat} : ∀ {l : List GV} {v : GV}, v ∈ l → sizeN f [v] ≤ sizeN f l
 | [], _, h => by cases h
 | a :: l, v, h => by
  cases f with
  | zero => exact Nat.le_refl _
  | succ f =>
   show ([v].map fun v => 1 + (gText v).length / 64 + sizeN f (gList v)).sum ≤ _
   rw [List.map_singleton, List.sum_singleton]
   exact le_sum (List.mem_map_of_mem (f := fun v => 1 + (gText v).length / 64 + sizeN f (gList v)) h)
theorem size_len {f n : Nat} {l : List GV} (h : sizeN f l ≤ n) (hn : n < 1048576) : l.length ≤ n := by
 cases f with
 | zero => exact absurd h (by show ¬ 1048576 ≤ n; omega)
 | succ f =>
  refine Nat.le_trans ?_ h
  show _ ≤ (l.map fun v => 1 + (gText v).length / 64 + sizeN f (gList v)).sum
  clear h
  induction l with
  | nil => exact Nat.zero_le _
  | cons a l ih => rw [List.length_cons, List.map_cons, List.sum_cons]; omega
theorem size_wok {v : GV} (hr : Rng v) : ∀ f, sizeN f [v] ≤ 1200 → WOk v ∧ Sh v := by
 induction hr with
 | mk k b i t l h0 h1 h ih =>
  intro f hs
  cases f with
  | zero => exact absurd hs (by show ¬ 1048576 ≤ 1200; decide)
  | succ f =>
   rw [size_one] at hs
   have hl := size_len (f := f) (l := l) (n := 1200) (by omega) (by decide)
   have hx : ∀ x ∈ l, WOk x ∧ Sh x := fun x hx => ih x hx f (by have := size_each (f := f) hx; omega)
   exact ⟨.mk _ _ _ _ _ h0 h1 (by omega) (fun x h => (hx x h).1), .mk _ _ _ _ _ (by omega) (fun x h => (hx x h).2)⟩
end Go.Proofs.YtnpkdiffpgcbhaaGreatDoor
namespace Go.Proofs.YtnpkdiffpgcbhaaGreatDoor
open Go.RowKit
attribute [local go_sem] Oper.semAt_some
theorem isE {l : List GV} : l.isEmpty = !decide (0 < l.length) := by cases l <;> simp
theorem tsz (t : ByteArray) : t.size = t.data.toList.length := rfl
def MayC (c : List Value) (d : Int) (r : Bool) (w : World) : Prop := Calls Tryz.prog 45 #[.agg c.toArray, .int .i64 d] w fun e w' => e = .returned (.bool r) ∧ FP nob w w'
section
variable {w : World} {k i d : Int} {b : Bool} {t : ByteArray} {a0 : Option Addr} {cap0 f : Nat} {l : List GV}
theorem may0 : MayC [.int .i64 0, .bool b, .int .i64 i, .string t, .slice a0 l.length cap0] d (mayN f (.mk 0 b i t.data.toList l)) w := by
 unfold MayC
 rw [mayN_mk, if_pos rfl, isE]
 generalize l.length = n
 cases b
 all_goals
  go_enter Tryz.func45, Tryz.ntmps45
  go_wp2_with fail
  all_goals refine bodyPost_ret (by simp [results, Tryz.results45]; rfl) rfl ⟨?_, (FP.refl nob w).alloc _⟩
  all_goals first | (simp_all [ByteArray.toList_eq]; done) | (simp_all [ByteArray.toList_eq]; omega)
theorem may1 : MayC [.int .i64 1, .bool b, .int .i64 i, .string t, .slice a0 l.length cap0] d (mayN f (.mk 1 b i t.data.toList l)) w := by
 unfold MayC
 rw [mayN_mk, if_neg (by decide), if_pos rfl, isE]
 generalize l.length = n
 cases b
 all_goals
  go_enter Tryz.func45, Tryz.ntmps45
  go_wp2_with fail
  all_goals refine bodyPost_ret (by simp [results, Tryz.results45]; rfl) rfl ⟨?_, (FP.refl nob w).alloc _⟩
  all_goals first | (simp_all [ByteArray.toList_eq]; done) | (simp_all [ByteArray.toList_eq]; omega)
theorem may2 : MayC [.int .i64 2, .bool b, .int .i64 i, .string t, .slice a0 l.length cap0] d (mayN f (.mk 2 b i t.data.toList l)) w := by
 unfold MayC
 rw [mayN_mk, if_neg (by decide), if_neg (by decide), if_pos rfl, isE]
 generalize l.length = n
 cases b
 all_goals
  go_enter Tryz.func45, Tryz.ntmps45
  go_wp2_with fail
  all_goals refine bodyPost_ret (by simp [results, Tryz.results45]; rfl) rfl ⟨?_, (FP.refl nob w).alloc _⟩
  all_goals first | (simp_all [ByteArray.toList_eq]; done) | (simp_all [ByteArray.toList_eq]; omega)
theorem may3 : MayC [.int .i64 3, .bool b, .int .i64 i, .string t, .slice a0 l.length cap0] d (mayN f (.mk 3 b i t.data.toList l)) w := by
 unfold MayC
 rw [mayN_mk, if_neg (by decide), if_neg (by decide), if_neg (by decide), if_pos rfl, isE, ← tsz]
 generalize l.length = n
 cases b
 all_goals
  go_enter Tryz.func45, Tryz.ntmps45
  go_wp2_with fail
  all_goals refine bodyPost_ret (by simp [results, Tryz.results45]; rfl) rfl ⟨?_, (FP.refl nob w).alloc _⟩
  all_goals first | (simp_all []; done) | (simp_all []; omega)
theorem may5 : MayC [.int .i64 5, .bool b, .int .i64 i, .string t, .slice a0 l.length cap0] d (mayN f (.mk 5 b i t.data.toList l)) w := by
 unfold MayC
 rw [mayN_mk, if_neg (by decide), if_neg (by decide), if_neg (by decide), if_neg (by decide), if_pos rfl, isE]
 generalize l.length = n
 cases b
 all_goals
  go_enter Tryz.func45, Tryz.ntmps45
  go_wp2_with fail
  all_goals refine bodyPost_ret (by simp [results, Tryz.results45]; rfl) rfl ⟨?_, (FP.refl nob w).alloc _⟩
  all_goals first | (simp_all [ByteArray.toList_eq]; done) | (simp_all [ByteArray.toList_eq]; omega)
theorem mayx (h0 : (k == 0) = false) (h1 : (k == 1) = false) (h2 : (k == 2) = false) (h3 : (k == 3) = false) (h4 : (k == 4) = false) (h5 : (k == 5) = false) : MayC [.int .i64 k, .bool b, .int .i64 i, .string t, .slice a0 l.length cap0] d (mayN f (.mk k b i t.data.toList l)) w := by
 unfold MayC
 have hr : mayN f (.mk k b i t.data.toList l) = false := by
  rw [mayN_mk, if_neg (by simpa using h0), if_neg (by simpa using h1), if_neg (by simpa using h2), if_neg (by simpa using h3), if_neg (by simpa using h5), if_neg (by simpa using h4)]
 rw [hr]
 clear hr
 go_enter Tryz.func45, Tryz.ntmps45
 go_wp2_with fail
 exact bodyPost_ret (v := .bool false) (by simp [results, Tryz.results45]) rfl ⟨rfl, (FP.refl nob w).alloc _⟩
theorem may4_no (hd : d = 30 - (f : Int)) (h : ¬ (b = false ∧ i = 0 ∧ t = ⟨#[]⟩ ∧ l.length ≤ 4096 ∧ f ≠ 0)) : MayC [.int .i64 4, .bool b, .int .i64 i, .string t, .slice a0 l.length cap0] d (mayN f (.mk 4 b i t.data.toList l)) w := by
 unfold MayC
 have hr : mayN f (.mk 4 b i t.data.toList l) = false := by
  rw [mayN_mk, if_neg (by decide), if_neg (by decide), if_neg (by decide), if_neg (by decide), if_neg (by decide), if_pos rfl]
  rw [Bool.eq_false_iff]
  intro hb
  simp only [Bool.and_eq_true, Bool.not_eq_true', beq_iff_eq, List.isEmpty_iff, decide_eq_true_eq] at hb
  obtain ⟨⟨⟨⟨h1, h2⟩, h3⟩, h4⟩, h5⟩ := hb
  refine h ⟨h1, h2, data_inj h3, h4, ?_⟩
  rintro rfl
  cases h5
 rw [hr]
 clear hr
 generalize l.length = n at h ⊢
 by_cases e1 : b = true
 ·subst e1
  clear h
  go_enter Tryz.func45, Tryz.ntmps45
  go_wp2_with fail
  exact bodyPost_ret (v := .bool false) (by simp [results, Tryz.results45]) rfl ⟨rfl, (FP.refl nob w).alloc _⟩
 have e1 : b = false := by simpa using e1
 subst e1
 by_cases e2 : i = 0
 case neg =>
  have f1 : (i == 0) = false := by simpa using e2
  have f2 : (i != 0) = true := by simpa using e2
  clear h e2
  go_enter Tryz.func45, Tryz.ntmps45
  go_wp2_with fail
  exact bodyPost_ret (v := .bool false) (by simp [results, Tryz.results45]) rfl ⟨rfl, (FP.refl nob w).alloc _⟩
 subst e2
 by_cases e3 : t = ⟨#[]⟩
 case neg =>
  have f1 : ¬ t.toList = [] := by
   rw [ByteArray.toList_eq]
   exact fun h => e3 (data_inj h)
  have f2 : t.toList.isEmpty = false := by simpa using f1
  clear h e3
  go_enter Tryz.func45, Tryz.ntmps45
  go_wp2_with fail
  exact bodyPost_ret (v := .bool false) (by simp [results, Tryz.results45]) rfl ⟨rfl, (FP.refl nob w).alloc _⟩
 subst e3
 by_cases e4 : n ≤ 4096
 case neg =>
  have f1 : ¬ (n : Int) ≤ 4096 := by omega
  have f2 : (n : Int) > 4096 := by omega
  clear h e4
  go_enter Tryz.func45, Tryz.ntmps45
  go_wp2_with fail
  exact bodyPost_ret (v := .bool false) (by simp [results, Tryz.results45]) rfl ⟨rfl, (FP.refl nob w).alloc _⟩
 have f1 : (n : Int) ≤ 4096 := by omega
 have f2 : d = 30 := by
  have : f = 0 := Decidable.byContradiction fun h0 => h ⟨rfl, rfl, rfl, e4, h0⟩
  omega
 subst f2
 clear h hd e4
 go_enter Tryz.func45, Tryz.ntmps45
 go_wp2_with fail
 exact bodyPost_ret (v := .bool false) (by simp [results, Tryz.results45]) rfl ⟨rfl, (FP.refl nob w).alloc _⟩
end
theorem may4_step {w : World} {F : Nat → Prop} {sl : Value} {xs : List Value} {l : List GV} {f : Nat} {d : Int} (hs : SliceAt w F sl l.length (l.length * 5) xs) (hl : RdVs w F xs l) (hn : l.length ≤ 4096) (hd : d = 30 - ((f + 1 : Nat) : Int)) (hf : f + 1 ≤ 30)
  (ih : ∀ v ∈ l, ∀ W c, RdV W F c v → MayC c (d + 1) (mayN f v) W) : MayC [.int .i64 4, .bool false, .int .i64 0, .string ⟨#[]⟩, sl] d (mayN (f + 1) (.mk 4 false 0 [] l)) w := by
 obtain ⟨a0, cap0, rfl⟩ := hs.shape
 obtain ⟨n, hnn⟩ : ∃ n, l.length = n := ⟨_, rfl⟩
 have hr : mayN (f + 1) (.mk 4 false 0 [] l) = l.all (mayN f) := by
  rw [mayN_mk, if_neg (by decide), if_neg (by decide), if_neg (by decide), if_neg (by decide), if_neg (by decide), if_pos rfl]
  simp [hn]
 rw [hr]
 rw [hnn] at hs hn ⊢
 have HS := Lib.hid hs
 have HL := Lib.hid hl
 have HI := Lib.hid ih
 have HN := Lib.hid hnn
 have hd2 : d < 30 := by omega
 have hnI : (n : Int) ≤ 4096 := by omega
 have hwd : IntKind.i64.wrap (d + 1) = d + 1 := IntWalk.i64_in _ (by omega)
 clear hs hl ih hnn hr hd
 unfold MayC at *
 go_enter Tryz.func45, Tryz.ntmps45
 go_wp2_with fail
 go_loopg [9] (n + 1) (fun m i wr => ∃ (q : Nat), i = .int .i64 (q : Nat) ∧ q ≤ n ∧ n - q < m ∧ n ≤ 4096 ∧ Hid ((l.take q).all (mayN f) = true) ∧ Hid (wr.heap[w.heap.size]? = some (.cells #[.int .i64 4, .bool false, .int .i64 0, .string ⟨#[]⟩, .slice a0 n cap0] 52 (0,0))) ∧ Hid (FP nob w wr))
 case atStart => exact ⟨0, rfl, Nat.zero_le _, by omega, hn, Lib.hid (by simp), Lib.hid (heap_new_at rfl _), Lib.hid ((FP.refl nob w).alloc _)⟩
 case round =>
  obtain ⟨q, rfl, hk, hm, hn, HA, HBX, HF⟩ := hrel
  have z4 : wr.cell? ⟨w.heap.size, 4, none⟩ = some (.slice a0 n cap0) := cell_blk HBX.out
  by_cases hlt : q < n
  ·have hi0 : (0 : Int) ≤ (q : Int) := by omega
   have hi1 : (q : Int) < (n : Int) := by omega
   have hw1 : IntKind.i64.wrap ((q : Int) + 1) = (q : Int) + 1 := IntWalk.i64_in _ (by omega)
   have hfr : ∀ b, b < w.heap.size → wr.heap[b]? = w.heap[b]? := fun b hl => HF.out.blk b hl (fun x => x.elim)
   obtain ⟨g0, o0, cp0, he0, hle0, _, _, hc0⟩ := (HS.out.frame (fun g _ hl => hfr g hl)).cell (by omega)
   cases he0
   have hv : l[q]? = some (l[q]'(by rw [HN.out]; exact hlt)) := List.getElem?_eq_getElem _
   have hmem : l[q]'(by rw [HN.out]; exact hlt) ∈ l := List.getElem_mem _
   generalize l[q]'(by rw [HN.out]; exact hlt) = v1 at hv hmem
   obtain ⟨c, hrc, hxc⟩ := (HL.out.frame (fun g _ hl => hfr g hl)).get hv
   obtain ⟨kk, bb, ii, tt, e0, l0, z0, rfl⟩ := rdv_shape hrc
   have hq := HI.out v1 hmem wr _ hrc
   have HQ := Lib.hid hq
   have x0 : wr.cell? ⟨g0, o0 + q * 5, none⟩ = some (.int .i64 kk) := by rw [show o0 + q * 5 = o0 + (q * 5 + 0) from rfl]; exact hc0 _ _ (hxc 0 (by omega))
   have x1 : wr.cell? ⟨g0, o0 + q * 5 + 1, none⟩ = some (.bool bb) := by rw [Nat.add_assoc]; exact hc0 _ _ (hxc 1 (by omega))
   have x2 : wr.cell? ⟨g0, o0 + q * 5 + 2, none⟩ = some (.int .i64 ii) := by rw [Nat.add_assoc]; exact hc0 _ _ (hxc 2 (by omega))
   have x3 : wr.cell? ⟨g0, o0 + q * 5 + 3, none⟩ = some (.string tt) := by rw [Nat.add_assoc]; exact hc0 _ _ (hxc 3 (by omega))
   have x4 : wr.cell? ⟨g0, o0 + q * 5 + 4, none⟩ = some (.slice e0 l0 z0) := by rw [Nat.add_assoc]; exact hc0 _ _ (hxc 4 (by omega))
   have HV := Lib.hid (And.intro hv hmem)
   clear hc0 hxc hrc hv hmem hfr hq
   go_wp2_with fail
   refine HQ.out.mono ?_
   rintro e w2 ⟨rfl, f2⟩
   have HF2 : Hid (FP nob w w2) := Lib.hid (FP.trans (S := nob) HF.out f2 (fun _ x => x.elim))
   have HB2 := Lib.hid ((f2.blk _ (lt_blk HBX.out) (fun x => x.elim)).trans HBX.out)
   clear f2
   obtain ⟨r, hr⟩ : ∃ r, mayN f v1 = r := ⟨_, rfl⟩
   rw [hr]
   have HR := Lib.hid hr
   clear hr
   cases r with
   | true =>
    go_wp2_with fail
    go_roundg (n - (q + 1) + 1)
    case measure => omega
    case rel => exact ⟨q + 1, rfl, by omega, by omega, hn, Lib.hid (by rw [List.take_add_one, HV.out.1, List.all_append, HA.out]; simp [HR.out]), HB2, HF2⟩
   | false =>
    go_wp2_with fail
    refine bodyPost_ret (v := .bool false) (by simp [results, Tryz.results45]) rfl ⟨?_, HF2.out⟩
    have : l.all (mayN f) = false := by
     rw [List.all_eq_false]
     exact ⟨v1, HV.out.2, by rw [HR.out]; decide⟩
    rw [this]
  ·have hi1 : ¬ (q : Int) < (n : Int) := by omega
   have hke : q = n := by omega
   have hall : l.all (mayN f) = true := by
    have := HA.out
    rwa [hke, ← HN.out, List.take_length] at this
   have HALL := Lib.hid hall
   clear hke hall
   go_wp2_with fail
   exact bodyPost_ret (v := .bool true) (by simp [results, Tryz.results45]) rfl ⟨by rw [HALL.out], HF.out⟩
theorem may_any (v : GV) : ∀ (f : Nat) (d : Int) (w : World) (F : Nat → Prop) (c : List Value), f ≤ 30 → d = 30 - (f : Int) → RdV w F c v → MayC c d (mayN f v) w := by
 induction v using GV.ind with
 | h k b i t l ih =>
  intro f d w F c hf hd h
  cases h with
  | mk k b i t sl xs l hs hl =>
   obtain ⟨a0, cap0, rfl⟩ := hs.shape
   by_cases h0 : k = 0
   ·subst h0; exact may0
   by_cases h1 : k = 1
   ·subst h1; exact may1
   by_cases h2 : k = 2
   ·subst h2; exact may2
   by_cases h3 : k = 3
   ·subst h3; exact may3
   by_cases h5 : k = 5
   ·subst h5; exact may5
   by_cases h4 : k = 4
   ·subst h4
    by_cases hg : b = false ∧ i = 0 ∧ t = ⟨#[]⟩ ∧ l.length ≤ 4096 ∧ f ≠ 0
    ·obtain ⟨rfl, rfl, rfl, hl4, hf0⟩ := hg
     obtain ⟨f', rfl⟩ := Nat.exists_eq_succ_of_ne_zero hf0
     exact may4_step hs hl hl4 hd hf (fun v hv W c hr => ih v hv f' (d + 1) W F c (by omega) (by omega) hr)
    ·exact may4_no hd hg
   exact mayx (by simpa using h0) (by simpa using h1) (by simpa using h2) (by simpa using h3) (by simpa using h4) (by simpa using h5)
theorem check_any {w : World} {F : Nat → Prop} {c : List Value} {v : GV} (h : RdV w F c v) : AnsC 18 #[.agg c.toArray] (mayN 30 v) w := by
  obtain ⟨kk, bb, ii, tt, e0, l0, z0, rfl⟩ := rdv_shape h
  have hfp := (FP.refl nob w).alloc (.cells #[.int .i64 kk, .bool bb, .int .i64 ii, .string tt, .slice e0 l0 z0] 52)
  have hm := may_any v 30 0 (w.alloc (.cells #[.int .i64 kk, .bool bb, .int .i64 ii, .string tt, .slice e0 l0 z0] 52)) F _ (by omega) (by omega) (h.frame (fun g _ hl => hfp.blk g hl (fun x => x.elim)))
  unfold MayC at hm
  have HM := Lib.hid hm
  have hm' := may_any v 30 0 w F _ (by omega) (by omega) h
  unfold MayC at hm'
  have HM' := Lib.hid hm'
  clear h hm hm' hfp
  unfold AnsC
  go_enter Tryz.func18, Tryz.ntmps18
  go_wp2_with fail
  first
    | (refine HM.out.mono ?_
       rintro e w1 ⟨rfl, hf⟩
       have HF := Lib.hid (FP.trans (S := nob) ((FP.refl nob w).alloc _) hf (fun _ x => x.elim))
       clear hf
       go_wp2_with fail
       exact bodyPost_ret (v := .bool (mayN 30 v)) (by simp [results, Tryz.results18]) rfl ⟨rfl, HF.out⟩)
    | (refine HM'.out.mono ?_
       rintro e w1 ⟨rfl, hf⟩
       have HF := Lib.hid hf
       clear hf
       go_wp2_with fail
       exact bodyPost_ret (v := .bool (mayN 30 v)) (by simp [results, Tryz.results18]) rfl ⟨rfl, HF.out⟩)
end Go.Proofs.YtnpkdiffpgcbhaaGreatDoor
namespace Go.Proofs.YtnpkdiffpgcbhaaGreatDoor
theorem cleanL_mem {l : List GV} (h : cleanL l = true) {v : GV} (hv : v ∈ l) : cleanG v = true := List.all_eq_true.1 h v hv
theorem okv_may {v : GV} (hr : Rng v) : ∀ f, mayN f v = true → cleanG v = true → OkV f v := by
 induction hr with
 | mk k b i t l h0 h1 h ih =>
  intro f hm hc
  rw [mayN_mk] at hm
  rw [cleanG_mk, Bool.and_eq_true] at hc
  split at hm
  ·rename_i hk; subst hk
   simp only [Bool.and_eq_true, Bool.not_eq_true', beq_iff_eq, List.isEmpty_iff] at hm
   obtain ⟨⟨⟨rfl, rfl⟩, rfl⟩, rfl⟩ := hm
   exact .null f
  split at hm
  ·rename_i hk; subst hk
   simp only [Bool.and_eq_true, beq_iff_eq, List.isEmpty_iff] at hm
   obtain ⟨⟨rfl, rfl⟩, rfl⟩ := hm
   exact .bool f b
  split at hm
  ·rename_i hk; subst hk
   simp only [Bool.and_eq_true, Bool.not_eq_true', List.isEmpty_iff] at hm
   obtain ⟨⟨rfl, rfl⟩, rfl⟩ := hm
   by_cases hi : 0 ≤ i
   ·obtain ⟨n, rfl⟩ := Int.eq_ofNat_of_zero_le hi
    exact .nat f n (by unfold maxI; omega)
   ·obtain ⟨n, rfl⟩ : ∃ n : Nat, i = -((n + 1 : Nat) : Int) := ⟨(-i - 1).toNat, by omega⟩
    exact .neg f n (by unfold maxI; omega)
  split at hm
  ·rename_i hk; subst hk
   simp only [Bool.and_eq_true, Bool.not_eq_true', beq_iff_eq, List.isEmpty_iff, decide_eq_true_eq] at hm
   obtain ⟨⟨⟨rfl, rfl⟩, rfl⟩, _⟩ := hm
   exact .text f t (fun c hc' => List.all_eq_true.1 hc.1 c hc')
  split at hm
  ·rename_i hk; subst hk
   simp only [Bool.and_eq_true, Bool.not_eq_true', List.isEmpty_iff, decide_eq_true_eq] at hm
   obtain ⟨⟨⟨rfl, rfl⟩, rfl⟩, hi⟩ := hm
   obtain ⟨n, rfl⟩ : ∃ n : Nat, i = ((n + 1 : Nat) : Int) := ⟨(i - 1).toNat, by omega⟩
   exact .fact f n (by unfold maxI; omega)
  split at hm
  ·rename_i hk; subst hk
   cases f with
   | zero => simp at hm
   | succ f =>
    simp only [Bool.and_eq_true, Bool.not_eq_true', beq_iff_eq, List.isEmpty_iff, decide_eq_true_eq, List.all_eq_true] at hm
    obtain ⟨⟨⟨⟨rfl, rfl⟩, rfl⟩, hl⟩, ha⟩ := hm
    exact .list f l (fun v hv => ih v hv f (ha v hv) (cleanL_mem hc.2 hv)) (by unfold maxList; exact hl)
  ·cases hm
theorem join_mem {x : Bs} {l : List Bs} (h : x ∈ l) : x.length ≤ (joinSp l).length := joinSp_mem_len h
theorem may_okv {f : Nat} {v : GV} (h : OkV f v) : (wrB v).length ≤ 65536 → mayN f v = true := by
 induction h with
 | null d => intro _; rw [nullV, mayN_mk]; rfl
 | bool d b => intro _; rw [boolV, mayN_mk]; rfl
 | nat d n h => intro _; rw [intV, mayN_mk]; rfl
 | neg d n h => intro _; rw [intV, mayN_mk]; rfl
 | text d t h =>
  intro hl
  rw [textV, wrB_mk, if_neg (by decide), if_neg (by decide), if_neg (by decide), if_pos rfl] at hl
  have := quote_le t
  rw [textV, mayN_mk, if_neg (by decide), if_neg (by decide), if_neg (by decide), if_pos rfl]
  simp; omega
 | fact d n h =>
  intro _
  rw [factV, mayN_mk, if_neg (by decide), if_neg (by decide), if_neg (by decide), if_neg (by decide), if_pos rfl]
  simp; omega
 | list d l h hl ih =>
  intro hn
  rw [listV, wrB_mk, if_neg (by decide), if_neg (by decide), if_neg (by decide), if_neg (by decide), if_neg (by decide)] at hn
  rw [listV, mayN_mk, if_neg (by decide), if_neg (by decide), if_neg (by decide), if_neg (by decide), if_neg (by decide), if_pos rfl]
  unfold maxList at hl
  simp only [Bool.and_eq_true, decide_eq_true_eq, List.all_eq_true]
  refine ⟨⟨by simp, hl⟩, fun v hv => ih v hv ?_⟩
  have hm : wrB v ∈ [91] :: (commas (l.map wrB) ++ [[93]]) := List.mem_cons_of_mem _ (List.mem_append_left _ (commas_mem (List.mem_map_of_mem hv)))
  exact Nat.le_trans (join_mem hm) hn
def cntG : GV → Nat
 | .mk _ _ _ _ l => 1 + (l.attach.map fun x => cntG x.1).sum
decreasing_by
 all_goals simp_wf
 have := List.sizeOf_lt_of_mem x.2
 omega
theorem cntG_mk (k : Int) (b : Bool) (i : Int) (t : Bs) (l : List GV) : cntG (.mk k b i t l) = 1 + (l.map cntG).sum := by
 rw [cntG, attach_map l cntG]
theorem cnt_size {v : GV} : ∀ f, sizeN f [v] ≤ 1200 → cntG v ≤ sizeN f [v] := by
 induction v using GV.ind with
 | h k b i t l ih =>
  intro f hs
  cases f with
  | zero => exact absurd hs (by show ¬ 1048576 ≤ 1200; decide)
  | succ f =>
   rw [size_one] at hs ⊢
   rw [cntG_mk]
   cases f with
   | zero => exact absurd hs (by show ¬ 1 + t.length / 64 + 1048576 ≤ 1200; omega)
   | succ f =>
    have key : ∀ m : List GV, (∀ x ∈ m, x ∈ l) → (m.map cntG).sum ≤ sizeN (f + 1) m := by
     intro m
     induction m with
     | nil => intro _; exact Nat.zero_le _
     | cons a m ihm =>
      intro hm
      have h1 := ih a (hm a List.mem_cons_self) (f + 1) (by have := size_each (f := f + 1) (hm a List.mem_cons_self); omega)
      have h2 := ihm (fun x hx => hm x (List.mem_cons_of_mem _ hx))
      have e : sizeN (f + 1) (a :: m) = sizeN (f + 1) [a] + sizeN (f + 1) m := by
       show ((a :: m).map fun v => 1 + (gText v).length / 64 + sizeN f (gList v)).sum = ([a].map fun v => 1 + (gText v).length / 64 + sizeN f (gList v)).sum + (m.map fun v => 1 + (gText v).length / 64 + sizeN f (gList v)).sum
       simp
      rw [e, List.map_cons, List.sum_cons]
      omega
    have := key l (fun _ h => h)
    omega
theorem between_cnt {α : Type} (c : α) (g : GV → List α) : ∀ l : List GV, (∀ v ∈ l, (g v).length + 1 ≤ 3 * cntG v) → (between c (l.map g)).length ≤ 3 * (l.map cntG).sum
 | [], _ => Nat.zero_le _
 | [x], h => by
  have := h x List.mem_cons_self
  simp [between]; omega
 | x :: y :: r, h => by
  have h1 := h x List.mem_cons_self
  have h2 := between_cnt c g (y :: r) (fun v hv => h v (List.mem_cons_of_mem _ hv))
  have e : between c ((x :: y :: r).map g) = g x ++ c :: between c ((y :: r).map g) := rfl
  have e2 : ((x :: y :: r).map cntG).sum = cntG x + ((y :: r).map cntG).sum := rfl
  rw [e, e2, List.length_append, List.length_cons]
  omega
theorem toks_cnt {d : Nat} {v : GV} (h : OkV d v) : (valToks v).length + 1 ≤ 3 * cntG v := by
 induction h with
 | null d => rw [valToks_null, nullV, cntG_mk]; simp
 | bool d b => rw [valToks_bool, boolV, cntG_mk]; simp
 | nat d n h => rw [valToks_nat, intV, cntG_mk]; simp
 | neg d n h => rw [valToks_neg, intV, cntG_mk]; simp
 | text d t h => rw [valToks_text, textV, cntG_mk]; simp
 | fact d n h => rw [valToks_fact, factV, cntG_mk]; simp
 | list d l h hl ih =>
  rw [valToks_list, listV, cntG_mk, List.length_cons, List.length_append]
  have := between_cnt commaT valToks l ih
  simp; omega
theorem dec_short : ∀ (k n : Nat), n < 10 ^ (k + 1) → (Lib.decDigits n).length ≤ k + 1 := by
 intro k
 induction k with
 | zero => intro n h; rw [Lib.decDigits, dif_pos (by simpa using h)]; simp
 | succ k ih =>
  intro n h
  rw [Lib.decDigits]
  split
  ·simp
  ·have := ih (n / 10) (by rw [Nat.pow_succ] at h; exact Nat.div_lt_of_lt_mul (by omega))
   simp; omega
theorem commas_sum (M : Nat → Nat) : ∀ l : List Bs, (joinSp ([91] :: (commas l ++ [[93]]))).length ≤ (l.map fun x => x.length + 3).sum + 3
 | [] => by simp [commas, joinSp]
 | [x] => by simp [commas, joinSp]
 | x :: y :: r => by
  have h := commas_sum M (y :: r)
  have e1 : commas (x :: y :: r) = x :: [44] :: commas (y :: r) := rfl
  have hn : commas (y :: r) ++ [[93]] ≠ [] := by simp
  rw [joinSp_cons _ hn] at h
  rw [e1, List.cons_append, List.cons_append, joinSp_cons _ (by simp), joinSp_cons _ (by simp), joinSp_cons _ hn]
  simp only [List.length_append, List.length_cons, List.length_nil, List.map_cons, List.sum_cons] at h ⊢
  omega
theorem wr_short {v : GV} (hr : Rng v) : ∀ f, sizeN f [v] ≤ 1200 → (wrB v).length + 3 ≤ 140 * sizeN f [v] := by
  induction hr with
  | mk k b i t l h0 h1 h ih =>
    intro f hs
    cases f with
    | zero => exact absurd hs (by show ¬ 1048576 ≤ 1200; decide)
    | succ f =>
      rw [size_one] at hs ⊢
      rw [wrB_mk]
      split
      · show 4 + 3 ≤ _; omega
      split
      · split
        · show 4 + 3 ≤ _; omega
        · show 5 + 3 ≤ _; omega
      split
      · split
        · have := dec_short 19 i.natAbs (by rw [show (10 : Nat) ^ (19 + 1) = 100000000000000000000 from rfl]; omega)
          simp only [List.length_cons]; omega
        · have := dec_short 19 i.toNat (by rw [show (10 : Nat) ^ (19 + 1) = 100000000000000000000 from rfl]; omega)
          omega
      split
      · have := quoteB_len t; omega
      split
      · have h2 : (Lib.itoa i).length ≤ 21 := by
          unfold Lib.itoa
          split
          · have := dec_short 19 i.natAbs (by rw [show (10 : Nat) ^ (19 + 1) = 100000000000000000000 from rfl]; omega)
            simp only [List.length_cons]; omega
          · have := dec_short 19 i.natAbs (by rw [show (10 : Nat) ^ (19 + 1) = 100000000000000000000 from rfl]; omega)
            have h3 := dec_short 19 i.toNat (by rw [show (10 : Nat) ^ (19 + 1) = 100000000000000000000 from rfl]; omega)
            omega
        simp only [List.length_cons]; omega
      · have h2 := commas_sum id (l.map wrB)
        have key : ∀ m : List GV, (∀ x ∈ m, x ∈ l) → ((m.map wrB).map fun x => x.length + 3).sum ≤ 140 * sizeN f m := by
          intro m
          induction m with
          | nil => intro _; exact Nat.zero_le _
          | cons a m ihm =>
            intro hm
            have h1 := ih a (hm a List.mem_cons_self) f (by have := size_each (f := f) (hm a List.mem_cons_self); omega)
            have h2 := ihm (fun x hx => hm x (List.mem_cons_of_mem _ hx))
            cases f with
            | zero => exact absurd hs (by show ¬ 1 + t.length / 64 + 1048576 ≤ 1200; omega)
            | succ f =>
              have e : sizeN (f + 1) (a :: m) = sizeN (f + 1) [a] + sizeN (f + 1) m := by
                show ((a :: m).map fun v => 1 + (gText v).length / 64 + sizeN f (gList v)).sum = ([a].map fun v => 1 + (gText v).length / 64 + sizeN f (gList v)).sum + (m.map fun v => 1 + (gText v).length / 64 + sizeN f (gList v)).sum
                simp
              rw [e, List.map_cons, List.map_cons, List.sum_cons]
              omega
        have := key l (fun _ h => h)
        omega
def wP : Bs := [80]
def wX : Bs := [120]
def opV (v : GV) : OpV := ⟨1, wP, [(wX, v)], 0, [], false, 0, []⟩
def wHead : Bs := [105, 110, 115, 101, 114, 116, 32, 80, 32, 123, 32, 120, 32, 61, 32]
theorem line_opV (v : GV) : lineG (opV v) = wHead ++ (wrB v ++ [32, 125]) := by
 show joinSp (wInsert :: wP :: setsB [(wX, v)]) = _
 simp [setsB, commas, joinSp, wInsert, wP, wX, wEq, wHead]
theorem ok_opV {v : GV} (h : OkV maxDeep v) : OkOp (opV v) :=
 .insert wP [(wX, v)] ⟨⟨80, [], rfl, by decide⟩, by decide⟩ (fun g hg => by
  rw [List.mem_singleton] at hg; subst hg
  exact ⟨show wordOk wX from ⟨⟨120, [], rfl, by decide⟩, by decide⟩, h⟩)
theorem opV_ok {v : GV} (h : OkOp (opV v)) : OkV maxDeep v := by
 generalize ho : opV v = o at h
 cases h with
 | insert c l _ hs =>
  have e1 : [(wX, v)] = l := congrArg OpV.set ho
  subst e1
  exact (hs _ List.mem_cons_self).2
 | _ => simp [opV] at ho
theorem toks_opV (v : GV) : (opToks (opV v)).length = (valToks v).length + 6 := by
 show (wordT wInsert :: wordT wP :: setToks [(wX, v)]).length = _
 simp [setToks, between, givToks]
section
variable {v : GV} (hr : Rng v) (hs : sizeN 101 [v] ≤ 1200)
include hr hs
theorem takes_opV (hm : mayN maxDeep v = true) (hc : cleanG v = true) : Takes (opV v) := by
 have hk := okv_may hr maxDeep hm hc
 refine takes_iff.2 ⟨ok_opV hk, ?_⟩
 rw [toks_opV]
 have h1 := toks_cnt hk
 have h2 := cnt_size 101 hs
 unfold maxLex
 omega
theorem prin_opV : PrIn (opV v) := by
 obtain ⟨h1, h2⟩ := size_wok hr 101 hs
 have h3 := wr_short hr 101 hs
 refine ⟨⟨⟨by show 1 ≤ 5000; decide, fun g hg => ?_⟩, ⟨by show 0 ≤ 5000; decide, fun a ha => by cases ha⟩, ⟨by show (-9223372036854775808 : Int) ≤ 0; decide, by show (0 : Int) ≤ 9223372036854775807; decide⟩, ⟨by show (-9223372036854775808 : Int) ≤ 0; decide, by show (0 : Int) ≤ 9223372036854775807; decide⟩, Nat.zero_le _⟩, ⟨⟨by show 1 ≤ 5000; decide, fun g hg => ?_⟩, ⟨by show 0 ≤ 5000; decide, fun a ha => by cases ha⟩⟩, ?_⟩
 ·have hg : g ∈ [(wX, v)] := hg
  rw [List.mem_singleton] at hg; subst hg
  refine ⟨h1, ?_⟩
  show (wX ++ wEq ++ wrB v).length ≤ _
  simp only [List.length_append, wX, wEq, List.length_cons, List.length_nil]
  omega
 ·have hg : g ∈ [(wX, v)] := hg
  rw [List.mem_singleton] at hg; subst hg
  exact h2
 ·rw [line_opV]
  simp only [List.length_append, wHead, List.length_cons, List.length_nil]
  omega
omit hr hs in
theorem takes_okv (h : Takes (opV v)) : OkV maxDeep v := opV_ok (takes_iff.1 h).ok
omit hr hs in
theorem takes_may (h : Takes (opV v)) (hl : (wrB v).length ≤ 65536) : mayN maxDeep v = true := may_okv (takes_okv h) hl
omit hr in
theorem takes_lex (h : Takes (opV v)) : lexS (wrB v) = some (lxs (valToks v)) ∧ lxs (valToks v) ≠ [] ∧ pVal maxDeep (lxs (valToks v)) = some (v, []) := by
 have hk := takes_okv h
 obtain ⟨e1, e2⟩ := wrB_ok hk
 have h1 := toks_cnt hk
 have h2 := cnt_size 101 hs
 refine ⟨?_, by simpa [lxs] using e2, by simpa using pVal_back hk []⟩
 have ha : lexA (wrB v) = some (lxs (valToks v)) := by
  rw [e1]
  exact lexA_join _ (valToks_ok hk)
 unfold lexS
 rw [ha]
 have : (lxs (valToks v)).length ≤ maxLex := by
  unfold lxs maxLex
  rw [List.length_map]
  omega
 simp only [if_pos this]
end
end Go.Proofs.YtnpkdiffpgcbhaaGreatDoor
namespace Go.Proofs.YtnpkdiffpgcbhaaGreatDoor
open Go.RowKit
attribute [local go_sem] Oper.semAt_some
theorem clean_num (c : UInt8) : (cleanB c = true ∧ ¬ (c.toNat : Int) < 32) ∨ (cleanB c = true ∧ (c.toNat : Int) < 32 ∧ (c.toNat : Int) = 10) ∨ (cleanB c = true ∧ (c.toNat : Int) < 32 ∧ (c.toNat : Int) ≠ 10 ∧ (c.toNat : Int) = 9) ∨ (cleanB c = false ∧ (c.toNat : Int) < 32 ∧ (c.toNat : Int) ≠ 10 ∧ (c.toNat : Int) ≠ 9) := by
 have e32 : (c < 32) = (c.toNat < 32) := by rw [UInt8.lt_iff_toNat_lt]; rfl
 have e10 : (c == 10) = decide (c.toNat = 10) := by rw [Bool.eq_iff_iff, beq_iff_eq, decide_eq_true_eq]; exact ⟨fun h => by rw [h]; rfl, fun h => UInt8.toNat_inj.1 h⟩
 have e9 : (c == 9) = decide (c.toNat = 9) := by rw [Bool.eq_iff_iff, beq_iff_eq, decide_eq_true_eq]; exact ⟨fun h => by rw [h]; rfl, fun h => UInt8.toNat_inj.1 h⟩
 unfold cleanB
 rw [e10, e9]
 by_cases h1 : c < 32
 ·have h1' : c.toNat < 32 := e32 ▸ h1
  by_cases h2 : c.toNat = 10
  ·right; left; simp [h1, h2]
  ·by_cases h3 : c.toNat = 9
   ·right; right; left; simp [h1, h3]
   ·right; right; right; simp [h1, h2, h3]; omega
 ·have h1' : ¬ c.toNat < 32 := e32 ▸ h1
  left; simp [h1]; omega
theorem take_all_b {s : ByteArray} {q : Nat} (h : q < s.size) : (s.data.toList.take (q + 1)).all cleanB = ((s.data.toList.take q).all cleanB && cleanB (s[q]'h)) := by
 have hl : q < s.data.toList.length := h
 have he : s.data.toList[q]'hl = s[q]'h := rfl
 rw [List.take_succ_eq_append_getElem hl, List.all_append, he]
 simp
theorem all_bad {s : ByteArray} {q : Nat} (h : q < s.size) (hb : cleanB (s[q]'h) = false) : s.data.toList.all cleanB = false := by
 have hl : q < s.data.toList.length := h
 have he : s.data.toList[q]'hl = s[q]'h := rfl
 rw [List.all_eq_false]
 exact ⟨_, List.getElem_mem hl, by rw [he, hb]; decide⟩
theorem clean_out {l : List GV} {v : GV} (hv : v ∈ l) (h : cleanG v = false) : cleanL l = false := by
 unfold cleanL
 rw [List.all_eq_false]
 exact ⟨v, hv, by rw [h]; decide⟩
theorem clean_step {l : List GV} (ih : ∀ v ∈ l, ∀ (w : World) (F : Nat → Prop) (s : Value) (xs : List Value), SliceAt w F s (gList v).length ((gList v).length * 5) xs → RdVs w F xs (gList v) → AnsC 19 #[s] (cleanL (gList v)) w)
  {w : World} {F : Nat → Prop} {s : Value} {xs : List Value} (hs : SliceAt w F s l.length (l.length * 5) xs) (hl : RdVs w F xs l) (hn : l.length ≤ 1099511627776) (ht : ∀ v ∈ l, (gText v).length ≤ 1099511627776) :
  AnsC 19 #[s] (cleanL l) w := by
 obtain ⟨a0, cap0, rfl⟩ := hs.shape
 obtain ⟨n, hnn⟩ : ∃ n, l.length = n := ⟨_, rfl⟩
 rw [hnn] at hs hn ⊢
 have HS := Lib.hid hs
 have HL := Lib.hid hl
 have HI := Lib.hid ih
 have HN := Lib.hid hnn
 have HT := Lib.hid ht
 clear hs hl ih hnn ht
 unfold AnsC at *
 go_enter Tryz.func19, Tryz.ntmps19
 go_wp2_with fail
 go_loopg [3] (n + 1) (fun m i wr => ∃ (k : Nat), i = .int .i64 (k : Nat) ∧ k ≤ n ∧ n - k < m ∧ n ≤ 1099511627776 ∧ Hid ((l.take k).all cleanG = true) ∧ Hid (FP nob w wr))
 case atStart => exact ⟨0, rfl, Nat.zero_le _, by omega, hn, Lib.hid (by simp), Lib.hid (FP.refl nob w)⟩
 case round =>
  obtain ⟨k, rfl, hk, hm, hn, HA, HF⟩ := hrel
  by_cases hlt : k < n
  ·have hi0 : (0 : Int) ≤ (k : Int) := by omega
   have hi1 : (k : Int) < (n : Int) := by omega
   have hw1 : IntKind.i64.wrap ((k : Int) + 1) = (k : Int) + 1 := IntWalk.i64_in _ (by omega)
   have hfr : ∀ b, b < w.heap.size → wr.heap[b]? = w.heap[b]? := fun b hl => HF.out.blk b hl (fun x => x.elim)
   obtain ⟨g0, o0, cp0, he0, hle0, _, _, hc0⟩ := (HS.out.frame (fun g _ hl => hfr g hl)).cell (by omega)
   cases he0
   have hv : l[k]? = some (l[k]'(by rw [HN.out]; exact hlt)) := List.getElem?_eq_getElem _
   have hmem : l[k]'(by rw [HN.out]; exact hlt) ∈ l := List.getElem_mem _
   generalize l[k]'(by rw [HN.out]; exact hlt) = v at hv hmem
   obtain ⟨c, hrc, hxc⟩ := (HL.out.frame (fun g _ hl => hfr g hl)).get hv
   have htt := HT.out v hmem
   have hih := HI.out v hmem
   cases hrc with
   | mk kk bb ii tt sl ys l2 hs2 hl2 =>
    obtain ⟨a2, c2, rfl⟩ := hs2.shape
    have x3 : wr.cell? ⟨g0, o0 + k * 5 + 3, none⟩ = some (.string tt) := by rw [Nat.add_assoc]; exact hc0 _ _ (hxc 3 (by omega))
    have x4 : wr.cell? ⟨g0, o0 + k * 5 + 4, none⟩ = some (.slice a2 l2.length c2) := by rw [Nat.add_assoc]; exact hc0 _ _ (hxc 4 (by omega))
    have hts : tt.size ≤ 1099511627776 := htt
    obtain ⟨z, hz⟩ : ∃ z, cleanL l2 = z := ⟨_, rfl⟩
    have hgv : cleanG (GV.mk kk bb ii tt.data.toList l2) = (tt.data.toList.all cleanB && z) := by rw [cleanG_mk, hz]
    have hr := hih wr F (.slice a2 l2.length c2) ys hs2 hl2
    rw [show cleanL (gList (GV.mk kk bb ii tt.data.toList l2)) = z from hz] at hr
    have HC := Lib.hid hr
    have HV := Lib.hid hv
    have HM := Lib.hid hmem
    have HG := Lib.hid hgv
    clear hr hih hs2 hl2 hc0 hxc hv hmem hfr hgv hz htt
    go_wp2_with fail
    go_loopg [4] (tt.size + 1) (fun m i wq => ∃ (q : Nat), i = .int .i64 (q : Nat) ∧ q ≤ tt.size ∧ tt.size - q < m ∧ wq = wr ∧ Hid ((tt.data.toList.take q).all cleanB = true))
    case atStart => exact ⟨0, rfl, Nat.zero_le _, by omega, rfl, Lib.hid (by simp)⟩
    case round =>
     obtain ⟨q, rfl, hq, hmq, rfl, HB⟩ := hrel
     by_cases hlq : q < tt.size
     ·have hj0 : (0 : Int) ≤ (q : Int) := by omega
      have hj1 : (q : Int) < (tt.size : Int) := by omega
      have hw2 : IntKind.i64.wrap ((q : Int) + 1) = (q : Int) + 1 := IntWalk.i64_in _ (by omega)
      have hcn := clean_num (tt[q]'hlq)
      have HTB := Lib.hid (take_all_b hlq)
      rcases hcn with ⟨hc, h32⟩ | ⟨hc, h32, h10⟩ | ⟨hc, h32, h10, h9⟩ | ⟨hc, h32, h10, h9⟩
      ·have HCC := Lib.hid hc
       clear hc
       go_wp2_with fail
       go_roundg (tt.size - (q + 1) + 1)
       case measure => omega
       case rel => exact ⟨q + 1, rfl, by omega, by omega, rfl, Lib.hid (by rw [HTB.out, HB.out, HCC.out]; rfl)⟩
      ·have HCC := Lib.hid hc
       have e10 : ((((tt[q]'hlq).toNat : Int)) == 10) = true := by rw [h10]; rfl
       have n10 : ((((tt[q]'hlq).toNat : Int)) != 10) = false := by rw [h10]; rfl
       clear hc h10
       go_wp2_with fail
       go_roundg (tt.size - (q + 1) + 1)
       case measure => omega
       case rel => exact ⟨q + 1, rfl, by omega, by omega, rfl, Lib.hid (by rw [HTB.out, HB.out, HCC.out]; rfl)⟩
      ·have HCC := Lib.hid hc
       have e10 : ((((tt[q]'hlq).toNat : Int)) == 10) = false := by rw [h9]; rfl
       have n10 : ((((tt[q]'hlq).toNat : Int)) != 10) = true := by rw [h9]; rfl
       have e9 : ((((tt[q]'hlq).toNat : Int)) == 9) = true := by rw [h9]; rfl
       have n9 : ((((tt[q]'hlq).toNat : Int)) != 9) = false := by rw [h9]; rfl
       clear hc h10 h9
       go_wp2_with fail
       go_roundg (tt.size - (q + 1) + 1)
       case measure => omega
       case rel => exact ⟨q + 1, rfl, by omega, by omega, rfl, Lib.hid (by rw [HTB.out, HB.out, HCC.out]; rfl)⟩
      ·have HCC := Lib.hid (all_bad hlq hc)
       have e10 : ((((tt[q]'hlq).toNat : Int)) == 10) = false := by simpa using h10
       have n10 : ((((tt[q]'hlq).toNat : Int)) != 10) = true := by simpa using h10
       have e9 : ((((tt[q]'hlq).toNat : Int)) == 9) = false := by simpa using h9
       have n9 : ((((tt[q]'hlq).toNat : Int)) != 9) = true := by simpa using h9
       clear hc h10 h9
       go_wp2_with fail
       refine bodyPost_ret (v := .bool false) (by simp [results, Tryz.results19]) rfl ⟨?_, HF.out⟩
       rw [clean_out HM.out (by rw [HG.out, HCC.out]; rfl)]
     ·have hj1 : ¬ (q : Int) < (tt.size : Int) := by omega
      have hqe : q = tt.size := by omega
      have hall : tt.data.toList.all cleanB = true := by
       have := HB.out
       rwa [hqe, show tt.size = tt.data.toList.length from rfl, List.take_length] at this
      have HALL := Lib.hid hall
      clear hqe hall
      go_wp2_with fail
      refine HC.out.mono ?_
      rintro e w2 ⟨rfl, hf⟩
      have HF2 : Hid (FP nob w w2) := Lib.hid (FP.trans (S := nob) HF.out hf (fun _ x => x.elim))
      clear hf
      cases z with
      | true =>
       go_wp2_with fail
       go_roundg (n - (k + 1) + 1)
       case measure => omega
       case rel => exact ⟨k + 1, rfl, by omega, by omega, hn, Lib.hid (by rw [List.take_add_one, HV.out, List.all_append, HA.out]; simp [HG.out, HALL.out]), HF2⟩
      | false =>
       go_wp2_with fail
       refine bodyPost_ret (v := .bool false) (by simp [results, Tryz.results19]) rfl ⟨?_, HF2.out⟩
       rw [clean_out HM.out (by rw [HG.out]; simp)]
  ·have hi1 : ¬ (k : Int) < (n : Int) := by omega
   have hke : k = n := by omega
   have hall : cleanL l = true := by
    have := HA.out
    rwa [hke, ← HN.out, List.take_length] at this
   have HALL := Lib.hid hall
   clear hke hall
   go_wp2_with fail
   exact bodyPost_ret (v := .bool true) (by simp [results, Tryz.results19]) rfl ⟨by rw [HALL.out], HF.out⟩
theorem clean_any : ∀ (m : Nat) (l : List GV), bulkL l ≤ m → m ≤ 1099511627776 → ∀ (w : World) (F : Nat → Prop) (s : Value) (xs : List Value), SliceAt w F s l.length (l.length * 5) xs → RdVs w F xs l → AnsC 19 #[s] (cleanL l) w := by
 intro m
 induction m using Nat.strongRecOn with
 | _ m ih =>
  intro l hb hm w F s xs hs hl
  have h1 := bulk_len l
  refine clean_step (fun v hv W G s2 ys k1 k2 => ?_) hs hl (by omega) (fun v hv => ?_)
  ·have h2 := bulk_two v
   have h3 := bulk_mem hv
   exact ih (bulkL (gList v)) (by omega) (gList v) (Nat.le_refl _) (by omega) W G s2 ys k1 k2
  ·have := bulk_two v
   have := bulk_mem hv
   omega
end Go.Proofs.YtnpkdiffpgcbhaaGreatDoor
