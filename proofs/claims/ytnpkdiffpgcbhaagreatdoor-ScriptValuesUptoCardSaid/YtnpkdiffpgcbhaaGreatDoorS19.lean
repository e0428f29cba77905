/- The parser, walked (ParB). Conditions: each theorem's own. -/
import Derived.Test.YtnpkdiffpgcbhaaGreatDoorS18
set_option maxRecDepth 100000
set_option maxHeartbeats 1600000
namespace Go.Proofs.YtnpkdiffpgcbhaaGreatDoor
open Go.RowKit
theorem take_some {w : World} {pb k : Nat} {T r : List Lx} (h : PAt w pb T k) (kd : Nat) (s : ByteArray) {t : Bs} (ht : takeL kd s.data.toList (T.drop k) = some (t, r)) :
  Calls Tryz.prog 56 #[.pointer (some ⟨pb, 0, none⟩), .int .i64 kd, .string s] w fun e w' => ∃ x : ByteArray, e = .returned (.string x) ∧ x.data.toList = t ∧ PAt w' pb T (k + 1) ∧ FP (fun i => i = pb) w w' := by
 have his : isL kd s.data.toList (T.drop k) = true := by rw [← takeL_is, ht]; rfl
 obtain ⟨hk, h1, h2, h3⟩ := takeL_drop ht
 obtain ⟨g, off, cap, x, k1, k2, k3, k4, k5, k6⟩ := h.next hk
 have hc := is_any h kd s
 rw [his] at hc
 have hl := h.good.len
 have H := Lib.hid h
 have HC : Hid (Calls Tryz.prog 72 #[.pointer (some ⟨pb, 0, none⟩), .int .i64 kd, .string s] w fun e w' => e = .returned (.bool true) ∧ ∃ q, w' = w.drewN q) := Lib.hid hc
 have HX : Hid (x.data.toList = t) := Lib.hid (k6.trans h1.symm)
 have c1 : w.cell? ⟨pb, 1, none⟩ = some (.int .i64 k) := cell_blk k1
 have f1 : w.frozen? ⟨pb, 1, none⟩ = false := frz_blk k1
 have K1 := Lib.hid k1
 have K5 := Lib.hid k5
 obtain ⟨N, hN⟩ : ∃ N, T.length = N := ⟨_, rfl⟩
 have HN := Lib.hid hN
 clear h ht his h1 h2 h3 hc k6 k1 k4 k5
 go_enter Tryz.func56, Tryz.ntmps56
 go_wp2_with fail
 refine HC.out.mono ?_
 rintro e w1 ⟨rfl, q, rfl⟩
 go_wp2_with (go_at_call 57; refine (need_true _).mono ?_; rintro e w' ⟨rfl, rfl⟩)
 obtain ⟨w2, hw2⟩ : ∃ w2, (w.drewN q).setCell ⟨pb, 1, none⟩ (.int .i64 ((k : Int) + 1)) = w2 := ⟨_, rfl⟩
 rw [hw2]
 have hp2 : PAt w2 pb T (k + 1) := by
  rw [← hw2]
  exact (H.out.same (w' := w.drewN q) (fun _ _ => rfl)).put (k' := k + 1) (by rw [HN.out]; omega)
 have hf2 : FP (fun i => i = pb) w w2 := by
  rw [← hw2]
  exact ((FP.refl _ w).same (same_drewN w q)).set _ (.inl rfl)
 have b2 : w2.heap[pb]? = some (.cells #[.slice (some ⟨g, off, none⟩) T.length cap, .int .i64 ((k : Int) + 1)] 135 (0,0)) := by
  rw [← hw2]; exact (heap_set (w := w.drewN q) K1.out _ _).trans (if_pos rfl)
 have d0 : w2.cell? ⟨pb, 0, none⟩ = some (.slice (some ⟨g, off, none⟩) N cap) := by rw [← HN.out]; exact cell_blk b2
 have d1 : w2.cell? ⟨pb, 1, none⟩ = some (.int .i64 ((k : Int) + 1)) := cell_blk b2
 have d2 : w2.cell? ⟨g, off + k * 4 + 1, none⟩ = some (.string x) := by
  refine Eq.trans ?_ K5.out
  rw [← hw2]
  exact World.cell?_of_block (heap_set_ne (w := w.drewN q) (by simp; omega))
 have hk : k < N := by rw [← HN.out]; assumption
 have e1 : IntKind.i64.wrap ((k : Int) + 1 - 1) = (k : Int) := by
  rw [show (k : Int) + 1 - 1 = (k : Int) by omega]; exact IntWalk.i64_in _ (by omega)
 have e2 : (0 : Int) ≤ (k : Int) := by omega
 have e3 : (k : Int) < (N : Int) := by omega
 have HP2 := Lib.hid hp2
 have HF2 := Lib.hid hf2
 clear hw2 b2 hp2 hf2
 go_quiet (fail)
 go_wp2_with fail
 go_ret
 refine ⟨x, rfl, HX.out, HP2.out.same (fun _ _ => rfl), HF2.out.same (same_drewN _ _)⟩
theorem take_none {w : World} {pb k : Nat} {T : List Lx} (h : PAt w pb T k) (kd : Nat) (s : ByteArray) (ht : takeL kd s.data.toList (T.drop k) = none) :
  Calls Tryz.prog 56 #[.pointer (some ⟨pb, 0, none⟩), .int .i64 kd, .string s] w fun e w' => e = .panicked [{ v := .iface 132 (.agg #[]), recovered := false }] ∧ FP (fun i => i = pb) w w' := by
 have his : isL kd s.data.toList (T.drop k) = false := by rw [← takeL_is, ht]; rfl
 have hc := is_any h kd s
 rw [his] at hc
 have HC : Hid (Calls Tryz.prog 72 #[.pointer (some ⟨pb, 0, none⟩), .int .i64 kd, .string s] w fun e w' => e = .returned (.bool false) ∧ ∃ q, w' = w.drewN q) := Lib.hid hc
 clear h ht his hc
 go_enter Tryz.func56, Tryz.ntmps56
 go_wp2_with fail
 refine HC.out.mono ?_
 rintro e w1 ⟨rfl, q, rfl⟩
 go_wp2_with (go_at_call 57; refine (need_false _).mono ?_; rintro e w' ⟨rfl, rfl⟩)
 exact ⟨rfl, rfl, (FP.refl _ w).same (same_drewN w q)⟩
theorem mark_some {w : World} {pb k : Nat} {T r : List Lx} (h : PAt w pb T k) (s : ByteArray) {t : Bs} (ht : takeL 4 s.data.toList (T.drop k) = some (t, r)) :
  Calls Tryz.prog 74 #[.pointer (some ⟨pb, 0, none⟩), .string s] w fun e w' => e = .returned (.bool true) ∧ PAt w' pb T (k + 1) ∧ FP (fun i => i = pb) w w' := by
 have his : isL 4 s.data.toList (T.drop k) = true := by rw [← takeL_is, ht]; rfl
 obtain ⟨hk, _⟩ := takeL_drop ht
 have hc := is_any h 4 s
 rw [his] at hc
 have hl := h.good.len
 obtain ⟨sl, xs, k1, k2, k3⟩ := h.box
 have c1 : w.cell? ⟨pb, 1, none⟩ = some (.int .i64 k) := cell_blk k1
 have f1 : w.frozen? ⟨pb, 1, none⟩ = false := frz_blk k1
 have H := Lib.hid h
 have HC : Hid (Calls Tryz.prog 72 #[.pointer (some ⟨pb, 0, none⟩), .int .i64 4, .string s] w fun e w' => e = .returned (.bool true) ∧ ∃ q, w' = w.drewN q) := Lib.hid hc
 clear h ht his hc k1 k2 k3
 go_enter Tryz.func74, Tryz.ntmps74
 go_wp2_with fail
 refine HC.out.mono ?_
 rintro e w1 ⟨rfl, q, rfl⟩
 go_wp2_with fail
 go_ret
 refine ⟨rfl, ?_, ?_⟩
 ·exact (H.out.same (w' := w.drewN q) (fun _ _ => rfl)).put (k' := k + 1) hk
 ·exact ((FP.refl _ w).same (same_drewN w q)).set _ (.inl rfl)
theorem mark_none {w : World} {pb k : Nat} {T : List Lx} (h : PAt w pb T k) (s : ByteArray) (ht : takeL 4 s.data.toList (T.drop k) = none) :
  Calls Tryz.prog 74 #[.pointer (some ⟨pb, 0, none⟩), .string s] w fun e w' => e = .returned (.bool false) ∧ Same w w' := by
 have his : isL 4 s.data.toList (T.drop k) = false := by rw [← takeL_is, ht]; rfl
 have hc := is_any h 4 s
 rw [his] at hc
 have HC : Hid (Calls Tryz.prog 72 #[.pointer (some ⟨pb, 0, none⟩), .int .i64 4, .string s] w fun e w' => e = .returned (.bool false) ∧ ∃ q, w' = w.drewN q) := Lib.hid hc
 clear h ht his hc
 go_enter Tryz.func74, Tryz.ntmps74
 go_wp2_with fail
 refine HC.out.mono ?_
 rintro e w1 ⟨rfl, q, rfl⟩
 go_wp2_with fail
 go_ret
 exact ⟨rfl, same_drewN _ _⟩
theorem takeL_good {T : List Lx} {t : Bs} {r : List Lx} {k : Nat} (hg : GoodRow T) (h : takeL 2 [] (T.drop k) = some (t, r)) : t ≠ [] ∧ (∀ c ∈ t, digitB c = true) ∧ t.length ≤ 1099511627776 := by
 obtain ⟨hk, rfl, _, h2⟩ := takeL_drop h
 have := hg.good _ (List.getElem_mem hk)
 exact ⟨(this.1 h2).1, (this.1 h2).2, this.2⟩
theorem fp_bytes {S : Nat → Prop} {w w' : World} (h : w' = w ∨ ∃ t, w' = Lib.bytesWorld w 5 t) : FP S w w' := by
 rcases h with rfl | ⟨t, rfl⟩
 ·exact FP.refl _ _
 ·exact FP.ofBelow (Lib.bytesWorld_below w 5 t)
theorem PAt.fp {S : Nat → Prop} {w w' : World} {pb k : Nat} {T : List Lx} (h : PAt w pb T k) (hf : FP S w w') (hS : ∀ i, S i → pb < i) : PAt w' pb T k :=
 h.same (fun b hb => hf.blk b (Nat.lt_of_le_of_lt hb h.lt) (fun hs => by have := hS b hs; omega))
theorem number_ok {w : World} {pb k : Nat} {T r : List Lx} {n : Nat} (h : PAt w pb T k) (hn : numL (T.drop k) = some (n, r)) :
  Calls Tryz.prog 73 #[.pointer (some ⟨pb, 0, none⟩)] w fun e w' => e = .returned (.int .i64 n) ∧ PAt w' pb T (k + 1) ∧ FP (fun i => i = pb) w w' := by
 unfold numL at hn
 split at hn
 ·simp at hn
 ·rename_i t r' ht
  split at hn
  ·rename_i hle
   simp at hn
   obtain ⟨g1, g2, g3⟩ := takeL_good h.good ht
   have hp := parseInt_digits g1 g2
   rw [if_pos (by unfold maxI at hle; exact hle)] at hp
   have HT := Lib.hid (take_some (s := ⟨#[]⟩) h 2 ht)
   have HP := Lib.hid hp
   have HN := Lib.hid hn.1
   clear hn hle ht g1 g2 hp h
   go_enter Tryz.func73, Tryz.ntmps73
   go_wp2_with fail
   refine HT.out.mono ?_
   rintro e w1 ⟨x, rfl, hx, h1, h2⟩
   have HX := Lib.hid hx
   have H1 := Lib.hid h1
   have H2 := Lib.hid h2
   have hxs : x.size ≤ 9223372036854775806 := by
    have : x.size = x.data.toList.length := rfl
    rw [this, HX.out]; omega
   clear hx h1 h2
   go_wp2_with fail
   refine (Tryz.strconv_ParseInt_10_at64_ok x hxs (n : Int) (by rw [HX.out, HP.out, HN.out]) _).mono ?_
   rintro e w2 ⟨rfl, hw⟩
   have hf : FP nob w1 w2 := fp_bytes hw
   have HF := Lib.hid hf
   clear hf hw
   go_wp2_with (go_at_call 57; refine (need_true _).mono ?_; rintro e w' ⟨rfl, rfl⟩)
   go_ret
   exact ⟨rfl, H1.out.fp HF.out (fun _ h => h.elim), H2.out.trans HF.out (fun _ h => h.elim)⟩
  ·simp at hn
theorem number_none {w : World} {pb k : Nat} {T : List Lx} (h : PAt w pb T k) (hn : numL (T.drop k) = none) :
  Calls Tryz.prog 73 #[.pointer (some ⟨pb, 0, none⟩)] w fun e w' => e = .panicked [{ v := .iface 132 (.agg #[]), recovered := false }] ∧ FP (fun i => i = pb) w w' := by
 unfold numL at hn
 split at hn
 ·rename_i ht
  have HT := Lib.hid (take_none (s := ⟨#[]⟩) h 2 ht)
  clear h hn ht
  go_enter Tryz.func73, Tryz.ntmps73
  go_wp2_with fail
  refine HT.out.mono ?_
  rintro e w1 ⟨rfl, h1⟩
  exact ⟨rfl, rfl, h1⟩
 ·rename_i t r' ht
  split at hn
  ·simp at hn
  ·rename_i hle
   obtain ⟨g1, g2, g3⟩ := takeL_good h.good ht
   have hp := parseInt_digits g1 g2
   rw [if_neg (by unfold maxI at hle; exact hle)] at hp
   have HT := Lib.hid (take_some (s := ⟨#[]⟩) h 2 ht)
   have HP := Lib.hid hp
   clear hn hle ht g1 g2 hp h
   go_enter Tryz.func73, Tryz.ntmps73
   go_wp2_with fail
   refine HT.out.mono ?_
   rintro e w1 ⟨x, rfl, hx, h1, h2⟩
   have HX := Lib.hid hx
   have H1 := Lib.hid h1
   have H2 := Lib.hid h2
   have hxs : x.size ≤ 281474976710656 := by
    have : x.size = x.data.toList.length := rfl
    rw [this, HX.out]; omega
   clear hx h1 h2
   obtain ⟨tp, p, hr⟩ := H1.out.lib.range
   have HR := Lib.hid hr
   clear hr
   go_wp2_with fail
   refine (Tryz.strconv_ParseInt_10_at64_range x hxs (by rw [HX.out, HP.out]) (.iface tp p) _ HR.out (.inr ⟨tp, p, rfl⟩)).mono ?_
   rintro e w2 ⟨N, rfl, _, _, hb⟩
   have HB := Lib.hid hb
   clear hb
   go_wp2_with (go_at_call 57; refine (need_false _).mono ?_; rintro e w' ⟨rfl, rfl⟩)
   exact ⟨rfl, rfl, H2.out.trans (FP.ofBelow (S := nob) HB.out) (fun _ h => h.elim)⟩
end Go.Proofs.YtnpkdiffpgcbhaaGreatDoor
