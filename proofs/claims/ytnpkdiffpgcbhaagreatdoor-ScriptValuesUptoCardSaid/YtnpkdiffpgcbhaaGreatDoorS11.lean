/- The lexer, walked (LexD). Conditions: each theorem's own. -/
import Derived.Test.YtnpkdiffpgcbhaaGreatDoorS09
import Derived.Test.YtnpkdiffpgcbhaaGreatDoorS10
set_option maxRecDepth 100000
set_option maxHeartbeats 3200000
namespace Go.Proofs.YtnpkdiffpgcbhaaGreatDoor
open Go.RowKit
def quotedF (s : ByteArray) (a : Nat) : Bs × Nat :=
 match quotedB (restB s (a + 1)) with
 | none => ([], 0)
 | some (t, r) => (t, s.size - a - r.length)
def Qt (s : ByteArray) (a j : Nat) (acc : Bs) : Prop := quotedB (restB s (a + 1)) = (quotedB (restB s (a + j))).map fun p => (acc ++ p.1, p.2)
theorem Qt.start (s : ByteArray) (a : Nat) : Qt s a 1 [] := by unfold Qt; cases quotedB (restB s (a + 1)) <;> simp
theorem quotedB_cons (c : UInt8) (r : Bs) (h34 : c ≠ 34) (h92 : c ≠ 92) (h32 : ¬ c < 32) : quotedB (c :: r) = (quotedB r).map fun p => (c :: p.1, p.2) := by
 rw [quotedB.eq_def]
 have e1 : (c == 34) = false := by simpa using h34
 have e2 : (c == 92) = false := by simpa using h92
 simp only [e1, e2, if_neg h32, Bool.false_eq_true, if_false]
 cases quotedB r <;> rfl
theorem quotedB_esc (d e : UInt8) (r : Bs) (h : escB d = some e) : quotedB (92 :: d :: r) = (quotedB r).map fun p => (e :: p.1, p.2) := by
 rw [quotedB.eq_def]
 have e1 : ((92 : UInt8) == 34) = false := by decide
 have e2 : ((92 : UInt8) == 92) = true := by decide
 simp only [e1, e2, h, Bool.false_eq_true, if_false, if_true]
 cases quotedB r <;> rfl
section
variable {s : ByteArray} {a j : Nat} {acc : Bs}
theorem Qt.plain (h : Qt s a j acc) (hj : a + j < s.size) (h34 : peekB s.data.toList (a + j) ≠ 34) (h92 : peekB s.data.toList (a + j) ≠ 92) (h32 : ¬ peekB s.data.toList (a + j) < 32) : Qt s a (j + 1) (acc ++ [peekB s.data.toList (a + j)]) := by
 unfold Qt at h ⊢
 rw [h, restB_cons hj, quotedB_cons _ _ h34 h92 h32]
 cases quotedB (restB s (a + (j + 1))) <;> simp []
theorem Qt.esc (h : Qt s a j acc) (hj : a + j + 1 < s.size) (h92 : peekB s.data.toList (a + j) = 92) {e : UInt8} (he : escB (peekB s.data.toList (a + j + 1)) = some e) : Qt s a (j + 2) (acc ++ [e]) := by
 unfold Qt at h ⊢
 rw [h, restB_cons (by omega), restB_cons hj, h92, quotedB_esc _ _ _ he]
 cases quotedB (restB s (a + (j + 2))) <;> simp []
theorem Qt.end_ (h : Qt s a j acc) (hj : a + j < s.size) (h34 : peekB s.data.toList (a + j) = 34) : quotedF s a = (acc, j + 1) := by
 unfold Qt at h
 have hq : quotedB (restB s (a + 1)) = some (acc, restB s (a + j + 1)) := by
  rw [h, restB_cons hj, h34, quotedB.eq_def]
  simp
 unfold quotedF
 rw [hq]
 have hl : (restB s (a + j + 1)).length = s.size - (a + j + 1) := by unfold restB; rw [List.length_drop]; rfl
 simp only [hl, Prod.mk.injEq, true_and]
 omega
theorem Qt.none_ (h : Qt s a j acc) (hq : quotedB (restB s (a + j)) = none) : quotedF s a = ([], 0) := by
 unfold Qt at h
 unfold quotedF
 rw [h, hq]; rfl
theorem Qt.low (h : Qt s a j acc) (hj : a + j < s.size) (h34 : peekB s.data.toList (a + j) ≠ 34) (h92 : peekB s.data.toList (a + j) ≠ 92) (h32 : peekB s.data.toList (a + j) < 32) : quotedF s a = ([], 0) := by
 refine h.none_ ?_
 rw [restB_cons hj, quotedB.eq_def]
 simp [h34, h92, h32]
theorem escB_zero : escB 0 = none := by decide
theorem Qt.bad (h : Qt s a j acc) (hj : a + j < s.size) (h92 : peekB s.data.toList (a + j) = 92) (he : escB (peekB s.data.toList (a + j + 1)) = none) : quotedF s a = ([], 0) := by
 refine h.none_ ?_
 rw [restB_cons hj, h92, quotedB.eq_def]
 rcases Nat.lt_or_ge (a + j + 1) s.size with h1 | h1
 ·rw [restB_cons h1]
  simp [he]
 ·rw [restB_nil h1]; simp
theorem Qt.over (h : Qt s a j acc) (hj : s.size ≤ a + j) : quotedF s a = ([], 0) := by
 refine h.none_ ?_
 rw [restB_nil hj]; rfl
theorem escB_index (d : UInt8) : (escB d = none ∧ Lib.indexByte [34, 92, 110, 116] d = -1) ∨ (escB d = some 34 ∧ Lib.indexByte [34, 92, 110, 116] d = 0) ∨ (escB d = some 92 ∧ Lib.indexByte [34, 92, 110, 116] d = 1) ∨
  (escB d = some 10 ∧ Lib.indexByte [34, 92, 110, 116] d = 2) ∨ (escB d = some 9 ∧ Lib.indexByte [34, 92, 110, 116] d = 3) := by
 by_cases h1 : d = 34
 ·subst h1; decide
 by_cases h2 : d = 92
 ·subst h2; decide
 by_cases h3 : d = 110
 ·subst h3; decide
 by_cases h4 : d = 116
 ·subst h4; decide
 ·left
  have e1 : (d == 34) = false := by simpa using h1
  have e2 : (d == 92) = false := by simpa using h2
  have e3 : (d == 110) = false := by simpa using h3
  have e4 : (d == 116) = false := by simpa using h4
  have f1 : ((34 : UInt8) == d) = false := by simpa using fun e : 34 = d => h1 e.symm
  have f2 : ((92 : UInt8) == d) = false := by simpa using fun e : 92 = d => h2 e.symm
  have f3 : ((110 : UInt8) == d) = false := by simpa using fun e : 110 = d => h3 e.symm
  have f4 : ((116 : UInt8) == d) = false := by simpa using fun e : 116 = d => h4 e.symm
  simp [escB, Lib.indexByte, e1, e2, e3, e4, f1, f2, f3, f4]
end
theorem byteCells_snoc (l : Bs) (c : UInt8) : Lib.byteCells (l ++ [c]) = Lib.byteCells l ++ [.int .u8 (c.toNat : Int)] := by unfold Lib.byteCells; simp
theorem byteCells_length (l : Bs) : (Lib.byteCells l).length = l.length := by unfold Lib.byteCells; simp
structure QAt (w wl : World) (B : Nat) (acc : Bs) : Prop where
 bld : Lib.IsBuilder 72 5 B B (Lib.byteCells acc) wl
 bel : Below B w wl
 siz : B = w.heap.size
theorem QAt.drewN {w wl : World} {B q : Nat} {acc : Bs} (h : QAt w wl B acc) : QAt w (wl.drewN q) B acc := ⟨h.bld, ⟨h.bel.os, h.bel.tape, h.bel.output, h.bel.size, h.bel.block⟩, h.siz⟩
theorem QAt.lex {w wl : World} {B xb a : Nat} {acc : Bs} {s : ByteArray} {bad : Bool} (h : QAt w wl B acc) (hl : LxAt w xb s a bad) : LxAt wl xb s a bad :=
 ⟨(h.bel.block _ (by have := hl.lt; have := h.siz; omega)).trans hl.blk, hl.le, hl.sz⟩
def QuotedPost (w : World) (s : ByteArray) (a : Nat) (e : Ending) (w' : World) : Prop :=
 e = .returned (.tuple #[.string ⟨(quotedF s a).1.toArray⟩, .int .i64 ((quotedF s a).2 : Nat)]) ∧ Below w.heap.size w w'
section
variable {w : World} {xb a : Nat} {s : ByteArray} {bad : Bool}
theorem quoted_none {wl : World} (h : quotedF s a = ([], 0)) {B : Nat} {acc : Bs} (hq : QAt w wl B acc) : QuotedPost w s a (.returned (.tuple #[.string ⟨#[]⟩, .int .i64 0])) wl :=
 ⟨by rw [h]; rfl, by rw [← hq.siz]; exact hq.bel⟩
theorem quoted_any (h : LxAt w xb s a bad) : Calls Tryz.prog 157 #[.pointer (some ⟨xb, 0, none⟩)] w (QuotedPost w s a) := by
 have hle := h.le
 have hsz := h.sz
 have hxl := h.lt
 have H := Lib.hid h
 have hq0 : QAt w (w.alloc (.cells #[.pointer none, .slice none 0 0] 72)) w.heap.size [] := ⟨Lib.fresh_isBuilder 72 5 w, (Below.refl _ _).alloc (Nat.le_refl _) _, rfl⟩
 have HQ0 := Lib.hid hq0
 obtain ⟨B, hB⟩ : ∃ B, w.heap.size = B := ⟨_, rfl⟩
 have HB := Lib.hid hB
 clear h hq0
 go_enter Tryz.func157, Tryz.ntmps157
 go_wp2_with fail
 clear hB
 go_loopw [5] (fun i wl => ∃ (j : Nat) (acc : Bs), 1 ≤ j ∧ a + j ≤ s.size + 1 ∧ acc.length ≤ j ∧ i = .int .i64 j ∧ Hid (QAt w wl B acc) ∧ Hid (Qt s a j acc)) (fun i _ => s.size + 1 - (intOf i).toNat)
 case atStart => exact ⟨1, [], Nat.le_refl _, by omega, Nat.zero_le _, rfl, by rw [← HB.out]; exact HQ0.out, Qt.start s a⟩
 case round =>
  obtain ⟨j, acc, hj1, hj, hacc, rfl, HQ, HT⟩ := hrel
  have hlx := HQ.out.lex H.out
  have c0 : wr.cell? ⟨xb, 0, none⟩ = some (.string s) := cell_blk hlx.blk
  have c1 : wr.cell? ⟨xb, 1, none⟩ = some (.int .i64 a) := cell_blk hlx.blk
  have HLX := Lib.hid hlx
  clear hlx
  have hw1 : IntKind.i64.wrap ((a : Int) + (j : Int)) = (a : Int) + (j : Int) := IntWalk.i64_in _ (by omega)
  by_cases hlt : a + j < s.size
  ·have hd : decide ((a : Int) + (j : Int) < (s.size : Int)) = true := by simp; omega
   go_wp2_with fail
   go_quiet (fail)
   clear hw1
   have hq1 := HQ.out.drewN (q := nq)
   obtain ⟨wa, hwa⟩ : ∃ wa, wr.drewN nq = wa := ⟨_, rfl⟩
   rw [hwa] at hq1 ⊢
   have HQ1 := Lib.hid hq1
   obtain ⟨c, hc⟩ : ∃ c, peekB s.data.toList (a + j) = c := ⟨_, rfl⟩
   have hp := peek_any (hq1.lex H.out) j (by omega)
   rw [hc] at hp
   have HP := Lib.hid hp
   have HC := Lib.hid hc
   clear hq1 hwa hp hc c0 c1
   go_wp2_with fail
   refine HP.out.mono ?_
   rintro e wb ⟨rfl, q2, hq2⟩
   have hqb : QAt w wb B acc := by rw [hq2]; exact HQ1.out.drewN
   have HQB := Lib.hid hqb
   clear hq2 hqb
   obtain ⟨b34, h34⟩ : ∃ b, ((c.toNat : Int) == 34) = b := ⟨_, rfl⟩
   have H34 : Hid (b34 = true ↔ c = 34) := Lib.hid (by rw [← h34]; simp [← UInt8.toNat_inj]; omega)
   cases b34 with
   | true =>
    have hend := HT.out.end_ hlt (by rw [HC.out]; exact H34.out.1 rfl)
    have HEND := Lib.hid hend
    clear hend
    go_wp2_with fail
    refine (Tryz.Builder_String_any B B acc _ HQB.out.bld (by have := HQB.out.siz; have := HQB.out.bel.size; omega)).mono ?_
    rintro e wc ⟨rfl, hbel⟩
    have HBEL := Lib.hid (HQB.out.bel.trans hbel)
    clear hbel
    go_wp2_with fail
    go_ret2
    refine ⟨?_, by rw [HB.out]; exact HBEL.out⟩
    rw [HEND.out]
    simp only []
    rfl
   | false =>
    obtain ⟨b92, h92⟩ : ∃ b, ((c.toNat : Int) == 92) = b := ⟨_, rfl⟩
    have H92 : Hid (b92 = true ↔ c = 92) := Lib.hid (by rw [← h92]; simp [← UInt8.toNat_inj]; omega)
    cases b92 with
    | true =>
     obtain ⟨d, hdd⟩ : ∃ d, peekB s.data.toList (a + (j + 1)) = d := ⟨_, rfl⟩
     have hp2 := peek_any (HQB.out.lex H.out) (j + 1) (by omega)
     rw [hdd, show ((j + 1 : Nat) : Int) = (j : Int) + 1 by omega] at hp2
     have HP2 := Lib.hid hp2
     have HDD : Hid (peekB s.data.toList (a + j + 1) = d) := Lib.hid (by rw [← hdd]; rfl)
     have hk67 : ∀ w, Calls Tryz.prog 67 #[.string ⟨#[34, 92, 110, 116]⟩, .int .u8 (d.toNat : Int)] w fun e w' => e = .returned (.int .i64 (Lib.indexByte [34, 92, 110, 116] d)) ∧ w' = w := fun w => by
      have := Tryz.strings_IndexByte ⟨#[34, 92, 110, 116]⟩ (d.toNat : Int) w
      rw [Int.toNat_natCast, show d.toNat.toUInt8 = d from UInt8.toNat_inj.1 (by simp)] at this
      exact this
     have HK67 := Lib.hid hk67
     have hes := escB_index d
     clear hp2 hdd hk67
     rcases hes with ⟨he, hk⟩ | hes
     ·have hbad := HT.out.bad hlt (by rw [HC.out]; exact H92.out.1 rfl) (by rw [HDD.out]; exact he)
      have HBAD := Lib.hid hbad
      have hk67 := HK67.out
      rw [hk] at hk67
      have HK := Lib.hid hk67
      clear he hk hbad hk67
      go_wp2_with fail
      refine HP2.out.mono ?_
      rintro e wc ⟨rfl, q3, hq3⟩
      have hqc : QAt w wc B acc := by rw [hq3]; exact HQB.out.drewN
      have HQC := Lib.hid hqc
      clear hq3 hqc
      go_wp2_with fail
      refine (HK.out _).mono ?_
      rintro e wd ⟨rfl, rfl⟩
      go_wp2_with fail
      go_ret2
      exact quoted_none HBAD.out HQC.out
     ·have hex : ∃ e k, escB d = some e ∧ Lib.indexByte [34, 92, 110, 116] d = k ∧ ((k = 0 ∧ e = 34) ∨ (k = 1 ∧ e = 92) ∨ (k = 2 ∧ e = 10) ∨ (k = 3 ∧ e = 9)) := by
       rcases hes with ⟨h1, h2⟩ | ⟨h1, h2⟩ | ⟨h1, h2⟩ | ⟨h1, h2⟩
       ·exact ⟨_, _, h1, h2, .inl ⟨rfl, rfl⟩⟩
       ·exact ⟨_, _, h1, h2, .inr (.inl ⟨rfl, rfl⟩)⟩
       ·exact ⟨_, _, h1, h2, .inr (.inr (.inl ⟨rfl, rfl⟩))⟩
       ·exact ⟨_, _, h1, h2, .inr (.inr (.inr ⟨rfl, rfl⟩))⟩
      obtain ⟨x, k, he, hk, hcs⟩ := hex
      have hj1 : a + j + 1 < s.size := by
       rcases Nat.lt_or_ge (a + j + 1) s.size with q | q
       ·exact q
       ·have hz := HDD.out
        rw [peekB_ge q] at hz
        rw [← hz, escB_zero] at he
        simp at he
      have hqt := HT.out.esc hj1 (by rw [HC.out]; exact H92.out.1 rfl) (by rw [HDD.out]; exact he)
      have HQT := Lib.hid hqt
      have hk67 := HK67.out
      rw [hk] at hk67
      have HK := Lib.hid hk67
      clear hes he hk hqt hk67
      rcases hcs with ⟨rfl, rfl⟩ | ⟨rfl, rfl⟩ | ⟨rfl, rfl⟩ | ⟨rfl, rfl⟩
      all_goals
       go_wp2_with fail
       refine HP2.out.mono ?_
       rintro e wc ⟨rfl, q3, hq3⟩
       have hqc : QAt w wc B acc := by rw [hq3]; exact HQB.out.drewN
       have HQC := Lib.hid hqc
       clear hq3 hqc
       go_wp2_with fail
       refine (HK.out _).mono ?_
       rintro e wd ⟨rfl, rfl⟩
       go_wp2_with fail
       refine (bld_byte B B (Lib.byteCells acc) _ _ HQC.out.bld (by rw [byteCells_length]; omega) (by have := HQC.out.siz; have := HQC.out.bel.size; omega)).mono ?_
       rintro e we ⟨rfl, hbl, hbel⟩
       have HBL := Lib.hid hbl
       have HBEL := Lib.hid (HQC.out.bel.trans hbel)
       clear hbl hbel
       go_wp2_with fail
       go_roundw
       case rel => exact ⟨j + 2, _, by omega, by omega, by simp; omega, by go_num, ⟨by rw [byteCells_snoc]; exact .inr HBL.out, HBEL.out, HQC.out.siz⟩, HQT.out⟩
       case measure => simp [intOf]; omega
    | false =>
     obtain ⟨blo, hlo⟩ : ∃ b, decide ((c.toNat : Int) < 32) = b := ⟨_, rfl⟩
     have HLO : Hid (blo = true ↔ c < 32) := Lib.hid (by rw [← hlo]; simp [UInt8.lt_iff_toNat_lt]; omega)
     have hne34 : c ≠ 34 := fun e => by have := H34.out.2 e; simp at this
     have hne92 : c ≠ 92 := fun e => by have := H92.out.2 e; simp at this
     have HN34 := Lib.hid hne34
     have HN92 := Lib.hid hne92
     clear hne34 hne92
     cases blo with
     | true =>
      have hl := HT.out.low hlt (by rw [HC.out]; exact HN34.out) (by rw [HC.out]; exact HN92.out) (by rw [HC.out]; exact HLO.out.1 rfl)
      have HL := Lib.hid hl
      clear hl
      go_wp2_with fail
      go_ret2
      exact quoted_none HL.out HQB.out
     | false =>
      go_wp2_with fail
      refine (bld_byte B B (Lib.byteCells acc) (c.toNat : Int) _ HQB.out.bld (by rw [byteCells_length]; omega) (by have := HQB.out.siz; have := HQB.out.bel.size; omega)).mono ?_
      rintro e wc ⟨rfl, hbl, hbel⟩
      have hqc : QAt w wc B (acc ++ [c]) := ⟨by rw [byteCells_snoc]; exact .inr hbl, HQB.out.bel.trans hbel, HQB.out.siz⟩
      have hqt := HT.out.plain hlt (by rw [HC.out]; exact HN34.out) (by rw [HC.out]; exact HN92.out) (by rw [HC.out]; exact fun e => by have := HLO.out.2 e; simp at this)
      rw [HC.out] at hqt
      have HQC := Lib.hid hqc
      have HQT := Lib.hid hqt
      clear hbl hbel hqc hqt
      go_wp2_with fail
      go_roundw
      case rel => exact ⟨j + 1, acc ++ [c], by omega, by omega, by simp; omega, by go_num, HQC.out, HQT.out⟩
      case measure => simp [intOf]; omega
  ·have hd : decide ((a : Int) + (j : Int) < (s.size : Int)) = false := by simp; omega
   go_wp2_with fail
   go_quiet (fail)
   clear hw1
   go_wp2_with fail
   go_ret2
   exact quoted_none (HT.out.over (by omega)) HQ.out.drewN
end
end Go.Proofs.YtnpkdiffpgcbhaaGreatDoor
