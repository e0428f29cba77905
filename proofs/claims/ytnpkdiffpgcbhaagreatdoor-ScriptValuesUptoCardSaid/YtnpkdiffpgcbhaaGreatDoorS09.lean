/- The lexer, walked (LexC). Conditions: each theorem's own. -/
import Derived.Test.YtnpkdiffpgcbhaaGreatDoorS08
import Derived.Test.YtnpkdiffpgcbhaaGreatDoorS05
import Derived.ScopeJumps
import Derived.WalkMore
set_option maxRecDepth 100000
set_option maxHeartbeats 1600000
namespace Go.Proofs.YtnpkdiffpgcbhaaGreatDoor
open Go.RowKit
theorem wp_scope_head {P : Program} {a : Act} {w : World} {Q : Exit → Act → World → Prop} {X : Code} (l : Nat) (J : Act → World → Prop) (μ : Act → World → Nat) (hf : findLabel ((Code.label l).seq X) l = some (Code.skip.seq X))
  (h0 : J a w) (pass : ∀ a w, J a w → X.wp P (Exit.jump l (fun a' w' => J a' w' ∧ μ a' w' < μ a w) Q) a w) : (Code.scope ((Code.label l).seq X)).wp P Q a w :=
 wp_scope_jumps l J μ hf (wp_seq (wp_label (Code.wp_mono (fun e a' w' h => by
  cases e with
  | goto l' => exact ⟨h.1, h.2.1⟩
  | _ => exact h) (pass a w h0)))) (fun a w h => wp_seq (wp_skip (pass a w h)))
theorem skip_remark : ∀ (r : Bs), skipM true r = if Lib.indexByte r 10 < 0 then [] else skipM false (r.drop (Lib.indexByte r 10).toNat)
 | [] => by simp [Lib.indexByte, skipM]
 | c :: r => by
  have ih := skip_remark r
  have hge := Lib.indexByte_ge r 10
  by_cases h : c = 10
  ·subst h
   simp [Lib.indexByte, skipM, blankB]
  ·have h3 : (c == 10) = false := by simpa using h
   have hs : skipM true (c :: r) = skipM true r := by simp only [skipM, h3]; rfl
   have hi : Lib.indexByte (c :: r) 10 = if Lib.indexByte r 10 == -1 then -1 else Lib.indexByte r 10 + 1 := by
    rw [Lib.indexByte, h3]; rfl
   rw [hs, ih, hi]
   by_cases h4 : Lib.indexByte r 10 = -1
   ·simp [h4]
   ·have h5 : ¬ Lib.indexByte r 10 < 0 := by omega
    have h6 : (Lib.indexByte r 10 == -1) = false := by simpa using h4
    have h7 : ¬ Lib.indexByte r 10 + 1 < 0 := by omega
    have h8 : (Lib.indexByte r 10 + 1).toNat = (Lib.indexByte r 10).toNat + 1 := by omega
    simp only [h6, Bool.false_eq_true, if_false]
    rw [if_neg h5, if_neg h7, h8, List.drop_succ_cons]
theorem indexByte_lt : ∀ (r : Bs) (c : UInt8), Lib.indexByte r c < r.length
 | [], c => by simp [Lib.indexByte]
 | d :: r, c => by
  have := indexByte_lt r c
  rw [Lib.indexByte]
  split
  ·simp
  ·split <;> simp <;> omega
theorem indexByte_pos (r : Bs) : Lib.indexByte (47 :: r) 10 ≠ 0 := by
 have h := Lib.indexByte_ge r 10
 rw [Lib.indexByte, if_neg (by decide)]
 split
 ·omega
 ·rename_i h2
  have : Lib.indexByte r 10 ≠ -1 := by simpa using h2
  omega
abbrev restB (s : ByteArray) (k : Nat) : Bs := s.data.toList.drop k
theorem restB_cons {s : ByteArray} {k : Nat} (h : k < s.size) : restB s k = peekB s.data.toList k :: restB s (k + 1) := by
 unfold restB
 rw [List.drop_eq_getElem_cons (by simpa using h), peekB_lt h]; rfl
theorem restB_nil {s : ByteArray} {k : Nat} (h : s.size ≤ k) : restB s k = [] := by
 unfold restB; rw [List.drop_eq_nil_iff]; simpa using h
def Skp (s : ByteArray) (a k : Nat) : Prop := skip (restB s k) = skip (restB s a)
theorem Skp.blank {s : ByteArray} {a k : Nat} (h : Skp s a k) (hk : k < s.size) (hb : blankB (peekB s.data.toList k) = true) : Skp s a (k + 1) := by
 unfold Skp at h ⊢
 rw [← h]
 show _ = skipM false (restB s k)
 rw [restB_cons hk, skipM, if_pos hb]
theorem Skp.remark {s : ByteArray} {a k : Nat} (h : Skp s a k) (hk : k + 1 < s.size) (h1 : peekB s.data.toList k = 47) (h2 : peekB s.data.toList (k + 1) = 47) :
  Skp s a (k + (if Lib.indexByte (restB s k) 10 < 0 then s.size - k else (Lib.indexByte (restB s k) 10).toNat)) := by
 unfold Skp at h ⊢
 rw [← h]
 have e : skip (restB s k) = skipM true (restB s k) := by
  rw [restB_cons (by omega)]
  show skipM false _ = _
  simp only [skipM, h1]
  rw [restB_cons hk, h2]
  rfl
 rw [e, skip_remark]
 by_cases hn : Lib.indexByte (restB s k) 10 < 0
 ·rw [if_pos hn, if_pos hn, restB_nil (by omega)]; rfl
 ·rw [if_neg hn, if_neg hn]
  unfold restB
  rw [List.drop_drop]
theorem Skp.stop {s : ByteArray} {a k : Nat} (h : Skp s a k) (hb : blankB (peekB s.data.toList k) = false) (hr : ¬ (peekB s.data.toList k = 47 ∧ peekB s.data.toList (k + 1) = 47)) : skip (restB s a) = restB s k := by
 unfold Skp at h
 rw [← h]
 rcases Nat.lt_or_ge k s.size with hk | hk
 ·show skipM false _ = _
  rw [restB_cons hk, skipM, if_neg (by rw [hb]; simp)]
  rw [if_neg]
  simp only [Bool.and_eq_true, beq_iff_eq, not_and]
  intro h1 h2
  refine hr ⟨h1, ?_⟩
  rcases Nat.lt_or_ge (k + 1) s.size with hk1 | hk1
  ·rw [restB_cons hk1] at h2; simpa using h2
  ·rw [restB_nil hk1] at h2; simp at h2
 ·rw [restB_nil hk]; rfl
theorem blankB_nat (c : UInt8) : blankB c = ((((c.toNat : Int) == 32) || ((c.toNat : Int) == 9)) || ((c.toNat : Int) == 13) || ((c.toNat : Int) == 10)) := by
 unfold blankB
 rw [Bool.eq_iff_iff]
 simp [← UInt8.toNat_inj]
 omega
section
variable {w : World} {xb a : Nat} {s : ByteArray} {bad : Bool}
def BlankJ (w : World) (xb a : Nat) (s : ByteArray) (bad : Bool) (t : Act) (wl : World) : Prop :=
 (∃ k, LxAt wl xb s k bad ∧ Skp s a k ∧ a ≤ k ∧ FP (fun i => i = xb) w wl) ∧ ∃ u1 u2 u3 u4 u5 u6 u7 u8 u9 u10 u11 u12 u13 u14 u15 u16 u17 u18 u19 u20 u21 u22 u23 u24 u25 u26 u27 u28 u29 u30 u31 u32 u33 u34 u35 u36 u37 u38 u39 u40 u41 u42 u43 u44 u45 u46 u47 u48 u49 u50 u51 u52 u53 u54 u55 u56 u57 u58 u59 u60 u61 u62 u63 u64 u65 : Value, t = { tmps := (.pointer (some ⟨xb, 0, none⟩) :: u1 :: u2 :: u3 :: u4 :: u5 :: u6 :: u7 :: u8 :: u9 :: u10 :: u11 :: u12 :: u13 :: u14 :: u15 :: u16 :: u17 :: u18 :: u19 :: u20 :: u21 :: u22 :: u23 :: u24 :: u25 :: u26 :: u27 :: u28 :: u29 :: u30 :: u31 :: u32 :: u33 :: u34 :: u35 :: u36 :: u37 :: u38 :: u39 :: u40 :: u41 :: u42 :: u43 :: u44 :: u45 :: u46 :: u47 :: u48 :: u49 :: u50 :: u51 :: u52 :: u53 :: u54 :: u55 :: u56 :: u57 :: u58 :: u59 :: u60 :: u61 :: u62 :: u63 :: u64 :: u65 :: [] : List Value).toArray, defers := [] }
def BlankPost (w : World) (xb a : Nat) (s : ByteArray) (bad : Bool) (e : Ending) (w' : World) : Prop :=
 e = .returned (.tuple #[]) ∧ ∃ k, LxAt w' xb s k bad ∧ restB s k = skip (restB s a) ∧ a ≤ k ∧ FP (fun i => i = xb) w w'
def blankM (s : ByteArray) (xb : Nat) (_ : Act) (w : World) : Nat := match w.cell? ⟨xb, 1, none⟩ with | some (.int _ n) => s.size - n.toNat | _ => 0
theorem same_of {w1 : World} {q : Nat} (hq : w1 = w.drewN q) : Same w w1 := by rw [hq]; exact same_drewN _ _
theorem same_of2 {w1 : World} {q m : Nat} (hq : w1 = w.drewN q) : Same w (w1.drewN m) := (same_of hq).trans (same_drewN _ _)
theorem LxAt.move {w1 : World} {k k2 : Nat} {v : Int} (h : LxAt w xb s k bad) (hq : Same w w1) (hv : v = (k2 : Int)) (hk : k2 ≤ s.size) : LxAt (w1.setCell ⟨xb, 1, none⟩ (.int .i64 v)) xb s k2 bad := by
 have hb : w1.heap[xb]? = some (.cells #[.string s, .int .i64 k, .bool bad] 158 (0,0)) := by rw [hq.1]; exact h.blk
 refine ⟨?_, hk, h.sz⟩
 rw [heap_set hb, if_pos rfl, hv]; rfl
theorem blankM_at {k : Nat} (h : LxAt w xb s k bad) (t : Act) : blankM s xb t w = s.size - k := by
 have c1 : w.cell? ⟨xb, 1, none⟩ = some (.int .i64 k) := cell_blk h.blk
 unfold blankM; rw [c1]; simp
theorem blank_fp {w0 w1 : World} {v : Int} (h : FP (fun i => i = xb) w0 w) (hq : Same w w1) : FP (fun i => i = xb) w0 (w1.setCell ⟨xb, 1, none⟩ (.int .i64 v)) := by
 exact (h.same hq).set _ (.inl rfl)
theorem blank_end {k q : Nat} {w0 w1 : World} (h : LxAt w xb s k bad) (hf : FP (fun i => i = xb) w0 w) (hs : Skp s a k) (hak : a ≤ k) (hq : w1 = w.drewN q) (hb : blankB (peekB s.data.toList k) = false) (hr : ¬ (peekB s.data.toList k = 47 ∧ peekB s.data.toList (k + 1) = 47)) :
  BlankPost w0 xb a s bad (.returned (.tuple #[])) w1 :=
 ⟨rfl, k, h.same (by rw [hq]; rfl), (hs.stop hb hr).symm, hak, by rw [hq]; exact hf.same (same_drewN _ _)⟩
theorem blank_any (h : LxAt w xb s a bad) : Calls Tryz.prog 134 #[.pointer (some ⟨xb, 0, none⟩)] w (BlankPost w xb a s bad) := by
 go_enter Tryz.func134, Tryz.ntmps134
 refine wp_scope_head 0 (BlankJ w xb a s bad) (blankM s xb) rfl ⟨⟨a, h, rfl, Nat.le_refl _, FP.refl _ _⟩, _, _, _, _, _, _, _, _, _, _, _, _, _, _, _, _, _, _, _, _, _, _, _, _, _, _, _, _, _, _, _, _, _, _, _, _, _, _, _, _, _, _, _, _, _, _, _, _, _, _, _, _, _, _, _, _, _, _, _, _, _, _, _, _, _, rfl⟩ ?_
 clear h
 rintro a' wl ⟨⟨k, h, hsk, hak, hfp⟩, u1, u2, u3, u4, u5, u6, u7, u8, u9, u10, u11, u12, u13, u14, u15, u16, u17, u18, u19, u20, u21, u22, u23, u24, u25, u26, u27, u28, u29, u30, u31, u32, u33, u34, u35, u36, u37, u38, u39, u40, u41, u42, u43, u44, u45, u46, u47, u48, u49, u50, u51, u52, u53, u54, u55, u56, u57, u58, u59, u60, u61, u62, u63, u64, u65, rfl⟩
 have H := Lib.hid h
 have HSK := Lib.hid hsk
 have HFP := Lib.hid hfp
 have hp := peek_any h 0 (by omega)
 obtain ⟨c, hc⟩ : ∃ c, peekB s.data.toList k = c := ⟨_, rfl⟩
 rw [Nat.add_zero, hc] at hp
 have HC := Lib.hid hc
 have HP : Hid (Calls Tryz.prog 151 #[.pointer (some ⟨xb, 0, none⟩), .int .i64 0] wl fun e w' => e = .returned (.int .u8 (c.toNat : Int)) ∧ ∃ q, w' = wl.drewN q) := Lib.hid hp
 have hbl := blankB_nat c
 obtain ⟨b32, h32⟩ : ∃ b, ((c.toNat : Int) == 32) = b := ⟨_, rfl⟩
 obtain ⟨b9, h9⟩ : ∃ b, ((c.toNat : Int) == 9) = b := ⟨_, rfl⟩
 obtain ⟨b13, h13⟩ : ∃ b, ((c.toNat : Int) == 13) = b := ⟨_, rfl⟩
 obtain ⟨b10, h10⟩ : ∃ b, ((c.toNat : Int) == 10) = b := ⟨_, rfl⟩
 rw [h32, h9, h13, h10] at hbl
 have hsz := h.sz
 have hkl := h.le
 have hxl := h.lt
 clear h hsk hfp hp hc
 by_cases hb : (((b32 || b9) || b13) || b10) = true
 ·rw [hb] at hbl
  have HBL := Lib.hid hbl
  have hk1 : k < s.size := by
   rcases Nat.lt_or_ge k s.size with q | q
   ·exact q
   ·have := HC.out
    rw [peekB_ge q] at this
    rw [← this] at hbl
    exact absurd hbl (by decide)
  clear hbl
  have hcs : b32 = true ∨ (b32 = false ∧ b9 = true) ∨ (b32 = false ∧ b9 = false ∧ b13 = true) ∨ (b32 = false ∧ b9 = false ∧ b13 = false ∧ b10 = true) := by
   revert hb; cases b32 <;> cases b9 <;> cases b13 <;> cases b10 <;> simp
  clear hb
  rcases hcs with rfl | ⟨rfl, rfl⟩ | ⟨rfl, rfl, rfl⟩ | ⟨rfl, rfl, rfl, rfl⟩
  all_goals
   go_wp2_with fail
   refine HP.out.mono ?_
   rintro e w1 ⟨rfl, q, hq⟩
   have c1 : w1.cell? ⟨xb, 1, none⟩ = some (.int .i64 k) := by rw [hq]; exact cell_blk H.out.blk
   have f1 : w1.frozen? ⟨xb, 1, none⟩ = false := by rw [hq]; exact frz_blk H.out.blk
   have HQ := Lib.hid hq
   clear hq
   go_wp2_with fail
   go_step3
   exact ⟨rfl, ⟨⟨k + 1, H.out.move (same_of HQ.out) (by omega) (by omega), HSK.out.blank hk1 (by rw [HC.out]; exact HBL.out), by omega, blank_fp HFP.out (same_of HQ.out)⟩, _, _, _, _, _, _, _, _, _, _, _, _, _, _, _, _, _, _, _, _, _, _, _, _, _, _, _, _, _, _, _, _, _, _, _, _, _, _, _, _, _, _, _, _, _, _, _, _, _, _, _, _, _, _, _, _, _, _, _, _, _, _, _, _, _, rfl⟩,
    by rw [blankM_at H.out, blankM_at (H.out.move (k2 := k + 1) (same_of HQ.out) (by omega) (by omega))]; omega⟩
 ·have hnb : blankB c = false := by rw [hbl]; simpa using hb
  have HNB := Lib.hid hnb
  have hall : b32 = false ∧ b9 = false ∧ b13 = false ∧ b10 = false := by
   revert hb; cases b32 <;> cases b9 <;> cases b13 <;> cases b10 <;> simp
  obtain ⟨rfl, rfl, rfl, rfl⟩ := hall
  clear hb hbl hnb
  obtain ⟨b47, h47⟩ : ∃ b, ((c.toNat : Int) == 47) = b := ⟨_, rfl⟩
  have HB47 : Hid (b47 = true ↔ c = 47) := Lib.hid (by rw [← h47]; simp [← UInt8.toNat_inj]; omega)
  cases b47 with
  | false =>
   go_wp2_with fail
   refine HP.out.mono ?_
   rintro e w1 ⟨rfl, q, hq⟩
   have HQ := Lib.hid hq
   clear hq
   go_wp2_with fail
   simp only [Exit.jump]
   go_end0
   exact blank_end H.out HFP.out HSK.out hak HQ.out (by rw [HC.out]; exact HNB.out) (by rw [HC.out]; intro e; have := HB47.out.2 e.1; simp at this)
  | true =>
   have hp2 := peek_any H.out 1 (by omega)
   obtain ⟨d, hdd⟩ : ∃ d, peekB s.data.toList (k + 1) = d := ⟨_, rfl⟩
   rw [hdd] at hp2
   have HDD := Lib.hid hdd
   have HP2 : Hid (∀ q, Calls Tryz.prog 151 #[.pointer (some ⟨xb, 0, none⟩), .int .i64 1] (wl.drewN q) fun e w' => e = .returned (.int .u8 (d.toNat : Int)) ∧ ∃ q, w' = wl.drewN q) := Lib.hid fun q => by
    have := peek_any (H.out.same (w' := wl.drewN q) rfl) 1 (by omega)
    rw [hdd] at this
    exact this.mono fun _ _ ⟨e, q2, h2⟩ => ⟨e, _, h2.trans (drewN_add _ _ _)⟩
   obtain ⟨bd, hbd⟩ : ∃ b, ((d.toNat : Int) == 47) = b := ⟨_, rfl⟩
   have HBD : Hid (bd = true ↔ d = 47) := Lib.hid (by rw [← hbd]; simp [← UInt8.toNat_inj]; omega)
   clear hp2 hdd
   cases bd with
   | false =>
    go_wp2_with fail
    refine HP.out.mono ?_
    rintro e w1 ⟨rfl, q, hq⟩
    have HPQ := HP2.out q
    rw [← hq] at HPQ
    have HPQ' := Lib.hid HPQ
    clear hq HPQ
    go_wp2_with fail
    refine HPQ'.out.mono ?_
    rintro e w2 ⟨rfl, q2, hq2⟩
    have HQ := Lib.hid hq2
    clear hq2
    go_wp2_with fail
    simp only [Exit.jump]
    go_end0
    exact blank_end H.out HFP.out HSK.out hak HQ.out (by rw [HC.out]; exact HNB.out) (by rw [HDD.out]; intro e; have := HBD.out.2 e.2; simp at this)
   | true =>
    have hk1 : k + 1 < s.size := by
     rcases Nat.lt_or_ge (k + 1) s.size with q | q
     ·exact q
     ·have h1 := HDD.out
      rw [peekB_ge q] at h1
      have h2 := HBD.out.1 rfl
      rw [← h1] at h2
      exact absurd h2 (by decide)
    have hsk2 := HSK.out.remark hk1 (by rw [HC.out]; exact HB47.out.1 rfl) (by rw [HDD.out]; exact HBD.out.1 rfl)
    have hge := Lib.indexByte_ge (restB s k) 10
    have hlt := indexByte_lt (restB s k) 10
    have hrl : (restB s k).length = s.size - k := by unfold restB; rw [List.length_drop]; rfl
    rw [hrl] at hlt
    obtain ⟨n, hn⟩ : ∃ n, Lib.indexByte (restB s k) 10 = n := ⟨_, rfl⟩
    rw [hn] at hsk2 hge hlt
    have hnz : n ≠ 0 := by
     rw [← hn, restB_cons (by omega), HC.out, HB47.out.1 rfl]
     exact indexByte_pos _
    have hcall := fun w => Tryz.strings_IndexByte (s.extract k s.size) 10 w
    rw [Lib.extract_to_end] at hcall
    have hcall' : ∀ w, Calls Tryz.prog 67 #[.string (s.extract k s.size), .int .u8 10] w fun e w' => e = .returned (.int .i64 n) ∧ w' = w := by
     intro w; have := hcall w; rw [show ((10 : Int).toNat.toUInt8) = 10 from rfl] at this; rw [hn] at this; exact this
    have K67 := Lib.hid hcall'
    have HSK2 := Lib.hid hsk2
    clear hn hcall hcall' hsk2 hrl
    by_cases hneg : n < 0
    ·have hd : decide (n < 0) = true := by simpa using hneg
     have hk2 : k + (if n < 0 then s.size - k else n.toNat) = s.size := by rw [if_pos hneg]; omega
     rw [hk2] at HSK2
     clear hk2
     go_wp2_with fail
     refine HP.out.mono ?_
     rintro e w1 ⟨rfl, q, hq⟩
     have HPQ := HP2.out q
     rw [← hq] at HPQ
     have HPQ' := Lib.hid HPQ
     clear hq HPQ
     go_wp2_with fail
     refine HPQ'.out.mono ?_
     rintro e w2 ⟨rfl, q2, hq2⟩
     have c0 : w2.cell? ⟨xb, 0, none⟩ = some (.string s) := by rw [hq2]; exact cell_blk H.out.blk
     have c1 : w2.cell? ⟨xb, 1, none⟩ = some (.int .i64 k) := by rw [hq2]; exact cell_blk H.out.blk
     have f1 : w2.frozen? ⟨xb, 1, none⟩ = false := by rw [hq2]; exact frz_blk H.out.blk
     have hx2 : xb < w2.heap.size := by rw [hq2]; exact hxl
     have hi0 : (0 : Int) ≤ (k : Int) := by omega
     have hi1 : (k : Int) ≤ (s.size : Int) := by omega
     have hwr : IntKind.i64.wrap ((s.size : Int) - (k : Int)) = (s.size : Int) - (k : Int) := IntWalk.i64_in _ (by omega)
     have HQ := Lib.hid hq2
     clear hq2
     go_wp2_with fail
     go_quiet ((go_at_call 67; exact Calls.quiet_of_same (K67.out _)))
     go_wp2_with fail
     go_quiet (fail)
     clear hwr
     go_wp2_with fail
     go_step3
     exact ⟨rfl, ⟨⟨s.size, H.out.move (same_of2 HQ.out) (by omega) (by omega), HSK2.out, by omega, blank_fp HFP.out (same_of2 HQ.out)⟩, _, _, _, _, _, _, _, _, _, _, _, _, _, _, _, _, _, _, _, _, _, _, _, _, _, _, _, _, _, _, _, _, _, _, _, _, _, _, _, _, _, _, _, _, _, _, _, _, _, _, _, _, _, _, _, _, _, _, _, _, _, _, _, _, _, rfl⟩,
      by rw [blankM_at H.out, blankM_at (H.out.move (k2 := s.size) (same_of2 HQ.out) (by omega) (by omega))]; omega⟩
    ·have hd : decide (n < 0) = false := by simpa using hneg
     have hn0 : 0 ≤ n := by omega
     have hk2 : k + (if n < 0 then s.size - k else n.toNat) = k + n.toNat := by rw [if_neg hneg]
     rw [hk2] at HSK2
     clear hk2
     go_wp2_with fail
     refine HP.out.mono ?_
     rintro e w1 ⟨rfl, q, hq⟩
     have HPQ := HP2.out q
     rw [← hq] at HPQ
     have HPQ' := Lib.hid HPQ
     clear hq HPQ
     go_wp2_with fail
     refine HPQ'.out.mono ?_
     rintro e w2 ⟨rfl, q2, hq2⟩
     have c0 : w2.cell? ⟨xb, 0, none⟩ = some (.string s) := by rw [hq2]; exact cell_blk H.out.blk
     have c1 : w2.cell? ⟨xb, 1, none⟩ = some (.int .i64 k) := by rw [hq2]; exact cell_blk H.out.blk
     have f1 : w2.frozen? ⟨xb, 1, none⟩ = false := by rw [hq2]; exact frz_blk H.out.blk
     have hx2 : xb < w2.heap.size := by rw [hq2]; exact hxl
     have hi0 : (0 : Int) ≤ (k : Int) := by omega
     have hi1 : (k : Int) ≤ (s.size : Int) := by omega
     have hwr : IntKind.i64.wrap ((s.size : Int) - (k : Int)) = (s.size : Int) - (k : Int) := IntWalk.i64_in _ (by omega)
     have HQ := Lib.hid hq2
     clear hq2
     go_wp2_with fail
     go_quiet ((go_at_call 67; exact Calls.quiet_of_same (K67.out _)))
     clear hwr
     go_wp2_with fail
     go_step3
     exact ⟨rfl, ⟨⟨(k + n.toNat), H.out.move (same_of2 HQ.out) (by omega) (by omega), HSK2.out, by omega, blank_fp HFP.out (same_of2 HQ.out)⟩, _, _, _, _, _, _, _, _, _, _, _, _, _, _, _, _, _, _, _, _, _, _, _, _, _, _, _, _, _, _, _, _, _, _, _, _, _, _, _, _, _, _, _, _, _, _, _, _, _, _, _, _, _, _, _, _, _, _, _, _, _, _, _, _, _, rfl⟩,
      by rw [blankM_at H.out, blankM_at (H.out.move (k2 := (k + n.toNat)) (same_of2 HQ.out) (by omega) (by omega))]; omega⟩
end
end Go.Proofs.YtnpkdiffpgcbhaaGreatDoor
