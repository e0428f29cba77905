/- What the library and the earlier texts lack; the text's printing, in plain words. Conditions: each theorem's own. -/
import Derived.Test.YtnpkdiffpgcbhaaGreatDoorS06
import Derived.Test.YtnpkdiffpgcbhaaGreatDoorS07
import Derived.Lib.ItoaNum
namespace Go.Proofs.YtnpkdiffpgcbhaaGreatDoor
theorem lexA_skip (s : Bs) : lexA (skip s) = lexA s := by
 have idem : ∀ (b : Bool) (s : Bs), skipM false (skipM b s) = skipM b s := by
  intro b s
  induction s generalizing b with
  | nil => cases b <;> rfl
  | cons c r ih =>
   cases b with
   | true => simp only [skipM]; split <;> exact ih _
   | false =>
    simp only [skipM]
    split
    ·exact ih _
    ·rename_i h1
     split
     ·exact ih _
     ·rename_i h2
      simp only [skipM, h1, h2]; rfl
 cases h : skip s with
 | nil => rw [lexA_nil s h]; rfl
 | cons c r =>
  have hs : skip (c :: r) = c :: r := by rw [← h]; exact idem false s
  cases hx : lex1 (c :: r) with
  | none => rw [lexA_bad s h hx, lexA_bad _ hs hx]
  | some p =>
   obtain ⟨x, r2⟩ := p
   rw [lexA_cons s h hx, lexA_cons _ hs hx]
end Go.Proofs.YtnpkdiffpgcbhaaGreatDoor
namespace Go.Proofs.YtnpkdiffpgcbhaaGreatDoor
def escQ (c : UInt8) : Bs := if c == 34 then [92, 34] else if c == 92 then [92, 92] else if c == 10 then [92, 110] else if c == 9 then [92, 116] else [c]
def quoteB (t : Bs) : Bs := 34 :: (t.flatMap escQ ++ [34])
def cleanB (c : UInt8) : Bool := !(c < 32) || c == 10 || c == 9
theorem quotedB_end (r : Bs) : quotedB (34 :: r) = some ([], r) := by rw [quotedB.eq_def]; rfl
theorem quotedB_escT (d e : UInt8) (r a b : Bs) (h : escB d = some e) (hq : quotedB r = some (a, b)) : quotedB (92 :: d :: r) = some (e :: a, b) := by
 rw [quotedB.eq_def]
 simp only [show ((92 : UInt8) == 34) = false from rfl, show ((92 : UInt8) == 92) = true from rfl, h, hq]
 rfl
theorem quotedB_plain (c : UInt8) (r a b : Bs) (h1 : (c == 34) = false) (h2 : (c == 92) = false) (h3 : ¬ c < 32) (hq : quotedB r = some (a, b)) : quotedB (c :: r) = some (c :: a, b) := by
 rw [quotedB.eq_def]
 simp only [h1, h2, if_neg h3, hq]
 rfl
theorem quotedB_quote (t r : Bs) (h : ∀ c ∈ t, cleanB c = true) : quotedB (t.flatMap escQ ++ 34 :: r) = some (t, r) := by
 induction t with
 | nil => exact quotedB_end r
 | cons c t ih =>
  have ih := ih (fun x hx => h x (List.mem_cons_of_mem _ hx))
  have hc := h c List.mem_cons_self
  rw [List.flatMap_cons, List.append_assoc]
  unfold escQ
  by_cases e1 : (c == 34) = true
  ·rw [if_pos e1]; have : c = 34 := by simpa using e1
   subst this; exact quotedB_escT 34 34 _ _ _ rfl ih
  ·rw [if_neg e1]
   by_cases e2 : (c == 92) = true
   ·rw [if_pos e2]; have : c = 92 := by simpa using e2
    subst this; exact quotedB_escT 92 92 _ _ _ rfl ih
   ·rw [if_neg e2]
    by_cases e3 : (c == 10) = true
    ·rw [if_pos e3]; have : c = 10 := by simpa using e3
     subst this; exact quotedB_escT 110 10 _ _ _ rfl ih
    ·rw [if_neg e3]
     by_cases e4 : (c == 9) = true
     ·rw [if_pos e4]; have : c = 9 := by simpa using e4
      subst this; exact quotedB_escT 116 9 _ _ _ rfl ih
     ·rw [if_neg e4]
      refine quotedB_plain c _ _ _ (by simpa using e1) (by simpa using e2) ?_ ih
      unfold cleanB at hc
      have e3' : (c == 10) = false := by simpa using e3
      have e4' : (c == 9) = false := by simpa using e4
      rw [e3', e4'] at hc
      simpa using hc
theorem quotedB_clean : ∀ (l t r : Bs), quotedB l = some (t, r) → (∀ c ∈ t, cleanB c = true) ∧ t.length + 1 + r.length ≤ l.length
 | [], t, r, h => by simp [quotedB] at h
 | c :: l, t, r, h => by
  rw [quotedB.eq_def] at h
  simp only at h
  split at h
  ·simp at h; obtain ⟨rfl, rfl⟩ := h; simp; omega
  ·split at h
   ·match l, h with
    | [], h => simp at h
    | d :: l2, h =>
     simp only at h
     split at h
     ·simp at h
     ·rename_i e he
      split at h
      ·simp at h
      ·rename_i a b hq
       simp at h; obtain ⟨rfl, rfl⟩ := h
       obtain ⟨h1, h2⟩ := quotedB_clean l2 _ _ hq
       refine ⟨fun x hx => ?_, by simp; omega⟩
       rcases List.mem_cons.1 hx with rfl | hx
       ·unfold escB at he
        split at he
        ·cases he; rfl
        ·split at he
         ·cases he; rfl
         ·split at he
          ·cases he; rfl
          ·split at he
           ·cases he; rfl
           ·cases he
       ·exact h1 x hx
   ·split at h
    ·simp at h
    ·rename_i hlt
     split at h
     ·simp at h
     ·rename_i a b hq
      simp at h; obtain ⟨rfl, rfl⟩ := h
      obtain ⟨h1, h2⟩ := quotedB_clean l _ _ hq
      refine ⟨fun x hx => ?_, by simp; omega⟩
      rcases List.mem_cons.1 hx with rfl | hx
      ·unfold cleanB; simp [hlt]
      ·exact h1 x hx
def joinSp : List Bs → Bs
 | [] => []
 | [t] => t
 | t :: u :: r => t ++ 32 :: joinSp (u :: r)
theorem joinSp_cons (t : Bs) {r : List Bs} (h : r ≠ []) : joinSp (t :: r) = t ++ 32 :: joinSp r := by
 cases r with
 | nil => exact absurd rfl h
 | cons u r => rfl
theorem joinSp_append : ∀ (a : List Bs) {b : List Bs}, a ≠ [] → b ≠ [] → joinSp (a ++ b) = joinSp a ++ 32 :: joinSp b
 | [], _, h, _ => absurd rfl h
 | [t], b, _, hb => by rw [List.singleton_append, joinSp_cons t hb]; rfl
 | t :: u :: r, b, _, hb => by
  rw [List.cons_append, joinSp_cons t (by simp), joinSp_append (u :: r) (by simp) hb, joinSp_cons t (by simp)]
  simp
theorem joinSp_flat : ∀ (l : List (List Bs)), (∀ x ∈ l, x ≠ []) → joinSp (l.map joinSp) = joinSp l.flatten
 | [], _ => rfl
 | [x], _ => by simp [joinSp]
 | x :: y :: r, h => by
  have ih := joinSp_flat (y :: r) (fun z hz => h z (List.mem_cons_of_mem _ hz))
  have hx := h x List.mem_cons_self
  have hy := h y (by simp)
  have hf : (y :: r).flatten ≠ [] := by
   intro e
   rw [List.flatten_cons] at e
   exact hy (List.append_eq_nil_iff.1 e).1
  have e2 : (x :: y :: r).flatten = x ++ (y :: r).flatten := List.flatten_cons
  rw [List.map_cons, joinSp_cons _ (by simp), ih, e2, joinSp_append x hx hf]
abbrev Tok := Bs × Lx
def wordOk (w : Bs) : Prop := (∃ c r, w = c :: r ∧ letterB c = true) ∧ ∀ c ∈ w, wordB c = true
def digitsOk (d : Bs) : Prop := d ≠ [] ∧ ∀ c ∈ d, digitB c = true
def wordT (w : Bs) : Tok := (w, ⟨0, w⟩)
def intT (d : Bs) : Tok := (d, ⟨2, d⟩)
def textT (t : Bs) : Tok := (quoteB t, ⟨3, t⟩)
def markT (c : UInt8) : Tok := ([c], ⟨4, [c]⟩)
def endB (r : Bs) : Prop := r = [] ∨ ∃ r', r = 32 :: r'
structure TokOk (t : Tok) : Prop where
 head : ∃ c r, t.1 = c :: r ∧ blankB c = false ∧ (c == 47) = false
 read : ∀ r, endB r → lex1 (t.1 ++ r) = some (t.2, r)
 line : ∀ c ∈ t.1, c ≠ 10
theorem lexA_tok {t : Tok} (h : TokOk t) {r : Bs} (hr : endB r) : lexA (t.1 ++ r) = (lexA r).map (t.2 :: ·) := by
 obtain ⟨c, u, h1, h2, h3⟩ := h.head
 have hs : skip (t.1 ++ r) = c :: (u ++ r) := by
  rw [h1, List.cons_append]
  simp only [skip, skipM, h2, h3]
  rfl
 have hx := h.read r hr
 rw [h1, List.cons_append] at hx
 rw [lexA_cons _ hs hx]
theorem lexA_join : ∀ (ts : List Tok), (∀ t ∈ ts, TokOk t) → lexA (joinSp (ts.map (·.1))) = some (ts.map (·.2))
 | [], _ => rfl
 | [t], h => by
  have := lexA_tok (h t List.mem_cons_self) (r := []) (.inl rfl)
  rw [List.append_nil] at this
  show lexA t.1 = _
  rw [this, show lexA [] = some [] from rfl]; rfl
 | t :: u :: r, h => by
  have ih := lexA_join (u :: r) (fun x hx => h x (List.mem_cons_of_mem _ hx))
  rw [List.map_cons, joinSp_cons _ (by simp), lexA_tok (h t List.mem_cons_self) (.inr ⟨_, rfl⟩)]
  have : lexA (32 :: joinSp ((u :: r).map (·.1))) = lexA (joinSp ((u :: r).map (·.1))) := by
   rw [← lexA_skip (32 :: _), ← lexA_skip (joinSp _)]; rfl
  rw [this, ih]; rfl
theorem takeWhile_stop (p : UInt8 → Bool) (hp : p 32 = false) : ∀ (w r : Bs), (∀ c ∈ w, p c = true) → endB r → (w ++ r).takeWhile p = w ∧ (w ++ r).dropWhile p = r
 | [], r, _, h => by
  rcases h with rfl | ⟨r', rfl⟩
  ·exact ⟨rfl, rfl⟩
  ·simp [hp]
 | c :: w, r, hw, h => by
  obtain ⟨h1, h2⟩ := takeWhile_stop p hp w r (fun x hx => hw x (List.mem_cons_of_mem _ hx)) h
  have hc := hw c List.mem_cons_self
  rw [List.cons_append, List.takeWhile_cons_of_pos hc, List.dropWhile_cons_of_pos hc, h1, h2]
  exact ⟨rfl, rfl⟩
theorem word_no10 {c : UInt8} (h : wordB c = true) : c ≠ 10 := by rintro rfl; exact absurd h (by decide)
theorem digit_no10 {c : UInt8} (h : digitB c = true) : c ≠ 10 := by rintro rfl; exact absurd h (by decide)
theorem letter_head {c : UInt8} (h : letterB c = true) : blankB c = false ∧ (c == 47) = false := by
  constructor
  · cases hb : blankB c with
    | false => rfl
    | true =>
      exfalso
      simp only [blankB, Bool.or_eq_true, beq_iff_eq] at hb
      rcases hb with ((rfl | rfl) | rfl) | rfl <;> exact absurd h (by decide)
  · cases hb : (c == 47) with
    | false => rfl
    | true => exfalso; have : c = 47 := by simpa using hb
              subst this; exact absurd h (by decide)
theorem digit_head {c : UInt8} (h : digitB c = true) : blankB c = false ∧ (c == 47) = false ∧ letterB c = false ∧ (c == 36) = false := by
  refine ⟨?_, ?_, ?_, ?_⟩
  · cases hb : blankB c with
    | false => rfl
    | true =>
      exfalso
      simp only [blankB, Bool.or_eq_true, beq_iff_eq] at hb
      rcases hb with ((rfl | rfl) | rfl) | rfl <;> exact absurd h (by decide)
  · cases hb : (c == 47) with
    | false => rfl
    | true => exfalso; have : c = 47 := by simpa using hb
              subst this; exact absurd h (by decide)
  · simp only [digitB, letterB, Bool.and_eq_true, decide_eq_true_eq, Bool.or_eq_false_iff, Bool.and_eq_false_iff, decide_eq_false_iff_not, UInt8.le_iff_toNat_le] at *
    have e48 : (48 : UInt8).toNat = 48 := rfl
    have e57 : (57 : UInt8).toNat = 57 := rfl
    have e97 : (97 : UInt8).toNat = 97 := rfl
    have e65 : (65 : UInt8).toNat = 65 := rfl
    omega
  · cases hb : (c == 36) with
    | false => rfl
    | true => exfalso; have : c = 36 := by simpa using hb
              subst this; exact absurd h (by decide)
theorem lex1_word {c : UInt8} (r : Bs) (hc : letterB c = true) : lex1 (c :: r) = some (⟨0, (c :: r).takeWhile wordB⟩, (c :: r).dropWhile wordB) := by
 rw [lex1.eq_def]; simp only; rw [if_pos hc]
theorem lex1_int {c : UInt8} (r : Bs) (h1 : letterB c = false) (h2 : (c == 36) = false) (hc : digitB c = true) : lex1 (c :: r) = some (⟨2, (c :: r).takeWhile digitB⟩, (c :: r).dropWhile digitB) := by
 rw [lex1.eq_def]; simp only; rw [if_neg (by rw [h1]; simp), if_neg (by rw [h2]; simp), if_pos hc]
theorem lex1_text (r a b : Bs) (h : quotedB r = some (a, b)) : lex1 (34 :: r) = some (⟨3, a⟩, b) := by
 rw [lex1.eq_def]; simp only; rw [if_neg (by decide), if_neg (by decide), if_neg (by decide), if_pos (by rfl), h]
theorem wordT_ok {w : Bs} (h : wordOk w) : TokOk (wordT w) := by
 obtain ⟨⟨c, r, rfl, hc⟩, hw⟩ := h
 refine ⟨⟨c, r, rfl, (letter_head hc).1, (letter_head hc).2⟩, fun r' hr => ?_, fun x hx => word_no10 (hw x hx)⟩
 obtain ⟨h1, h2⟩ := takeWhile_stop wordB (by decide) (c :: r) r' hw hr
 show lex1 (c :: r ++ r') = some (⟨0, c :: r⟩, r')
 rw [List.cons_append] at h1 h2 ⊢
 rw [lex1_word _ hc, h1, h2]
theorem intT_ok {d : Bs} (h : digitsOk d) : TokOk (intT d) := by
 obtain ⟨hn, hw⟩ := h
 match d, hn with
 | c :: r, _ =>
  obtain ⟨a1, a2, a3, a4⟩ := digit_head (hw c List.mem_cons_self)
  refine ⟨⟨c, r, rfl, a1, a2⟩, fun r' hr => ?_, fun x hx => digit_no10 (hw x hx)⟩
  obtain ⟨h1, h2⟩ := takeWhile_stop digitB (by decide) (c :: r) r' hw hr
  show lex1 (c :: r ++ r') = some (⟨2, c :: r⟩, r')
  rw [List.cons_append] at h1 h2 ⊢
  rw [lex1_int _ a3 a4 (hw c List.mem_cons_self), h1, h2]
theorem escQ_no10 (c x : UInt8) (h : x ∈ escQ c) : x ≠ 10 := by
 unfold escQ at h
 split at h
 ·simp at h; rcases h with rfl | rfl <;> decide
 ·split at h
  ·simp at h; subst h; decide
  ·split at h
   ·simp at h; rcases h with rfl | rfl <;> decide
   ·split at h
    ·simp at h; rcases h with rfl | rfl <;> decide
    ·rename_i h10 _
     simp at h; subst h
     intro e; subst e; exact h10 rfl
theorem textT_ok {t : Bs} (h : ∀ c ∈ t, cleanB c = true) : TokOk (textT t) := by
 refine ⟨⟨34, _, rfl, by decide, by decide⟩, fun r _ => ?_, fun x hx => ?_⟩
 ·show lex1 (34 :: (t.flatMap escQ ++ [34]) ++ r) = some (⟨3, t⟩, r)
  rw [List.cons_append, List.append_assoc, List.singleton_append, lex1_text _ _ _ (quotedB_quote t r h)]
 ·have hx : x ∈ 34 :: (t.flatMap escQ ++ [34]) := hx
  rcases List.mem_cons.1 hx with rfl | hx
  ·decide
  ·rcases List.mem_append.1 hx with hx | hx
   ·obtain ⟨c, _, hc⟩ := List.mem_flatMap.1 hx
    exact escQ_no10 c x hc
   ·simp at hx; subst hx; decide
def markB (c : UInt8) : Bool := [91, 93, 123, 125, 40, 41, 44, 45, 63, 61, 42].contains c
theorem markT_ok {c : UInt8} (h : markB c = true) : TokOk (markT c) := by
 have key : ∀ r, endB r → lex1 (c :: r) = some (⟨4, [c]⟩, r) := by
  intro r hr
  simp only [markB, List.contains_eq_mem, List.mem_cons, List.not_mem_nil, or_false, decide_eq_true_eq] at h
  rcases hr with rfl | ⟨r', rfl⟩ <;> rcases h with rfl | rfl | rfl | rfl | rfl | rfl | rfl | rfl | rfl | rfl | rfl <;> rfl
 refine ⟨⟨c, [], rfl, ?_, ?_⟩, fun r hr => key r hr, ?_⟩
 ·simp only [markB, List.contains_eq_mem, List.mem_cons, List.not_mem_nil, or_false, decide_eq_true_eq] at h
  rcases h with rfl | rfl | rfl | rfl | rfl | rfl | rfl | rfl | rfl | rfl | rfl <;> rfl
 ·simp only [markB, List.contains_eq_mem, List.mem_cons, List.not_mem_nil, or_false, decide_eq_true_eq] at h
  rcases h with rfl | rfl | rfl | rfl | rfl | rfl | rfl | rfl | rfl | rfl | rfl <;> rfl
 ·intro x hx
  have hx : x ∈ [c] := hx
  simp at hx; subst hx
  simp only [markB, List.contains_eq_mem, List.mem_cons, List.not_mem_nil, or_false, decide_eq_true_eq] at h
  rcases h with rfl | rfl | rfl | rfl | rfl | rfl | rfl | rfl | rfl | rfl | rfl <;> decide
end Go.Proofs.YtnpkdiffpgcbhaaGreatDoor
namespace Go.Proofs.YtnpkdiffpgcbhaaGreatDoor
theorem numFrom_append (a : Bs) (c : UInt8) : numOf (a ++ [c]) = numOf a * 10 + (c.toNat - 48) := by
 unfold numOf
 rw [List.foldl_append]; rfl
theorem dig_toNat {k : Nat} (h : k < 10) : (UInt8.ofNat (48 + k)).toNat = 48 + k := by
 rw [UInt8.toNat_ofNat_of_lt' (by show 48 + k < 256; omega)]
theorem dig_digit {k : Nat} (h : k < 10) : digitB (UInt8.ofNat (48 + k)) = true := by
 have := dig_toNat h
 unfold digitB
 simp only [Bool.and_eq_true, decide_eq_true_eq, UInt8.le_iff_toNat_le, this]
 have e48 : (48 : UInt8).toNat = 48 := rfl
 have e57 : (57 : UInt8).toNat = 57 := rfl
 omega
theorem dec_num (n : Nat) : numOf (Go.Lib.decDigits n) = n ∧ digitsOk (Go.Lib.decDigits n) := by
 induction n using Nat.strongRecOn with
 | _ n ih =>
  by_cases h : n < 10
  ·rw [Go.Lib.decDigits, dif_pos h]
   refine ⟨?_, by simp, fun c hc => ?_⟩
   ·show 0 * 10 + ((UInt8.ofNat (48 + n)).toNat - 48) = n
    rw [dig_toNat h]; omega
   ·rw [List.mem_singleton] at hc; subst hc; exact dig_digit h
  ·rw [Go.Lib.decDigits, dif_neg h]
   obtain ⟨h1, h2, h3⟩ := ih (n / 10) (by omega)
   refine ⟨?_, by simp, fun c hc => ?_⟩
   ·rw [numFrom_append, h1, dig_toNat (by omega)]; omega
   ·rcases List.mem_append.1 hc with hc | hc
    ·exact h3 c hc
    ·rw [List.mem_singleton] at hc; subst hc; exact dig_digit (by omega)
theorem numFrom_lt (t : Bs) (h : ∀ c ∈ t, digitB c = true) : ∀ a k, a < 10 ^ k → t.foldl (fun a c => a * 10 + (c.toNat - 48)) a < 10 ^ (k + t.length) := by
 induction t with
 | nil => intro a k ha; simpa using ha
 | cons c t ih =>
  intro a k ha
  have hc : c.toNat - 48 ≤ 9 := by
   have := h c List.mem_cons_self
   unfold digitB at this
   simp only [Bool.and_eq_true, decide_eq_true_eq, UInt8.le_iff_toNat_le] at this
   have e57 : (57 : UInt8).toNat = 57 := rfl
   omega
  have := ih (fun x hx => h x (List.mem_cons_of_mem _ hx)) (a * 10 + (c.toNat - 48)) (k + 1) (by rw [Nat.pow_succ]; omega)
  rw [List.foldl_cons, List.length_cons, show k + (t.length + 1) = k + 1 + t.length by omega]
  exact this
theorem dec_len (t : Bs) (h : digitsOk t) : (Go.Lib.decDigits (numOf t)).length ≤ t.length := by
 have h1 := numFrom_lt t h.2 0 0 (by simp)
 rw [Nat.zero_add] at h1
 have key : ∀ (k n : Nat), 1 ≤ k → n < 10 ^ k → (Go.Lib.decDigits n).length ≤ k := by
  intro k
  induction k with
  | zero => intro n h; omega
  | succ k ih =>
   intro n _ hn
   rw [Go.Lib.decDigits]
   split
   ·simp
   ·rename_i hb
    rw [List.length_append]
    have hk : 1 ≤ k := by
     rcases Nat.eq_zero_or_pos k with rfl | h
     ·simp at hn; omega
     ·exact h
    have := ih (n / 10) hk (by rw [Nat.pow_succ] at hn; omega)
    simp; omega
 have hn : 1 ≤ t.length := by
  cases t with
  | nil => exact absurd rfl h.1
  | cons => simp
 exact key _ _ hn h1
inductive OkV : Nat → GV → Prop where
 | null (d : Nat) : OkV d nullV
 | bool (d : Nat) (b : Bool) : OkV d (boolV b)
 | nat (d : Nat) (n : Nat) (h : n ≤ maxI) : OkV d (intV n)
 | neg (d : Nat) (n : Nat) (h : n ≤ maxI) : OkV d (intV (-((n + 1 : Nat) : Int)))
 | text (d : Nat) (t : Bs) (h : ∀ c ∈ t, cleanB c = true) : OkV d (textV t)
 | fact (d : Nat) (n : Nat) (h : n + 1 ≤ maxI) : OkV d (factV ((n + 1 : Nat) : Int))
 | list (d : Nat) (l : List GV) (h : ∀ v ∈ l, OkV d v) (hl : l.length ≤ maxList) : OkV (d + 1) (listV l)
def between {α : Type} (c : α) : List (List α) → List α
 | [] => []
 | [x] => x
 | x :: y :: r => x ++ c :: between c (y :: r)
def commaT : Tok := markT 44
def wNull : Bs := [110, 117, 108, 108]
def wTrue : Bs := [116, 114, 117, 101]
def wFalse : Bs := [102, 97, 108, 115, 101]
theorem attach_map {α β : Type} (l : List α) (f : α → β) : (l.attach.map fun x => f x.1) = l.map f := by
 conv => rhs; rw [← List.attach_map_subtype_val l, List.map_map]
 rfl
def valToks : GV → List Tok
 | .mk k b i t l =>
  if k = 0 then [wordT wNull]
  else if k = 1 then [wordT (if b then wTrue else wFalse)]
  else if k = 2 then (if i < 0 then [markT 45, intT (Go.Lib.decDigits i.natAbs)] else [intT (Go.Lib.decDigits i.toNat)])
  else if k = 3 then [textT t]
  else if k = 5 then [markT 63, intT (Go.Lib.decDigits i.toNat)]
  else markT 91 :: (between commaT (l.attach.map fun x => valToks x.1) ++ [markT 93])
decreasing_by
 all_goals simp_wf
 have := List.sizeOf_lt_of_mem x.2
 omega
theorem valToks_null : valToks nullV = [wordT wNull] := by rw [nullV, valToks]; rfl
theorem valToks_bool (b : Bool) : valToks (boolV b) = [wordT (if b then wTrue else wFalse)] := by rw [boolV, valToks]; rfl
theorem valToks_nat (n : Nat) : valToks (intV n) = [intT (Go.Lib.decDigits n)] := by
 rw [intV, valToks, if_neg (by decide), if_neg (by decide), if_pos rfl, if_neg (by omega)]; rfl
theorem valToks_neg (n : Nat) : valToks (intV (-((n + 1 : Nat) : Int))) = [markT 45, intT (Go.Lib.decDigits (n + 1))] := by
 rw [intV, valToks, if_neg (by decide), if_neg (by decide), if_pos rfl, if_pos (by omega)]
 have : (-((n + 1 : Nat) : Int)).natAbs = n + 1 := by omega
 rw [this]
theorem valToks_text (t : Bs) : valToks (textV t) = [textT t] := by rw [textV, valToks]; rfl
theorem valToks_fact (n : Nat) : valToks (factV ((n + 1 : Nat) : Int)) = [markT 63, intT (Go.Lib.decDigits (n + 1))] := by
 rw [factV, valToks, if_neg (by decide), if_neg (by decide), if_neg (by decide), if_neg (by decide), if_pos rfl]; rfl
theorem valToks_list (l : List GV) : valToks (listV l) = markT 91 :: (between commaT (l.map valToks) ++ [markT 93]) := by
 rw [listV, valToks, if_neg (by decide), if_neg (by decide), if_neg (by decide), if_neg (by decide), if_neg (by decide)]
 rw [attach_map l valToks]
theorem between_mem {α : Type} {c x : α} : ∀ {l : List (List α)}, x ∈ between c l → x = c ∨ ∃ y ∈ l, x ∈ y
 | [], h => by simp [between] at h
 | [y], h => .inr ⟨y, by simp, h⟩
 | y :: z :: r, h => by
  rw [between, List.mem_append] at h
  rcases h with h | h
  ·exact .inr ⟨y, by simp, h⟩
  ·rcases List.mem_cons.1 h with h | h
   ·exact .inl h
   ·rcases between_mem h with h | ⟨u, h1, h2⟩
    ·exact .inl h
    ·exact .inr ⟨u, List.mem_cons_of_mem _ h1, h2⟩
theorem wNull_ok : wordOk wNull := ⟨⟨110, [117, 108, 108], rfl, by decide⟩, by decide⟩
theorem wTrue_ok : wordOk wTrue := ⟨⟨116, [114, 117, 101], rfl, by decide⟩, by decide⟩
theorem wFalse_ok : wordOk wFalse := ⟨⟨102, [97, 108, 115, 101], rfl, by decide⟩, by decide⟩
theorem valToks_ok {d : Nat} {v : GV} (h : OkV d v) : ∀ t ∈ valToks v, TokOk t := by
 induction h with
 | null d => rw [valToks_null]; intro t ht; simp at ht; subst ht; exact wordT_ok wNull_ok
 | bool d b => rw [valToks_bool]; intro t ht; simp at ht; subst ht; cases b; exact wordT_ok wFalse_ok; exact wordT_ok wTrue_ok
 | nat d n h => rw [valToks_nat]; intro t ht; simp at ht; subst ht; exact intT_ok (dec_num n).2
 | neg d n h =>
  rw [valToks_neg]; intro t ht; simp at ht
  rcases ht with rfl | rfl
  ·exact markT_ok rfl
  ·exact intT_ok (dec_num _).2
 | text d t h => rw [valToks_text]; intro x hx; simp at hx; subst hx; exact textT_ok h
 | fact d n h =>
  rw [valToks_fact]; intro t ht; simp at ht
  rcases ht with rfl | rfl
  ·exact markT_ok rfl
  ·exact intT_ok (dec_num _).2
 | list d l h hl ih =>
  rw [valToks_list]; intro t ht
  rcases List.mem_cons.1 ht with rfl | ht
  ·exact markT_ok rfl
  ·rcases List.mem_append.1 ht with ht | ht
   ·rcases between_mem ht with rfl | ⟨y, hy, ht⟩
    ·exact markT_ok rfl
    ·obtain ⟨v, hv, rfl⟩ := List.mem_map.1 hy
     exact ih v hv t ht
   ·simp at ht; subst ht; exact markT_ok rfl
abbrev lxs (l : List Tok) : List Lx := l.map (·.2)
theorem valToks_head {d : Nat} {v : GV} (h : OkV d v) : ∃ x r, lxs (valToks v) = x :: r ∧ (x.kind = 4 → x.text = [45] ∨ x.text = [63] ∨ x.text = [91]) := by
 cases h with
 | null d => rw [valToks_null]; exact ⟨_, _, rfl, fun h => by cases h⟩
 | bool d b => rw [valToks_bool]; exact ⟨_, _, rfl, fun h => by cases h⟩
 | nat d n h => rw [valToks_nat]; exact ⟨_, _, rfl, fun h => by cases h⟩
 | neg d n h => rw [valToks_neg]; exact ⟨_, _, rfl, fun _ => .inl rfl⟩
 | text d t h => rw [valToks_text]; exact ⟨_, _, rfl, fun h => by cases h⟩
 | fact d n h => rw [valToks_fact]; exact ⟨_, _, rfl, fun _ => .inr (.inl rfl)⟩
 | list d l h hl => rw [valToks_list]; exact ⟨_, _, rfl, fun _ => .inr (.inr rfl)⟩
theorem listL_back {α : Type} {one : List Lx → Option (α × List Lx)} {e : UInt8} {tk : α → List Lx} (he : (e == 44) = false) (l : List α)
    (h1 : ∀ a ∈ l, ∀ r, one (tk a ++ r) = some (a, r)) (h2 : ∀ a ∈ l, ∀ r, isL 4 [e] (tk a ++ r) = false) (r : List Lx) :
    ∀ n, l.length < n → listL one [e] n true (between ⟨4, [44]⟩ (l.map tk) ++ ⟨4, [e]⟩ :: r) = some (l, r) := by
  have ht : ∀ r, takeL 4 [e] (⟨4, [e]⟩ :: r) = some ([e], r) := fun r => by simp [takeL]
  have hc : ∀ r, takeL 4 [44] (⟨4, [44]⟩ :: r) = some ([44], r) := fun r => by simp [takeL]
  have hce : ∀ r, takeL 4 [44] (⟨4, [e]⟩ :: r) = none := fun r => by simp [takeL, he]
  have tail : ∀ (l : List α), (∀ a ∈ l, ∀ r, one (tk a ++ r) = some (a, r)) → ∀ n, l.length < n →
      listL one [e] n false ((l.flatMap fun a => ⟨4, [44]⟩ :: tk a) ++ ⟨4, [e]⟩ :: r) = some (l, r) := by
    intro l
    induction l with
    | nil =>
      intro _ n hn
      match n, hn with
      | n + 1, _ => rw [listL, if_neg (by simp), List.flatMap_nil, List.nil_append, hce]; simp only [ht]; rfl
    | cons a l ih =>
      intro h n hn
      match n, hn with
      | n + 1, hn =>
        rw [List.length_cons] at hn
        rw [listL, if_neg (by simp), List.flatMap_cons, List.append_assoc, List.cons_append, hc]
        simp only
        rw [h a List.mem_cons_self]
        simp only
        rw [ih (fun b hb => h b (List.mem_cons_of_mem _ hb)) n (by omega)]
        rfl
  have flat : ∀ (a : α) (l : List α), between ⟨4, [44]⟩ ((a :: l).map tk) = tk a ++ l.flatMap fun a => ⟨4, [44]⟩ :: tk a := by
    intro a l
    induction l generalizing a with
    | nil => simp [between]
    | cons b l ih =>
      have := ih b
      rw [List.map_cons] at this ⊢
      rw [List.map_cons, between, this, List.flatMap_cons]; simp
  intro n hn
  match n, hn with
  | n + 1, hn =>
    cases l with
    | nil =>
      rw [listL, if_pos rfl]
      have : isL 4 [e] (between ⟨4, [44]⟩ (([] : List α).map tk) ++ ⟨4, [e]⟩ :: r) = true := by simp [isL, between]
      rw [if_pos this]
      simp only [List.map_nil, between, List.nil_append, ht]; rfl
    | cons a l =>
      rw [List.length_cons] at hn
      rw [listL, if_pos rfl, flat, List.append_assoc, if_neg (by rw [h2 a List.mem_cons_self]; simp), h1 a List.mem_cons_self]
      simp only
      rw [tail l (fun b hb => h1 b (List.mem_cons_of_mem _ hb)) n (by omega)]
      rfl
theorem lxs_between (l : List GV) : lxs (between commaT (l.map valToks)) = between ⟨4, [44]⟩ (l.map fun v => lxs (valToks v)) := by
 have gen : ∀ (m : List (List Tok)), lxs (between commaT m) = between ⟨4, [44]⟩ (m.map lxs) := by
  intro m
  induction m with
  | nil => rfl
  | cons x r ih =>
   cases r with
   | nil => rfl
   | cons y r =>
    rw [between, List.map_cons, List.map_cons, between, lxs, List.map_append, List.map_cons]
    have ih : List.map (·.2) (between commaT (y :: r)) = between ⟨4, [44]⟩ ((y :: r).map lxs) := ih
    rw [ih]; rfl
 rw [gen, List.map_map]; rfl
theorem pVal_back {d : Nat} {v : GV} (h : OkV d v) : ∀ r, pVal d (lxs (valToks v) ++ r) = some (v, r) := by
 induction h with
 | null d => intro r; rw [valToks_null]; cases d <;> rfl
 | bool d b => intro r; rw [valToks_bool]; cases d <;> cases b <;> rfl
 | nat d n h =>
  intro r; rw [valToks_nat]
  show pVal d (⟨2, Go.Lib.decDigits n⟩ :: r) = _
  rw [pVal.eq_def]
  simp only [show ((2 : Nat) == 2) = true from rfl, if_true, (dec_num n).1, if_pos h]
 | neg d n h =>
  intro r; rw [valToks_neg]
  show pVal d (⟨4, [45]⟩ :: ⟨2, Go.Lib.decDigits (n + 1)⟩ :: r) = _
  have ht : takeL 2 [] (⟨2, Go.Lib.decDigits (n + 1)⟩ :: r) = some (Go.Lib.decDigits (n + 1), r) := by simp [takeL]
  rw [pVal.eq_def]
  simp only [ht, (dec_num (n + 1)).1, if_pos (show n + 1 ≤ maxI + 1 by omega)]
  rfl
 | text d t h => intro r; rw [valToks_text]; cases d <;> rfl
 | fact d n h =>
  intro r; rw [valToks_fact]
  show pVal d (⟨4, [63]⟩ :: ⟨2, Go.Lib.decDigits (n + 1)⟩ :: r) = _
  have ht : numL (⟨2, Go.Lib.decDigits (n + 1)⟩ :: r) = some (n + 1, r) := by
   simp only [numL, takeL]
   simp [(dec_num (n + 1)).1, h]
  rw [pVal.eq_def]
  simp only [ht, if_pos (show 1 ≤ n + 1 by omega)]
  rfl
 | list d l h hl ih =>
  intro r
  rw [valToks_list]
  have e : lxs (markT 91 :: (between commaT (l.map valToks) ++ [markT 93])) ++ r = ⟨4, [91]⟩ :: (between ⟨4, [44]⟩ (l.map fun v => lxs (valToks v)) ++ ⟨4, [93]⟩ :: r) := by
   rw [← lxs_between]; simp [lxs, markT]
  rw [e]
  have hlen : ∀ (m : List GV), m.length ≤ (between (⟨4, [44]⟩ : Lx) (m.map fun v => lxs (valToks v))).length + 1 := by
   intro m
   induction m with
   | nil => simp
   | cons x r ih2 =>
    cases r with
    | nil => simp
    | cons y r =>
     rw [List.map_cons] at ih2 ⊢
     rw [List.map_cons, between, List.length_append, List.length_cons]
     simp only [List.length_cons] at ih2 ⊢
     omega
  have hlist := listL_back (one := pVal d) (e := 93) (tk := fun v => lxs (valToks v)) rfl l (fun a ha r => ih a ha r) (fun a ha r => by
   obtain ⟨x, u, h1, h2⟩ := valToks_head (h a ha)
   rw [h1, List.cons_append]
   simp only [isL]
   by_cases hk : x.kind = 4
   ·rcases h2 hk with h2 | h2 | h2 <;> rw [h2] <;> simp
   ·have : (x.kind == 4) = false := by simpa using hk
    rw [this]; rfl) r
  rw [pVal.eq_def]
  simp only
  rw [hlist _ (by have := hlen l; rw [List.length_append, List.length_cons]; omega)]
  simp only [if_pos hl]
  rfl
end Go.Proofs.YtnpkdiffpgcbhaaGreatDoor
namespace Go.Proofs.YtnpkdiffpgcbhaaGreatDoor
def wInsert : Bs := [105, 110, 115, 101, 114, 116]
def wUpdate : Bs := [117, 112, 100, 97, 116, 101]
def wDelete : Bs := [100, 101, 108, 101, 116, 101]
def wFocus : Bs := [102, 111, 99, 117, 115]
def wFlow : Bs := [102, 108, 111, 119]
def wFire : Bs := [102, 105, 114, 101]
def wQuery : Bs := [113, 117, 101, 114, 121]
def wOn : Bs := [111, 110]
def wOff : Bs := [111, 102, 102]
def givToks (g : Bs × GV) : List Tok := wordT g.1 :: markT 61 :: valToks g.2
def setToks (l : List (Bs × GV)) : List Tok := markT 123 :: (between commaT (l.map givToks) ++ [markT 125])
def argToks (a : Bool × GV) : List Tok := if a.1 then valToks a.2 else [markT 42]
def argsToks (l : List (Bool × GV)) : List Tok := markT 40 :: (between commaT (l.map argToks) ++ [markT 41])
def natT (n : Int) : Tok := intT (Go.Lib.decDigits n.toNat)
def opToks (o : OpV) : List Tok :=
 if o.kind = 1 then wordT wInsert :: wordT o.cls :: setToks o.set
 else if o.kind = 2 then wordT wUpdate :: markT 63 :: natT o.handle :: setToks o.set
 else if o.kind = 3 then [wordT wDelete, markT 63, natT o.handle]
 else if o.kind = 4 then [wordT wFocus, textT o.text]
 else if o.kind = 5 then [wordT wFlow, textT o.text, wordT (if o.on then wOn else wOff)]
 else if o.kind = 6 then [wordT wFire, natT o.n]
 else if o.kind = 7 then wordT wQuery :: wordT o.text :: argsToks o.args
 else []
inductive OkOp : OpV → Prop where
 | insert (c : Bs) (l : List (Bs × GV)) (h : wordOk c) (hl : ∀ g ∈ l, wordOk g.1 ∧ OkV maxDeep g.2) : OkOp { noOp with kind := 1, cls := c, set := l }
 | update (n : Nat) (l : List (Bs × GV)) (h : n ≤ maxI) (hl : ∀ g ∈ l, wordOk g.1 ∧ OkV maxDeep g.2) : OkOp { noOp with kind := 2, handle := n, set := l }
 | delete (n : Nat) (h : n ≤ maxI) : OkOp { noOp with kind := 3, handle := n }
 | focus (t : Bs) (h : ∀ c ∈ t, cleanB c = true) : OkOp { noOp with kind := 4, text := t }
 | flow (t : Bs) (b : Bool) (h : ∀ c ∈ t, cleanB c = true) : OkOp { noOp with kind := 5, text := t, on := b }
 | fire (n : Nat) (h : n < 2147483648) : OkOp { noOp with kind := 6, n := n }
 | query (q : Bs) (l : List (Bool × GV)) (h : wordOk q) (hl : ∀ a ∈ l, (a.1 = true ∧ OkV maxDeep a.2) ∨ a = (false, nullV)) : OkOp { noOp with kind := 7, text := q, args := l }
theorem lxs_append (a b : List Tok) : lxs (a ++ b) = lxs a ++ lxs b := List.map_append
theorem lxs_cons (a : Tok) (b : List Tok) : lxs (a :: b) = a.2 :: lxs b := rfl
theorem lxs_betweens {α : Type} (tk : α → List Tok) (l : List α) : lxs (between commaT (l.map tk)) = between ⟨4, [44]⟩ (l.map fun v => lxs (tk v)) := by
 have gen : ∀ (m : List (List Tok)), lxs (between commaT m) = between ⟨4, [44]⟩ (m.map lxs) := by
  intro m
  induction m with
  | nil => rfl
  | cons x r ih =>
   cases r with
   | nil => rfl
   | cons y r =>
    rw [between, List.map_cons, List.map_cons, between, lxs_append, lxs_cons, ih]; rfl
 rw [gen, List.map_map]; rfl
theorem takeL_text (k : Nat) (t : Bs) (r : List Lx) : takeL k [] (⟨k, t⟩ :: r) = some (t, r) := by simp [takeL]
theorem takeL_mark (c : UInt8) (r : List Lx) : takeL 4 [c] (⟨4, [c]⟩ :: r) = some ([c], r) := by simp [takeL]
theorem between_len {α β : Type} (c : β) (f : α → List β) (m : List α) : m.length ≤ (between c (m.map f)).length + 1 := by
 induction m with
 | nil => simp
 | cons x r ih =>
  cases r with
  | nil => simp
  | cons y r =>
   rw [List.map_cons] at ih ⊢
   rw [List.map_cons, between, List.length_append, List.length_cons]
   simp only [List.length_cons] at ih ⊢
   omega
theorem pGiven_back {g : Bs × GV} (h : wordOk g.1 ∧ OkV maxDeep g.2) (r : List Lx) : pGiven (lxs (givToks g) ++ r) = some (g, r) := by
 show pGiven (⟨0, g.1⟩ :: ⟨4, [61]⟩ :: (lxs (valToks g.2) ++ r)) = _
 unfold pGiven
 rw [takeL_text]
 simp only
 rw [takeL_mark]
 simp only
 rw [pVal_back h.2]; rfl
theorem pSet_back {l : List (Bs × GV)} (hl : ∀ g ∈ l, wordOk g.1 ∧ OkV maxDeep g.2) (r : List Lx) : pSet (lxs (setToks l) ++ r) = some (l, r) := by
 have e : lxs (setToks l) ++ r = ⟨4, [123]⟩ :: (between ⟨4, [44]⟩ (l.map fun g => lxs (givToks g)) ++ ⟨4, [125]⟩ :: r) := by
  rw [setToks, lxs_cons, lxs_append, lxs_betweens]; simp [lxs, markT]
 rw [e]
 unfold pSet
 rw [takeL_mark]
 simp only
 refine listL_back (tk := fun g => lxs (givToks g)) rfl l (fun g hg r => pGiven_back (hl g hg) r) (fun g _ r => by
  show isL 4 [125] (⟨0, g.1⟩ :: _) = false
  simp [isL]) r _ ?_
 have := between_len (⟨4, [44]⟩ : Lx) (fun g => lxs (givToks g)) l
 rw [List.length_append, List.length_cons]
 omega
theorem pOpt_back {a : Bool × GV} (h : (a.1 = true ∧ OkV maxDeep a.2) ∨ a = (false, nullV)) (r : List Lx) : pOpt (lxs (argToks a) ++ r) = some (a, r) := by
 rcases h with ⟨h1, h2⟩ | rfl
 ·obtain ⟨b, v⟩ := a
  have h1 : b = true := h1
  subst h1
  obtain ⟨x, u, e, hx⟩ := valToks_head h2
  have hn : takeL 4 [42] (lxs (valToks v) ++ r) = none := by
   have e : lxs (valToks v) = x :: u := e
   rw [e, List.cons_append]
   simp only [takeL]
   by_cases hk : x.kind = 4
   ·rcases hx hk with hx | hx | hx <;> rw [hx] <;> simp
   ·have : (x.kind == 4) = false := by simpa using hk
    rw [this]; rfl
  show pOpt (lxs (valToks v) ++ r) = _
  unfold pOpt
  rw [hn]
  simp only
  rw [pVal_back h2]; rfl
 ·show pOpt (⟨4, [42]⟩ :: r) = _
  unfold pOpt
  rw [takeL_mark]
theorem pArgs_back {l : List (Bool × GV)} (hl : ∀ a ∈ l, (a.1 = true ∧ OkV maxDeep a.2) ∨ a = (false, nullV)) (r : List Lx) :
  ∃ r3, lxs (argsToks l) ++ r = ⟨4, [40]⟩ :: r3 ∧ listL pOpt [41] (r3.length + 1) true r3 = some (l, r) := by
 refine ⟨between ⟨4, [44]⟩ (l.map fun g => lxs (argToks g)) ++ ⟨4, [41]⟩ :: r, ?_, ?_⟩
 ·rw [argsToks, lxs_cons, lxs_append, lxs_betweens]; simp [lxs, markT]
 refine listL_back (tk := fun g => lxs (argToks g)) rfl l (fun g hg r => pOpt_back (hl g hg) r) (fun a ha r => by
  rcases hl a ha with ⟨h1, h2⟩ | rfl
  ·obtain ⟨x, u, e, hx⟩ := valToks_head h2
   have e : lxs (argToks a) = x :: u := by rw [argToks, if_pos h1]; exact e
   rw [e, List.cons_append]
   simp only [isL]
   by_cases hk : x.kind = 4
   ·rcases hx hk with hx | hx | hx <;> rw [hx] <;> simp
   ·have : (x.kind == 4) = false := by simpa using hk
    rw [this]; rfl
  ·rfl) r _ ?_
 have := between_len (⟨4, [44]⟩ : Lx) (fun g => lxs (argToks g)) l
 rw [List.length_append, List.length_cons]
 omega
theorem natT_nat (n : Nat) : natT (n : Int) = intT (Go.Lib.decDigits n) := by unfold natT; simp
theorem numL_back {n : Nat} (h : n ≤ maxI) (r : List Lx) : numL (⟨2, Go.Lib.decDigits n⟩ :: r) = some (n, r) := by
 unfold numL
 rw [takeL_text]
 simp only [(dec_num n).1, if_pos h]
theorem pHandle_back {n : Nat} (h : n ≤ maxI) (r : List Lx) : pHandle (⟨4, [63]⟩ :: ⟨2, Go.Lib.decDigits n⟩ :: r) = some ((n : Int), r) := by
 unfold pHandle
 rw [takeL_mark]
 simp only
 rw [numL_back h]; rfl
theorem pOp_back {o : OpV} (h : OkOp o) : pOp (lxs (opToks o)) = some (o, []) := by
 cases h with
 | insert c l h hl =>
  have e := pSet_back hl []
  rw [List.append_nil] at e
  show pOp (⟨0, wInsert⟩ :: ⟨0, c⟩ :: lxs (setToks l)) = _
  unfold pOp
  rw [takeL_text]
  simp only [show (wInsert == [105, 110, 115, 101, 114, 116]) = true from rfl, if_true]
  rw [takeL_text]
  simp only [e]; rfl
 | update n l h hl =>
  have e := pSet_back hl []
  rw [List.append_nil] at e
  show pOp (⟨0, wUpdate⟩ :: ⟨4, [63]⟩ :: (natT (n : Int)).2 :: lxs (setToks l)) = _
  rw [natT_nat]
  unfold pOp
  rw [takeL_text]
  have := pHandle_back h (lxs (setToks l))
  show (match pHandle (⟨4, [63]⟩ :: ⟨2, Go.Lib.decDigits n⟩ :: lxs (setToks l)) with | none => none | some (h, r2) => (pSet r2).map fun (p : List (Bs × GV) × List Lx) => (({ noOp with kind := 2, handle := h, set := p.1 } : OpV), p.2)) = _
  rw [this]
  simp only [e]; rfl
 | delete n h =>
  show pOp (⟨0, wDelete⟩ :: ⟨4, [63]⟩ :: (natT (n : Int)).2 :: []) = _
  rw [natT_nat]
  have := pHandle_back h []
  show (pHandle (⟨4, [63]⟩ :: ⟨2, Go.Lib.decDigits n⟩ :: [])).map (fun (p : Int × List Lx) => (({ noOp with kind := 3, handle := p.1 } : OpV), p.2)) = _
  rw [this]; rfl
 | focus t h => rfl
 | flow t b h => cases b <;> rfl
 | fire n h =>
  show pOp (⟨0, wFire⟩ :: (natT (n : Int)).2 :: []) = _
  rw [natT_nat]
  have := numL_back (n := n) (by unfold maxI; omega) []
  show (match numL (⟨2, Go.Lib.decDigits n⟩ :: []) with | none => none | some (n, r2) => if n < 2147483648 then some ({ noOp with kind := 6, n := n }, r2) else none) = _
  rw [this]
  simp only [if_pos h]
 | query q l h hl =>
  obtain ⟨r3, e1, e2⟩ := pArgs_back hl []
  rw [List.append_nil] at e1
  show pOp (⟨0, wQuery⟩ :: ⟨0, q⟩ :: lxs (argsToks l)) = _
  rw [e1]
  show (match takeL 0 [] (⟨0, q⟩ :: ⟨4, [40]⟩ :: r3) with
   | none => none
   | some (q, r2) => match takeL 4 [40] r2 with
    | none => none
    | some (_, r3) => (listL pOpt [41] (r3.length + 1) true r3).map fun (p : List (Bool × GV) × List Lx) => (({ noOp with kind := 7, text := q, args := p.1 } : OpV), p.2)) = _
  rw [takeL_text]
  simp only
  rw [takeL_mark]
  simp only [e2]; rfl
def LxOk (x : Lx) : Prop := (x.kind = 0 → wordOk x.text) ∧ (x.kind = 2 → digitsOk x.text) ∧ (x.kind = 3 → ∀ c ∈ x.text, cleanB c = true) ∧ (x.kind ≠ 3 → x.text ≠ [])
def cost (x : Lx) : Nat := if x.kind = 3 then x.text.length + 2 else x.text.length
def costs (l : List Lx) : Nat := (l.map cost).sum
def sizes (l : List Tok) : Nat := (l.map fun t => t.1.length + 1).sum
theorem costs_append (a b : List Lx) : costs (a ++ b) = costs a + costs b := by simp [costs]
theorem sizes_append (a b : List Tok) : sizes (a ++ b) = sizes a + sizes b := by simp [sizes]
theorem takeWhile_all (p : UInt8 → Bool) (l : Bs) : ∀ c ∈ l.takeWhile p, p c = true := by
 induction l with
 | nil => simp
 | cons x l ih =>
  intro c hc
  by_cases hx : p x = true
  ·rw [List.takeWhile_cons_of_pos hx] at hc
   rcases List.mem_cons.1 hc with rfl | hc
   ·exact hx
   ·exact ih c hc
  ·rw [List.takeWhile_cons_of_neg hx] at hc; simp at hc
theorem take_drop_len (p : UInt8 → Bool) (l : Bs) : (l.takeWhile p).length + (l.dropWhile p).length = l.length := by
 have := congrArg List.length (List.takeWhile_append_dropWhile (p := p) (l := l))
 rw [List.length_append] at this
 exact this
theorem lex1_ok : ∀ (s : Bs) (x : Lx) (r : Bs), lex1 s = some (x, r) → LxOk x ∧ cost x + r.length ≤ s.length
 | [], x, r, h => by simp [lex1] at h
 | c :: t, x, r, h => by
  rw [lex1.eq_def] at h
  simp only at h
  split at h
  ·rename_i hc
   simp at h; obtain ⟨rfl, rfl⟩ := h
   have hw : wordB c = true := by simp [wordB, hc]
   refine ⟨⟨fun _ => ⟨⟨c, _, List.takeWhile_cons_of_pos hw, hc⟩, takeWhile_all _ _⟩, fun h => (by cases h), fun h => (by cases h), fun _ => ?_⟩, ?_⟩
   ·show (c :: t).takeWhile wordB ≠ []
    rw [List.takeWhile_cons_of_pos hw]; simp
   ·have := take_drop_len wordB (c :: t)
    show ((c :: t).takeWhile wordB).length + _ ≤ _
    omega
  ·split at h
   ·match t, h with
    | [], h => simp at h
    | d :: u, h =>
     simp only at h
     split at h
     ·rename_i hd
      simp at h; obtain ⟨rfl, rfl⟩ := h
      have hw : wordB d = true := by simp [wordB, hd]
      refine ⟨⟨fun h => (by cases h), fun h => (by cases h), fun h => (by cases h), fun _ => ?_⟩, ?_⟩
      ·show (d :: u).takeWhile wordB ≠ []
       rw [List.takeWhile_cons_of_pos hw]; simp
      ·have := take_drop_len wordB (d :: u)
       show ((d :: u).takeWhile wordB).length + _ ≤ (c :: d :: u).length
       rw [List.length_cons]
       omega
     ·simp at h
   ·split at h
    ·rename_i hc
     simp at h; obtain ⟨rfl, rfl⟩ := h
     have hn : (c :: t).takeWhile digitB ≠ [] := by rw [List.takeWhile_cons_of_pos hc]; simp
     refine ⟨⟨fun h => (by cases h), fun _ => ⟨hn, takeWhile_all _ _⟩, fun h => (by cases h), fun _ => hn⟩, ?_⟩
     have := take_drop_len digitB (c :: t)
     show ((c :: t).takeWhile digitB).length + _ ≤ _
     omega
    ·split at h
     ·split at h
      ·simp at h
      ·rename_i a b hq
       simp at h; obtain ⟨rfl, rfl⟩ := h
       obtain ⟨h1, h2⟩ := quotedB_clean _ _ _ hq
       refine ⟨⟨fun h => (by cases h), fun h => (by cases h), fun _ => h1, fun h => absurd rfl h⟩, ?_⟩
       show a.length + 2 + b.length ≤ t.length + 1
       omega
     ·split at h
      ·rename_i hm
       simp at h; obtain ⟨rfl, rfl⟩ := h
       refine ⟨⟨fun h => (by cases h), fun h => (by cases h), fun h => (by cases h), fun _ => ?_⟩, ?_⟩
       ·simp
       ·show (c :: t.take 1).length + t.tail.length ≤ (c :: t).length
        simp only [List.length_take, List.length_tail, List.length_cons]
        omega
      ·split at h
       ·simp at h; obtain ⟨rfl, rfl⟩ := h
        refine ⟨⟨fun h => (by cases h), fun h => (by cases h), fun h => (by cases h), fun _ => by simp⟩, ?_⟩
        show [c].length + t.length ≤ (c :: t).length
        simp; omega
       ·simp at h
theorem lexN_ok : ∀ (n : Nat) (s : Bs) (T : List Lx), lexN n s = some T → (∀ x ∈ T, LxOk x) ∧ costs T ≤ s.length
 | 0, s, T, h => by simp [lexN] at h
 | n + 1, s, T, h => by
  simp only [lexN] at h
  have hl := skipM_length false s
  cases hs : skip s with
  | nil =>
   rw [hs] at h
   simp at h; subst h
   exact ⟨by simp, by simp [costs]⟩
  | cons c r =>
   rw [hs] at h
   simp only at h
   cases hx : lex1 (c :: r) with
   | none => rw [hx] at h; simp at h
   | some p =>
    obtain ⟨x, r2⟩ := p
    rw [hx] at h
    simp only at h
    cases hn : lexN n r2 with
    | none => rw [hn] at h; simp at h
    | some l =>
     rw [hn] at h
     simp at h; subst h
     obtain ⟨h1, h2⟩ := lex1_ok _ _ _ hx
     obtain ⟨h3, h4⟩ := lexN_ok n r2 l hn
     refine ⟨fun y hy => ?_, ?_⟩
     ·rcases List.mem_cons.1 hy with rfl | hy
      ·exact h1
      ·exact h3 y hy
     ·have hl : (skip s).length ≤ s.length := hl
      rw [hs] at hl
      have : costs (x :: l) = cost x + costs l := by simp [costs]
      omega
structure Fits (ts : List Tok) (xs : List Lx) : Prop where
 len : ts.length ≤ xs.length
 size : sizes ts ≤ 3 * costs xs
theorem Fits.nil : Fits [] [] := ⟨Nat.le_refl _, by simp [sizes, costs]⟩
theorem Fits.append {a b : List Tok} {x y : List Lx} (h : Fits a x) (k : Fits b y) : Fits (a ++ b) (x ++ y) :=
 ⟨by have := h.len; have := k.len; rw [List.length_append, List.length_append]; omega, by have := h.size; have := k.size; rw [sizes_append, costs_append]; omega⟩
theorem Fits.cons {a : Tok} {b : List Tok} {x : Lx} {y : List Lx} (h : a.1.length + 1 ≤ 3 * cost x) (k : Fits b y) : Fits (a :: b) (x :: y) :=
 Fits.append (a := [a]) (x := [x]) ⟨Nat.le_refl _, by simpa [sizes, costs] using h⟩ k
theorem escQ_len (c : UInt8) : (escQ c).length ≤ 2 := by
 unfold escQ
 split
 ·simp
 ·split
  ·simp
  ·split
   ·simp
   ·split <;> simp
theorem quoteB_len (t : Bs) : (quoteB t).length ≤ 2 * t.length + 2 := by
 have : (t.flatMap escQ).length ≤ 2 * t.length := by
  induction t with
  | nil => simp
  | cons c t ih =>
   have := escQ_len c
   rw [List.flatMap_cons, List.length_append, List.length_cons]; omega
 unfold quoteB
 rw [List.length_cons, List.length_append, List.length_singleton]
 omega
theorem fit_word {x : Lx} (h : LxOk x) (hk : x.kind = 0) : (wordT x.text).1.length + 1 ≤ 3 * cost x := by
 have := h.2.2.2 (by omega)
 have : 0 < x.text.length := by cases hx : x.text with | nil => exact absurd hx this | cons => simp
 unfold cost
 rw [if_neg (by omega)]
 show x.text.length + 1 ≤ _
 omega
theorem fit_dec {x : Lx} {n : Nat} (h : LxOk x) (hk : x.kind = 2) (hn : numOf x.text = n) : (intT (Go.Lib.decDigits n)).1.length + 1 ≤ 3 * cost x := by
 have h1 := h.2.1 hk
 have h2 := dec_len _ h1
 have : 0 < x.text.length := by cases hx : x.text with | nil => exact absurd hx h1.1 | cons => simp
 rw [hn] at h2
 unfold cost
 rw [if_neg (by omega)]
 show (Go.Lib.decDigits n).length + 1 ≤ _
 omega
theorem fit_text {x : Lx} (hk : x.kind = 3) : (textT x.text).1.length + 1 ≤ 3 * cost x := by
 have := quoteB_len x.text
 unfold cost
 rw [if_pos hk]
 show (quoteB x.text).length + 1 ≤ _
 omega
theorem fit_mark (c : UInt8) : (markT c).1.length + 1 ≤ 3 * cost ⟨4, [c]⟩ := by
 show 2 ≤ 3 * 1
 omega
theorem takeL_eq {k : Nat} {l r : List Lx} {t : Bs} (h : takeL k [] l = some (t, r)) : l = ⟨k, t⟩ :: r := by
 cases l with
 | nil => simp [takeL] at h
 | cons x u =>
  simp only [takeL] at h
  split at h
  ·rename_i hc
   simp at h hc
   obtain ⟨rfl, rfl⟩ := h
   subst hc; rfl
  ·simp at h
theorem takeL_eqm {c : UInt8} {l r : List Lx} {t : Bs} (h : takeL 4 [c] l = some (t, r)) : l = ⟨4, [c]⟩ :: r := by
 cases l with
 | nil => simp [takeL] at h
 | cons x u =>
  simp only [takeL] at h
  split at h
  ·rename_i hc
   simp at h hc
   obtain ⟨rfl, rfl⟩ := h
   obtain ⟨h1, h2⟩ := hc
   cases x
   simp at h1 h2
   subst h1 h2; rfl
  ·simp at h
def Reads {α : Type} (one : List Lx → Option (α × List Lx)) (G : α → Prop) (tk : α → List Tok) : Prop :=
 ∀ l a r, (∀ x ∈ l, LxOk x) → one l = some (a, r) → G a ∧ ∃ used, l = used ++ r ∧ Fits (tk a) used
theorem listL_read {α : Type} {one : List Lx → Option (α × List Lx)} {G : α → Prop} {tk : α → List Tok} (hone : Reads one G tk) (e : UInt8) :
    ∀ (n : Nat) (l : List Lx) (as : List α) (r : List Lx), (∀ x ∈ l, LxOk x) → listL one [e] n true l = some (as, r) → (∀ a ∈ as, G a) ∧ ∃ used, l = used ++ r ∧ Fits (between commaT (as.map tk) ++ [markT e]) used := by
  have tail : ∀ (n : Nat) (l : List Lx) (as : List α) (r : List Lx), (∀ x ∈ l, LxOk x) → listL one [e] n false l = some (as, r) →
      (∀ a ∈ as, G a) ∧ ∃ used, l = used ++ r ∧ Fits ((as.flatMap fun a => commaT :: tk a) ++ [markT e]) used := by
    intro n
    induction n with
    | zero => intro l as r _ h; simp [listL] at h
    | succ n ih =>
      intro l as r hl h
      rw [listL, if_neg (by simp)] at h
      cases hc : takeL 4 [44] l with
      | none =>
        rw [hc] at h
        simp only at h
        cases ht : takeL 4 [e] l with
        | none => rw [ht] at h; cases h
        | some p =>
          obtain ⟨t, r2⟩ := p
          rw [ht] at h
          cases h
          exact ⟨by simp, [⟨4, [e]⟩], takeL_eqm ht, Fits.cons (fit_mark e) .nil⟩
      | some p =>
        obtain ⟨t, r0⟩ := p
        rw [hc] at h
        simp only at h
        have hl0 := takeL_eqm hc
        subst hl0
        have hl1 : ∀ x ∈ r0, LxOk x := fun x hx => hl x (List.mem_cons_of_mem _ hx)
        cases ho : one r0 with
        | none => rw [ho] at h; cases h
        | some p =>
          obtain ⟨a, r1⟩ := p
          rw [ho] at h
          simp only at h
          obtain ⟨g1, u1, e1, f1⟩ := hone r0 a r1 hl1 ho
          subst e1
          cases hr : listL one [e] n false r1 with
          | none => rw [hr] at h; cases h
          | some p =>
            obtain ⟨as', r2⟩ := p
            rw [hr] at h
            cases h
            obtain ⟨g2, u2, e2, f2⟩ := ih r1 as' r2 (fun x hx => hl1 x (List.mem_append_right _ hx)) hr
            refine ⟨fun b hb => ?_, ⟨4, [44]⟩ :: (u1 ++ u2), by rw [e2]; simp, ?_⟩
            · rcases List.mem_cons.1 hb with rfl | hb
              · exact g1
              · exact g2 b hb
            · rw [List.flatMap_cons, List.append_assoc, List.cons_append]
              exact Fits.cons (fit_mark 44) (f1.append f2)
  have flat : ∀ (a : α) (l : List α), between commaT ((a :: l).map tk) = tk a ++ l.flatMap fun a => commaT :: tk a := by
    intro a l
    induction l generalizing a with
    | nil => simp [between]
    | cons b l ih =>
      have := ih b
      rw [List.map_cons] at this ⊢
      rw [List.map_cons, between, this, List.flatMap_cons]; simp
  intro n l as r hl h
  cases n with
  | zero => simp [listL] at h
  | succ n =>
    rw [listL, if_pos rfl] at h
    split at h
    · cases ht : takeL 4 [e] l with
      | none => rw [ht] at h; cases h
      | some p =>
        obtain ⟨t, r2⟩ := p
        rw [ht] at h
        cases h
        exact ⟨by simp, [⟨4, [e]⟩], takeL_eqm ht, Fits.cons (fit_mark e) .nil⟩
    · cases ho : one l with
      | none => rw [ho] at h; cases h
      | some p =>
        obtain ⟨a, r1⟩ := p
        rw [ho] at h
        simp only at h
        obtain ⟨g1, u1, e1, f1⟩ := hone l a r1 hl ho
        subst e1
        cases hr : listL one [e] n false r1 with
        | none => rw [hr] at h; cases h
        | some p =>
          obtain ⟨as', r2⟩ := p
          rw [hr] at h
          cases h
          obtain ⟨g2, u2, e2, f2⟩ := tail n r1 as' r2 (fun x hx => hl x (List.mem_append_right _ hx)) hr
          refine ⟨fun b hb => ?_, u1 ++ u2, by rw [e2]; simp, ?_⟩
          · rcases List.mem_cons.1 hb with rfl | hb
            · exact g1
            · exact g2 b hb
          · rw [flat, List.append_assoc]
            exact f1.append f2
end Go.Proofs.YtnpkdiffpgcbhaaGreatDoor
namespace Go.Proofs.YtnpkdiffpgcbhaaGreatDoor
theorem pVal_step (d : Nat) (hd : ∀ e, d = e + 1 → Reads (pVal e) (OkV e) valToks) : Reads (pVal d) (OkV d) valToks := by
 intro l v r hl h
 cases l with
 | nil => cases d <;> cases h
 | cons x u =>
  have hx := hl x List.mem_cons_self
  have hu : ∀ y ∈ u, LxOk y := fun y hy => hl y (List.mem_cons_of_mem _ hy)
  rw [pVal.eq_def] at h
  simp only at h
  split at h
  ·rename_i hk
   have hk : x.kind = 2 := by simpa using hk
   split at h
   ·rename_i hn
    cases h
    exact ⟨.nat d _ hn, [x], rfl, by rw [valToks_nat]; exact Fits.cons (fit_dec hx hk rfl) .nil⟩
   ·cases h
  split at h
  ·rename_i hk
   have hk : x.kind = 3 := by simpa using hk
   cases h
   exact ⟨.text d _ (hx.2.2.1 hk), [x], rfl, by rw [valToks_text]; exact Fits.cons (fit_text hk) .nil⟩
  split at h
  ·rename_i hm
   have hm : x = ⟨4, [45]⟩ := by cases x; simp at hm; simp [hm]
   subst hm
   split at h
   ·cases h
   ·rename_i t r2 ht
    have e := takeL_eq ht
    subst e
    have ht2 := hu ⟨2, t⟩ List.mem_cons_self
    split at h
    ·rename_i hn
     cases h
     have used : (⟨4, [45]⟩ : Lx) :: ⟨2, t⟩ :: r = [⟨4, [45]⟩, ⟨2, t⟩] ++ r := rfl
     have fd := fit_dec ht2 rfl (n := numOf t) rfl
     cases hz : numOf t with
     | zero =>
      rw [hz] at fd
      refine ⟨?_, [⟨4, [45]⟩, ⟨2, t⟩], rfl, ?_⟩
      ·show OkV d (intV (-((0 : Nat) : Int)))
       exact .nat d 0 (by omega)
      ·show Fits (valToks (intV (((0 : Nat) : Int)))) _
       rw [valToks_nat]
       refine ⟨by simp, ?_⟩
       simp only [sizes, costs, List.map_cons, List.map_nil, List.sum_cons, List.sum_nil]
       omega
     | succ m =>
      rw [hz] at fd hn
      exact ⟨.neg d m (by omega), [⟨4, [45]⟩, ⟨2, t⟩], rfl, by rw [valToks_neg]; exact Fits.cons (fit_mark 45) (Fits.cons fd .nil)⟩
    ·cases h
  split at h
  ·rename_i hm
   have hm : x = ⟨4, [63]⟩ := by cases x; simp at hm; simp [hm]
   subst hm
   split at h
   ·cases h
   ·rename_i n r2 ht
    unfold numL at ht
    split at ht
    ·cases ht
    ·rename_i t r3 ht3
     have e := takeL_eq ht3
     subst e
     have ht2 := hu ⟨2, t⟩ List.mem_cons_self
     split at ht
     ·rename_i hn
      cases ht
      split at h
      ·rename_i h1
       cases h
       have fd := fit_dec ht2 rfl (n := numOf t) rfl
       cases hz : numOf t with
       | zero => rw [hz] at h1; omega
       | succ m =>
        rw [hz] at fd hn
        exact ⟨.fact d m hn, [⟨4, [63]⟩, ⟨2, t⟩], rfl, by rw [valToks_fact]; exact Fits.cons (fit_mark 63) (Fits.cons fd .nil)⟩
      ·cases h
     ·cases ht
  split at h
  ·rename_i hm
   have hm : x = ⟨4, [91]⟩ := by cases x; simp at hm; simp [hm]
   subst hm
   cases d with
   | zero => cases h
   | succ d =>
    simp only at h
    split at h
    ·cases h
    ·rename_i as r2 hq
     split at h
     ·rename_i hle
      cases h
      obtain ⟨g, used, e, f⟩ := listL_read (hd d rfl) 93 _ _ _ _ hu hq
      refine ⟨.list d as g hle, ⟨4, [91]⟩ :: used, by rw [e]; rfl, ?_⟩
      rw [valToks_list]
      exact Fits.cons (fit_mark 91) f
     ·cases h
  split at h
  ·rename_i hk
   have hk : x.kind = 0 := by simpa using hk
   have fw := fit_word hx hk
   split at h
   ·rename_i ht
    have ht : x.text = wNull := by simpa [wNull] using ht
    cases h
    exact ⟨.null d, [x], rfl, by rw [valToks_null]; rw [ht] at fw; exact Fits.cons fw .nil⟩
   split at h
   ·rename_i ht
    have ht : x.text = wTrue := by simpa [wTrue] using ht
    cases h
    exact ⟨.bool d true, [x], rfl, by rw [valToks_bool]; rw [ht] at fw; exact Fits.cons fw .nil⟩
   split at h
   ·rename_i ht
    have ht : x.text = wFalse := by simpa [wFalse] using ht
    cases h
    exact ⟨.bool d false, [x], rfl, by rw [valToks_bool]; rw [ht] at fw; exact Fits.cons fw .nil⟩
   ·cases h
  ·cases h
theorem pVal_read (d : Nat) : Reads (pVal d) (OkV d) valToks := by
 induction d with
 | zero => exact pVal_step 0 (fun e h => by cases h)
 | succ d ih => exact pVal_step (d + 1) (fun e h => by cases h; exact ih)
def OkG (g : Bs × GV) : Prop := wordOk g.1 ∧ OkV maxDeep g.2
def OkA (a : Bool × GV) : Prop := (a.1 = true ∧ OkV maxDeep a.2) ∨ a = (false, nullV)
theorem pGiven_read : Reads pGiven OkG givToks := by
 intro l g r hl h
 unfold pGiven at h
 split at h
 ·cases h
 ·rename_i f r1 ht
  have e := takeL_eq ht
  subst e
  split at h
  ·cases h
  ·rename_i t r2 ht2
   have e := takeL_eqm ht2
   subst e
   cases hp : pVal maxDeep r2 with
   | none => rw [hp] at h; cases h
   | some p =>
    rw [hp] at h
    cases h
    have hw := hl ⟨0, f⟩ List.mem_cons_self
    obtain ⟨g1, used, e, f1⟩ := pVal_read maxDeep r2 p.1 p.2 (fun y hy => hl y (List.mem_cons_of_mem _ (List.mem_cons_of_mem _ hy))) hp
    exact ⟨⟨hw.1 rfl, g1⟩, ⟨0, f⟩ :: ⟨4, [61]⟩ :: used, by rw [e]; rfl, Fits.cons (fit_word hw rfl) (Fits.cons (fit_mark 61) f1)⟩
theorem pSet_read : Reads pSet (fun l => ∀ g ∈ l, OkG g) setToks := by
 intro l s r hl h
 unfold pSet at h
 split at h
 ·cases h
 ·rename_i t r1 ht
  have e := takeL_eqm ht
  subst e
  obtain ⟨g, used, e, f⟩ := listL_read pGiven_read 125 _ _ _ _ (fun y hy => hl y (List.mem_cons_of_mem _ hy)) h
  exact ⟨g, ⟨4, [123]⟩ :: used, by rw [e]; rfl, Fits.cons (fit_mark 123) f⟩
theorem pOpt_read : Reads pOpt OkA argToks := by
 intro l a r hl h
 unfold pOpt at h
 split at h
 ·rename_i t r1 ht
  have e := takeL_eqm ht
  subst e
  cases h
  exact ⟨.inr rfl, [⟨4, [42]⟩], rfl, Fits.cons (fit_mark 42) .nil⟩
 ·cases hp : pVal maxDeep l with
  | none => rw [hp] at h; cases h
  | some p =>
   rw [hp] at h
   cases h
   obtain ⟨g1, used, e, f1⟩ := pVal_read maxDeep l p.1 p.2 hl hp
   exact ⟨.inl ⟨rfl, g1⟩, used, e, f1⟩
theorem numL_read {l r : List Lx} {n : Nat} (hl : ∀ x ∈ l, LxOk x) (h : numL l = some (n, r)) : n ≤ maxI ∧ ∃ used, l = used ++ r ∧ Fits [natT (n : Int)] used := by
 unfold numL at h
 split at h
 ·cases h
 ·rename_i t r1 ht
  have e := takeL_eq ht
  subst e
  split at h
  ·rename_i hn
   cases h
   exact ⟨hn, [⟨2, t⟩], rfl, by rw [natT_nat]; exact Fits.cons (fit_dec (hl ⟨2, t⟩ List.mem_cons_self) rfl rfl) .nil⟩
  ·cases h
theorem pHandle_read {l r : List Lx} {n : Int} (hl : ∀ x ∈ l, LxOk x) (h : pHandle l = some (n, r)) : ∃ m : Nat, n = m ∧ m ≤ maxI ∧ ∃ used, l = used ++ r ∧ Fits [markT 63, natT n] used := by
 unfold pHandle at h
 split at h
 ·cases h
 ·rename_i t r1 ht
  have e := takeL_eqm ht
  subst e
  cases hn : numL r1 with
  | none => rw [hn] at h; cases h
  | some p =>
   rw [hn] at h
   cases h
   obtain ⟨h1, used, e, f⟩ := numL_read (fun y hy => hl y (List.mem_cons_of_mem _ hy)) hn
   exact ⟨p.1, rfl, h1, ⟨4, [63]⟩ :: used, by rw [e]; rfl, Fits.cons (fit_mark 63) f⟩
theorem pText_read {l r : List Lx} {t : Bs} (hl : ∀ x ∈ l, LxOk x) (h : pText l = some (t, r)) : (∀ c ∈ t, cleanB c = true) ∧ ∃ used, l = used ++ r ∧ Fits [textT t] used := by
 cases l with
 | nil => cases h
 | cons x u =>
  simp only [pText] at h
  split at h
  ·rename_i hk
   have hk : x.kind = 3 := by simpa using hk
   cases h
   exact ⟨(hl x List.mem_cons_self).2.2.1 hk, [x], rfl, Fits.cons (fit_text hk) .nil⟩
  ·cases h
theorem pOp_read {l r : List Lx} {o : OpV} (hl : ∀ x ∈ l, LxOk x) (h : pOp l = some (o, r)) : OkOp o ∧ ∃ used, l = used ++ r ∧ Fits (opToks o) used := by
 unfold pOp at h
 split at h
 ·cases h
 ·rename_i w r1 hw
  have e := takeL_eq hw
  subst e
  have hx := hl ⟨0, w⟩ List.mem_cons_self
  have fw := fit_word hx rfl
  have h1 : ∀ y ∈ r1, LxOk y := fun y hy => hl y (List.mem_cons_of_mem _ hy)
  split at h
  ·rename_i he
   have he : w = wInsert := by simpa [wInsert] using he
   subst he
   split at h
   ·cases h
   ·rename_i c r2 hc
    have e := takeL_eq hc
    subst e
    have hc2 := h1 ⟨0, c⟩ List.mem_cons_self
    cases hp : pSet r2 with
    | none => rw [hp] at h; cases h
    | some p =>
     rw [hp] at h
     cases h
     obtain ⟨g, used, e, f⟩ := pSet_read r2 p.1 p.2 (fun y hy => h1 y (List.mem_cons_of_mem _ hy)) hp
     exact ⟨.insert c p.1 (hc2.1 rfl) g, ⟨0, wInsert⟩ :: ⟨0, c⟩ :: used, by rw [e]; rfl, Fits.cons fw (Fits.cons (fit_word hc2 rfl) f)⟩
  split at h
  ·rename_i he
   have he : w = wUpdate := by simpa [wUpdate] using he
   subst he
   split at h
   ·cases h
   ·rename_i n r2 hc
    obtain ⟨m, rfl, hm, u1, e1, f1⟩ := pHandle_read h1 hc
    subst e1
    cases hp : pSet r2 with
    | none => rw [hp] at h; cases h
    | some p =>
     rw [hp] at h
     cases h
     obtain ⟨g, used, e, f⟩ := pSet_read r2 p.1 p.2 (fun y hy => h1 y (List.mem_append_right _ hy)) hp
     exact ⟨.update m p.1 hm g, ⟨0, wUpdate⟩ :: (u1 ++ used), by rw [e]; simp, Fits.cons fw (f1.append f)⟩
  split at h
  ·rename_i he
   have he : w = wDelete := by simpa [wDelete] using he
   subst he
   cases hp : pHandle r1 with
   | none => rw [hp] at h; cases h
   | some p =>
    rw [hp] at h
    cases h
    obtain ⟨m, hm0, hm, u1, e1, f1⟩ := pHandle_read h1 hp
    rw [hm0] at f1 ⊢
    exact ⟨.delete m hm, ⟨0, wDelete⟩ :: u1, by rw [e1]; rfl, Fits.cons fw f1⟩
  split at h
  ·rename_i he
   have he : w = wFocus := by simpa [wFocus] using he
   subst he
   cases hp : pText r1 with
   | none => rw [hp] at h; cases h
   | some p =>
    rw [hp] at h
    cases h
    obtain ⟨hc, u1, e1, f1⟩ := pText_read h1 hp
    exact ⟨.focus p.1 hc, ⟨0, wFocus⟩ :: u1, by rw [e1]; rfl, Fits.cons fw f1⟩
  split at h
  ·rename_i he
   have he : w = wFlow := by simpa [wFlow] using he
   subst he
   split at h
   ·cases h
   ·rename_i t r2 hp
    obtain ⟨hc, u1, e1, f1⟩ := pText_read h1 hp
    subst e1
    split at h
    ·cases h
    ·rename_i b r3 hb
     have e := takeL_eq hb
     subst e
     have hb2 := h1 ⟨0, b⟩ (List.mem_append_right _ List.mem_cons_self)
     split at h
     ·rename_i hon
      have hon : b = wOn := by simpa [wOn] using hon
      subst hon
      cases h
      exact ⟨.flow t true hc, ⟨0, wFlow⟩ :: (u1 ++ [⟨0, wOn⟩]), by simp, show Fits (wordT wFlow :: ([textT t] ++ [wordT wOn])) _ from Fits.cons fw (f1.append (Fits.cons (fit_word hb2 rfl) .nil))⟩
     split at h
     ·rename_i hon
      have hon : b = wOff := by simpa [wOff] using hon
      subst hon
      cases h
      exact ⟨.flow t false hc, ⟨0, wFlow⟩ :: (u1 ++ [⟨0, wOff⟩]), by simp, show Fits (wordT wFlow :: ([textT t] ++ [wordT wOff])) _ from Fits.cons fw (f1.append (Fits.cons (fit_word hb2 rfl) .nil))⟩
     ·cases h
  split at h
  ·rename_i he
   have he : w = wFire := by simpa [wFire] using he
   subst he
   split at h
   ·cases h
   ·rename_i n r2 hp
    obtain ⟨hm, u1, e1, f1⟩ := numL_read h1 hp
    subst e1
    split at h
    ·rename_i hn
     cases h
     exact ⟨.fire n hn, ⟨0, wFire⟩ :: u1, rfl, Fits.cons fw f1⟩
    ·cases h
  split at h
  ·rename_i he
   have he : w = wQuery := by simpa [wQuery] using he
   subst he
   split at h
   ·cases h
   ·rename_i q r2 hq
    have e := takeL_eq hq
    subst e
    have hq2 := h1 ⟨0, q⟩ List.mem_cons_self
    split at h
    ·cases h
    ·rename_i t r3 ht
     have e := takeL_eqm ht
     subst e
     cases hp : listL pOpt [41] (r3.length + 1) true r3 with
     | none => rw [hp] at h; cases h
     | some p =>
      rw [hp] at h
      cases h
      obtain ⟨g, used, e, f⟩ := listL_read pOpt_read 41 _ _ _ _ (fun y hy => h1 y (List.mem_cons_of_mem _ (List.mem_cons_of_mem _ hy))) hp
      exact ⟨.query q p.1 (hq2.1 rfl) g, ⟨0, wQuery⟩ :: ⟨0, q⟩ :: ⟨4, [40]⟩ :: used, by rw [e]; rfl, Fits.cons fw (Fits.cons (fit_word hq2 rfl) (Fits.cons (fit_mark 40) f))⟩
  ·cases h
def lineT (o : OpV) : Bs := joinSp ((opToks o).map (·.1))
theorem joinSp_len : ∀ (l : List Tok), l ≠ [] → (joinSp (l.map (·.1))).length + 1 = sizes l
 | [], h => absurd rfl h
 | [t], _ => by simp [joinSp, sizes]
 | t :: u :: r, _ => by
  have := joinSp_len (u :: r) (by simp)
  rw [List.map_cons, joinSp_cons _ (by simp), List.length_append, List.length_cons]
  have e : sizes (t :: u :: r) = t.1.length + 1 + sizes (u :: r) := by simp [sizes]
  rw [e]; omega
theorem opToks_ok {o : OpV} (h : OkOp o) : opToks o ≠ [] ∧ ∀ t ∈ opToks o, TokOk t := by
 have cm : ∀ {α : Type} (tk : α → List Tok) (l : List α), (∀ a ∈ l, ∀ t ∈ tk a, TokOk t) → ∀ t ∈ between commaT (l.map tk), TokOk t := by
  intro α tk l h t ht
  rcases between_mem ht with rfl | ⟨y, hy, ht⟩
  ·exact markT_ok rfl
  ·obtain ⟨a, ha, rfl⟩ := List.mem_map.1 hy
   exact h a ha t ht
 have wd : ∀ (w : Bs), wordOk w → ∀ (l : List Tok), (∀ t ∈ l, TokOk t) → ∀ t ∈ wordT w :: l, TokOk t := by
  intro w hw l hl t ht
  rcases List.mem_cons.1 ht with rfl | ht
  ·exact wordT_ok hw
  ·exact hl t ht
 have mk : ∀ (c : UInt8), markB c = true → ∀ (l : List Tok), (∀ t ∈ l, TokOk t) → ∀ t ∈ markT c :: l, TokOk t := by
  intro c hc l hl t ht
  rcases List.mem_cons.1 ht with rfl | ht
  ·exact markT_ok hc
  ·exact hl t ht
 have nt : ∀ (n : Int) (l : List Tok), (∀ t ∈ l, TokOk t) → ∀ t ∈ natT n :: l, TokOk t := by
  intro n l hl t ht
  rcases List.mem_cons.1 ht with rfl | ht
  ·exact intT_ok (dec_num _).2
  ·exact hl t ht
 have tx : ∀ (w : Bs), (∀ c ∈ w, cleanB c = true) → ∀ (l : List Tok), (∀ t ∈ l, TokOk t) → ∀ t ∈ textT w :: l, TokOk t := by
  intro w hw l hl t ht
  rcases List.mem_cons.1 ht with rfl | ht
  ·exact textT_ok hw
  ·exact hl t ht
 have nil : ∀ t ∈ ([] : List Tok), TokOk t := by simp
 have ap : ∀ (a b : List Tok), (∀ t ∈ a, TokOk t) → (∀ t ∈ b, TokOk t) → ∀ t ∈ a ++ b, TokOk t := by
  intro a b ha hb t ht
  rcases List.mem_append.1 ht with ht | ht
  ·exact ha t ht
  ·exact hb t ht
 have st : ∀ (l : List (Bs × GV)), (∀ g ∈ l, OkG g) → ∀ t ∈ setToks l, TokOk t := by
  intro l hl
  exact mk 123 rfl _ (ap _ _ (cm _ _ (fun g hg => wd _ (hl g hg).1 _ (mk 61 rfl _ (valToks_ok (hl g hg).2)))) (mk 125 rfl _ nil))
 have wi : wordOk wInsert := ⟨⟨105, _, rfl, by decide⟩, by decide⟩
 have wu : wordOk wUpdate := ⟨⟨117, _, rfl, by decide⟩, by decide⟩
 have wdl : wordOk wDelete := ⟨⟨100, _, rfl, by decide⟩, by decide⟩
 have wfo : wordOk wFocus := ⟨⟨102, _, rfl, by decide⟩, by decide⟩
 have wfl : wordOk wFlow := ⟨⟨102, _, rfl, by decide⟩, by decide⟩
 have wfi : wordOk wFire := ⟨⟨102, _, rfl, by decide⟩, by decide⟩
 have wq : wordOk wQuery := ⟨⟨113, _, rfl, by decide⟩, by decide⟩
 have won : wordOk wOn := ⟨⟨111, _, rfl, by decide⟩, by decide⟩
 have wof : wordOk wOff := ⟨⟨111, _, rfl, by decide⟩, by decide⟩
 cases h with
 | insert c l h hl => exact ⟨by simp [opToks], wd _ wi _ (wd _ h _ (st l hl))⟩
 | update n l h hl => exact ⟨by simp [opToks], wd _ wu _ (mk 63 rfl _ (nt _ _ (st l hl)))⟩
 | delete n h => exact ⟨by simp [opToks], wd _ wdl _ (mk 63 rfl _ (nt _ _ nil))⟩
 | focus t h => exact ⟨by simp [opToks], wd _ wfo _ (tx _ h _ nil)⟩
 | flow t b h => exact ⟨by simp [opToks], wd _ wfl _ (tx _ h _ (wd _ (by cases b; exact wof; exact won) _ nil))⟩
 | fire n h => exact ⟨by simp [opToks], wd _ wfi _ (nt _ _ nil)⟩
 | query q l h hl =>
  refine ⟨by simp [opToks], wd _ wq _ (wd _ h _ (mk 40 rfl _ (ap _ _ (cm _ _ (fun a ha => ?_)) (mk 41 rfl _ nil))))⟩
  rcases hl a ha with ⟨h1, h2⟩ | rfl
  ·unfold argToks; rw [if_pos h1]; exact valToks_ok h2
  ·exact mk 42 rfl _ nil
theorem joinSp_mem {c : UInt8} : ∀ {l : List Bs}, c ∈ joinSp l → c = 32 ∨ ∃ t ∈ l, c ∈ t
 | [], h => by simp [joinSp] at h
 | [t], h => .inr ⟨t, by simp, h⟩
 | t :: u :: r, h => by
  rw [joinSp_cons _ (by simp), List.mem_append] at h
  rcases h with h | h
  ·exact .inr ⟨t, by simp, h⟩
  ·rcases List.mem_cons.1 h with h | h
   ·exact .inl h
   ·rcases joinSp_mem h with h | ⟨x, h1, h2⟩
    ·exact .inl h
    ·exact .inr ⟨x, List.mem_cons_of_mem _ h1, h2⟩
theorem lineT_no10 {o : OpV} (h : OkOp o) : ∀ c ∈ lineT o, c ≠ 10 := by
 intro c hc
 rcases joinSp_mem hc with rfl | ⟨t, ht, hc⟩
 ·decide
 ·obtain ⟨x, hx, rfl⟩ := List.mem_map.1 ht
  exact ((opToks_ok h).2 x hx).line c hc
theorem lineF_back {o : OpV} (h : OkOp o) (hm : (opToks o).length ≤ maxLex) : lineF (lineT o) = some (some o) := by
 obtain ⟨h1, h2⟩ := opToks_ok h
 have hl : lexS (lineT o) = some (lxs (opToks o)) := by
  unfold lexS lineT
  rw [lexA_join _ h2]
  simp only [List.length_map, if_pos hm]
 have hb := pOp_back h
 unfold lineF
 rw [hl]
 cases ho : opToks o with
 | nil => exact absurd ho h1
 | cons t r =>
  rw [ho] at hb
  have hb : pOp (t.2 :: lxs r) = some (o, []) := hb
  show (match pOp (t.2 :: lxs r) with | some (o, []) => some (some o) | _ => none) = _
  rw [hb]
structure Read (o : OpV) : Prop where
 ok : OkOp o
 few : (opToks o).length ≤ maxLex
theorem lineF_read {s : Bs} {o : OpV} (h : lineF s = some (some o)) : Read o ∧ (lineT o).length + 1 ≤ 3 * s.length := by
 unfold lineF at h
 cases hl : lexS s with
 | none => rw [hl] at h; cases h
 | some T =>
  rw [hl] at h
  unfold lexS at hl
  cases ha : lexA s with
  | none => rw [ha] at hl; cases hl
  | some T' =>
   rw [ha] at hl
   simp only at hl
   split at hl
   ·rename_i hm
    cases hl
    obtain ⟨k1, k2⟩ := lexN_ok _ _ _ ha
    cases T with
    | nil => cases h
    | cons x l =>
     simp only at h
     cases hp : pOp (x :: l) with
     | none => rw [hp] at h; cases h
     | some p =>
      obtain ⟨o', r⟩ := p
      rw [hp] at h
      cases r with
      | cons => cases h
      | nil =>
       cases h
       obtain ⟨g, used, e, f⟩ := pOp_read k1 hp
       rw [List.append_nil] at e
       subst e
       refine ⟨⟨g, Nat.le_trans f.len hm⟩, ?_⟩
       rw [show (lineT o).length + 1 = sizes (opToks o) from joinSp_len _ (opToks_ok g).1]
       have := f.size
       omega
   ·cases hl
def textS (l : List OpV) : Bs := l.flatMap fun o => lineT o ++ [10]
theorem splitNL_line {a b : Bs} (h : ∀ c ∈ a, c ≠ 10) : splitNL (a ++ 10 :: b) = a :: splitNL b := by
 rw [splitNL_append]
 have : splitNL a = [a] := by
  induction a with
  | nil => rfl
  | cons c a ih =>
   have hc : (c == 10) = false := by simpa using h c List.mem_cons_self
   simp only [splitNL, hc, ih (fun x hx => h x (List.mem_cons_of_mem _ hx))]
   rfl
 rw [this]; rfl
theorem textS_lines {l : List OpV} (h : ∀ o ∈ l, Read o) : splitNL (textS l) = l.map lineT ++ [[]] := by
 induction l with
 | nil => rfl
 | cons o l ih =>
  have : textS (o :: l) = lineT o ++ 10 :: textS l := by simp [textS]
  rw [this, splitNL_line (lineT_no10 (h o List.mem_cons_self).ok), ih (fun x hx => h x (List.mem_cons_of_mem _ hx))]; rfl
theorem parseLs_back {l : List OpV} (h : ∀ o ∈ l, Read o) : ∀ i, parseLs i (l.map lineT) = .ok l := by
 induction l with
 | nil => intro i; rfl
 | cons o l ih =>
  intro i
  have hr := h o List.mem_cons_self
  rw [List.map_cons]
  simp only [parseLs, lineF_back hr.ok hr.few, ih (fun x hx => h x (List.mem_cons_of_mem _ hx))]
  rfl
theorem parseS_back {l : List OpV} (h : ∀ o ∈ l, Read o) : parseS (textS l) = .ok l := by
 unfold parseS linesOf
 rw [textS_lines h]
 have : (l.map lineT ++ [[]]).getLast? = some [] := by simp
 rw [if_pos this, List.dropLast_concat]
 exact parseLs_back h 0
theorem parseLs_read : ∀ (l : List Bs) (i : Nat) (ops : List OpV), parseLs i l = .ok ops → (∀ o ∈ ops, Read o) ∧ (textS ops).length ≤ 3 * (l.map List.length).sum
 | [], i, ops, h => by simp only [parseLs] at h; cases h; exact ⟨by simp, by simp [textS]⟩
 | s :: l, i, ops, h => by
  simp only [parseLs] at h
  cases hs : lineF s with
  | none => rw [hs] at h; cases h
  | some x =>
   rw [hs] at h
   simp only at h
   cases hr : parseLs (i + 1) l with
   | error j => rw [hr] at h; cases h
   | ok m =>
    rw [hr] at h
    cases h
    obtain ⟨k1, k2⟩ := parseLs_read l (i + 1) m hr
    cases x with
    | none =>
     refine ⟨k1, ?_⟩
     show (textS m).length ≤ _
     rw [List.map_cons, List.sum_cons]; omega
    | some o =>
     obtain ⟨q1, q2⟩ := lineF_read hs
     refine ⟨fun y hy => ?_, ?_⟩
     ·rcases List.mem_cons.1 hy with rfl | hy
      ·exact q1
      ·exact k1 y hy
     ·have : textS (o :: m) = lineT o ++ 10 :: textS m := by simp [textS]
      show (textS (o :: m)).length ≤ _
      rw [this, List.length_append, List.length_cons, List.map_cons, List.sum_cons]
      omega
theorem linesOf_sum (s : Bs) : ((linesOf s).map List.length).sum ≤ s.length := by
 have h1 : ((splitNL s).map List.length).sum ≤ s.length := by
  induction s with
  | nil => simp [splitNL]
  | cons c r ih =>
   simp only [splitNL]
   split
   ·simp; omega
   ·cases hs : splitNL r with
    | nil => exact absurd hs (splitNL_ne r)
    | cons x t =>
     rw [hs] at ih
     simp at ih ⊢; omega
 rcases linesOf_split s with h | h
 ·rw [← h]; exact h1
 ·rw [h, List.map_append, List.sum_append] at h1
  omega
theorem parseS_read {s : Bs} {ops : List OpV} (h : parseS s = .ok ops) : (∀ o ∈ ops, Read o) ∧ (textS ops).length ≤ 3 * s.length ∧ parseS (textS ops) = .ok ops := by
 obtain ⟨h1, h2⟩ := parseLs_read _ _ _ h
 have := linesOf_sum s
 exact ⟨h1, by omega, parseS_back h1⟩
end Go.Proofs.YtnpkdiffpgcbhaaGreatDoor
