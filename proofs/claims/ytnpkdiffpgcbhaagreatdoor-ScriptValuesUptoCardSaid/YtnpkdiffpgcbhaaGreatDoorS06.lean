/- The plain lexer and parser, numbers, worlds and footprints. No conditions. -/
import Derived.Lib.ParseIntB
import Derived.WalkKit
import Derived.Deep.Draws
import Derived.Lib.Hide
namespace Go.Proofs.YtnpkdiffpgcbhaaGreatDoor
abbrev Bs := List UInt8
structure Lx where
 kind : Nat
 text : Bs
deriving DecidableEq, Repr
def letterB (c : UInt8) : Bool := (97 ≤ c && c ≤ 122) || (65 ≤ c && c ≤ 90)
def digitB (c : UInt8) : Bool := 48 ≤ c && c ≤ 57
def wordB (c : UInt8) : Bool := letterB c || digitB c || c == 95
def blankB (c : UInt8) : Bool := c == 32 || c == 9 || c == 13 || c == 10
def skipM : Bool → Bs → Bs
 | _, [] => []
 | true, c :: r => if c == 10 then skipM false r else skipM true r
 | false, c :: r => if blankB c then skipM false r else if c == 47 && r.head? == some 47 then skipM true r else c :: r
abbrev skip (s : Bs) : Bs := skipM false s
def escB (d : UInt8) : Option UInt8 := if d == 34 then some 34 else if d == 92 then some 92 else if d == 110 then some 10 else if d == 116 then some 9 else none
def quotedB : Bs → Option (Bs × Bs)
 | [] => none
 | c :: r =>
  if c == 34 then some ([], r)
  else if c == 92 then
   match r with
   | [] => none
   | d :: r2 => match escB d with
    | none => none
    | some e => match quotedB r2 with
     | none => none
     | some (a, b) => some (e :: a, b)
  else if c < 32 then none
  else match quotedB r with
   | none => none
   | some (a, b) => some (c :: a, b)
def marks1 : Bs := [40, 41, 91, 93, 123, 125, 44, 46, 58, 59, 63, 60, 62, 61, 43, 45, 42, 47, 37, 33]
def marks2 : List Bs := [[61, 61], [33, 61], [60, 61], [62, 61], [38, 38], [124, 124]]
def lex1 : Bs → Option (Lx × Bs)
 | [] => none
 | c :: r =>
  if letterB c then some (⟨0, (c :: r).takeWhile wordB⟩, (c :: r).dropWhile wordB)
  else if c == 36 then
   match r with
   | [] => none
   | d :: _ => if letterB d then some (⟨1, r.takeWhile wordB⟩, r.dropWhile wordB) else none
  else if digitB c then some (⟨2, (c :: r).takeWhile digitB⟩, (c :: r).dropWhile digitB)
  else if c == 34 then
   match quotedB r with
   | none => none
   | some (t, r2) => some (⟨3, t⟩, r2)
  else if marks2.contains ((c :: r).take 2) then some (⟨4, (c :: r).take 2⟩, (c :: r).drop 2)
  else if marks1.contains c then some (⟨4, [c]⟩, r)
  else none
def lexN : Nat → Bs → Option (List Lx)
 | 0, _ => none
 | n + 1, s =>
  match skip s with
  | [] => some []
  | c :: r =>
   match lex1 (c :: r) with
   | none => none
   | some (x, r2) => match lexN n r2 with
    | none => none
    | some l => some (x :: l)
def lexA (s : Bs) : Option (List Lx) := lexN (s.length + 1) s
def maxLex : Nat := 4096
def lexS (s : Bs) : Option (List Lx) :=
 match lexA s with
 | none => none
 | some l => if l.length ≤ maxLex then some l else none
theorem skipM_length : ∀ (b : Bool) (s : Bs), (skipM b s).length ≤ s.length
 | _, [] => by cases ‹Bool› <;> simp [skipM]
 | true, c :: r => by
  have h1 := skipM_length false r
  have h2 := skipM_length true r
  simp only [skipM]; split <;> simp <;> omega
 | false, c :: r => by
  have h1 := skipM_length false r
  have h2 := skipM_length true r
  simp only [skipM]; split
  ·simp; omega
  ·split <;> simp <;> omega
theorem quotedB_length : ∀ (s a b : Bs), quotedB s = some (a, b) → b.length < s.length
 | [], a, b, h => by simp [quotedB] at h
 | c :: r, a, b, h => by
  rw [quotedB.eq_def] at h
  simp only at h
  split at h
  ·simp at h; obtain ⟨_, rfl⟩ := h; simp
  ·split at h
   ·match r, h with
    | [], h => simp at h
    | d :: r2, h =>
     simp only at h
     split at h
     ·simp at h
     ·split at h
      ·simp at h
      ·rename_i a2 b2 hq
       simp at h; obtain ⟨_, rfl⟩ := h
       have := quotedB_length r2 _ _ hq
       simp; omega
   ·split at h
    ·simp at h
    ·split at h
     ·simp at h
     ·rename_i a2 b2 hq
      simp at h; obtain ⟨_, rfl⟩ := h
      have := quotedB_length r _ _ hq
      simp; omega
theorem dropWhile_lt (p : UInt8 → Bool) (c : UInt8) (r : Bs) (h : p c = true) : ((c :: r).dropWhile p).length < (c :: r).length := by
 rw [List.dropWhile_cons_of_pos h]
 have := (List.dropWhile_suffix p (l := r)).length_le
 simp; omega
theorem lex1_length : ∀ (s : Bs) (x : Lx) (r : Bs), lex1 s = some (x, r) → r.length < s.length
 | [], x, r, h => by simp [lex1] at h
 | c :: t, x, r, h => by
  rw [lex1.eq_def] at h
  simp only at h
  split at h
  ·rename_i hc
   simp at h; obtain ⟨_, rfl⟩ := h
   exact dropWhile_lt wordB c t (by simp [wordB, hc])
  ·split at h
   ·match t, h with
    | [], h => simp at h
    | d :: u, h =>
     simp only at h
     split at h
     ·rename_i hd
      simp at h; obtain ⟨_, rfl⟩ := h
      have := dropWhile_lt wordB d u (by simp [wordB, hd])
      simp at this ⊢; omega
     ·simp at h
   ·split at h
    ·rename_i hc
     simp at h; obtain ⟨_, rfl⟩ := h
     exact dropWhile_lt digitB c t hc
    ·split at h
     ·split at h
      ·simp at h
      ·rename_i a b hq
       simp at h; obtain ⟨_, rfl⟩ := h
       have := quotedB_length t _ _ hq
       simp; omega
     ·split at h
      ·simp at h; obtain ⟨_, rfl⟩ := h
       simp; omega
      ·split at h
       ·simp at h; obtain ⟨_, rfl⟩ := h; simp
       ·simp at h
theorem lexN_more : ∀ (n m : Nat) (s : Bs), s.length < n → n ≤ m → lexN m s = lexN n s
 | 0, _, _, h, _ => by omega
 | n + 1, 0, _, _, h => by omega
 | n + 1, m + 1, s, h, hm => by
  simp only [lexN]
  have h1 := skipM_length false s
  cases hs : skip s with
  | nil => rfl
  | cons c r =>
   simp only
   cases hx : lex1 (c :: r) with
   | none => rfl
   | some p =>
    obtain ⟨x, r2⟩ := p
    have h2 := lex1_length _ _ _ hx
    have h3 : (c :: r).length ≤ s.length := by rw [← hs]; exact h1
    simp only
    rw [lexN_more n m r2 (by omega) (by omega)]
theorem lexA_nil (s : Bs) (h : skip s = []) : lexA s = some [] := by
 unfold lexA; simp only [lexN, h]
theorem lexA_bad (s : Bs) {c : UInt8} {r : Bs} (h : skip s = c :: r) (hx : lex1 (c :: r) = none) : lexA s = none := by
 unfold lexA; simp only [lexN, h, hx]
theorem lexA_cons (s : Bs) {c : UInt8} {r : Bs} (h : skip s = c :: r) {x : Lx} {r2 : Bs} (hx : lex1 (c :: r) = some (x, r2)) :
  lexA s = (lexA r2).map (x :: ·) := by
 have h1 := skipM_length false s
 have h2 := lex1_length _ _ _ hx
 have h3 : (c :: r).length ≤ s.length := by rw [← h]; exact h1
 have e : lexA s = match lexN s.length r2 with | none => none | some l => some (x :: l) := by
  unfold lexA
  simp only [lexN, h, hx]
 rw [e, lexN_more (r2.length + 1) s.length r2 (by omega) (by omega)]
 unfold lexA
 cases lexN (r2.length + 1) r2 <;> rfl
end Go.Proofs.YtnpkdiffpgcbhaaGreatDoor
namespace Go.Proofs.YtnpkdiffpgcbhaaGreatDoor
inductive GV where
 | mk (kind : Int) (b : Bool) (i : Int) (t : Bs) (l : List GV)
def nullV : GV := .mk 0 false 0 [] []
def boolV (b : Bool) : GV := .mk 1 b 0 [] []
def intV (i : Int) : GV := .mk 2 false i [] []
def textV (t : Bs) : GV := .mk 3 false 0 t []
def listV (l : List GV) : GV := .mk 4 false 0 [] l
def factV (i : Int) : GV := .mk 5 false i [] []
structure OpV where
 kind : Int
 cls : Bs
 set : List (Bs × GV)
 handle : Int
 text : Bs
 on : Bool
 n : Int
 args : List (Bool × GV)
def noOp : OpV := ⟨0, [], [], 0, [], false, 0, []⟩
def numOf (t : Bs) : Nat := t.foldl (fun a c => a * 10 + (c.toNat - 48)) 0
def maxI : Nat := 9223372036854775807
def isL (k : Nat) (s : Bs) : List Lx → Bool
 | [] => false
 | x :: _ => x.kind == k && (s.isEmpty || x.text == s)
def takeL (k : Nat) (s : Bs) : List Lx → Option (Bs × List Lx)
 | [] => none
 | x :: r => if x.kind == k && (s.isEmpty || x.text == s) then some (x.text, r) else none
def numL (l : List Lx) : Option (Nat × List Lx) :=
 match takeL 2 [] l with
 | none => none
 | some (t, r) => if numOf t ≤ maxI then some (numOf t, r) else none
def listL {α : Type} (one : List Lx → Option (α × List Lx)) (e : Bs) : Nat → Bool → List Lx → Option (List α × List Lx)
 | 0, _, _ => none
 | n + 1, first, l =>
  if first then
   if isL 4 e l then (takeL 4 e l).map fun p => ([], p.2)
   else match one l with
    | none => none
    | some (a, r) => (listL one e n false r).map fun p => (a :: p.1, p.2)
  else
   match takeL 4 [44] l with
   | some (_, r0) =>
    match one r0 with
    | none => none
    | some (a, r) => (listL one e n false r).map fun p => (a :: p.1, p.2)
   | none => (takeL 4 e l).map fun p => ([], p.2)
def maxList : Nat := 4096
def maxDeep : Nat := 30
def pVal : Nat → List Lx → Option (GV × List Lx)
 | _, [] => none
 | d, x :: r =>
  if x.kind == 2 then (if numOf x.text ≤ maxI then some (intV (numOf x.text), r) else none)
  else if x.kind == 3 then some (textV x.text, r)
  else if x.kind == 4 && x.text == [45] then
   match takeL 2 [] r with
   | none => none
   | some (t, r2) => if numOf t ≤ maxI + 1 then some (intV (-(numOf t : Int)), r2) else none
  else if x.kind == 4 && x.text == [63] then
   match numL r with
   | none => none
   | some (n, r2) => if 1 ≤ n then some (factV n, r2) else none
  else if x.kind == 4 && x.text == [91] then
   match d with
   | 0 => none
   | d + 1 =>
    match listL (pVal d) [93] (r.length + 1) true r with
    | none => none
    | some (l, r2) => if l.length ≤ maxList then some (listV l, r2) else none
  else if x.kind == 0 then
   if x.text == [110, 117, 108, 108] then some (nullV, r)
   else if x.text == [116, 114, 117, 101] then some (boolV true, r)
   else if x.text == [102, 97, 108, 115, 101] then some (boolV false, r)
   else none
  else none
def pGiven (l : List Lx) : Option ((Bs × GV) × List Lx) :=
 match takeL 0 [] l with
 | none => none
 | some (f, r) => match takeL 4 [61] r with
  | none => none
  | some (_, r2) => (pVal maxDeep r2).map fun p => ((f, p.1), p.2)
def pSet (l : List Lx) : Option (List (Bs × GV) × List Lx) :=
 match takeL 4 [123] l with
 | none => none
 | some (_, r) => listL pGiven [125] (r.length + 1) true r
def pHandle (l : List Lx) : Option (Int × List Lx) :=
 match takeL 4 [63] l with
 | none => none
 | some (_, r) => (numL r).map fun p => ((p.1 : Int), p.2)
def pText : List Lx → Option (Bs × List Lx)
 | [] => none
 | x :: r => if x.kind == 3 then some (x.text, r) else none
def pOpt (l : List Lx) : Option ((Bool × GV) × List Lx) :=
 match takeL 4 [42] l with
 | some (_, r) => some ((false, nullV), r)
 | none => (pVal maxDeep l).map fun p => ((true, p.1), p.2)
def pOp (l : List Lx) : Option (OpV × List Lx) :=
 match takeL 0 [] l with
 | none => none
 | some (w, r) =>
  if w == [105, 110, 115, 101, 114, 116] then
   match takeL 0 [] r with
   | none => none
   | some (c, r2) => (pSet r2).map fun p => ({ noOp with kind := 1, cls := c, set := p.1 }, p.2)
  else if w == [117, 112, 100, 97, 116, 101] then
   match pHandle r with
   | none => none
   | some (h, r2) => (pSet r2).map fun p => ({ noOp with kind := 2, handle := h, set := p.1 }, p.2)
  else if w == [100, 101, 108, 101, 116, 101] then (pHandle r).map fun p => ({ noOp with kind := 3, handle := p.1 }, p.2)
  else if w == [102, 111, 99, 117, 115] then (pText r).map fun p => ({ noOp with kind := 4, text := p.1 }, p.2)
  else if w == [102, 108, 111, 119] then
   match pText r with
   | none => none
   | some (t, r2) => match takeL 0 [] r2 with
    | none => none
    | some (o, r3) =>
     if o == [111, 110] then some ({ noOp with kind := 5, text := t, on := true }, r3)
     else if o == [111, 102, 102] then some ({ noOp with kind := 5, text := t }, r3)
     else none
  else if w == [102, 105, 114, 101] then
   match numL r with
   | none => none
   | some (n, r2) => if n < 2147483648 then some ({ noOp with kind := 6, n := n }, r2) else none
  else if w == [113, 117, 101, 114, 121] then
   match takeL 0 [] r with
   | none => none
   | some (q, r2) => match takeL 4 [40] r2 with
    | none => none
    | some (_, r3) => (listL pOpt [41] (r3.length + 1) true r3).map fun p => ({ noOp with kind := 7, text := q, args := p.1 }, p.2)
  else none
def lineF (s : Bs) : Option (Option OpV) :=
 match lexS s with
 | none => none
 | some [] => some none
 | some (x :: l) =>
  match pOp (x :: l) with
  | some (o, []) => some (some o)
  | _ => none
end Go.Proofs.YtnpkdiffpgcbhaaGreatDoor
namespace Go.Proofs.YtnpkdiffpgcbhaaGreatDoor
def GoodLx (x : Lx) : Prop := x.kind = 2 → x.text ≠ [] ∧ ∀ c ∈ x.text, digitB c = true
theorem quotedB_text : ∀ (l t r : Bs), quotedB l = some (t, r) → t.length ≤ l.length
 | [], t, r, h => by simp [quotedB] at h
 | c :: l, t, r, h => by
  rw [quotedB.eq_def] at h
  simp only at h
  split at h
  ·simp at h; obtain ⟨rfl, _⟩ := h; simp
  ·split at h
   ·match l, h with
    | [], h => simp at h
    | d :: l2, h =>
     simp only at h
     split at h
     ·simp at h
     ·split at h
      ·simp at h
      ·rename_i a2 b2 hq
       simp at h; obtain ⟨rfl, _⟩ := h
       have := quotedB_text l2 _ _ hq
       simp; omega
   ·split at h
    ·simp at h
    ·split at h
     ·simp at h
     ·rename_i a2 b2 hq
      simp at h; obtain ⟨rfl, _⟩ := h
      have := quotedB_text l _ _ hq
      simp; omega
theorem takeWhile_le (p : UInt8 → Bool) (l : Bs) : (l.takeWhile p).length ≤ l.length := (List.takeWhile_prefix p).length_le
theorem lex1_good : ∀ (s : Bs) (x : Lx) (r : Bs), lex1 s = some (x, r) → GoodLx x ∧ x.text.length ≤ s.length
 | [], x, r, h => by simp [lex1] at h
 | c :: t, x, r, h => by
  rw [lex1.eq_def] at h
  simp only at h
  split at h
  ·simp at h; obtain ⟨rfl, _⟩ := h
   exact ⟨(fun h => by cases h), takeWhile_le _ _⟩
  ·split at h
   ·match t, h with
    | [], h => simp at h
    | d :: u, h =>
     simp only at h
     split at h
     ·simp at h; obtain ⟨rfl, _⟩ := h
      have := takeWhile_le wordB (d :: u)
      exact ⟨(fun h => by cases h), by simp at this ⊢; omega⟩
     ·simp at h
   ·split at h
    ·rename_i hc
     simp at h; obtain ⟨rfl, _⟩ := h
     refine ⟨fun _ => ⟨?_, ?_⟩, takeWhile_le _ _⟩
     ·simp [List.takeWhile_cons_of_pos hc]
     ·intro e he
      exact List.all_eq_true.1 (List.all_takeWhile (p := digitB) (l := c :: t)) e he
    ·split at h
     ·split at h
      ·simp at h
      ·rename_i a b hq
       simp at h; obtain ⟨rfl, _⟩ := h
       have := quotedB_text t _ _ hq
       exact ⟨(fun h => by cases h), by simp; omega⟩
     ·split at h
      ·simp at h; obtain ⟨rfl, _⟩ := h
       exact ⟨(fun h => by cases h), by simp; omega⟩
      ·split at h
       ·simp at h; obtain ⟨rfl, _⟩ := h
        exact ⟨(fun h => by cases h), by simp⟩
       ·simp at h
theorem lexN_good : ∀ (n : Nat) (s : Bs) (T : List Lx), lexN n s = some T → ∀ x ∈ T, GoodLx x ∧ x.text.length ≤ s.length
 | 0, _, _, h => by simp [lexN] at h
 | n + 1, s, T, h => by
  have hl := skipM_length false s
  simp only [lexN] at h
  split at h
  ·simp at h; subst h; simp
  ·rename_i c r hs
   rw [show skipM false s = skip s from rfl, hs] at hl
   split at h
   ·simp at h
   ·rename_i x r2 hx
    split at h
    ·simp at h
    ·rename_i l hl2
     simp at h; subst h
     have h1 := lex1_good _ _ _ hx
     have h2 := lex1_length _ _ _ hx
     intro y hy
     rcases List.mem_cons.1 hy with rfl | hy
     ·exact ⟨h1.1, by omega⟩
     ·have := lexN_good n r2 l hl2 y hy
      exact ⟨this.1, by omega⟩
structure GoodRow (T : List Lx) : Prop where
 good : ∀ x ∈ T, GoodLx x ∧ x.text.length ≤ 1099511627776
 len : T.length ≤ 4096
theorem lexS_good {s : Bs} {T : List Lx} (h : lexS s = some T) (hs : s.length ≤ 1099511627776) : GoodRow T := by
 unfold lexS at h
 split at h
 ·simp at h
 ·rename_i l hl
  split at h
  ·rename_i hm
   simp at h; subst h
   refine ⟨fun x hx => ?_, hm⟩
   have := lexN_good _ _ _ hl x hx
   exact ⟨this.1, by omega⟩
  ·simp at h
def numFrom (a : Nat) (t : Bs) : Nat := t.foldl (fun a c => a * 10 + (c.toNat - 48)) a
theorem numFrom_le (t : Bs) : ∀ a, a ≤ numFrom a t := by
 induction t with
 | nil => intro a; exact Nat.le_refl _
 | cons c t ih => intro a; exact Nat.le_trans (show a ≤ a * 10 + (c.toNat - 48) by omega) (ih _)
theorem digit_nat {c : UInt8} (h : digitB c = true) : 48 ≤ c.toNat ∧ c.toNat ≤ 57 := by
 unfold digitB at h
 simp [UInt8.le_iff_toNat_le] at h
 exact h
theorem parseUintM_digits (t : Bs) (h : ∀ c ∈ t, digitB c = true) : ∀ a, a ≤ 18446744073709551615 → Lib.parseUintM 18446744073709551615 a t = if numFrom a t ≤ 18446744073709551615 then .ok (numFrom a t) else .range := by
 induction t with
 | nil => intro a ha; simp [Lib.parseUintM, numFrom, ha]
 | cons c t ih =>
  intro a ha
  have hc := digit_nat (h c (by simp))
  have hm := numFrom_le t (a * 10 + (c.toNat - 48))
  have e : numFrom a (c :: t) = numFrom (a * 10 + (c.toNat - 48)) t := rfl
  rw [Lib.parseUintM, if_pos hc, e]
  by_cases h1 : 1844674407370955162 ≤ a
  ·rw [if_pos h1, if_neg (by omega)]
  ·rw [if_neg h1]
   by_cases h2 : 18446744073709551615 < a * 10 + (c.toNat - 48)
   ·rw [if_pos h2, if_neg (by omega)]
   ·rw [if_neg h2, ih (fun c hc => h c (by simp [hc])) _ (by omega)]
theorem pow64 : (2 ^ 64 - 1 : Nat) = 18446744073709551615 := by decide
theorem pow63 : (2 ^ (64 - 1) : Nat) = 9223372036854775808 := by decide
theorem parseUint_digits {t : Bs} (hn : t ≠ []) (h : ∀ c ∈ t, digitB c = true) : Lib.parseUintB 64 t = if numOf t ≤ 18446744073709551615 then .ok (numOf t) else .range := by
 unfold Lib.parseUintB
 rw [if_neg hn, pow64, parseUintM_digits t h 0 (by omega)]; rfl
theorem parseInt_digits {t : Bs} (hn : t ≠ []) (h : ∀ c ∈ t, digitB c = true) : Lib.parseIntB 64 t = if numOf t ≤ 9223372036854775807 then .ok (numOf t) else .range := by
 match t, hn, h with
 | c :: r, hn, h =>
  have hc := digit_nat (h c (by simp))
  unfold Lib.parseIntB
  simp only
  rw [if_neg (by omega), parseUint_digits hn h, pow63]
  by_cases h1 : numOf (c :: r) ≤ 18446744073709551615
  ·rw [if_pos h1]
   simp only
   by_cases h2 : numOf (c :: r) ≤ 9223372036854775807
   ·rw [if_neg (by omega), if_neg (by omega), if_pos h2, if_neg (by omega)]
   ·rw [if_pos ⟨by omega, by omega⟩, if_neg h2]
  ·rw [if_neg h1, if_neg (by omega)]
theorem parseInt_minus {t : Bs} (hn : t ≠ []) (h : ∀ c ∈ t, digitB c = true) : Lib.parseIntB 64 (45 :: t) = if numOf t ≤ 9223372036854775808 then .ok (-(numOf t : Int)) else .range := by
 have e45 : (45 : UInt8).toNat = 45 := by decide
 unfold Lib.parseIntB
 simp only [e45]
 rw [if_pos (Or.inr trivial), parseUint_digits hn h, pow63]
 by_cases h1 : numOf t ≤ 18446744073709551615
 ·rw [if_pos h1]
  simp only
  by_cases h2 : numOf t ≤ 9223372036854775808
  ·rw [if_neg (fun h => h.1 trivial), if_neg (fun h => by have := h.2; omega), if_pos h2, if_pos trivial]
  ·rw [if_neg (fun h => h.1 trivial), if_pos ⟨trivial, by omega⟩, if_neg h2]
 ·rw [if_neg h1, if_neg (by omega)]
end Go.Proofs.YtnpkdiffpgcbhaaGreatDoor
namespace Go.Proofs.YtnpkdiffpgcbhaaGreatDoor
open Go.RowKit
def Same (w w' : World) : Prop := w'.heap = w.heap ∧ w'.os = w.os ∧ w'.tape = w.tape ∧ w'.output = w.output
structure FP (S : Nat → Prop) (w w' : World) : Prop where
 os : w'.os = w.os
 tape : w'.tape = w.tape
 output : w'.output = w.output
 size : w.heap.size ≤ w'.heap.size
 blk : ∀ k, k < w.heap.size → ¬ S k → w'.heap[k]? = w.heap[k]?
def nob : Nat → Prop := fun _ => False
theorem lt_blk {w : World} {b : Nat} {o : Obj} (h : w.heap[b]? = some o) : b < w.heap.size := by
 rcases Nat.lt_or_ge b w.heap.size with h' | h'
 ·exact h'
 ·simp [Array.getElem?_eq_none h'] at h
theorem heap_set {w : World} {b t o : Nat} {cs : Array Value} (h : w.heap[b]? = some (.cells cs t (0,0))) (v : Value) (k : Nat) :
  (w.setCell ⟨b,o,none⟩ v).heap[k]? = if k = b then some (.cells (cs.setIfInBounds o v) t (0,0)) else w.heap[k]? := by
 simp only [World.setCell, Array.getElem?_modify]
 by_cases hk : k = b
 ·subst hk; simp [h]
 ·rw [if_neg (by omega), if_neg hk]
theorem heap_set_ne {w : World} {a : Addr} {v : Value} {k : Nat} (h : k ≠ a.block) : (w.setCell a v).heap[k]? = w.heap[k]? := Below.heap_setCell _ _ _ _ h
theorem size_set (w : World) (a : Addr) (v : Value) : (w.setCell a v).heap.size = w.heap.size := by simp [World.setCell]
theorem cell_blk {w : World} {b t o : Nat} {cs : Array Value} (h : w.heap[b]? = some (.cells cs t (0,0))) : w.cell? ⟨b, o, none⟩ = cs[o]? := by simp [World.cell?, h]
theorem frz_blk {w : World} {b t o : Nat} {cs : Array Value} (h : w.heap[b]? = some (.cells cs t (0,0))) : w.frozen? ⟨b, o, none⟩ = false := by simp [World.frozen?, h]
theorem heap_alloc_ne {w : World} {o : Obj} {k : Nat} (h : k ≠ w.heap.size) : (w.alloc o).heap[k]? = w.heap[k]? := by
 show (w.heap.push o)[k]? = _
 rw [Array.getElem?_push, if_neg h]
theorem heap_new_at {w : World} {k : Nat} (h : w.heap.size = k) (o : Obj) : (w.alloc o).heap[k]? = some o := by subst h; exact heap_alloc_new w o
section
variable {S T U : Nat → Prop} {a b c w w' w'' : World}
theorem FP.refl (S : Nat → Prop) (w : World) : FP S w w := ⟨rfl, rfl, rfl, Nat.le_refl _, fun _ _ _ => rfl⟩
theorem FP.trans (h : FP S a b) (k : FP T b c) (hT : ∀ i, T i → S i ∨ a.heap.size ≤ i) : FP S a c :=
 ⟨k.os.trans h.os, k.tape.trans h.tape, k.output.trans h.output, Nat.le_trans h.size k.size, fun i hi hs =>
  (k.blk i (Nat.lt_of_lt_of_le hi h.size) (fun ht => by rcases hT i ht with h1 | h1; exact hs h1; omega)).trans (h.blk i hi hs)⟩
theorem FP.mono (h : FP S w w') (hs : ∀ i, S i → T i) : FP T w w' := ⟨h.os, h.tape, h.output, h.size, fun i hi ht => h.blk i hi (fun x => ht (hs i x))⟩
theorem FP.same (h : FP S w w') (hs : Same w' w'') : FP S w w'' :=
 ⟨hs.2.1.trans h.os, hs.2.2.1.trans h.tape, hs.2.2.2.trans h.output, by rw [hs.1]; exact h.size, fun k hk ho => by rw [hs.1]; exact h.blk k hk ho⟩
theorem FP.ofSame (hs : Same w w') : FP S w w' := (FP.refl S w).same hs
theorem FP.alloc (h : FP S a w) (o : Obj) : FP S a (w.alloc o) :=
 h.trans (T := nob) ⟨rfl, rfl, rfl, by simp, fun k hk _ => Below.heap_alloc _ _ _ hk⟩ (fun _ h => h.elim)
theorem FP.set (h : FP S a w) {p : Addr} (v : Value) (hp : S p.block ∨ a.heap.size ≤ p.block) : FP S a (w.setCell p v) :=
 h.trans (T := fun k => k = p.block) ⟨rfl, rfl, rfl, by simp [World.setCell], fun k _ hk => heap_set_ne hk⟩ (fun i hi => by rw [hi]; exact hp)
theorem FP.grown (h : FP S a w) {row : Option Nat} (hg : w.grownBy w' row) (hr : ∀ k, row = some k → S k ∨ a.heap.size ≤ k) : FP S a w' :=
 h.trans (T := fun k => some k = row) ⟨hg.os, hg.tape, hg.output, hg.size, fun k hk hx => hg.block k hk (fun e => hx e)⟩ (fun i hi => hr i hi.symm)
theorem FP.below (h : FP S w w') {base : Nat} (hS : ∀ k, S k → base ≤ k) (hb : base ≤ w.heap.size) : Below base w w' :=
 ⟨h.os, h.tape, h.output, h.size, fun k hk => h.blk k (by omega) (fun hs => by have := hS k hs; omega)⟩
end
theorem drewN_add (w : World) (a b : Nat) : (w.drewN a).drewN b = w.drewN (a + b) := by unfold World.drewN; simp [Nat.add_assoc]
theorem same_drewN (w : World) (q : Nat) : Same w (w.drewN q) := ⟨rfl, rfl, rfl, rfl⟩
theorem Same.trans {a b c : World} (h : Same a b) (k : Same b c) : Same a c := ⟨k.1.trans h.1, k.2.1.trans h.2.1, k.2.2.1.trans h.2.2.1, k.2.2.2.trans h.2.2.2⟩
end Go.Proofs.YtnpkdiffpgcbhaaGreatDoor
