/- The plain law of two scripts; parts of a text; parsed values have short lists. No conditions. -/
import Derived.Test.YtnpkdiffpgcbhaaGreatDoorS06
import Derived.Lib.SplitLaws
namespace Go.Proofs.YtnpkdiffpgcbhaaGreatDoor
def splitNL : Bs → List Bs
 | [] => [[]]
 | c :: r => if c == 10 then [] :: splitNL r else match splitNL r with
  | [] => [[c]]
  | h :: t => (c :: h) :: t
theorem splitNL_ne (s : Bs) : splitNL s ≠ [] := by
 cases s with
 | nil => simp [splitNL]
 | cons c r =>
  simp only [splitNL]
  split
  ·simp
  ·split <;> simp
theorem splitNL_append (a b : Bs) : splitNL (a ++ 10 :: b) = splitNL a ++ splitNL b := by
 induction a with
 | nil => simp [splitNL]
 | cons c r ih =>
  rw [List.cons_append]
  simp only [splitNL, ih]
  split
  ·simp
  ·cases h : splitNL r with
   | nil => exact absurd h (splitNL_ne r)
   | cons x t => simp
def linesN (s : Bs) : Nat := s.count 10 + 1
theorem splitNL_length (s : Bs) : (splitNL s).length = linesN s := by
 induction s with
 | nil => rfl
 | cons c r ih =>
  unfold linesN at *
  simp only [splitNL, List.count_cons]
  by_cases h : (c == 10) = true
  ·rw [if_pos h, if_pos h, List.length_cons, ih]
  ·rw [if_neg h, if_neg h]
   cases hs : splitNL r with
   | nil => exact absurd hs (splitNL_ne r)
   | cons x t => rw [hs] at ih; simpa using ih
def linesOf (s : Bs) : List Bs := if (splitNL s).getLast? = some [] then (splitNL s).dropLast else splitNL s
theorem linesOf_append (a b : Bs) : linesOf (a ++ 10 :: b) = splitNL a ++ linesOf b := by
 unfold linesOf
 have e : (splitNL a ++ splitNL b).getLast? = (splitNL b).getLast? := by
  rw [List.getLast?_append]
  cases h : (splitNL b).getLast? with
  | none => exact absurd (List.getLast?_eq_none_iff.1 h) (splitNL_ne b)
  | some x => rfl
 rw [splitNL_append, e]
 split
 ·rw [List.dropLast_append_of_ne_nil (splitNL_ne b)]
 ·rfl
theorem linesOf_split (a : Bs) : splitNL a = linesOf a ∨ splitNL a = linesOf a ++ [[]] := by
 unfold linesOf
 split
 ·rename_i h
  right
  have hn := splitNL_ne a
  rw [List.getLast?_eq_some_getLast hn] at h
  have h : (splitNL a).getLast hn = [] := Option.some.inj h
  rw [← h]
  exact (List.dropLast_concat_getLast hn).symm
 ·exact .inl rfl
def parseLs : Nat → List Bs → Except Nat (List OpV)
 | _, [] => .ok []
 | i, s :: r => match lineF s with
  | none => .error i
  | some o => match parseLs (i + 1) r with
   | .error j => .error j
   | .ok l => .ok (o.toList ++ l)
def parseS (s : Bs) : Except Nat (List OpV) := parseLs 0 (linesOf s)
theorem parseLs_shift (l : List Bs) : ∀ (i k : Nat), parseLs (i + k) l = match parseLs i l with
  | .error j => .error (j + k)
  | .ok o => .ok o := by
 induction l with
 | nil => intro i k; rfl
 | cons s r ih =>
  intro i k
  simp only [parseLs]
  cases lineF s with
  | none => rfl
  | some o =>
   simp only
   rw [show i + k + 1 = i + 1 + k by omega, ih (i + 1) k]
   cases parseLs (i + 1) r <;> rfl
theorem parseLs_append (l m : List Bs) : ∀ (i : Nat), parseLs i (l ++ m) = match parseLs i l with
  | .error j => .error j
  | .ok a => match parseLs (i + l.length) m with
   | .error j => .error j
   | .ok b => .ok (a ++ b) := by
 induction l with
 | nil => intro i; simp only [List.nil_append, parseLs, List.length_nil, Nat.add_zero]; cases parseLs i m <;> rfl
 | cons s r ih =>
  intro i
  rw [List.cons_append]
  simp only [parseLs, List.length_cons]
  cases lineF s with
  | none => rfl
  | some o =>
   simp only
   rw [ih (i + 1), show i + 1 + r.length = i + (r.length + 1) by omega]
   cases parseLs (i + 1) r with
   | error j => rfl
   | ok a =>
    simp only
    cases parseLs (i + (r.length + 1)) m with
    | error j => rfl
    | ok b => simp
theorem lineF_nil : lineF [] = some none := rfl
theorem parse_split (a : Bs) (i : Nat) : parseLs i (splitNL a) = parseLs i (linesOf a) := by
 rcases linesOf_split a with h | h
 ·rw [h]
 ·rw [h, parseLs_append]
  cases parseLs i (linesOf a) with
  | error j => rfl
  | ok o => simp [parseLs, lineF_nil]
theorem parseS_both {a b : Bs} {o : List OpV} (h : parseS a = .ok o) : parseS (a ++ 10 :: b) = match parseS b with
  | .error j => .error (j + linesN a)
  | .ok p => .ok (o ++ p) := by
 unfold parseS at *
 rw [linesOf_append, parseLs_append, parse_split, h]
 simp only
 rw [splitNL_length, parseLs_shift (linesOf b) 0 (linesN a)]
 cases parseLs 0 (linesOf b) <;> rfl
def headB : Bs := [47, 47, 32, 120, 10, 10]
def tailB : Bs := [10, 32, 9, 10]
theorem parseS_empty {a : Bs} {o : List OpV} (h : parseS a = .ok o) : parseS (headB ++ (a ++ tailB)) = .ok o := by
 have e1 : headB ++ (a ++ tailB) = [47, 47, 32, 120] ++ 10 :: ([] ++ 10 :: (a ++ 10 :: [32, 9, 10])) := by simp [headB, tailB]
 have p0 : parseS [47, 47, 32, 120] = .ok [] := by rfl
 have p1 : parseS [] = .ok [] := by rfl
 have p2 : parseS [32, 9, 10] = .ok [] := by rfl
 rw [e1, parseS_both p0, parseS_both p1, parseS_both h, p2]
 simp
theorem parseLs_len (l : List Bs) : ∀ (i : Nat) (o : List OpV), parseLs i l = .ok o → o.length ≤ l.length := by
 induction l with
 | nil => intro i o h; simp only [parseLs] at h; cases h; exact Nat.le_refl _
 | cons s r ih =>
  intro i o h
  simp only [parseLs] at h
  cases hs : lineF s with
  | none => rw [hs] at h; cases h
  | some x =>
   rw [hs] at h
   simp only at h
   cases hr : parseLs (i + 1) r with
   | error j => rw [hr] at h; cases h
   | ok m =>
    rw [hr] at h
    cases h
    have := ih _ _ hr
    rw [List.length_append, List.length_cons]
    cases x <;> simp <;> omega
theorem linesOf_len (a : Bs) : (linesOf a).length ≤ a.length + 1 := by
 have h1 : (linesOf a).length ≤ (splitNL a).length := by
  unfold linesOf
  split
  ·rw [List.length_dropLast]; omega
  ·exact Nat.le_refl _
 rw [splitNL_length] at h1
 have := List.count_le_length (a := (10 : UInt8)) (l := a)
 unfold linesN at h1
 omega
end Go.Proofs.YtnpkdiffpgcbhaaGreatDoor
namespace Go.Proofs.YtnpkdiffpgcbhaaGreatDoor
inductive Sh : GV → Prop where
 | mk (k : Int) (b : Bool) (i : Int) (t : Bs) (l : List GV) (hl : l.length ≤ 4096) (h : ∀ x ∈ l, Sh x) : Sh (.mk k b i t l)
structure ShOp (o : OpV) : Prop where
 set : o.set.length ≤ 5000 ∧ ∀ p ∈ o.set, Sh p.2
 args : o.args.length ≤ 5000 ∧ ∀ p ∈ o.args, Sh p.2
theorem sh_null : Sh nullV := .mk _ _ _ _ _ (by simp) (by simp)
theorem sh_bool (b : Bool) : Sh (boolV b) := .mk _ _ _ _ _ (by simp) (by simp)
theorem sh_int (b : Int) : Sh (intV b) := .mk _ _ _ _ _ (by simp) (by simp)
theorem sh_fact (b : Int) : Sh (factV b) := .mk _ _ _ _ _ (by simp) (by simp)
theorem sh_text (b : Bs) : Sh (textV b) := .mk _ _ _ _ _ (by simp) (by simp)
theorem listL_all {α : Type} {one : List Lx → Option (α × List Lx)} {e : Bs} {P : α → Prop} (h : ∀ l a r, one l = some (a, r) → P a) : ∀ n b l xs r, listL one e n b l = some (xs, r) → xs.length ≤ n ∧ ∀ a ∈ xs, P a := by
 intro n
 induction n with
 | zero => intro b l xs r hl; simp [listL] at hl
 | succ n ih =>
  have key : ∀ l a r1 xs r, one l = some (a, r1) → Option.map (fun p : List α × List Lx => (a :: p.1, p.2)) (listL one e n false r1) = some (xs, r) → xs.length ≤ n + 1 ∧ ∀ a ∈ xs, P a := by
   intro l a r1 xs r h1 h2
   cases h3 : listL one e n false r1 with
   | none => rw [h3] at h2; cases h2
   | some p =>
    rw [h3] at h2
    cases h2
    obtain ⟨i1, i2⟩ := ih false r1 p.1 p.2 h3
    refine ⟨by simp; omega, ?_⟩
    intro x hx
    rcases List.mem_cons.1 hx with rfl | hx
    ·exact h _ _ _ h1
    ·exact i2 x hx
  have nil : ∀ l xs r, Option.map (fun p : Bs × List Lx => (([] : List α), p.2)) (takeL 4 e l) = some (xs, r) → xs.length ≤ n + 1 ∧ ∀ a ∈ xs, P a := by
   intro l xs r h2
   cases h3 : takeL 4 e l with
   | none => rw [h3] at h2; cases h2
   | some p => rw [h3] at h2; cases h2; simp
  intro b l xs r hl
  unfold listL at hl
  cases b with
  | true =>
   simp only [if_true] at hl
   split at hl
   ·exact nil _ _ _ hl
   ·split at hl
    ·cases hl
    ·rename_i h1
     exact key _ _ _ _ _ h1 hl
  | false =>
   simp only [Bool.false_eq_true, if_false] at hl
   split at hl
   ·split at hl
    ·cases hl
    ·rename_i h1
     exact key _ _ _ _ _ h1 hl
   ·exact nil _ _ _ hl
theorem pVal_sh : ∀ (d : Nat) (l : List Lx) (v : GV) (r : List Lx), pVal d l = some (v, r) → Sh v := by
 intro d
 induction d with
 | zero =>
  intro l v r h
  cases l with
  | nil => simp [pVal] at h
  | cons x l =>
   simp only [pVal] at h
   repeat' split at h
   all_goals first
    | (cases h; done)
    | (cases h; first | exact sh_int _ | exact sh_text _ | exact sh_fact _ | exact sh_null | exact sh_bool _)
 | succ d ih =>
  intro l v r h
  cases l with
  | nil => simp [pVal] at h
  | cons x l =>
   simp only [pVal] at h
   repeat' split at h
   all_goals first
    | (cases h; done)
    | (cases h; first | exact sh_int _ | exact sh_text _ | exact sh_fact _ | exact sh_null | exact sh_bool _)
    | skip
   all_goals
    rename_i hl hm
    cases h
    exact .mk _ _ _ _ _ hm (listL_all (fun l a r => ih l a r) _ _ _ _ _ hl).2
theorem pGiven_sh {l : List Lx} {p : Bs × GV} {r : List Lx} (h : pGiven l = some (p, r)) : Sh p.2 := by
 unfold pGiven at h
 repeat' split at h
 all_goals first | (cases h; done) | skip
 cases h3 : pVal maxDeep ‹List Lx› with
 | none => simp_all
 | some q => rename_i r2 _ ; rw [h3] at h; cases h; exact pVal_sh _ _ _ _ h3
theorem pOpt_sh {l : List Lx} {p : Bool × GV} {r : List Lx} (h : pOpt l = some (p, r)) : Sh p.2 := by
 unfold pOpt at h
 split at h
 ·cases h; exact sh_null
 ·cases h3 : pVal maxDeep l with
  | none => rw [h3] at h; cases h
  | some q => rw [h3] at h; cases h; exact pVal_sh _ _ _ _ h3
theorem sh_takeL {k : Nat} {s : Bs} {l : List Lx} {t : Bs} {r : List Lx} (h : takeL k s l = some (t, r)) : r.length < l.length := by
 unfold takeL at h
 split at h
 ·cases h
 ·split at h
  ·cases h; simp
  ·cases h
theorem pSet_sh {l : List Lx} {p : List (Bs × GV)} {r : List Lx} (h : pSet l = some (p, r)) : p.length ≤ l.length ∧ ∀ x ∈ p, Sh x.2 := by
 unfold pSet at h
 split at h
 ·cases h
 ·rename_i t r1 h1
  have h2 := sh_takeL h1
  have h3 := listL_all (P := fun x => Sh x.2) (fun l a r h => pGiven_sh h) _ _ _ _ _ h
  exact ⟨by omega, h3.2⟩
theorem sh_numL {l : List Lx} {n : Nat} {r : List Lx} (h : numL l = some (n, r)) : r.length < l.length := by
 unfold numL at h
 repeat' split at h
 all_goals first | (cases h; done) | skip
 cases h
 exact sh_takeL ‹_›
theorem sh_pHandle {l : List Lx} {n : Int} {r : List Lx} (h : pHandle l = some (n, r)) : r.length < l.length := by
 unfold pHandle at h
 split at h
 ·cases h
 ·rename_i t r1 h1
  have h2 := sh_takeL h1
  cases h3 : numL r1 with
  | none => rw [h3] at h; cases h
  | some q => rw [h3] at h; cases h; have := sh_numL h3; omega
theorem shOp_none {k h n : Int} {c t : Bs} {on : Bool} : ShOp ⟨k, c, [], h, t, on, n, []⟩ := ⟨by simp, by simp⟩
theorem pOp_sh {l : List Lx} {o : OpV} {r : List Lx} (hl : l.length ≤ 4096) (h : pOp l = some (o, r)) : ShOp o := by
 unfold pOp at h
 split at h
 ·cases h
 ·rename_i t r1 h1
  have e1 := sh_takeL h1
  split at h
  ·split at h
   ·cases h
   ·rename_i c r2 h2
    have e2 := sh_takeL h2
    cases h3 : pSet r2 with
    | none => rw [h3] at h; cases h
    | some q =>
     rw [h3] at h; cases h
     have := pSet_sh h3
     exact ⟨⟨by show q.1.length ≤ 5000; omega, this.2⟩, by simp [noOp]⟩
  split at h
  ·split at h
   ·cases h
   ·rename_i c r2 h2
    have e2 := sh_pHandle h2
    cases h3 : pSet r2 with
    | none => rw [h3] at h; cases h
    | some q =>
     rw [h3] at h; cases h
     have := pSet_sh h3
     exact ⟨⟨by show q.1.length ≤ 5000; omega, this.2⟩, by simp [noOp]⟩
  split at h
  ·cases h3 : pHandle r1 with
   | none => rw [h3] at h; cases h
   | some q => rw [h3] at h; cases h; exact shOp_none
  split at h
  ·cases h3 : pText r1 with
   | none => rw [h3] at h; cases h
   | some q => rw [h3] at h; cases h; exact shOp_none
  split at h
  ·repeat' split at h
   all_goals first | (cases h; done) | (cases h; exact shOp_none)
  split at h
  ·repeat' split at h
   all_goals first | (cases h; done) | (cases h; exact shOp_none)
  split at h
  ·split at h
   ·cases h
   ·rename_i c r2 h2
    have e2 := sh_takeL h2
    split at h
    ·cases h
    ·rename_i c3 r3 h3
     have e3 := sh_takeL h3
     cases h4 : listL pOpt [41] (r3.length + 1) true r3 with
     | none => rw [h4] at h; cases h
     | some q =>
      rw [h4] at h; cases h
      have := listL_all (P := fun x => Sh x.2) (fun l a r h => pOpt_sh h) _ _ _ _ _ h4
      exact ⟨by simp [noOp], ⟨by show q.1.length ≤ 5000; omega, this.2⟩⟩
  ·cases h
theorem lineF_sh {s : Bs} {o : OpV} (h : lineF s = some (some o)) : ShOp o := by
 unfold lineF at h
 split at h
 ·cases h
 ·cases h
 ·rename_i x l h1
  split at h
  ·rename_i o2 h2
   cases h
   refine pOp_sh ?_ h2
   unfold lexS at h1
   split at h1
   ·cases h1
   ·split at h1
    ·rename_i hm
     cases h1
     exact hm
    ·cases h1
  ·cases h
theorem parseLs_sh (l : List Bs) : ∀ (i : Nat) (o : List OpV), parseLs i l = .ok o → ∀ x ∈ o, ShOp x := by
 induction l with
 | nil => intro i o h; simp only [parseLs] at h; cases h; simp
 | cons s r ih =>
  intro i o h
  simp only [parseLs] at h
  cases hs : lineF s with
  | none => rw [hs] at h; cases h
  | some x =>
   rw [hs] at h
   simp only at h
   cases hr : parseLs (i + 1) r with
   | error j => rw [hr] at h; cases h
   | ok m =>
    rw [hr] at h
    cases h
    intro y hy
    rcases List.mem_append.1 hy with hy | hy
    ·cases x with
     | none => simp at hy
     | some z =>
      simp at hy
      subst hy
      exact lineF_sh hs
    ·exact ih _ _ hr y hy
theorem parseS_sh {s : Bs} {o : List OpV} (h : parseS s = .ok o) : ∀ x ∈ o, ShOp x := parseLs_sh _ _ _ h
def parseA (s : Bs) : Except (Nat × Int) (List OpV) :=
 if 65536 < s.length then .error (0, 21)
 else match parseS s with
  | .error j => .error (j, 41)
  | .ok l => if 65536 < l.length then .error (0, 21) else .ok l
theorem parseS_len {s : Bs} {o : List OpV} (h : parseS s = .ok o) : o.length ≤ s.length + 1 := Nat.le_trans (parseLs_len _ _ _ h) (linesOf_len s)
theorem parseA_short {s : Bs} (h : s.length ≤ 65535) : parseA s = match parseS s with
  | .error j => .error (j, 41)
  | .ok l => .ok l := by
 unfold parseA
 rw [if_neg (by omega)]
 cases hp : parseS s with
 | error j => rfl
 | ok l =>
  have := parseS_len hp
  simp only
  rw [if_neg (by omega)]
theorem parseA_ok {s : Bs} {o : List OpV} (h : parseA s = .ok o) : parseS s = .ok o := by
 unfold parseA at h
 split at h
 ·cases h
 ·split at h
  ·cases h
  ·rename_i h1
   split at h
   ·cases h
   ·cases h; exact h1
theorem parseA_err {s : Bs} {j : Nat} {c : Int} (h : parseA s = .error (j, c)) : c ≠ 0 := by
 unfold parseA at h
 repeat' split at h
 all_goals cases h
 all_goals decide
theorem parseA_bad {a b : Bs} {o : List OpV} {j : Nat} {c : Int} (ha : parseA a = .ok o) (hb : parseA b = .error (j, c)) (hl : a.length + b.length ≤ 3000) : parseA (a ++ 10 :: b) = .error (j + linesN a, c) := by
 have h1 := parseA_ok ha
 rw [parseA_short (by omega)] at hb
 rw [parseA_short (by simp; omega), parseS_both h1]
 cases hp : parseS b with
 | error k => rw [hp] at hb; cases hb; rfl
 | ok l => rw [hp] at hb; cases hb
theorem parseA_both {a b : Bs} {o p : List OpV} (ha : parseA a = .ok o) (hb : parseA b = .ok p) (hl : a.length + b.length ≤ 3000) : parseA (a ++ 10 :: b) = .ok (o ++ p) := by
 have h1 := parseA_ok ha
 have h2 := parseA_ok hb
 rw [parseA_short (by simp; omega), parseS_both h1, h2]
theorem parseA_around {a : Bs} {o : List OpV} (ha : parseA a = .ok o) (hl : a.length ≤ 3000) : parseA (headB ++ (a ++ tailB)) = .ok o := by
 rw [parseA_short (by simp [headB, tailB]; omega), parseS_empty (parseA_ok ha)]
end Go.Proofs.YtnpkdiffpgcbhaaGreatDoor
namespace Go.Proofs.YtnpkdiffpgcbhaaGreatDoor
theorem index_nl (c : UInt8) (l : List UInt8) : Lib.index (c :: l) [10] = if c == 10 then 0 else if Lib.index l [10] == -1 then -1 else Lib.index l [10] + 1 := by
 rw [Lib.index]
 have e : ([10] : List UInt8).isPrefixOf (c :: l) = (c == 10) := by
  simp only [List.isPrefixOf]
  rw [Bool.and_true]
  rw [Bool.eq_iff_iff, beq_iff_eq, beq_iff_eq]
  exact eq_comm
 rw [e]
theorem split_nl : ∀ s : List UInt8, Lib.split s [10] = splitNL s := by
 intro s
 induction s with
 | nil =>
  unfold Lib.split
  rw [Lib.count_miss (by simp [Lib.index])]
  rfl
 | cons c l ih =>
  have hi := index_nl c l
  simp only [splitNL]
  by_cases hc : (c == 10) = true
  ·rw [if_pos hc] at hi ⊢
   unfold Lib.split at ih ⊢
   rw [Lib.count_hit (i := 0) (by simp) hi, Nat.add_comm, Lib.splitK, if_neg (by rw [hi]; decide), hi]
   show ((c :: l).take 0) :: Lib.splitK [10] 0 (Lib.count ((c :: l).drop 1) [10]) ((c :: l).drop 1) = _
   rw [List.take_zero, List.drop_one, List.tail_cons, ih]
  ·rw [if_neg hc] at hi ⊢
   by_cases hm : Lib.index l [10] = -1
   ·rw [if_pos (beq_iff_eq.2 hm)] at hi
    have h1 : Lib.split (c :: l) [10] = [c :: l] := by unfold Lib.split; rw [Lib.count_miss hi]; rfl
    have h2 : Lib.split l [10] = [l] := by unfold Lib.split; rw [Lib.count_miss hm]; rfl
    rw [h1, ← ih, h2]
   ·have hge := Lib.index_ge l [10]
    obtain ⟨i, hil⟩ : ∃ i : Nat, Lib.index l [10] = i := ⟨(Lib.index l [10]).toNat, by omega⟩
    rw [if_neg (by rw [beq_iff_eq]; exact hm), hil] at hi
    have hi' : Lib.index (c :: l) [10] = ((i + 1 : Nat) : Int) := by rw [hi]; omega
    have h2 : Lib.split l [10] = l.take i :: Lib.splitK [10] 0 (Lib.count (l.drop (i + 1)) [10]) (l.drop (i + 1)) := by
     unfold Lib.split
     rw [Lib.count_hit (by simp) hil, Nat.add_comm, Lib.splitK, if_neg (by rw [hil, beq_iff_eq]; omega), hil]
     rfl
    have h1 : Lib.split (c :: l) [10] = (c :: l.take i) :: Lib.splitK [10] 0 (Lib.count (l.drop (i + 1)) [10]) (l.drop (i + 1)) := by
     unfold Lib.split
     rw [Lib.count_hit (by simp) hi', Nat.add_comm, Lib.splitK, if_neg (by rw [hi', beq_iff_eq]; omega), hi']
     rfl
    rw [h1, ← ih, h2]
theorem splitK_len (sep : List UInt8) : ∀ (k : Nat) (s : List UInt8), k ≤ Lib.count s sep → sep ≠ [] → (Lib.splitK sep 0 k s).length = k + 1 := by
 intro k
 induction k with
 | zero => intro s _ _; rfl
 | succ k ih =>
  intro s hk hs
  have hm : Lib.index s sep ≠ -1 := fun e => by rw [Lib.count_miss e] at hk; omega
  have hge := Lib.index_ge s sep
  obtain ⟨i, hi⟩ : ∃ i : Nat, Lib.index s sep = i := ⟨(Lib.index s sep).toNat, by omega⟩
  rw [Lib.count_hit hs hi] at hk
  rw [Lib.splitK, if_neg (by rw [beq_iff_eq]; exact hm), hi, List.length_cons]
  simp only [Int.toNat_natCast]
  rw [ih _ (by omega) hs]
theorem count_nl (s : List UInt8) : Lib.count s [10] + 1 = (splitNL s).length := by
 rw [← split_nl]
 exact (splitK_len [10] _ s (Nat.le_refl _) (by simp)).symm
theorem splitB_nl (s : ByteArray) : (Lib.splitB ⟨#[10]⟩ 0 (Lib.countB s ⟨#[10]⟩) s).map (·.data.toList) = splitNL s.data.toList := by
 rw [Lib.splitB_data]
 exact split_nl _
end Go.Proofs.YtnpkdiffpgcbhaaGreatDoor
