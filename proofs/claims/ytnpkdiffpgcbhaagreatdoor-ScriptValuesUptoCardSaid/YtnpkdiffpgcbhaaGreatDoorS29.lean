/- The parser, walked (ParK, ParL). Conditions: each theorem's own. -/
import Derived.Test.YtnpkdiffpgcbhaaGreatDoorS28
import Derived.Test.YtnpkdiffpgcbhaaGreatDoorS22
set_option maxRecDepth 100000
set_option maxHeartbeats 1600000
namespace Go.Proofs.YtnpkdiffpgcbhaaGreatDoor
open Go.RowKit
theorem takeL4 {x : Lx} {r : List Lx} {c : UInt8} : takeL 4 [c] (x :: r) = if (x.kind == 4 && x.text == [c]) = true then some (x.text, r) else none := by
 simp [takeL]
theorem takeL_len {k : Nat} {s t : Bs} {l r : List Lx} (h : takeL k s l = some (t, r)) : l.length = r.length + 1 := by
 cases l with
 | nil => simp [takeL] at h
 | cons x l =>
  simp only [takeL] at h
  split at h
  ·cases h; rfl
  ·cases h
theorem listL_len {α : Type} {one : List Lx → Option (α × List Lx)} (ho : ∀ l a r, one l = some (a, r) → r.length < l.length) (e : Bs) : ∀ (n : Nat) (b : Bool) (l : List Lx) (a : List α) (r : List Lx), listL one e n b l = some (a, r) → r.length < l.length ∧ a.length ≤ l.length := by
 intro n
 induction n with
 | zero => intro b l a r h; simp [listL] at h
 | succ n ih =>
  intro b l a r h
  rw [listL] at h
  split at h
  ·split at h
   ·obtain ⟨p, hp, he⟩ := Option.map_eq_some_iff.1 h
    cases he
    have := takeL_len (t := p.1) (r := p.2) hp
    exact ⟨by omega, by simp⟩
   ·split at h
    ·cases h
    ·rename_i a1 r1 h1
     obtain ⟨p, hp, he⟩ := Option.map_eq_some_iff.1 h
     cases he
     have h2 := ho _ _ _ h1
     have h3 := ih _ _ p.1 p.2 hp
     exact ⟨by omega, by simp; omega⟩
  ·split at h
   ·rename_i t0 r0 h0
    have h4 := takeL_len h0
    split at h
    ·cases h
    ·rename_i a1 r1 h1
     obtain ⟨p, hp, he⟩ := Option.map_eq_some_iff.1 h
     cases he
     have h2 := ho _ _ _ h1
     have h3 := ih _ _ p.1 p.2 hp
     exact ⟨by omega, by simp; omega⟩
   ·obtain ⟨p, hp, he⟩ := Option.map_eq_some_iff.1 h
    cases he
    have := takeL_len (t := p.1) (r := p.2) hp
    exact ⟨by omega, by simp⟩
theorem numL_len {l r : List Lx} {m : Nat} (h : numL l = some (m, r)) : l.length = r.length + 1 := by
 unfold numL at h
 split at h
 ·cases h
 ·rename_i t r' ht
  split at h
  ·cases h; exact takeL_len ht
  ·cases h
theorem pVal_len : ∀ (n : Nat) (l : List Lx) (v : GV) (r : List Lx), pVal n l = some (v, r) → r.length < l.length := by
  intro n
  induction n with
  | zero => ?_
  | succ n ih => ?_
  all_goals
    intro l v r h
    cases l with
    | nil => rw [pVal.eq_def] at h; cases h
    | cons x l =>
      rw [pVal.eq_def] at h
      simp only at h
      split at h
      · split at h
        · cases h; simp
        · cases h
      split at h
      · cases h; simp
      split at h
      · split at h
        · cases h
        · rename_i t r2 ht
          have := takeL_len ht
          split at h
          · cases h; simp; omega
          · cases h
      split at h
      · split at h
        · cases h
        · rename_i m r2 ht
          have := numL_len ht
          split at h
          · cases h; simp; omega
          · cases h
      split at h
      · first
        | (cases h; done)
        | (split at h
           · cases h
           · rename_i l2 r2 ht
             have := (listL_len ih _ _ _ _ _ _ ht).1
             split at h
             · cases h; simp; omega
             · cases h)
      split at h
      · split at h
        · cases h; simp
        split at h
        · cases h; simp
        split at h
        · cases h; simp
        · cases h
      · cases h
theorem value_any {pb : Nat} {T : List Lx} : ∀ (n : Nat), n ≤ 30 → ∀ (W : World) (k : Nat), PAt W pb T k →
    Calls Tryz.prog 48 #[.pointer (some ⟨pb, 0, none⟩), .int .i64 (((30 - n : Nat)) : Int)] W (ValEnd W pb T k (pVal n (T.drop k))) := by
  intro n
  induction n with
  | zero => ?_
  | succ n ih => ?_
  all_goals
    intro hn W k hp
    rcases hx : T.drop k with _ | ⟨x, r⟩
    · rw [show pVal _ [] = none by rw [pVal.eq_def]]
      exact value_end hp hx
    by_cases k2 : x.kind = 2
    · have hi : isL 2 [] (T.drop k) = true := by rw [hx]; simp [isL, k2]
      rw [← hx, pVal_int hi]
      rcases hq : numL (T.drop k) with _ | ⟨m, r2⟩
      · exact value_int_none hp hi hq
      · exact value_int_ok hp hi hq
    by_cases k3 : x.kind = 3
    · rw [pVal_text k3]
      exact value_text hp hx k3
    obtain ⟨hlt, hr, _⟩ := drop_next hx
    have b2 : (x.kind == 2) = false := by simpa using k2
    have b3 : (x.kind == 3) = false := by simpa using k3
    cases h45 : (x.kind == 4 && x.text == [45]) with
    | true =>
      have hm : takeL 4 [45] (T.drop k) = some (x.text, r) := by rw [hx, takeL4, if_pos h45]
      rw [pVal.eq_def]
      simp only [b2, b3, h45, if_true, if_false, Bool.false_eq_true]
      rcases hq : takeL 2 [] r with _ | ⟨u, r2⟩
      · exact value_minus_none hp hx k2 k3 hm hq
      · have hr2 : r2 = T.drop (k + 1 + 1) := by
          rw [hr] at hq
          obtain ⟨_, _, h3, _⟩ := takeL_drop hq
          exact h3
        simp only
        by_cases hle : numOf u ≤ maxI + 1
        · rw [if_pos hle, hr2]
          exact value_minus_ok hp hx k2 k3 hm hq hle
        · rw [if_neg hle]
          exact value_minus_big hp hx k2 k3 hm hq hle
    | false =>
    have hm0 : takeL 4 [45] (T.drop k) = none := by rw [hx, takeL4, if_neg (by rw [h45]; simp)]
    cases h63 : (x.kind == 4 && x.text == [63]) with
    | true =>
      have hm : takeL 4 [63] (T.drop k) = some (x.text, r) := by rw [hx, takeL4, if_pos h63]
      rw [pVal.eq_def]
      simp only [b2, b3, h45, h63, if_true, if_false, Bool.false_eq_true]
      rcases hq : numL r with _ | ⟨m, r2⟩
      · exact value_fact_none hp hx k2 k3 hm0 hm hq
      · simp only
        by_cases h0 : 1 ≤ m
        · rw [if_pos h0]
          exact value_fact_ok hp hx k2 k3 hm0 hm hq h0
        · rw [if_neg h0]
          exact value_fact_0 hp hx k2 k3 hm0 hm hq h0
    | false =>
    have hm1 : takeL 4 [63] (T.drop k) = none := by rw [hx, takeL4, if_neg (by rw [h63]; simp)]
    cases h91 : (x.kind == 4 && x.text == [91]) with
    | true =>
      have hm : takeL 4 [91] (T.drop k) = some (x.text, r) := by rw [hx, takeL4, if_pos h91]
      rw [pVal.eq_def]
      simp only [b2, b3, h45, h63, h91, if_true, if_false, Bool.false_eq_true]
      first
      | exact value_deep hp hx k2 k3 hm0 hm1 hm rfl
      | have hv : ∀ W k, PAt W pb T k → Calls Tryz.prog 48 #[.pointer (some ⟨pb, 0, none⟩), .int .i64 (((30 - (n + 1) : Nat) : Int) + 1)] W (ValEnd W pb T k (pVal n (T.drop k))) := by
          have e : ((30 - (n + 1) : Nat) : Int) + 1 = ((30 - n : Nat) : Int) := by omega
          rw [e]
          exact ih (by omega)
        rcases hq : listL (pVal n) [93] (r.length + 1) true r with _ | ⟨l, r2⟩
        · exact value_list_none hp hx k2 k3 hm0 hm1 hm (30 - (n + 1)) rfl (by omega) n hv hq
        · simp only
          by_cases hle : l.length ≤ maxList
          · rw [if_pos hle]
            exact value_list_ok hp hx k2 k3 hm0 hm1 hm (30 - (n + 1)) rfl (by omega) n hv hq
          · exfalso
            have h1 := (listL_len (pVal_len n) _ _ _ _ _ _ hq).2
            have h2 := hp.good.len
            have h3 : r.length ≤ T.length := by rw [hr]; simp
            unfold maxList at hle
            omega
    | false =>
    have hm2 : takeL 4 [91] (T.drop k) = none := by rw [hx, takeL4, if_neg (by rw [h91]; simp)]
    by_cases k0 : x.kind = 0
    · have b0 : (x.kind == 0) = true := by simpa using k0
      rw [pVal.eq_def]
      simp only [b2, b3, b0, h45, h63, h91, if_true, if_false, Bool.false_eq_true]
      by_cases t1 : x.text = [110, 117, 108, 108]
      · rw [if_pos (by simpa using t1)]; exact value_null hp hx k2 k3 k0 t1
      rw [if_neg (by simpa using t1)]
      by_cases t2 : x.text = [116, 114, 117, 101]
      · rw [if_pos (by simpa using t2)]; exact value_true hp hx k2 k3 k0 t2
      rw [if_neg (by simpa using t2)]
      by_cases t3 : x.text = [102, 97, 108, 115, 101]
      · rw [if_pos (by simpa using t3)]; exact value_false hp hx k2 k3 k0 t3
      rw [if_neg (by simpa using t3)]
      exact value_other hp hx k2 k3 k0 t1 t2 t3
    · have b0 : (x.kind == 0) = false := by simpa using k0
      rw [pVal.eq_def]
      simp only [b2, b3, b0, h45, h63, h91, if_false, Bool.false_eq_true]
      exact value_none hp hx k2 k3 hm0 hm1 hm2 (by rw [hx]; simp [takeL, k0])
end Go.Proofs.YtnpkdiffpgcbhaaGreatDoor
namespace Go.Proofs.YtnpkdiffpgcbhaaGreatDoor
open Go.RowKit
attribute [local go_sem] Oper.semAt_some
def REnd {α : Type} (w : World) (pb : Nat) (T : List Lx) (k : Nat) (val : α → Value → World → Prop) (res : Option (α × List Lx)) (e : Ending) (w' : World) : Prop :=
 match res with
 | some (a, r) => ∃ v k', e = .returned v ∧ val a v w' ∧ r = T.drop k' ∧ k < k' ∧ k' ≤ T.length ∧ PAt w' pb T k' ∧ FP (fun i => i = pb) w w'
 | none => e = .panicked [{ v := .iface 132 (.agg #[]), recovered := false }] ∧ FP (fun i => i = pb) w w'
theorem number_end {w : World} {pb k : Nat} {T : List Lx} (h : PAt w pb T k) : Calls Tryz.prog 73 #[.pointer (some ⟨pb, 0, none⟩)] w (REnd w pb T k (fun n v _ => v = .int .i64 ((n : Nat) : Int)) (numL (T.drop k))) := by
 rcases hq : numL (T.drop k) with _ | ⟨m, r⟩
 ·exact (number_none h hq).mono fun e w' hh => hh
 ·obtain ⟨hr, hlt⟩ := numL_drop hq
  exact (number_ok h hq).mono fun e w' ⟨he, hp, hf⟩ => ⟨_, k + 1, he, rfl, hr, Nat.lt_succ_self k, hlt, hp, hf⟩
theorem take_end {w : World} {pb k : Nat} {T : List Lx} (h : PAt w pb T k) (kd : Nat) (s : ByteArray) : Calls Tryz.prog 56 #[.pointer (some ⟨pb, 0, none⟩), .int .i64 kd, .string s] w (REnd w pb T k (fun t v _ => ∃ x : ByteArray, v = .string x ∧ x.data.toList = t) (takeL kd s.data.toList (T.drop k))) := by
 rcases hq : takeL kd s.data.toList (T.drop k) with _ | ⟨t, r⟩
 ·exact (take_none h kd s hq).mono fun e w' hh => hh
 ·obtain ⟨hlt, _, hr, _⟩ := takeL_drop hq
  exact (take_some h kd s hq).mono fun e w' ⟨x, he, hx, hp, hf⟩ => ⟨_, k + 1, he, ⟨x, rfl, hx⟩, hr, Nat.lt_succ_self k, hlt, hp, hf⟩
theorem handle_any {w : World} {pb k : Nat} {T : List Lx} (h : PAt w pb T k) : Calls Tryz.prog 84 #[.pointer (some ⟨pb, 0, none⟩)] w (REnd w pb T k (fun n v _ => v = .int .i64 n) (pHandle (T.drop k))) := by
 unfold pHandle
 have hT := take_end h 4 ⟨#[63]⟩
 obtain ⟨rt, hrt⟩ : ∃ rt, takeL 4 [63] (T.drop k) = rt := ⟨_, rfl⟩
 change Calls _ _ _ _ (REnd w pb T k _ (takeL 4 [63] (T.drop k))) at hT
 rw [hrt] at hT ⊢
 have HT := Lib.hid hT
 clear hT hrt h
 rcases rt with _ | ⟨t, r⟩
 ·go_enter Tryz.func84, Tryz.ntmps84
  go_wp2_with fail
  refine HT.out.mono ?_
  rintro e w1 ⟨rfl, hf⟩
  exact ⟨rfl, rfl, hf⟩
 ·obtain ⟨rn, hrn⟩ : ∃ rn, numL r = rn := ⟨_, rfl⟩
  simp only
  rw [hrn]
  rcases rn with _ | ⟨m, r2⟩
  ·go_enter Tryz.func84, Tryz.ntmps84
   go_wp2_with fail
   refine HT.out.mono ?_
   rintro e w1 ⟨v, k1, rfl, _, hr, hk1, hk2, hp, hf⟩
   have hN := number_end hp
   rw [← hr, hrn] at hN
   have HN := Lib.hid hN
   have HF := Lib.hid hf
   clear hN hp hr hf
   go_wp2_with fail
   refine HN.out.mono ?_
   rintro e w2 ⟨rfl, hf⟩
   exact ⟨rfl, rfl, HF.out.trans hf (fun i hi => .inl hi)⟩
  ·go_enter Tryz.func84, Tryz.ntmps84
   go_wp2_with fail
   refine HT.out.mono ?_
   rintro e w1 ⟨v, k1, rfl, _, hr, hk1, hk2, hp, hf⟩
   have hN := number_end hp
   rw [← hr, hrn] at hN
   have HN := Lib.hid hN
   have HF := Lib.hid hf
   clear hN hp hr hf
   go_wp2_with fail
   refine HN.out.mono ?_
   rintro e w2 ⟨v2, k2, rfl, rfl, hr2, hk3, hk4, hp2, hf2⟩
   have HR : Hid (r2 = T.drop k2 ∧ k1 < k2 ∧ k2 ≤ T.length ∧ PAt w2 pb T k2 ∧ FP (fun i => i = pb) w1 w2) := Lib.hid ⟨hr2, hk3, hk4, hp2, hf2⟩
   clear hr2 hk3 hk4 hp2 hf2
   go_wp2_with fail
   go_ret
   exact ⟨_, k2, rfl, rfl, HR.out.1, by have := HR.out.2.1; omega, HR.out.2.2.1, HR.out.2.2.2.1, HF.out.trans HR.out.2.2.2.2 (fun i hi => .inl hi)⟩
end Go.Proofs.YtnpkdiffpgcbhaaGreatDoor
