/- The document's own record of TupleExact: what it holds, its question, the closure of its last loop. -/
import Derived.Test.YtkaldclkpdjalaaEachS
import Derived.Test.YtkaldclkpdjalaaOpen
import Derived.Deep.AppendLies
import Derived.Lib.Hide
namespace Go.Proofs.Ytkaldclkpdjalaa
open Go.RowKit

/-- The record in block kb: the texts xs, which of them stand. -/
structure Kp (W : World) (base kb : Nat) (xs : List ByteArray) (ts : List Bool) (sv tv : Value) : Prop where
  len : xs.length = ts.length
  blk : W.heap[kb]? = some (.cells #[sv, tv] 58 (0,0))
  rs : W.ownsRow base 9 1 sv xs.length (xs.map .string)
  rt : W.ownsRow base 4 1 tv ts.length (ts.map .bool)
  hb : base ≤ kb

def hb (ts : List Bool) (id : Int) : Bool := if 1 ≤ id then (ts[(id-1).toNat]?).getD false else false
theorem hb_low {ts : List Bool} {id : Int} (h : ¬ 1 ≤ id) : hb ts id = false := by unfold hb; rw [if_neg h]
theorem hb_high {ts : List Bool} {id : Int} (h : ¬ id ≤ ts.length) : hb ts id = false := by
  unfold hb
  split
  · rw [List.getElem?_eq_none (by omega)]; rfl
  · rfl
theorem hb_in {ts : List Bool} {id : Int} (h1 : 1 ≤ id) {b : Bool} (h : ts[(id-1).toNat]? = some b) : hb ts id = b := by unfold hb; rw [if_pos h1, h]; rfl
theorem hb_true {ts : List Bool} {id : Int} (h : hb ts id = true) : 1 ≤ id ∧ id ≤ ts.length ∧ ts[(id-1).toNat]? = some true := by
  unfold hb at h
  by_cases h1 : 1 ≤ id
  · rw [if_pos h1] at h
    by_cases h2 : id ≤ ts.length
    · refine ⟨h1, h2, ?_⟩
      rw [List.getElem?_eq_getElem (by omega)] at h ⊢
      simpa using h
    · rw [List.getElem?_eq_none (by omega)] at h; simp at h
  · rw [if_neg h1] at h; simp at h

theorem row_form {w : World} {base n : Nat} {e : TypeId} {v : Value} {xs : List Value} (h : w.ownsRow base e 1 v n xs) : ∃ La cap, v = .slice La n cap ∧ (n ≠ 0 → ∃ g, La = some ⟨g,0,none⟩) := by
  rcases Go.Joins.ownsRow_forms h with ⟨rfl, rfl⟩ | ⟨g, cap, rfl⟩
  · exact ⟨none, 0, rfl, fun h => absurd rfl h⟩
  · exact ⟨_, cap, rfl, fun _ => ⟨g, rfl⟩⟩
theorem row_cell {w : World} {base n g cap : Nat} {e : TypeId} {xs : List Value} (h : w.ownsRow base e 1 (.slice (some ⟨g,0,none⟩) n cap) n xs) {j : Nat} (hj : j < n) : w.cell? ⟨g, j, none⟩ = xs[j]? := by
  obtain ⟨g', cap', cur, he, _, hb, hx⟩ := row_blk h (by omega)
  simp at he
  obtain ⟨rfl, rfl⟩ := he
  rw [cell_blk hb]; exact hx j hj

set_option maxHeartbeats 1600000 in
theorem has_any {W : World} {base kb : Nat} {xs : List ByteArray} {ts : List Bool} {sv tv : Value} (h : Kp W base kb xs ts sv tv) (hn : ts.length ≤ 1000) (id : Int) :
    Calls Try.prog 34 #[.pointer (some ⟨kb,0,none⟩), .int .i64 id] W fun e w' => e = .returned (.bool (hb ts id)) ∧ W = w' := by
  obtain ⟨La, ca, rfl, _⟩ := row_form h.rs
  obtain ⟨Lb, cb, rfl, hLb⟩ := row_form h.rt
  have k1 : W.cell? ⟨kb,0,none⟩ = some (.slice La xs.length ca) := by rw [cell_blk h.blk]; rfl
  have k2 : W.cell? ⟨kb,1,none⟩ = some (.slice Lb ts.length cb) := by rw [cell_blk h.blk]; rfl
  have hlen := h.len
  by_cases h1 : 1 ≤ id
  · by_cases h2 : id ≤ ts.length
    · obtain ⟨b, hbt⟩ : ∃ b, ts[(id-1).toNat]? = some b := ⟨_, List.getElem?_eq_getElem (by omega)⟩
      rw [hb_in h1 hbt]
      obtain ⟨g, rfl⟩ := hLb (by omega)
      obtain ⟨n, hn'⟩ : ∃ n : Nat, id = (n : Int) + 1 := ⟨(id - 1).toNat, by omega⟩
      subst hn'
      have k3 : W.cell? ⟨g, n, none⟩ = some (.bool b) := by
        rw [row_cell h.rt (by omega), List.getElem?_map]
        rw [show ((n : Int) + 1 - 1).toNat = n by omega] at hbt
        rw [hbt]; rfl
      have HT := Lib.hid hbt
      clear hbt h
      have g1 : decide ((1 : Int) ≤ (n : Int) + 1) = true := by simp; omega
      have g2 : decide ((n : Int) + 1 ≤ (xs.length : Int)) = true := by simp; omega
      go_enter Try.func34, Try.ntmps34
      go_wp2
      go_ret
      exact ⟨rfl, rfl⟩
    · rw [hb_high h2]
      have g2 : decide (id ≤ (xs.length : Int)) = false := by simp; omega
      clear h
      go_enter Try.func34, Try.ntmps34
      go_wp2
      go_ret
      exact ⟨rfl, rfl⟩
  · rw [hb_low h1]
    have g1 : decide (1 ≤ id) = false := by simp; omega
    clear h
    go_enter Try.func34, Try.ntmps34
    go_wp2
    go_ret
    exact ⟨rfl, rfl⟩

theorem Kp.keep {W W' : World} {base kb : Nat} {xs : List ByteArray} {ts : List Bool} {sv tv : Value} (h : Kp W base kb xs ts sv tv)
    (hk : ∀ k cs t, (k = kb ∨ sv.ownBlock = some k ∨ tv.ownBlock = some k) → W.heap[k]? = some (.cells cs t (0,0)) → W'.heap[k]? = some (.cells cs t (0,0))) : Kp W' base kb xs ts sv tv := by
  refine ⟨h.len, hk _ _ _ (.inl rfl) h.blk, ⟨h.rs.1, ?_⟩, ⟨h.rt.1, ?_⟩, h.hb⟩
  · rcases h.rs.2 with hn | ⟨g, cap, cur, e1, e2, e3, e4⟩
    · exact .inl hn
    · exact .inr ⟨g, cap, cur, e1, e2, hk _ _ _ (.inr (.inl (by rw [e1]; rfl))) e3, e4⟩
  · rcases h.rt.2 with hn | ⟨g, cap, cur, e1, e2, e3, e4⟩
    · exact .inl hn
    · exact .inr ⟨g, cap, cur, e1, e2, hk _ _ _ (.inr (.inr (by rw [e1]; rfl))) e3, e4⟩
theorem Kp.blocks {W : World} {base kb : Nat} {xs : List ByteArray} {ts : List Bool} {sv tv : Value} (h : Kp W base kb xs ts sv tv) (k : Nat) (hk : k = kb ∨ sv.ownBlock = some k ∨ tv.ownBlock = some k) :
    ∃ cs t, W.heap[k]? = some (.cells cs t (0,0)) ∧ (t = 58 ∨ t = 9 ∨ t = 4) ∧ base ≤ k := by
  rcases hk with rfl | hk | hk
  · exact ⟨_, _, h.blk, .inl rfl, h.hb⟩
  · rcases h.rs.2 with ⟨rfl, _⟩ | ⟨g, cap, cur, rfl, e2, e3, e4⟩
    · simp [Value.ownBlock] at hk
    · simp [Value.ownBlock] at hk; subst hk; exact ⟨_, _, e3, .inr (.inl rfl), e2⟩
  · rcases h.rt.2 with ⟨rfl, _⟩ | ⟨g, cap, cur, rfl, e2, e3, e4⟩
    · simp [Value.ownBlock] at hk
    · simp [Value.ownBlock] at hk; subst hk; exact ⟨_, _, e3, .inr (.inr rfl), e2⟩
theorem Kp.tf {W W' : World} {base kb base' : Nat} {xs : List ByteArray} {ts : List Bool} {sv tv : Value} {us : List TypeId} (h : Kp W base kb xs ts sv tv) (hf : TF base' us W W')
    (h1 : us.contains 58 = false) (h2 : us.contains 9 = false) (h3 : us.contains 4 = false) : Kp W' base kb xs ts sv tv := by
  refine h.keep fun k cs t hk ho => ?_
  obtain ⟨cs', t', e1, e2, _⟩ := h.blocks k hk
  rw [ho] at e1; simp at e1
  obtain ⟨rfl, rfl⟩ := e1
  refine hf.blk _ _ ho (.inr ?_)
  rcases e2 with rfl | rfl | rfl
  · exact h1
  · exact h2
  · exact h3
theorem Kp.set_far {W : World} {base kb : Nat} {xs : List ByteArray} {ts : List Bool} {sv tv : Value} (h : Kp W base kb xs ts sv tv) {B : Nat} (h1 : B ≠ kb) (h2 : sv.ownBlock ≠ some B) (h3 : tv.ownBlock ≠ some B) (v : Value) :
    Kp (W.setCell ⟨B,0,none⟩ v) base kb xs ts sv tv := by
  refine h.keep fun k cs t hk ho => ?_
  rw [heap_set_ne (by
    rintro rfl
    rcases hk with hk | hk | hk
    · exact h1 hk
    · exact h2 hk
    · exact h3 hk)]
  exact ho
theorem Kp.same {W W' : World} {base kb : Nat} {xs : List ByteArray} {ts : List Bool} {sv tv : Value} (h : Kp W base kb xs ts sv tv) (hh : W'.heap = W.heap) : Kp W' base kb xs ts sv tv := h.keep fun k cs t _ ho => by rw [hh]; exact ho
theorem Kp.alloc {W : World} {base kb : Nat} {xs : List ByteArray} {ts : List Bool} {sv tv : Value} (h : Kp W base kb xs ts sv tv) (o : Obj) : Kp (W.alloc o) base kb xs ts sv tv := h.keep fun k cs t _ ho => by
  rw [Below.heap_alloc _ _ _ (lt_blk ho)]; exact ho

/-- What the arena holds, by the record. -/
def av (xs : List ByteArray) (ts : List Bool) : Nat → Option ByteArray := fun m => if ts[m]? = some true then xs[m]? else none
theorem av_nil : av [] [] = fun _ => none := by funext m; simp [av]
theorem gs_av (xs : List ByteArray) (ts : List Bool) (id : Int) (hl : xs.length = ts.length) : (gs (av xs ts) id).isSome = hb ts id := by
  unfold gs hb av
  by_cases h1 : 1 ≤ id
  · rw [if_pos h1, if_pos h1]
    by_cases h2 : (id - 1).toNat < ts.length
    · rw [List.getElem?_eq_getElem h2, List.getElem?_eq_getElem (by omega)]
      cases hb : ts[(id-1).toNat] <;> simp
    · rw [List.getElem?_eq_none (by omega)]; simp
  · rw [if_neg h1, if_neg h1]; rfl
theorem gs_av_val (xs : List ByteArray) (ts : List Bool) (id : Int) (hl : xs.length = ts.length) (h : hb ts id = true) : ∃ s, gs (av xs ts) id = some s ∧ xs[(id-1).toNat]? = some s := by
  obtain ⟨h1, h2, h3⟩ := hb_true h
  refine ⟨xs[(id-1).toNat]'(by omega), ?_, List.getElem?_eq_getElem (by omega)⟩
  unfold gs av
  rw [if_pos h1, h3, if_pos rfl, List.getElem?_eq_getElem (by omega)]
theorem us_put (xs : List ByteArray) (ts : List Bool) (s : ByteArray) (hl : xs.length = ts.length) : us (av xs ts) ((ts.length : Int) + 1) (some s) = av (xs ++ [s]) (ts ++ [true]) := by
  funext m
  unfold us av
  rw [show ((ts.length : Int) + 1 - 1).toNat = ts.length by omega]
  by_cases h : m = ts.length
  · subst h
    rw [if_pos rfl, List.getElem?_append_right (Nat.le_refl _), List.getElem?_append_right (by omega)]; simp [hl]
  · rw [if_neg h]
    by_cases h2 : m < ts.length
    · rw [List.getElem?_append_left h2, List.getElem?_append_left (by omega)]
    · rw [List.getElem?_eq_none (l := ts) (by omega), List.getElem?_eq_none (l := ts ++ [true]) (by simp; omega)]; simp
theorem us_set (xs : List ByteArray) (ts : List Bool) (s : ByteArray) (id : Int) (hl : xs.length = ts.length) (h : hb ts id = true) : us (av xs ts) id (some s) = av (xs.set (id-1).toNat s) ts := by
  obtain ⟨h1, h2, h3⟩ := hb_true h
  funext m
  unfold us av
  by_cases hm : m = (id-1).toNat
  · subst hm; rw [if_pos rfl, h3, if_pos rfl, List.getElem?_set_self (by omega)]
  · rw [if_neg hm, List.getElem?_set_ne (fun e => hm e.symm)]
theorem us_drop (xs : List ByteArray) (ts : List Bool) (id : Int) (h : hb ts id = true) : us (av xs ts) id none = av xs (ts.set (id-1).toNat false) := by
  obtain ⟨h1, h2, h3⟩ := hb_true h
  funext m
  unfold us av
  by_cases hm : m = (id-1).toNat
  · subst hm; rw [if_pos rfl, List.getElem?_set_self (by omega)]; simp
  · rw [if_neg hm, List.getElem?_set_ne (fun e => hm e.symm)]

/-- How many stand among the first p. -/
def cnt (ts : List Bool) (p : Nat) : Int := ((ts.take p).count true : Nat)
theorem cnt_zero (ts : List Bool) : cnt ts 0 = 0 := by simp [cnt]
theorem cnt_le (ts : List Bool) (p : Nat) : 0 ≤ cnt ts p ∧ cnt ts p ≤ ts.length := by
  unfold cnt
  have h1 := List.count_le_length (a := true) (l := ts.take p)
  have h2 : (ts.take p).length ≤ ts.length := by rw [List.length_take]; omega
  omega
theorem cnt_succ (ts : List Bool) (p : Nat) (b : Bool) (h : ts[p]? = some b) : cnt ts (p + 1) = if b then cnt ts p + 1 else cnt ts p := by
  unfold cnt
  rw [List.take_add_one, h]
  cases b <;> simp
def cntA (ts : List Bool) : Int := (ts.count true : Nat)
theorem cntA_eq (ts : List Bool) : cnt ts ts.length = cntA ts := by unfold cnt cntA; rw [List.take_length]
theorem cntA_put (ts : List Bool) : cntA (ts ++ [true]) = cntA ts + 1 := by unfold cntA; simp
theorem cntA_le (ts : List Bool) : 0 ≤ cntA ts ∧ cntA ts ≤ ts.length := by
  rw [← cntA_eq]; exact cnt_le _ _
theorem cntA_drop (ts : List Bool) (id : Int) (h : hb ts id = true) : cntA (ts.set (id-1).toNat false) = cntA ts - 1 := by
  obtain ⟨h1, h2, h3⟩ := hb_true h
  generalize (id-1).toNat = i at *
  unfold cntA
  have hi : i < ts.length := by
    rcases Nat.lt_or_ge i ts.length with h | h
    · exact h
    · rw [List.getElem?_eq_none h] at h3; simp at h3
  rw [List.getElem?_eq_getElem hi] at h3
  simp at h3
  rw [List.count_set hi, h3]
  have : 0 < ts.count true := by
    rw [List.count_pos_iff]; rw [← h3]; exact List.getElem_mem hi
  simp; omega

theorem row_two_ne {w : World} {base base' n n' : Nat} {e e' : TypeId} {v v' : Value} {xs xs' : List Value} (h : w.ownsRow base e 1 v n xs) (h' : w.ownsRow base' e' 1 v' n' xs') (hne : e ≠ e') : v.ownBlock = none ∨ v.ownBlock ≠ v'.ownBlock := by
  rcases h.2 with ⟨rfl, _⟩ | ⟨g, cap, cur, rfl, _, h2, _⟩
  · exact .inl rfl
  · right
    intro e
    have := own_ne hne h2 h'
    exact this (e ▸ rfl)
theorem setCell_grown (W : World) (g j : Nat) (u : Value) : W.grownBy (W.setCell ⟨g,j,none⟩ u) (some g) :=
  ⟨rfl, rfl, rfl, by simp [World.setCell], fun k _ hk => heap_set_ne (by intro e; simp only at e; exact hk (by rw [e]))⟩

/-- Behind 'k.s = append(k.s, s)'. -/
theorem kp_app_s {W Wa w1 : World} {base kb : Nat} {xs : List ByteArray} {ts : List Bool} {sv tv v' : Value} {s : ByteArray} (h1 : W.heap[kb]? = some (.cells #[sv, tv] 58 (0,0)))
    (hr : W.ownsRow base 9 1 sv xs.length (xs.map .string)) (ht : W.ownsRow base 4 1 tv ts.length (ts.map .bool)) (hb : base ≤ kb) (hW : TF base [58,9,4] W Wa)
    (hWa : ∀ (k : Nat) (o : Obj), W.heap[k]? = some o → Wa.heap[k]? = some o)
    (hown : w1.ownsRow base 9 1 v' (xs.length + 1) (xs.map .string ++ [.string s])) (hg : Wa.grownBy w1 sv.ownBlock) :
    (w1.setCell ⟨kb,0,none⟩ v').heap[kb]? = some (.cells #[v', tv] 58 (0,0)) ∧ (w1.setCell ⟨kb,0,none⟩ v').ownsRow base 9 1 v' (xs ++ [s]).length ((xs ++ [s]).map .string) ∧
    (w1.setCell ⟨kb,0,none⟩ v').ownsRow base 4 1 tv ts.length (ts.map .bool) ∧ TF base [58,9,4] W (w1.setCell ⟨kb,0,none⟩ v') := by
  have hka := hWa _ _ h1
  have hk1 : w1.heap[kb]? = some (.cells #[sv, tv] 58 (0,0)) := by
    rw [hg.block kb (lt_blk hka) (fun e => own_ne (by decide) h1 hr e.symm)]; exact hka
  have hta : Wa.ownsRow base 4 1 tv ts.length (ts.map .bool) := by
    refine ⟨ht.1, ?_⟩
    rcases ht.2 with hn | ⟨g, cap, cur, e1, e2, e3, e4⟩
    · exact .inl hn
    · exact .inr ⟨g, cap, cur, e1, e2, hWa _ _ e3, e4⟩
  have ht1 : w1.ownsRow base 4 1 tv ts.length (ts.map .bool) := hta.kept hg (row_two_ne ht hr (by decide))
  have hsg := setCell_grown w1 kb 0 v'
  have hne1 := own_ne (AT := 58) (PT := 9) (by decide) hk1 hown
  have hne2 := own_ne (AT := 58) (PT := 4) (by decide) hk1 ht1
  refine ⟨?_, ?_, ht1.kept hsg (.inr hne2), ?_⟩
  · rw [heap_set hk1, if_pos rfl]; rfl
  · have := hown.kept hsg (.inr hne1)
    simpa using this
  · refine ((hW.grown hg ?_).set v' hb hk1 (by decide))
    intro k hk
    rcases hr.2 with ⟨e, _⟩ | ⟨g, cap, cur, e1, e2, e3, e4⟩
    · rw [e] at hk; simp [Value.ownBlock] at hk
    · rw [e1] at hk; simp [Value.ownBlock] at hk; subst hk
      exact ⟨e2, cur, 9, hWa _ _ e3, rfl⟩

/-- Behind 'k.there = append(k.there, true)'. -/
theorem kp_app_t {W Wa w1 : World} {base kb : Nat} {xs : List ByteArray} {ts : List Bool} {sv tv v' : Value} {n : Nat} (h1 : W.heap[kb]? = some (.cells #[sv, tv] 58 (0,0)))
    (hr : W.ownsRow base 9 1 sv n (xs.map .string)) (ht : W.ownsRow base 4 1 tv ts.length (ts.map .bool)) (hb : base ≤ kb) (hW : TF base [58,9,4] W Wa)
    (hWa : ∀ (k : Nat) (o : Obj), W.heap[k]? = some o → Wa.heap[k]? = some o)
    (hown : w1.ownsRow base 4 1 v' (ts.length + 1) (ts.map .bool ++ [.bool true])) (hg : Wa.grownBy w1 tv.ownBlock) :
    (w1.setCell ⟨kb,1,none⟩ v').heap[kb]? = some (.cells #[sv, v'] 58 (0,0)) ∧ (w1.setCell ⟨kb,1,none⟩ v').ownsRow base 9 1 sv n (xs.map .string) ∧
    (w1.setCell ⟨kb,1,none⟩ v').ownsRow base 4 1 v' (ts ++ [true]).length ((ts ++ [true]).map .bool) ∧ TF base [58,9,4] W (w1.setCell ⟨kb,1,none⟩ v') := by
  have hka := hWa _ _ h1
  have hk1 : w1.heap[kb]? = some (.cells #[sv, tv] 58 (0,0)) := by
    rw [hg.block kb (lt_blk hka) (fun e => own_ne (by decide) h1 ht e.symm)]; exact hka
  have hra : Wa.ownsRow base 9 1 sv n (xs.map .string) := by
    refine ⟨hr.1, ?_⟩
    rcases hr.2 with hn | ⟨g, cap, cur, e1, e2, e3, e4⟩
    · exact .inl hn
    · exact .inr ⟨g, cap, cur, e1, e2, hWa _ _ e3, e4⟩
  have hr1 : w1.ownsRow base 9 1 sv n (xs.map .string) := hra.kept hg (row_two_ne hr ht (by decide))
  have hsg := setCell_grown w1 kb 1 v'
  have hne1 := own_ne (AT := 58) (PT := 4) (by decide) hk1 hown
  have hne2 := own_ne (AT := 58) (PT := 9) (by decide) hk1 hr1
  refine ⟨?_, hr1.kept hsg (.inr hne2), ?_, ?_⟩
  · rw [heap_set hk1, if_pos rfl]; rfl
  · have := hown.kept hsg (.inr hne1)
    simpa using this
  · refine ((hW.grown hg ?_).set v' hb hk1 (by decide))
    intro k hk
    rcases ht.2 with ⟨e, _⟩ | ⟨g, cap, cur, e1, e2, e3, e4⟩
    · rw [e] at hk; simp [Value.ownBlock] at hk
    · rw [e1] at hk; simp [Value.ownBlock] at hk; subst hk
      exact ⟨e2, cur, 4, hWa _ _ e3, rfl⟩

/-- Behind 'k.s[i] = s'. -/
theorem kp_set_s {W : World} {base kb g cap : Nat} {xs : List ByteArray} {ts : List Bool} {tv : Value} (h : Kp W base kb xs ts (.slice (some ⟨g,0,none⟩) xs.length cap) tv) (i : Nat) (s : ByteArray) :
    Kp (W.setCell ⟨g,i,none⟩ (.string s)) base kb (xs.set i s) ts (.slice (some ⟨g,0,none⟩) xs.length cap) tv ∧ TF base [58,9,4] W (W.setCell ⟨g,i,none⟩ (.string s)) := by
  obtain ⟨hs1, hs2⟩ := h.rs.stored i (.string s)
  have hgk : kb ≠ g := fun e => own_ne (AT := 58) (PT := 9) (by decide) h.blk h.rs (by rw [e]; rfl)
  refine ⟨⟨by simpa using h.len, ?_, ?_, h.rt.kept hs2 ?_, h.hb⟩, ?_⟩
  · rw [heap_set_ne hgk]; exact h.blk
  · have := hs1; rw [List.length_set, List.map_set]; exact this
  · have := row_two_ne h.rt h.rs (by decide); exact this
  · refine (TF.refl _ _ _).grown hs2 ?_
    intro k hk
    simp at hk; subst hk
    obtain ⟨cs, t, e1, e2, e3⟩ := h.blocks g (.inr (.inl rfl))
    exact ⟨e3, cs, t, e1, by rcases e2 with rfl | rfl | rfl <;> rfl⟩
/-- Behind 'k.there[i] = false'. -/
theorem kp_set_t {W : World} {base kb g cap : Nat} {xs : List ByteArray} {ts : List Bool} {sv : Value} (h : Kp W base kb xs ts sv (.slice (some ⟨g,0,none⟩) ts.length cap)) (i : Nat) (b : Bool) :
    Kp (W.setCell ⟨g,i,none⟩ (.bool b)) base kb xs (ts.set i b) sv (.slice (some ⟨g,0,none⟩) ts.length cap) ∧ TF base [58,9,4] W (W.setCell ⟨g,i,none⟩ (.bool b)) := by
  obtain ⟨hs1, hs2⟩ := h.rt.stored i (.bool b)
  have hgk : kb ≠ g := fun e => own_ne (AT := 58) (PT := 4) (by decide) h.blk h.rt (by rw [e]; rfl)
  refine ⟨⟨by simpa using h.len, ?_, h.rs.kept hs2 ?_, ?_, h.hb⟩, ?_⟩
  · rw [heap_set_ne hgk]; exact h.blk
  · have := row_two_ne h.rs h.rt (by decide); exact this
  · have := hs1; rw [List.length_set, List.map_set]; exact this
  · refine (TF.refl _ _ _).grown hs2 ?_
    intro k hk
    simp at hk; subst hk
    obtain ⟨cs, t, e1, e2, e3⟩ := h.blocks g (.inr (.inr rfl))
    exact ⟨e3, cs, t, e1, by rcases e2 with rfl | rfl | rfl <;> rfl⟩


set_option maxHeartbeats 1600000 in
theorem exact_yield {W : World} {base kb : Nat} {xs : List ByteArray} {ts : List Bool} {sv tv : Value} (h : Kp W base kb xs ts sv tv) (hn : ts.length ≤ 1000) (n : Nat) (s : ByteArray) (hs : xs[n]? = some s) (hh : hb ts ((n : Int) + 1) = true)
    (Bf Bl Bx Bm : Nat) (l c : Int) (hl : l ≤ n) (hc0 : 0 ≤ c) (hc1 : c ≤ 1000) (kf : W.cell? ⟨Bf,0,none⟩ = some (.bool true)) (kl : W.cell? ⟨Bl,0,none⟩ = some (.int .i64 l)) (km : W.cell? ⟨Bm,0,none⟩ = some (.int .i64 c))
    (kx : W.cell? ⟨Bx,0,none⟩ = some (.pointer (some ⟨kb,0,none⟩))) (ff : W.frozen? ⟨Bf,0,none⟩ = false) (fl : W.frozen? ⟨Bl,0,none⟩ = false) (fm : W.frozen? ⟨Bm,0,none⟩ = false)
    (h1 : ¬ Bf = Bl) (h2 : ¬ Bf = Bm) (h3 : ¬ Bl = Bm) :
    Calls Try.prog 38 #[.int .i64 ((n : Int) + 1), .string s, .pointer (some ⟨Bf,0,none⟩), .pointer (some ⟨Bl,0,none⟩), .pointer (some ⟨Bx,0,none⟩), .pointer (some ⟨Bm,0,none⟩)] W fun e w' =>
      e = .returned (.bool true) ∧ ((W.setCell ⟨Bf,0,none⟩ (.bool true)).setCell ⟨Bl,0,none⟩ (.int .i64 ((n : Int) + 1))).setCell ⟨Bm,0,none⟩ (.int .i64 (c + 1)) = w' := by
  obtain ⟨La, ca, rfl, hLa⟩ := row_form h.rs
  have k1 : W.cell? ⟨kb,0,none⟩ = some (.slice La xs.length ca) := by rw [cell_blk h.blk]; rfl
  have hlen := h.len
  obtain ⟨q1, q2, q3⟩ := hb_true hh
  obtain ⟨g, rfl⟩ := hLa (by omega)
  have k3 : W.cell? ⟨g, n, none⟩ = some (.string s) := by
    rw [row_cell h.rs (by omega), List.getElem?_map, hs]; rfl
  have g1 : decide (l < (n : Int) + 1) = true := by simp; omega
  have h1' : ¬ Bl = Bf := fun e => h1 e.symm
  have h2' : ¬ Bm = Bf := fun e => h2 e.symm
  have h3' : ¬ Bm = Bl := fun e => h3 e.symm
  have HH := Lib.hid hh
  have H := Lib.hid h
  have hlt : n < xs.length := by omega
  clear hh h q1 q2 q3 hs
  go_enter Try.func38, Try.ntmps38
  go_wp2_with fail
  refine (has_any H.out (by omega) _).mono ?_
  rintro e w2 ⟨rfl, rfl⟩
  rw [HH.out]
  go_wp2_with fail
  go_ret
  exact ⟨rfl, rfl⟩
end Go.Proofs.Ytkaldclkpdjalaa
