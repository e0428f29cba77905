/- Plain laws on a bucket of an index: numbers with holes, each one's place. No world and no program in sight. -/
namespace Go.Proofs.Ytgpekeemmambkaa

/-- The numbers that are no holes, from place k on. -/
def liveFrom (s : Int → Bool) : Nat → List Int → List Int
  | _, [] => []
  | k, x :: l => if s k then liveFrom s (k+1) l else x :: liveFrom s (k+1) l
def live (s : Int → Bool) (l : List Int) : List Int := liveFrom s 0 l

def updB {β : Type} (f : Int → β) (i : Int) (x : β) : Int → β := fun k => if k = i then x else f k

theorem updB_same {β : Type} (f : Int → β) (i : Int) (x : β) : updB f i x i = x := if_pos rfl
theorem updB_ne {β : Type} (f : Int → β) {i k : Int} (x : β) (h : k ≠ i) : updB f i x k = f k := if_neg h

theorem liveFrom_append (s : Int → Bool) : ∀ (l m : List Int) (k : Nat), liveFrom s k (l ++ m) = liveFrom s k l ++ liveFrom s (k + l.length) m
  | [], m, k => by simp [liveFrom]
  | x :: l, m, k => by
    simp only [List.cons_append, liveFrom, List.length_cons]
    rw [liveFrom_append s l m (k+1)]
    have : k + 1 + l.length = k + (l.length + 1) := by omega
    rw [this]
    split <;> simp
theorem liveFrom_congr {s t : Int → Bool} : ∀ (l : List Int) (k : Nat), (∀ i : Nat, k ≤ i → i < k + l.length → s i = t i) → liveFrom s k l = liveFrom t k l
  | [], _, _ => rfl
  | x :: l, k, h => by
    simp only [liveFrom]
    rw [h k (Nat.le_refl _) (by simp), liveFrom_congr l (k+1) (fun i h1 h2 => h i (by omega) (by simp; omega))]
theorem liveFrom_none : ∀ (l : List Int) (k : Nat), liveFrom (fun _ => false) k l = l
  | [], _ => rfl
  | x :: l, k => by simp [liveFrom, liveFrom_none l (k+1)]
theorem mem_liveFrom (s : Int → Bool) (id : Int) : ∀ (l : List Int) (k : Nat), id ∈ liveFrom s k l ↔ ∃ i : Nat, l[i]? = some id ∧ s ((k + i : Nat) : Int) = false
  | [], k => by simp [liveFrom]
  | x :: l, k => by
    have ih := mem_liveFrom s id l (k+1)
    simp only [liveFrom]
    constructor
    · intro h
      by_cases hs : s k = true
      · rw [if_pos hs] at h
        obtain ⟨i, h1, h2⟩ := ih.1 h
        exact ⟨i+1, by simpa using h1, by rw [show k + (i+1) = k + 1 + i by omega]; exact h2⟩
      · rw [if_neg hs] at h
        rcases List.mem_cons.1 h with rfl | h
        · exact ⟨0, rfl, by simpa using hs⟩
        · obtain ⟨i, h1, h2⟩ := ih.1 h
          exact ⟨i+1, by simpa using h1, by rw [show k + (i+1) = k + 1 + i by omega]; exact h2⟩
    · rintro ⟨i, h1, h2⟩
      cases i with
      | zero =>
        simp at h1; subst h1
        simp only [Nat.add_zero] at h2
        rw [if_neg (by simp [h2])]
        exact List.mem_cons_self
      | succ i =>
        have hm : id ∈ liveFrom s (k+1) l := ih.2 ⟨i, by simpa using h1, by rw [show k + 1 + i = k + (i+1) by omega]; exact h2⟩
        split
        · exact hm
        · exact List.mem_cons_of_mem _ hm
theorem mem_live (s : Int → Bool) (id : Int) (l : List Int) : id ∈ live s l ↔ ∃ i : Nat, l[i]? = some id ∧ s (i : Int) = false := by
  have := mem_liveFrom s id l 0
  simpa [live] using this
theorem liveFrom_length_le (s : Int → Bool) : ∀ (l : List Int) (k : Nat), (liveFrom s k l).length ≤ l.length
  | [], _ => Nat.le_refl _
  | x :: l, k => by
    have := liveFrom_length_le s l (k+1)
    simp only [liveFrom]; split <;> simp <;> omega

theorem live_snoc (s : Int → Bool) (l : List Int) (x : Int) : live s (l ++ [x]) = live s l ++ (if s l.length then [] else [x]) := by
  unfold live
  rw [liveFrom_append]
  simp [liveFrom]
theorem live_take_succ (s : Int → Bool) (l : List Int) (k : Nat) (h : k < l.length) : live s (l.take (k+1)) = live s (l.take k) ++ (if s k then [] else [l[k]]) := by
  rw [List.take_succ_eq_append_getElem h, live_snoc]
  have : (l.take k).length = k := by rw [List.length_take]; omega
  rw [this]

/-- Striking a place out strikes the number out. -/
theorem liveFrom_strike {s : Int → Bool} {c : Nat} {id : Int} : ∀ (l : List Int) (k : Nat), k ≤ c → l[c - k]? = some id → s c = false →
    (∀ i : Nat, k ≤ i → i < c → l[i - k]? = some id → s i = true) → liveFrom (updB s c true) k l = (liveFrom s k l).erase id
  | [], k, _, h, _, _ => by simp at h
  | x :: l, k, hk, h, hs, hu => by
    by_cases hkc : k = c
    · subst hkc
      simp at h; subst h
      simp only [liveFrom]
      rw [updB_same, if_pos rfl, if_neg (by simp [hs])]
      rw [List.erase_cons_head]
      exact liveFrom_congr l (k+1) (fun i h1 _ => updB_ne s true (by omega))
    · have hne : ((k : Nat) : Int) ≠ (c : Int) := by omega
      simp only [liveFrom]
      rw [updB_ne s true hne]
      have ih := liveFrom_strike (s := s) (c := c) (id := id) l (k+1) (by omega) (by rw [show c - k = (c - (k+1)) + 1 by omega] at h; simpa using h) hs
        (fun i h1 h2 h3 => hu i (by omega) h2 (by rw [show i - k = (i - (k+1)) + 1 by omega]; simpa using h3))
      rw [ih]
      by_cases hsk : s k = true
      · rw [if_pos hsk, if_pos hsk]
      · rw [if_neg hsk, if_neg hsk]
        have hx : x ≠ id := by
          intro e
          exact hsk (hu k (Nat.le_refl _) (by omega) (by simp [e]))
        rw [List.erase_cons_tail (by simpa using hx)]

/-- A bucket: numbers l with holes s, each live one's place f. -/
structure Bk (l : List Int) (s : Int → Bool) (f : Int → Option Int) : Prop where
  hole : ∀ i, s i = true → 0 ≤ i ∧ i < l.length
  at_ : ∀ id c, f id = some c ↔ ∃ i : Nat, c = i ∧ l[i]? = some id ∧ s i = false
  wf : ∀ id ∈ l, -9223372036854775808 ≤ id ∧ id ≤ 9223372036854775807

section
variable {l : List Int} {s : Int → Bool} {f : Int → Option Int}

theorem Bk.uniq (h : Bk l s f) {i j : Nat} {id : Int} (h1 : l[i]? = some id) (h2 : l[j]? = some id) (s1 : s i = false) (s2 : s j = false) : i = j := by
  have e1 := (h.at_ id i).2 ⟨i, rfl, h1, s1⟩
  have e2 := (h.at_ id j).2 ⟨j, rfl, h2, s2⟩
  rw [e1] at e2
  simp at e2; omega
theorem Bk.isSome (h : Bk l s f) (id : Int) : (f id).isSome = true ↔ id ∈ live s l := by
  rw [mem_live]
  constructor
  · intro hs
    obtain ⟨c, hc⟩ := Option.isSome_iff_exists.1 hs
    obtain ⟨i, _, h1, h2⟩ := (h.at_ id c).1 hc
    exact ⟨i, h1, h2⟩
  · rintro ⟨i, h1, h2⟩
    rw [(h.at_ id i).2 ⟨i, rfl, h1, h2⟩]; rfl
theorem Bk.none_of (h : Bk l s f) {id : Int} (hn : id ∉ live s l) : f id = none := by
  cases hf : f id with
  | none => rfl
  | some c => exact absurd ((h.isSome id).1 (by rw [hf]; rfl)) hn
theorem Bk.nil : Bk [] (fun _ => false) (fun _ => none) := ⟨fun _ h => by simp at h, fun id c => by simp, fun _ h => by simp at h⟩
theorem Bk.end_ (h : Bk l s f) : s l.length = false := by
  cases hs : s l.length with
  | false => rfl
  | true => have := (h.hole _ hs).2; omega

theorem Bk.nodup (h : Bk l s f) : (live s l).Nodup := by
  have key : ∀ (m : List Int) (k : Nat), (∀ i j : Nat, ∀ id, m[i]? = some id → m[j]? = some id → s ((k+i:Nat):Int) = false → s ((k+j:Nat):Int) = false → i = j) → (liveFrom s k m).Nodup := by
    intro m
    induction m with
    | nil => intro k _; exact List.nodup_nil
    | cons x m ih =>
      intro k hu
      have hm := ih (k+1) (fun i j id h1 h2 h3 h4 => by
        have := hu (i+1) (j+1) id (by simpa using h1) (by simpa using h2) (by rw [show k + (i+1) = k+1+i by omega]; exact h3) (by rw [show k + (j+1) = k+1+j by omega]; exact h4)
        omega)
      simp only [liveFrom]
      by_cases hs : s k = true
      · rw [if_pos hs]; exact hm
      · rw [if_neg hs]
        refine List.nodup_cons.2 ⟨fun hx => ?_, hm⟩
        obtain ⟨i, h1, h2⟩ := (mem_liveFrom s x m (k+1)).1 hx
        have := hu 0 (i+1) x rfl (by simpa using h1) (by simpa using hs) (by rw [show k + (i+1) = k+1+i by omega]; exact h2)
        omega
  exact key l 0 (fun i j id h1 h2 h3 h4 => h.uniq h1 h2 (by simpa using h3) (by simpa using h4))

theorem Bk.add (h : Bk l s f) {id : Int} (hn : id ∉ live s l) (hw : -9223372036854775808 ≤ id ∧ id ≤ 9223372036854775807) :
    Bk (l ++ [id]) s (updB f id (some (l.length : Int))) ∧ live s (l ++ [id]) = live s l ++ [id] := by
  have he := h.end_
  refine ⟨⟨fun i hi => by have := h.hole i hi; simp; omega, fun x c => ?_, fun x hx => ?_⟩, by rw [live_snoc, if_neg (by simp [he])]⟩
  · by_cases hx : x = id
    · subst hx
      rw [updB_same]
      constructor
      · intro hc; simp at hc; subst hc
        exact ⟨l.length, rfl, by simp, he⟩
      · rintro ⟨i, rfl, h1, h2⟩
        rcases Nat.lt_or_ge i l.length with hi | hi
        · rw [List.getElem?_append_left hi] at h1
          exact absurd ((mem_live s x l).2 ⟨i, h1, h2⟩) hn
        · have : i = l.length := by
            rcases Nat.lt_or_ge l.length i with h' | h'
            · rw [List.getElem?_eq_none (by simp; omega)] at h1; simp at h1
            · omega
          rw [this]
    · rw [updB_ne f _ hx, h.at_]
      constructor
      · rintro ⟨i, rfl, h1, h2⟩
        exact ⟨i, rfl, by rw [List.getElem?_append_left (List.getElem?_eq_some_iff.1 h1).1]; exact h1, h2⟩
      · rintro ⟨i, rfl, h1, h2⟩
        rcases Nat.lt_or_ge i l.length with hi | hi
        · rw [List.getElem?_append_left hi] at h1
          exact ⟨i, rfl, h1, h2⟩
        · exfalso
          rw [List.getElem?_append_right hi] at h1
          cases hq : i - l.length with
          | zero => rw [hq] at h1; simp at h1; exact hx h1.symm
          | succ q => rw [hq] at h1; simp at h1
  · rcases List.mem_append.1 hx with hx | hx
    · exact h.wf x hx
    · simp at hx; subst hx; exact hw

theorem Bk.remove (h : Bk l s f) {id c : Int} (hf : f id = some c) :
    Bk l (updB s c true) (updB f id none) ∧ live (updB s c true) l = (live s l).erase id := by
  obtain ⟨i, rfl, h1, h2⟩ := (h.at_ id c).1 hf
  have hil := (List.getElem?_eq_some_iff.1 h1).1
  refine ⟨⟨fun j hj => ?_, fun x c => ?_, h.wf⟩, ?_⟩
  · by_cases hji : j = i
    · subst hji; omega
    · rw [updB_ne s _ hji] at hj; exact h.hole j hj
  · by_cases hx : x = id
    · subst hx
      rw [updB_same]
      constructor
      · intro hc; simp at hc
      · rintro ⟨j, rfl, g1, g2⟩
        by_cases hji : (j : Int) = i
        · rw [hji, updB_same] at g2; simp at g2
        · rw [updB_ne s _ hji] at g2
          exact absurd (by have := h.uniq g1 h1 g2 h2; omega) hji
    · rw [updB_ne f _ hx, h.at_]
      constructor
      · rintro ⟨j, rfl, g1, g2⟩
        refine ⟨j, rfl, g1, ?_⟩
        rw [updB_ne s]
        · exact g2
        · intro e
          have : j = i := by omega
          subst this
          rw [h1] at g1; simp at g1; exact hx g1.symm
      · rintro ⟨j, rfl, g1, g2⟩
        refine ⟨j, rfl, g1, ?_⟩
        by_cases hji : (j : Int) = i
        · rw [hji, updB_same] at g2; simp at g2
        · rwa [updB_ne s _ hji] at g2
  · unfold live
    refine liveFrom_strike l 0 (Nat.zero_le _) (by simpa using h1) h2 (fun j _ hj g => ?_)
    cases hs : s j with
    | true => rfl
    | false =>
      exact absurd (h.uniq (by simpa using g) h1 hs h2) (by omega)

/-- A hole at the end is let go. -/
theorem Bk.cut (h : Bk l s f) {n : Nat} (hn : l.length = n + 1) (hs : s n = true) :
    Bk (l.take n) (updB s n false) f ∧ live (updB s n false) (l.take n) = live s l := by
  have hlen : (l.take n).length = n := by rw [List.length_take]; omega
  refine ⟨⟨fun i hi => ?_, fun id c => ?_, fun x hx => h.wf x (List.mem_of_mem_take hx)⟩, ?_⟩
  · by_cases hin : i = n
    · subst hin; rw [updB_same] at hi; simp at hi
    · rw [updB_ne s _ hin] at hi
      have := h.hole i hi
      rw [hlen]; omega
  · rw [h.at_]
    constructor
    · rintro ⟨i, rfl, h1, h2⟩
      have hil := (List.getElem?_eq_some_iff.1 h1).1
      have hne : i ≠ n := by intro e; subst e; rw [hs] at h2; simp at h2
      refine ⟨i, rfl, ?_, ?_⟩
      · rw [List.getElem?_take, if_pos (by omega)]; exact h1
      · rw [updB_ne s _ (by omega)]; exact h2
    · rintro ⟨i, rfl, h1, h2⟩
      rw [List.getElem?_take] at h1
      split at h1
      · rename_i hi
        rw [updB_ne s _ (by omega)] at h2
        exact ⟨i, rfl, h1, h2⟩
      · simp at h1
  · have e1 : l = l.take n ++ [l[n]'(by omega)] := by
      have := List.take_succ_eq_append_getElem (l := l) (i := n) (by omega)
      rw [List.take_of_length_le (by omega)] at this; exact this
    conv => rhs; rw [e1]
    rw [live_snoc, hlen, if_pos hs, List.append_nil]
    unfold live
    exact liveFrom_congr _ 0 (fun i _ hi => updB_ne s _ (by rw [hlen] at hi; omega))

/-- Behind the cut: no number, or a live one at the end. -/
theorem live_ne_nil (l : List Int) (s : Int → Bool) {n : Nat} (hn : l.length = n + 1) (hs : s n = false) : live s l ≠ [] := by
  have : l[n]'(by omega) ∈ live s l := (mem_live s _ l).2 ⟨n, List.getElem?_eq_getElem (by omega), hs⟩
  intro e; rw [e] at this; simp at this

/-- The places told anew, k of them. -/
def reset (ids : List Int) (f : Int → Option Int) : Nat → Int → Option Int
  | 0 => f
  | k+1 => match ids[k]? with | some x => updB (reset ids f k) x (some (k : Int)) | none => reset ids f k

theorem reset_succ (ids : List Int) (f : Int → Option Int) (k : Nat) (h : k < ids.length) : reset ids f (k+1) = updB (reset ids f k) ids[k] (some (k : Int)) := by
  simp [reset, List.getElem?_eq_getElem h]
theorem reset_keeps (ids : List Int) (f : Int → Option Int) : ∀ k id, id ∉ ids → reset ids f k id = f id
  | 0, _, _ => rfl
  | k+1, id, hn => by
    cases hx : ids[k]? with
    | some x =>
      simp only [reset, hx]
      rw [updB_ne _ _ (fun e => hn (by subst e; exact List.mem_of_getElem? hx))]
      exact reset_keeps ids f k id hn
    | none => simp only [reset, hx]; exact reset_keeps ids f k id hn
theorem reset_isSome (ids : List Int) (f : Int → Option Int) (hf : ∀ id, id ∈ ids → (f id).isSome = true) : ∀ k id, (reset ids f k id).isSome = (f id).isSome
  | 0, _ => rfl
  | k+1, id => by
    cases hx : ids[k]? with
    | some x =>
      simp only [reset, hx]
      by_cases e : id = x
      · subst e; rw [updB_same, hf id (List.mem_of_getElem? hx)]; rfl
      · rw [updB_ne _ _ e]; exact reset_isSome ids f hf k id
    | none => simp only [reset, hx]; exact reset_isSome ids f hf k id
theorem reset_at (ids : List Int) (f : Int → Option Int) (hnd : ids.Nodup) : ∀ k i, i < k → (hi : i < ids.length) → reset ids f k ids[i] = some (i : Int)
  | 0, i, h, _ => by omega
  | k+1, i, h, hi => by
    by_cases hk : k < ids.length
    · rw [reset_succ ids f k hk]
      by_cases e : i = k
      · subst e; rw [updB_same]
      · rw [updB_ne]
        · exact reset_at ids f hnd k i (by omega) hi
        · intro e2
          have h1 := List.pairwise_iff_getElem.1 hnd
          rcases Nat.lt_trichotomy i k with h' | h' | h'
          · exact h1 i k hi hk h' e2
          · exact e h'
          · omega
    · have : ids[k]? = none := List.getElem?_eq_none (by omega)
      simp only [reset, this]
      exact reset_at ids f hnd k i (by omega) hi

theorem Bk.rebuilt (h : Bk l s f) : Bk (live s l) (fun _ => false) (reset (live s l) f (live s l).length) := by
  have hnd := h.nodup
  refine ⟨fun _ hi => by simp at hi, fun id c => ?_, fun x hx => ?_⟩
  · constructor
    · intro hc
      have hm : id ∈ live s l := by
        by_cases hm : id ∈ live s l
        · exact hm
        · rw [reset_keeps _ _ _ _ hm, h.none_of hm] at hc; simp at hc
      obtain ⟨i, hi, rfl⟩ := List.mem_iff_getElem.1 hm
      rw [reset_at _ _ hnd _ i hi hi] at hc
      simp at hc
      exact ⟨i, hc.symm, List.getElem?_eq_getElem hi, rfl⟩
    · rintro ⟨i, rfl, h1, _⟩
      obtain ⟨hi, rfl⟩ := List.getElem?_eq_some_iff.1 h1
      exact reset_at _ _ hnd _ i hi hi
  · obtain ⟨i, h1, _⟩ := (mem_live s x l).1 hx
    exact h.wf x (List.mem_of_getElem? h1)
theorem live_all (l : List Int) : live (fun _ => false) l = l := liveFrom_none l 0
end
end Go.Proofs.Ytgpekeemmambkaa
