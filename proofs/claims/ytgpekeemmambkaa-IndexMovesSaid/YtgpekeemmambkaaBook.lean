/- Plain laws on a book of slots (a key, a number), in the order in which they came: its buckets, its keys. No world and no program in sight. -/
namespace Go.Proofs.Ytgpekeemmambkaa
variable {κ : Type} [DecidableEq κ]

/-- The numbers of a key, in order. -/
def bkt (L : List (κ × Int)) (k : κ) : List Int := (L.filter (fun p => p.1 = k)).map (·.2)

theorem bkt_nil (k : κ) : bkt [] k = [] := rfl
theorem bkt_snoc (L : List (κ × Int)) (p : κ × Int) (k : κ) : bkt (L ++ [p]) k = bkt L k ++ (if p.1 = k then [p.2] else []) := by
  unfold bkt
  rw [List.filter_append, List.map_append]
  congr 1
  by_cases h : p.1 = k <;> simp [h]
theorem bkt_append (L M : List (κ × Int)) (k : κ) : bkt (L ++ M) k = bkt L k ++ bkt M k := by
  unfold bkt; rw [List.filter_append, List.map_append]
theorem mem_bkt (L : List (κ × Int)) (k : κ) (id : Int) : id ∈ bkt L k ↔ (k, id) ∈ L := by
  unfold bkt
  simp only [List.mem_map, List.mem_filter, decide_eq_true_eq]
  constructor
  · rintro ⟨⟨a, b⟩, ⟨h1, h2⟩, h3⟩; simp at h2 h3; subst h2; subst h3; exact h1
  · intro h; exact ⟨(k, id), ⟨h, rfl⟩, rfl⟩
theorem bkt_cons (p : κ × Int) (L : List (κ × Int)) (k : κ) : bkt (p :: L) k = (if p.1 = k then [p.2] else []) ++ bkt L k := by
  unfold bkt
  by_cases h : p.1 = k <;> simp [List.filter_cons, h]

/-- The place of the first slot that is so. -/
def findAt (L : List (κ × Int)) (p : κ × Int) : Option Nat := if p ∈ L then some (L.idxOf p) else none

theorem bkt_eraseIdx {k : κ} {id : Int} : ∀ (L : List (κ × Int)) (i : Nat), L[i]? = some (k, id) → (∀ j, j < i → L[j]? ≠ some (k, id)) →
    ∀ k', bkt (L.eraseIdx i) k' = if k' = k then (bkt L k').erase id else bkt L k'
  | [], i, h, _, _ => by simp at h
  | p :: L, 0, h, _, k' => by
    simp at h; subst h
    rw [List.eraseIdx_cons_zero, bkt_cons]
    by_cases e : k' = k
    · subst e; simp
    · rw [if_neg e]; simpa using fun e' : k = k' => e e'.symm
  | p :: L, i+1, h, hf, k' => by
    rw [List.eraseIdx_cons_succ, bkt_cons, bkt_cons]
    rw [bkt_eraseIdx L i (by simpa using h) (fun j hj => by simpa using hf (j+1) (by omega)) k']
    have hp : p ≠ (k, id) := by have := hf 0 (by omega); simpa using this
    by_cases e : k' = k
    · subst e
      simp only [if_true]
      by_cases h1 : p.1 = k'
      · rw [if_pos h1]
        have : p.2 ≠ id := fun e => hp (by rw [← h1, ← e])
        simp only [List.cons_append, List.nil_append]
        rw [List.erase_cons_tail (by simpa using this)]
      · rw [if_neg h1]; simp
    · rw [if_neg e, if_neg e]

/-- How many keys there are: each slot counts at which its key is new. -/
def keysOf : List (κ × Int) → List κ → Nat
  | [], _ => 0
  | p :: L, seen => (if p.1 ∈ seen then 0 else 1) + keysOf L (p.1 :: seen)

/-- .. as a list of its own. -/
def firsts : List (κ × Int) → List κ → List κ
  | [], _ => []
  | p :: L, seen => (if p.1 ∈ seen then [] else [p.1]) ++ firsts L (p.1 :: seen)
theorem firsts_length : ∀ (L : List (κ × Int)) (seen : List κ), (firsts L seen).length = keysOf L seen
  | [], _ => rfl
  | p :: L, seen => by
    simp only [firsts, keysOf, List.length_append, firsts_length L]
    split <;> rfl
theorem mem_firsts : ∀ (L : List (κ × Int)) (seen : List κ) (k : κ), k ∈ firsts L seen ↔ (k ∈ L.map (·.1) ∧ k ∉ seen)
  | [], _, _ => by simp [firsts]
  | p :: L, seen, k => by
    simp only [firsts, List.mem_append, mem_firsts L, List.map_cons, List.mem_cons]
    by_cases h : p.1 ∈ seen
    · rw [if_pos h]
      constructor
      · rintro (h1 | ⟨h1, h2⟩)
        · simp at h1
        · exact ⟨.inr h1, fun x => h2 (.inr x)⟩
      · rintro ⟨h1 | h1, h2⟩
        · subst h1; exact absurd h h2
        · refine .inr ⟨h1, ?_⟩
          rintro (h3 | h3)
          · subst h3; exact h2 h
          · exact h2 h3
    · rw [if_neg h]
      constructor
      · rintro (h1 | ⟨h1, h2⟩)
        · simp at h1; subst h1; exact ⟨.inl rfl, h⟩
        · exact ⟨.inr h1, fun x => h2 (.inr x)⟩
      · rintro ⟨h1 | h1, h2⟩
        · exact .inl (by simp [h1])
        · by_cases e : k = p.1
          · exact .inl (by simp [e])
          · exact .inr ⟨h1, fun x => x.elim e h2⟩
theorem nodup_firsts : ∀ (L : List (κ × Int)) (seen : List κ), (firsts L seen).Nodup
  | [], _ => List.nodup_nil
  | p :: L, seen => by
    simp only [firsts]
    have ih := nodup_firsts L (p.1 :: seen)
    by_cases h : p.1 ∈ seen
    · rw [if_pos h]; simpa using ih
    · rw [if_neg h]
      refine List.nodup_cons.2 ⟨fun hm => ?_, ih⟩
      exact ((mem_firsts L _ _).1 hm).2 List.mem_cons_self

abbrev nkeys (L : List (κ × Int)) : Nat := keysOf L []

theorem nkeys_eq {L M : List (κ × Int)} (h : ∀ k, k ∈ L.map (·.1) ↔ k ∈ M.map (·.1)) : nkeys L = nkeys M := by
  rw [nkeys, nkeys, ← firsts_length, ← firsts_length]
  refine List.Perm.length_eq ((List.perm_ext_iff_of_nodup (nodup_firsts _ _) (nodup_firsts _ _)).2 fun k => ?_)
  rw [mem_firsts, mem_firsts, h]
theorem mem_keys (L : List (κ × Int)) (k : κ) : k ∈ L.map (·.1) ↔ bkt L k ≠ [] := by
  constructor
  · intro h
    obtain ⟨⟨a, b⟩, h1, h2⟩ := List.mem_map.1 h
    simp at h2; subst h2
    intro e
    have := (mem_bkt L a b).2 h1
    rw [e] at this; simp at this
  · intro h
    obtain ⟨id, hid⟩ := List.exists_mem_of_ne_nil _ h
    exact List.mem_map.2 ⟨(k, id), (mem_bkt L k id).1 hid, rfl⟩
/-- A slot more: its key is new, or it isn't. -/
theorem nkeys_more {L M : List (κ × Int)} {k : κ} (hn : k ∉ L.map (·.1)) (h : ∀ x, x ∈ M.map (·.1) ↔ (x ∈ L.map (·.1) ∨ x = k)) : nkeys M = nkeys L + 1 := by
  rw [nkeys, nkeys, ← firsts_length, ← firsts_length]
  have hp : (firsts M []).Perm (k :: firsts L []) := by
    refine (List.perm_ext_iff_of_nodup (nodup_firsts _ _) (List.nodup_cons.2 ⟨fun hm => hn ((mem_firsts _ _ _).1 hm).1, nodup_firsts _ _⟩)).2 fun x => ?_
    rw [mem_firsts, h, List.mem_cons, mem_firsts]
    constructor
    · rintro ⟨h1 | h1, _⟩
      · exact .inr ⟨h1, by simp⟩
      · exact .inl h1
    · rintro (h1 | ⟨h1, _⟩)
      · exact ⟨.inr h1, by simp⟩
      · exact ⟨.inl h1, by simp⟩
  rw [hp.length_eq]; rfl
theorem nkeys_snoc (L : List (κ × Int)) (k : κ) (id : Int) : nkeys (L ++ [(k, id)]) = if bkt L k = [] then nkeys L + 1 else nkeys L := by
  by_cases h : bkt L k = []
  · rw [if_pos h]
    exact nkeys_more (k := k) (fun hm => (mem_keys L k).1 hm h) (fun x => by simp)
  · rw [if_neg h]
    refine nkeys_eq fun x => ?_
    simp only [List.map_append, List.mem_append, List.map_cons, List.map_nil, List.mem_singleton]
    constructor
    · rintro (h1 | h1)
      · exact h1
      · subst h1; exact (mem_keys L x).2 h
    · exact .inl
theorem nkeys_erase {L M : List (κ × Int)} {k : κ} {id : Int} (hid : id ∈ bkt L k) (h : ∀ k', bkt M k' = if k' = k then (bkt L k').erase id else bkt L k') :
    nkeys M = if bkt M k = [] then nkeys L - 1 else nkeys L := by
  have hk : k ∈ L.map (·.1) := (mem_keys L k).2 (fun e => by rw [e] at hid; simp at hid)
  by_cases hm : bkt M k = []
  · rw [if_pos hm]
    have := nkeys_more (L := M) (M := L) (k := k) (fun hx => (mem_keys M k).1 hx hm) (fun x => ?_)
    · omega
    · rw [mem_keys, mem_keys, h]
      by_cases e : x = k
      · subst e; simp only [if_true, or_true, iff_true]; exact (mem_keys L x).1 hk
      · rw [if_neg e]; simp [e]
  · rw [if_neg hm]
    refine nkeys_eq fun x => ?_
    rw [mem_keys, mem_keys]
    by_cases e : x = k
    · subst e; exact ⟨fun _ => (mem_keys L x).1 hk, fun _ => hm⟩
    · rw [h, if_neg e]

/-- The loop's count: how many of the first i slots have a new key. -/
theorem keysOf_append : ∀ (L M : List (κ × Int)) (seen : List κ), keysOf (L ++ M) seen = keysOf L seen + keysOf M ((L.map (·.1)).reverse ++ seen)
  | [], M, seen => by simp [keysOf]
  | p :: L, M, seen => by
    simp only [List.cons_append, keysOf, keysOf_append L M, List.map_cons, List.reverse_cons, List.append_assoc, List.nil_append]
    omega
theorem nkeys_take_succ (L : List (κ × Int)) (i : Nat) (h : i < L.length) : nkeys (L.take (i+1)) = nkeys (L.take i) + (if L[i].1 ∈ (L.take i).map (·.1) then 0 else 1) := by
  rw [nkeys, List.take_succ_eq_append_getElem h, keysOf_append]
  simp [keysOf]
end Go.Proofs.Ytgpekeemmambkaa
