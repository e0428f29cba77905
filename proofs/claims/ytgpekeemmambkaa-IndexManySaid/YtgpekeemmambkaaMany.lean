/- Plain laws for IndexMany: many numbers in three buckets, all but each hundredth taken out. No world and no program in sight. -/
namespace Go.Proofs.Ytgpekeemmambkaa

/-- What the first loop has laid into bucket r. -/
def first (k r : Nat) : List Int := ((List.range k).filter (fun i => i % 3 == r)).map (fun i : Nat => (i : Int))
/-- What the second loop has left there. -/
def rest (n k r : Nat) : List Int := ((List.range n).filter (fun i => i % 3 == r && (decide (k ≤ i) || i % 100 == 0))).map (fun i : Nat => (i : Int))

theorem first_succ (k r : Nat) : first (k + 1) r = if k % 3 = r then first k r ++ [(k : Int)] else first k r := by
  unfold first
  rw [List.range_succ, List.filter_append, List.map_append]
  by_cases h : k % 3 = r <;> simp [h]
theorem not_mem_first (k r : Nat) : (k : Int) ∉ first k r := by
  unfold first
  intro h
  obtain ⟨i, h1, h2⟩ := List.mem_map.1 h
  have := List.mem_range.1 (List.mem_filter.1 h1).1
  omega
theorem rest_zero (n r : Nat) : rest n 0 r = first n r := by
  unfold rest first
  congr 1
  refine List.filter_congr fun i _ => ?_
  simp
theorem rest_keeps (n k r : Nat) (h : k % 100 = 0 ∨ k % 3 ≠ r) : rest n (k + 1) r = rest n k r := by
  unfold rest
  congr 1
  refine List.filter_congr fun i _ => ?_
  rw [Bool.eq_iff_iff]
  simp only [Bool.and_eq_true, Bool.or_eq_true, beq_iff_eq, decide_eq_true_eq]
  by_cases e : i = k
  · subst e; omega
  · omega
theorem rest_nodup (n k r : Nat) : (rest n k r).Nodup := by
  unfold rest
  refine List.Pairwise.map _ (fun a b h => ?_) ((List.nodup_range).filter _)
  intro e; exact h (by omega)
theorem mem_rest (n k r : Nat) (x : Nat) : (x : Int) ∈ rest n k r ↔ x < n ∧ x % 3 = r ∧ (k ≤ x ∨ x % 100 = 0) := by
  unfold rest
  simp only [List.mem_map, List.mem_filter, List.mem_range, Bool.and_eq_true, Bool.or_eq_true, beq_iff_eq, decide_eq_true_eq]
  constructor
  · rintro ⟨i, ⟨h1, h2, h3⟩, h4⟩
    obtain rfl : i = x := by omega
    exact ⟨h1, h2, h3⟩
  · rintro ⟨h1, h2, h3⟩
    exact ⟨x, ⟨h1, h2, h3⟩, rfl⟩
theorem filter_map_ne (k : Nat) : ∀ l : List Nat, (l.map (fun i : Nat => (i : Int))).filter (fun x => x != (k : Int)) = (l.filter (fun i => i != k)).map (fun i : Nat => (i : Int))
  | [] => rfl
  | a :: l => by
    have ih := filter_map_ne k l
    simp only [List.map_cons, List.filter_cons, ih]
    by_cases e : a = k
    · subst e; simp
    · have h1 : ((a : Int) != (k : Int)) = true := by simp; omega
      have h2 : (a != k) = true := by simpa using e
      rw [h1, h2]; simp
theorem rest_drops (n k r : Nat) (h : k % 100 ≠ 0) (hr : k % 3 = r) : rest n (k + 1) r = (rest n k r).erase (k : Int) := by
  rw [List.Nodup.erase_eq_filter (rest_nodup n k r)]
  unfold rest
  rw [filter_map_ne, List.filter_filter]
  congr 1
  refine List.filter_congr fun i _ => ?_
  rw [Bool.eq_iff_iff]
  simp only [Bool.and_eq_true, Bool.or_eq_true, beq_iff_eq, decide_eq_true_eq, bne_iff_ne]
  by_cases e : i = k
  · subst e; omega
  · omega

theorem count300 : ∀ k : Nat, ((List.range k).filter (fun i => i % 300 == 0)).length = (k + 299) / 300
  | 0 => rfl
  | k + 1 => by
    rw [List.range_succ, List.filter_append, List.length_append, count300 k]
    by_cases h : k % 300 = 0
    · simp [h]; omega
    · simp [h]; omega
theorem rest_end_length (n : Nat) : (rest n n 0).length = (n + 299) / 300 := by
  unfold rest
  rw [List.length_map]
  have e : (List.range n).filter (fun i => i % 3 == 0 && (decide (n ≤ i) || i % 100 == 0)) = (List.range n).filter (fun i => i % 300 == 0) := by
    refine List.filter_congr fun i hi => ?_
    have := List.mem_range.1 hi
    rw [Bool.eq_iff_iff]
    simp only [Bool.and_eq_true, Bool.or_eq_true, beq_iff_eq, decide_eq_true_eq]
    omega
  rw [e, count300]
theorem rest_rises (n k r : Nat) : (rest n k r).Pairwise (· < ·) := by
  unfold rest
  refine List.Pairwise.map _ (fun a b h => ?_) ((List.pairwise_lt_range).filter _)
  show (a : Int) < (b : Int)
  omega
theorem rest_ne_nil (n k r : Nat) (hn : 200 < n) (hr : r < 3) : rest n k r ≠ [] := by
  -- 100 * s is in bucket r where s % 3 = r
  have : ((100 * r : Nat) : Int) ∈ rest n k r := (mem_rest n k r (100 * r)).2 ⟨by omega, by omega, .inr (by omega)⟩
  intro e; rw [e] at this; simp at this
end Go.Proofs.Ytgpekeemmambkaa
