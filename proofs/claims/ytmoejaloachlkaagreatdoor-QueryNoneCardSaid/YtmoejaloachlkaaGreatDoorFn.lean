/- The evaluator's soundness, 19: drawn regions: what is ahead of what. -/
import Derived.Test.YtmoejaloachlkaaGreatDoorFm
namespace Go.Proofs.YtmoejaloachlkaaGreatDoor.Ev
open Go Go.RowKit

theorem tb_eq (m i : Nat) : tb m i = m.testBit i := by
  unfold tb Nat.testBit
  show on (1 &&& (m >>> i)) false (fun _ => true) = (1 &&& (m >>> i) != 0)
  cases (1 &&& (m >>> i)) <;> rfl
theorem tb_zero (i : Nat) : tb 0 i = false := by rw [tb_eq]; simp
theorem tb_lor (a b i : Nat) : tb (Nat.lor a b) i = (tb a i || tb b i) := by
  rw [tb_eq, tb_eq, tb_eq]; exact Nat.testBit_or a b i
theorem tb_one (a i : Nat) : tb (Nat.shiftLeft 1 a) i = decide (a = i) := by
  rw [tb_eq]
  show (1 <<< a).testBit i = _
  rw [Nat.one_shiftLeft, Nat.testBit_two_pow]
theorem mskO_tb (ms : List Nat) (o : Oper) (j : Nat) : tb (mskO ms o) j = true ↔ ∃ e ∈ o.after.toList, Region.binds .any e = true ∧ (j = e.on ∨ tb (ms.getD e.on 0) j = true) := by
  unfold mskO
  induction o.after.toList with
  | nil => simp [tb_zero]
  | cons e l ih =>
    rw [List.foldr_cons]
    cases hb : Region.binds .any e with
    | false =>
      rw [cond_false, ih]
      constructor
      · rintro ⟨e', h1, h2⟩; exact ⟨e', by simp [h1], h2⟩
      · rintro ⟨e', h1, h2, h3⟩
        rcases List.mem_cons.1 h1 with rfl | h1
        · rw [hb] at h2; cases h2
        · exact ⟨e', h1, h2, h3⟩
    | true =>
      rw [cond_true, tb_lor, tb_lor, tb_one]
      simp only [Bool.or_eq_true, decide_eq_true_eq, ih]
      constructor
      · rintro (⟨e', h1, h2⟩ | h | h)
        · exact ⟨e', by simp [h1], h2⟩
        · exact ⟨e, by simp, hb, .inl h.symm⟩
        · exact ⟨e, by simp, hb, .inr h⟩
      · rintro ⟨e', h1, h2, h3⟩
        rcases List.mem_cons.1 h1 with rfl | h1
        · rcases h3 with h3 | h3
          · exact .inr (.inl h3.symm)
          · exact .inr (.inr h3)
        · exact .inl ⟨e', h1, h2, h3⟩
theorem msks_spec : ∀ (l : List Oper) (ms : List Nat), ∃ R, msks l ms = ms ++ R ∧ R.length = l.length ∧ ∀ i (h : i < l.length), (ms ++ R).getD (ms.length + i) 0 = mskO ((ms ++ R).take (ms.length + i)) l[i]
  | [], ms => ⟨[], by simp [msks], rfl, fun i h => by simp at h⟩
  | o :: l, ms => by
    obtain ⟨R, h1, h2, h3⟩ := msks_spec l (ms ++ [mskO ms o])
    refine ⟨mskO ms o :: R, ?_, by simp [h2], ?_⟩
    · unfold msks
      rw [fN_eq, h1]; simp
    · intro i hi
      have e : ms ++ mskO ms o :: R = ms ++ [mskO ms o] ++ R := by simp
      cases i with
      | zero =>
        simp
      | succ i =>
        have := h3 i (by simp at hi; omega)
        rw [e]
        simp only [List.length_append, List.length_cons, List.length_nil, List.getElem_cons_succ] at this ⊢
        rw [show ms.length + (i + 1) = ms.length + (0 + 1) + i by omega]
        exact this
/-- What is ahead of an operation. -/
def mkA (ops : Array Oper) (i : Nat) : Nat := (msks ops.toList []).getD i 0
theorem backOk_spec : ∀ {l : List Oper} {i : Nat}, backOk l i = true → ∀ k (h : k < l.length), ∀ e ∈ (l[k]).after.toList, Region.binds .any e = true → e.on < i + k
  | [], _, _, k, h => by simp at h
  | o :: l, i, hb, k, h => by
    unfold backOk at hb
    rw [Bool.and_eq_true] at hb
    intro e he hbi
    cases k with
    | zero =>
      have := List.all_eq_true.1 hb.1 e he
      rw [hbi] at this
      simpa [Nat.blt_eq] using this
    | succ k =>
      have := backOk_spec hb.2 k (by simpa using h) e he hbi
      omega
section
variable {ops : Array Oper}
theorem msks_len : (msks ops.toList []).length = ops.size := by
  obtain ⟨R, h1, h2, _⟩ := msks_spec ops.toList []
  rw [h1]; simpa using h2
theorem mk_tb (hb : backOk ops.toList 0 = true) {i : Nat} {o : Oper} (ho : ops[i]? = some o) (j : Nat) : tb (mkA ops i) j = true ↔ ∃ e ∈ o.after.toList, Region.binds .any e = true ∧ (j = e.on ∨ tb (mkA ops e.on) j = true) := by
  have hi : i < ops.toList.length := by
    rcases Nat.lt_or_ge i ops.size with h | h
    · simpa using h
    · rw [Array.getElem?_eq_none h] at ho; cases ho
  have hoi : ops.toList[i] = o := by
    have : ops.toList[i]? = some o := by rw [Array.getElem?_toList]; exact ho
    rw [List.getElem?_eq_getElem hi] at this
    simpa using this
  obtain ⟨R, h1, h2, h3⟩ := msks_spec ops.toList []
  have h4 := h3 i hi
  simp only [List.nil_append, List.length_nil, Nat.zero_add] at h4 h1
  unfold mkA
  rw [h1, h4, mskO_tb, hoi]
  constructor
  · rintro ⟨e, a, b, c⟩
    have hlt := backOk_spec hb i hi e (by rw [hoi]; exact a) b
    refine ⟨e, a, b, c.imp id fun c => ?_⟩
    rw [List.getD_eq_getElem?_getD, List.getElem?_take_of_lt (by omega), ← List.getD_eq_getElem?_getD] at c
    exact c
  · rintro ⟨e, a, b, c⟩
    have hlt := backOk_spec hb i hi e (by rw [hoi]; exact a) b
    refine ⟨e, a, b, c.imp id fun c => ?_⟩
    rw [List.getD_eq_getElem?_getD, List.getElem?_take_of_lt (by omega), ← List.getD_eq_getElem?_getD]
    exact c
theorem edge_lt (hb : backOk ops.toList 0 = true) {i : Nat} {o : Oper} (ho : ops[i]? = some o) {e : Edge} (he : e ∈ o.after.toList) (hbi : Region.binds .any e = true) : e.on < i := by
  have hi : i < ops.toList.length := by
    rcases Nat.lt_or_ge i ops.size with h | h
    · simpa using h
    · rw [Array.getElem?_eq_none h] at ho; cases ho
  have hoi : ops.toList[i] = o := by
    have : ops.toList[i]? = some o := by rw [Array.getElem?_toList]; exact ho
    rw [List.getElem?_eq_getElem hi] at this
    simpa using this
  have := backOk_spec hb i hi e (by rw [hoi]; exact he) hbi
  omega
theorem mk_none {i : Nat} (h : ops[i]? = none) : mkA ops i = 0 := by
  unfold mkA
  rw [List.getD_eq_getElem?_getD, List.getElem?_eq_none (by rw [msks_len]; rcases Nat.lt_or_ge i ops.size with k | k; (rw [Array.getElem?_eq_getElem k] at h; cases h); exact k)]
  rfl
theorem mk_lt (hb : backOk ops.toList 0 = true) : ∀ (i j : Nat), tb (mkA ops i) j = true → j < i := by
  intro i
  induction i using Nat.strongRecOn with
  | _ i ih =>
    intro j h
    cases ho : ops[i]? with
    | none => rw [mk_none ho, tb_zero] at h; cases h
    | some o =>
      obtain ⟨e, a, b, c⟩ := (mk_tb hb ho j).1 h
      have := edge_lt hb ho a b
      rcases c with c | c
      · omega
      · have := ih e.on this j c; omega
theorem mk_trans (hb : backOk ops.toList 0 = true) : ∀ (i j k : Nat), tb (mkA ops i) j = true → tb (mkA ops j) k = true → tb (mkA ops i) k = true := by
  intro i
  induction i using Nat.strongRecOn with
  | _ i ih =>
    intro j k h h'
    cases ho : ops[i]? with
    | none => rw [mk_none ho, tb_zero] at h; cases h
    | some o =>
      obtain ⟨e, a, b, c⟩ := (mk_tb hb ho j).1 h
      refine (mk_tb hb ho k).2 ⟨e, a, b, .inr ?_⟩
      rcases c with rfl | c
      · exact h'
      · exact ih e.on (edge_lt hb ho a b) j k c h'
/-- A set that holds with each operation what is ahead of it. -/
def Down (ops : Array Oper) (L : Nat → Bool) : Prop := ∀ i, L i = true → ∀ j, tb (mkA ops i) j = true → L j = true
theorem ready_all (hb : backOk ops.toList 0 = true) {L : Nat → Bool} (hd : Down ops L) {i : Nat} {o : Oper} (ho : ops[i]? = some o) (hr : ∀ e ∈ o.after.toList, Region.binds .any e = true → L e.on = true) (j : Nat) (h : tb (mkA ops i) j = true) : L j = true := by
  obtain ⟨e, a, b, c⟩ := (mk_tb hb ho j).1 h
  rcases c with rfl | c
  · exact hr e a b
  · exact hd _ (hr e a b) j c
theorem zipM_get : ∀ {l : List Oper} {ms : List Nat}, l.length = ms.length → ∀ i : Nat, (zipM l ms)[i]? = (l[i]?).map fun o => (o, ms.getD i 0)
  | [], [], _, i => by simp [zipM]
  | o :: l, m :: ms, h, i => by
    unfold zipM
    cases i with
    | zero => simp
    | succ i => simpa using zipM_get (l := l) (ms := ms) (by simpa using h) i
  | [], _ :: _, h, _ => by simp at h
  | _ :: _, [], h, _ => by simp at h
theorem plan_get (i : Nat) : (plan ops)[i]? = (ops[i]?).map fun o => (o, mkA ops i) := by
  unfold plan mkA
  rw [zipM_get (by rw [msks_len]; simp), Array.getElem?_toList]
theorem zipM_length : ∀ {l : List Oper} {ms : List Nat}, l.length = ms.length → (zipM l ms).length = l.length
  | [], [], _ => rfl
  | o :: l, m :: ms, h => by unfold zipM; simp [zipM_length (l := l) (ms := ms) (by simpa using h)]
  | [], _ :: _, h => by simp at h
  | _ :: _, [], h => by simp at h
theorem plan_length : (plan ops).length = ops.size := by
  unfold plan
  rw [zipM_length (by rw [msks_len]; simp)]; simp
/-! ### Names -/
theorem dsts_mem : ∀ {l : List Oper} {t : Nat}, t ∈ dsts l ↔ ∃ o ∈ l, o.dst = some t
  | [], t => by simp [dsts]
  | o :: l, t => by
    unfold dsts
    cases ho : o.dst with
    | none => simp [dsts_mem (l := l), ho]
    | some d => simp [dsts_mem (l := l), ho, eq_comm]
theorem nodup_dsts : ∀ {l : List Oper}, nodup (dsts l) = true → ∀ (i j : Nat) (oi oj : Oper) (t : Nat), l[i]? = some oi → l[j]? = some oj → oi.dst = some t → oj.dst = some t → i = j
  | [], _, i, j, oi, oj, t, h, _, _, _ => by simp at h
  | o :: l, hn, i, j, oi, oj, t, h1, h2, h3, h4 => by
    unfold dsts at hn
    have hl : nodup (dsts l) = true := by
      cases ho : o.dst with
      | none => rw [ho] at hn; exact hn
      | some d => rw [ho] at hn; unfold nodup at hn; rw [Bool.and_eq_true] at hn; exact hn.2
    have hx : ∀ (k : Nat) (ok : Oper), l[k]? = some ok → o.dst = some t → ok.dst = some t → False := by
      intro k ok a b c
      rw [b] at hn
      unfold nodup at hn
      rw [Bool.and_eq_true] at hn
      have := List.all_eq_true.1 hn.1 t (dsts_mem.2 ⟨ok, List.mem_of_getElem? a, c⟩)
      simp at this
    cases i with
    | zero =>
      cases j with
      | zero => rfl
      | succ j => simp at h1 h2; subst h1; exact (hx j oj h2 h3 h4).elim
    | succ i =>
      cases j with
      | zero => simp at h1 h2; subst h2; exact (hx i oi h1 h4 h3).elim
      | succ j => simp at h1 h2; rw [nodup_dsts hl i j oi oj t h1 h2 h3 h4]
theorem nameOk_spec {i m t : Nat} : ∀ {pl : List (Oper × Nat)} {k : Nat}, nameOk i m t pl k = true → ∀ (j : Nat) (p : Oper × Nat), pl[j]? = some p → p.1.dst = some t → i = k + j ∨ tb m (k + j) = true ∨ tb p.2 i = true
  | [], _, _, j, p, h, _ => by simp at h
  | q :: pl, k, hn, j, p, h, hd => by
    unfold nameOk at hn
    rw [Bool.and_eq_true] at hn
    cases j with
    | zero =>
      simp at h; subst h
      have := hn.1
      rw [hd] at this
      simp only [Bool.or_eq_true, Bool.not_eq_true'] at this
      rcases this with ((h | h) | h) | h
      · simp at h
      · exact .inl (Nat.eq_of_beq_eq_true h)
      · exact .inr (.inl h)
      · exact .inr (.inr h)
    | succ j =>
      have := nameOk_spec hn.2 j p (by simpa using h) hd
      rw [show k + (j + 1) = Nat.succ k + j by omega]
      exact this
theorem namesOk_spec {pl : List (Oper × Nat)} : ∀ {l : List (Oper × Nat)} {k : Nat}, namesOk ops pl l k = true → ∀ (i : Nat) (p : Oper × Nat), l[i]? = some p → (∀ t ∈ p.1.looksAt ops, nameOk (k + i) p.2 t pl 0 = true) ∧ ∀ j b, p.1.guard = some (j, b) → tb p.2 j = true
  | [], _, _, i, p, h => by simp at h
  | q :: l, k, hn, i, p, h => by
    unfold namesOk at hn
    rw [Bool.and_eq_true, Bool.and_eq_true] at hn
    cases i with
    | zero =>
      simp at h; subst h
      refine ⟨fun t ht => List.all_eq_true.1 hn.1.1 t ht, fun j b hg => ?_⟩
      have := hn.1.2
      rw [hg] at this
      exact this
    | succ i =>
      have := namesOk_spec hn.2 i p (by simpa using h)
      rw [show k + (i + 1) = Nat.succ k + i by omega]
      exact this
structure Static (ops : Array Oper) : Prop where
  back : backOk ops.toList 0 = true
  uniq : ∀ (i j : Nat) (oi oj : Oper) (t : Nat), ops[i]? = some oi → ops[j]? = some oj → oi.dst = some t → oj.dst = some t → i = j
  names : ∀ (i : Nat) (o : Oper), ops[i]? = some o → ∀ t ∈ o.looksAt ops, ∀ (j : Nat) (oj : Oper), ops[j]? = some oj → oj.dst = some t → j = i ∨ tb (mkA ops i) j = true ∨ tb (mkA ops j) i = true
  guards : ∀ (i : Nat) (o : Oper), ops[i]? = some o → ∀ j b, o.guard = some (j, b) → tb (mkA ops i) j = true
theorem static_of (h : rOk ops = true) : Static ops := by
  unfold rOk at h
  rw [Bool.and_eq_true, Bool.and_eq_true] at h
  obtain ⟨⟨h1, h2⟩, h3⟩ := h
  refine ⟨h2, fun i j oi oj t a b => nodup_dsts h1 i j oi oj t (by rw [Array.getElem?_toList]; exact a) (by rw [Array.getElem?_toList]; exact b), ?_, ?_⟩
  · intro i o ho t ht j oj hoj hd
    have := (namesOk_spec h3 i (o, mkA ops i) (by rw [plan_get, ho]; rfl)).1 t ht
    rw [Nat.zero_add] at this
    rcases nameOk_spec this j (oj, mkA ops j) (by rw [plan_get, hoj]; rfl) hd with h | h | h
    · exact .inl (by omega)
    · exact .inr (.inl (by rwa [Nat.zero_add] at h))
    · exact .inr (.inr h)
  · intro i o ho j b hg
    exact (namesOk_spec h3 i (o, mkA ops i) (by rw [plan_get, ho]; rfl)).2 j b hg
/-! ### Effects and reads in a row -/
theorem on_eq {β : Type} (n : Nat) (z : β) (s : Nat → β) : on n z s = match n with | 0 => z | m + 1 => s m := by cases n <;> rfl
theorem seqB_spec {m : Nat} {l : List (Nat × Bool)} {eff : Bool} (h : seqB m l eff = true) : ∀ p ∈ l, (eff = true ∨ p.2 = true) → tb m p.1 = true := by
  intro p hp he
  have := List.all_eq_true.1 h p hp
  have hb : (eff || p.2) = true := by rw [Bool.or_eq_true]; exact he
  rw [hb] at this
  exact this
theorem seqOk_spec {P : Program} : ∀ {l : List (Oper × Nat)} {k : Nat} {loud : List (Nat × Bool)}, seqOk P l k loud = true →
    (∀ (i : Nat) (p : Oper × Nat), l[i]? = some p → cls P p.1.op = 1 → (∀ q ∈ loud, q.2 = true → tb p.2 q.1 = true)) ∧
    (∀ (i : Nat) (p : Oper × Nat), l[i]? = some p → 3 ≤ cls P p.1.op → (∀ q ∈ loud, tb p.2 q.1 = true)) ∧
    (∀ (i j : Nat) (p q : Oper × Nat), i < j → l[i]? = some p → l[j]? = some q → cls P p.1.op = 1 → 3 ≤ cls P q.1.op → tb q.2 (k + i) = true) ∧
    (∀ (i j : Nat) (p q : Oper × Nat), i < j → l[i]? = some p → l[j]? = some q → 3 ≤ cls P p.1.op → cls P q.1.op = 1 → tb q.2 (k + i) = true)
  | [], _, _, _ => ⟨fun i p h => by simp at h, fun i p h => by simp at h, fun i j p q _ h => by simp at h, fun i j p q _ h => by simp at h⟩
  | p :: l, k, loud, h => by
    unfold seqOk at h
    have main : ∀ (loud' : List (Nat × Bool)), seqOk P l (Nat.succ k) loud' = true → (∀ q ∈ loud, q ∈ loud') →
        (cls P p.1.op = 1 → (∀ q ∈ loud, q.2 = true → tb p.2 q.1 = true) ∧ (k, false) ∈ loud') → (3 ≤ cls P p.1.op → (∀ q ∈ loud, tb p.2 q.1 = true) ∧ (k, true) ∈ loud') →
        (∀ (i : Nat) (p' : Oper × Nat), (p :: l)[i]? = some p' → cls P p'.1.op = 1 → (∀ q ∈ loud, q.2 = true → tb p'.2 q.1 = true)) ∧
        (∀ (i : Nat) (p' : Oper × Nat), (p :: l)[i]? = some p' → 3 ≤ cls P p'.1.op → (∀ q ∈ loud, tb p'.2 q.1 = true)) ∧
        (∀ (i j : Nat) (p' q : Oper × Nat), i < j → (p :: l)[i]? = some p' → (p :: l)[j]? = some q → cls P p'.1.op = 1 → 3 ≤ cls P q.1.op → tb q.2 (k + i) = true) ∧
        (∀ (i j : Nat) (p' q : Oper × Nat), i < j → (p :: l)[i]? = some p' → (p :: l)[j]? = some q → 3 ≤ cls P p'.1.op → cls P q.1.op = 1 → tb q.2 (k + i) = true) := by
      intro loud' h0 hs h1 h3
      obtain ⟨a, b, c, d⟩ := seqOk_spec h0
      refine ⟨?_, ?_, ?_, ?_⟩
      · intro i p' hp hc
        cases i with
        | zero => simp at hp; subst hp; exact (h1 hc).1
        | succ i => intro q hq; exact a i p' (by simpa using hp) hc q (hs q hq)
      · intro i p' hp hc
        cases i with
        | zero => simp at hp; subst hp; exact (h3 hc).1
        | succ i => intro q hq; exact b i p' (by simpa using hp) hc q (hs q hq)
      · intro i j p' q hij hp hq hc hc'
        cases j with
        | zero => omega
        | succ j =>
          cases i with
          | zero => simp at hp; subst hp; exact b j q (by simpa using hq) hc' _ (h1 hc).2
          | succ i => rw [show k + (i + 1) = Nat.succ k + i by omega]; exact c i j p' q (by omega) (by simpa using hp) (by simpa using hq) hc hc'
      · intro i j p' q hij hp hq hc hc'
        cases j with
        | zero => omega
        | succ j =>
          cases i with
          | zero => simp at hp; subst hp; exact a j q (by simpa using hq) hc' _ (h3 hc).2 rfl
          | succ i => rw [show k + (i + 1) = Nat.succ k + i by omega]; exact d i j p' q (by omega) (by simpa using hp) (by simpa using hq) hc hc'
    match hc : cls P p.1.op, h with
    | 0, h => rw [hc] at main; exact main loud h (fun _ h => h) (fun h => by omega) (fun h => by omega)
    | 1, h =>
      have h : (seqB p.2 loud false && seqOk P l (Nat.succ k) ((k, false) :: loud)) = true := h
      rw [Bool.and_eq_true] at h
      rw [hc] at main
      exact main _ h.2 (fun _ h => by simp [h]) (fun _ => ⟨fun q hq hq2 => seqB_spec h.1 q hq (.inr hq2), by simp⟩) (fun h => by omega)
    | 2, h => rw [hc] at main; exact main loud h (fun _ h => h) (fun h => by omega) (fun h => by omega)
    | c + 3, h =>
      have h : (seqB p.2 loud true && seqOk P l (Nat.succ k) ((k, true) :: loud)) = true := h
      rw [Bool.and_eq_true] at h
      rw [hc] at main
      exact main _ h.2 (fun _ h => by simp [h]) (fun h => by omega) (fun _ => ⟨fun q hq => seqB_spec h.1 q hq (.inl rfl), by simp⟩)
end
end Go.Proofs.YtmoejaloachlkaaGreatDoor.Ev
