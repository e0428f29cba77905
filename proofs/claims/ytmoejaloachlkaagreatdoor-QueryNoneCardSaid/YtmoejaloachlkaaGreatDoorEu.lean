/- The evaluator's soundness, 4: loads, stores, new blocks. -/
import Derived.Test.YtmoejaloachlkaaGreatDoorEt
namespace Go.Proofs.YtmoejaloachlkaaGreatDoor.Ev
open Go Go.RowKit

section
variable {P : Program} {w : World} {t : TypeId}
theorem run_underlying {d : TypeDesc} (h : P.underlying t = some d) : (underlying t).run P w = .ok d w := by simp [underlying, h]
theorem run_typeInfo {i : TypeInfo} (h : P.info? t = some i) : (typeInfo t).run P w = .ok i w := by simp [typeInfo, h]
theorem tAgg_info {g : Bool} {s : Nat} (h : tAgg P t = some (g, s)) : ∃ i d, P.info? t = some i ∧ i.size = s ∧ P.underlying t = some d ∧ ((∃ f, d = .struct f) ∨ (∃ n e, d = .array n e) → g = true) ∧ (g = true → (∃ f, d = .struct f) ∨ (∃ n e, d = .array n e)) := by
  unfold tAgg at h
  split at h
  · rename_i i f h1 h2; cases h; exact ⟨i, _, h1, rfl, h2, fun _ => rfl, fun _ => .inl ⟨_, rfl⟩⟩
  · rename_i i n e h1 h2; cases h; exact ⟨i, _, h1, rfl, h2, fun _ => rfl, fun _ => .inr ⟨_, _, rfl⟩⟩
  · rename_i i d x1 x2 h1 h2; cases h
    exact ⟨i, d, h1, rfl, h2, fun h => by rcases h with ⟨f, rfl⟩ | ⟨n, e, rfl⟩; exact (x1 f rfl).elim; exact (x2 n e rfl).elim, fun h => by cases h⟩
  · cases h
theorem tAgg_isAgg {g : Bool} {s : Nat} (h : tAgg P t = some (g, s)) : (isAgg t).run P w = .ok g w := by
  obtain ⟨i, d, h1, h2, h3, h4, h5⟩ := tAgg_info h
  unfold isAgg
  rw [Sem.run_bind, run_underlying h3, Result.andThen_ok]
  cases d <;> simp at h4 h5 ⊢ <;> first | rw [h4] | (cases g <;> simp_all)
theorem tAgg_size {g : Bool} {s : Nat} (h : tAgg P t = some (g, s)) : (sizeOf t).run P w = .ok s w := by
  obtain ⟨i, d, h1, h2, _⟩ := tAgg_info h
  unfold sizeOf
  rw [Sem.run_bind, run_typeInfo h1, Result.andThen_ok, h2]; rfl
theorem zeroA_run {π : Pi} {z : AV} (h : zeroA P t = some z) : ∃ cz, (zeroValue t).run P w = .ok cz w ∧ VR π z cz := by
  unfold zeroA at h
  split at h
  · rename_i i hi
    simp only [Option.bind_eq_some_iff] at h
    obtain ⟨v, h1, h2⟩ := h
    refine ⟨v, ?_, ofV_sound _ _ _ h2⟩
    unfold zeroValue
    rw [Sem.run_bind, run_typeInfo hi, Result.andThen_ok, h1]; rfl
  · cases h
theorem elemSl_eq {e : TypeId} (h : elemSl P t = some e) : P.underlying t = some (.slice e) := by
  unfold elemSl at h
  split at h
  · rename_i e' he; cases h; exact he
  · cases h
end

/-! ### Loads -/
section
variable {P : Program} {B : Nat} {π : Pi} {H : Hp} {w : World}
theorem HRel.cells (hH : HRel π B H w) {b : Nat} {tr : T AV} {d : Option AV} {n e lo hi : Nat} {wr : Bool} {sib : List Nat} (h : H.get b = some (.cells tr d n e lo hi wr sib)) :
    ∃ c arr fz, π b = some (c, arr.size) ∧ w.heap[c]? = some (.cells arr e fz) ∧ n ≤ arr.size ∧ (wr = true → fz.1 ≤ fz.2 ∧ ∀ j, fz.1 ≤ j → j < fz.2 → (lo ≤ j ∧ j < hi) ∨ (hi < lo ∧ arr.size ≤ j)) ∧
      (∀ (j : Nat) (v : AV), (Blk.cells tr d n e lo hi wr sib).rd j = some v → ∃ cv, arr[j]? = some cv ∧ VR π v cv) ∧ (∀ (j : Nat) (cv : Value), arr[j]? = some cv → cv.oneCell' = true) ∧ (wr = true → B ≤ c) := by
  obtain ⟨c, z, o, h1, h2, ⟨arr, fz, rfl, rfl, h5, h6, h7, h8⟩, h4⟩ := hH.blk b _ h
  exact ⟨c, arr, fz, h1, h2, h5, h6, h7, h8, h4⟩
theorem Blk.rd_some {x : Blk} {j : Nat} {v : AV} (h : x.rd j = some v) : ∃ c d n e lo hi w s, x = .cells c d n e lo hi w s ∧ j < n := by
  cases x with
  | cells c d n e lo hi w s =>
    obtain ⟨h1, _⟩ := ob_eq (b := Nat.blt j n) h
    exact ⟨c, d, n, e, lo, hi, w, s, rfl, by simpa [Nat.blt_eq] using h1⟩
  | _ => cases h
theorem rd_cell (hH : HRel π B H w) {b j c z : Nat} {x : Blk} (hx : H.get b = some x) (hp : π b = some (c, z)) {v : AV} (h : x.rd j = some v) : ∃ cv, w.cell? ⟨c, j, none⟩ = some cv ∧ VR π v cv := by
  obtain ⟨t, d, n, e, lo, hi, wr, s, rfl, hj⟩ := Blk.rd_some h
  obtain ⟨c', arr, fz, h1, h2, h3, h4, h5, h6, h7⟩ := hH.cells hx
  rw [hp] at h1; cases h1
  obtain ⟨cv, a1, a2⟩ := h5 j v h
  exact ⟨cv, by simp [World.cell?, h2, a1], a2⟩
theorem rdsN_succ (x : Blk) (n j : Nat) : Blk.rdsN x (n + 1) j = rdsS x (Blk.rdsN x n) j := rfl
theorem rds_get {x : Blk} : ∀ {n j : Nat} {l : List AV}, x.rds j n = some l → l.length = n ∧ ∀ i, i < n → ∃ v, l[i]? = some v ∧ x.rd (j + i) = some v
  | 0, j, l, h => by cases h; exact ⟨rfl, fun i hi => by omega⟩
  | n + 1, j, l, h => by
    unfold Blk.rds at h
    rw [rdsN_succ] at h
    obtain ⟨v, h1, h2⟩ := oo_eq h
    obtain ⟨l', h3, h4⟩ := oo_eq h2
    cases h4
    obtain ⟨k1, k2⟩ := rds_get (x := x) (j := j + 1) (n := n) h3
    refine ⟨by simp [k1], fun i hi => ?_⟩
    cases i with
    | zero => exact ⟨v, rfl, h1⟩
    | succ i =>
      obtain ⟨u, a1, a2⟩ := k2 i (by omega)
      exact ⟨u, by simpa using a1, by rw [show j + (i + 1) = j + 1 + i by omega]; exact a2⟩
theorem Addr.add_lit' (c o n : Nat) : (⟨c, o, none⟩ : Addr).add n = ⟨c, o + n, none⟩ := by
  unfold Addr.add; split
  · rename_i h; subst h; rfl
  · rfl
/-- So many cells, loaded. -/
theorem run_rds (hH : HRel π B H w) {b o n c z : Nat} {x : Blk} (hx : H.get b = some x) (hp : π b = some (c, z)) {l : List AV} (h : x.rds o n = some l) :
    ∃ cs : List Value, (loadCells ⟨c, o, none⟩ n).run P w = .ok cs.toArray w ∧ VRs π l cs := by
  obtain ⟨h1, h2⟩ := rds_get h
  have h3 : ∀ i, i < n → ∃ cv, w.cell? ⟨c, o + i, none⟩ = some cv ∧ ∀ v, l[i]? = some v → VR π v cv := by
    intro i hi
    obtain ⟨v, a1, a2⟩ := h2 i hi
    obtain ⟨cv, a3, a4⟩ := rd_cell hH hx hp a2
    exact ⟨cv, a3, fun u hu => by rw [a1] at hu; cases hu; exact a4⟩
  let f : Nat → Value := fun i => (w.cell? ⟨c, o + i, none⟩).getD undef
  have hf : ∀ i, i < n → w.cell? ⟨c, o + i, none⟩ = some (f i) := fun i hi => by obtain ⟨cv, a, _⟩ := h3 i hi; simp [f, a]
  have hr := run_loadCells (P := P) (w := w) ⟨c, o, none⟩ n f (fun j hj => by rw [Addr.add_lit']; exact hf j hj)
  refine ⟨(List.range n).map f, ?_, ?_⟩
  · exact hr
  · have key : ∀ (m : List AV) (k : Nat), (∀ i, i < m.length → ∃ cv, w.cell? ⟨c, o + (k + i), none⟩ = some cv ∧ ∀ v, m[i]? = some v → VR π v cv) → VRs π m ((List.range' k m.length).map f) := by
      intro m
      induction m with
      | nil => intro k _; exact .nil
      | cons v m ih =>
        intro k hk
        rw [List.length_cons, List.range'_succ, List.map_cons]
        obtain ⟨cv, a1, a2⟩ := hk 0 (by simp)
        refine .cons _ _ _ _ ?_ (ih (k + 1) (fun i hi => ?_))
        · have : f k = cv := by simp [f]; rw [Nat.add_zero] at a1; rw [a1]; rfl
          rw [this]; exact a2 v rfl
        · obtain ⟨cv, b1, b2⟩ := hk (i + 1) (by simp; omega)
          exact ⟨cv, by rw [show o + (k + 1 + i) = o + (k + (i + 1)) by omega]; exact b1, fun u hu => b2 u (by simpa using hu)⟩
    have := key l 0 (fun i hi => by rw [Nat.zero_add]; exact h3 i (by omega))
    rwa [h1, ← List.range_eq_range'] at this
theorem load_sound (hH : HRel π B H w) {t : TypeId} {v u : AV} {cv : Value} (h : load P t v H = some u) (hv : VR π v cv) : ∃ cu, (Instr.loadAt t cv).run P w = .ok cu w ∧ VR π u cu := by
  obtain ⟨b, o, rfl, h1⟩ := avPtr_some (p := (· = some u)) h (by simp)
  cases hv with
  | ptr b o c z hp =>
    obtain ⟨x, h2, h3⟩ := oo_eq h1
    obtain ⟨⟨g, s⟩, h4, h5⟩ := oo_eq h3
    have h6 : ob g (x.rd o) (oo (x.rds o s) none fun l => some (.agg l)) = some u := h5
    have hs : (Instr.sureAddr (.pointer (some ⟨c, o, none⟩))).run P w = .ok ⟨c, o, none⟩ w := rfl
    unfold Instr.loadAt
    rw [Sem.run_bind, hs, Result.andThen_ok]
    unfold loadVar
    rw [Sem.run_bind, tAgg_isAgg h4, Result.andThen_ok]
    cases g with
    | true =>
      obtain ⟨l, h7, h8⟩ := oo_eq h6
      cases h8
      obtain ⟨cs, a1, a2⟩ := run_rds (P := P) hH h2 hp h7
      refine ⟨.agg cs.toArray, ?_, .agg _ _ (by simpa using a2)⟩
      simp only [if_true, Sem.run_bind, tAgg_size h4, Result.andThen_ok, a1, Sem.run_pure]
    | false =>
      obtain ⟨cu, a1, a2⟩ := rd_cell hH h2 hp h6
      refine ⟨cu, ?_, a2⟩
      simp only [Bool.false_eq_true, if_false, run_load, a1]
end

/-! ### Stores -/
section
variable {P : Program}
theorem heap_setCell {w : World} {c t o : Nat} {arr : Array Value} {fz : Nat × Nat} (h : w.heap[c]? = some (.cells arr t fz)) (v : Value) (k : Nat) :
    (w.setCell ⟨c, o, none⟩ v).heap[k]? = if k = c then some (.cells (arr.setIfInBounds o v) t fz) else w.heap[k]? := by
  simp only [World.setCell, Array.getElem?_modify]
  by_cases hk : k = c
  · subst hk; simp [h]
  · rw [if_neg (by omega), if_neg hk]
/-- A row of cells, stored. -/
theorem run_storeRow (c o t : Nat) (fz : Nat × Nat) : ∀ (vs : List Value) (i : Nat) (arr : Array Value) (w : World), w.heap[c]? = some (.cells arr t fz) → o + i + vs.length ≤ arr.size →
    (vs = [] ∨ ∀ j, o + i ≤ j → j < o + i + vs.length → ¬ (fz.1 ≤ j ∧ j < fz.2)) → (∀ v ∈ vs, v.oneCell' = true) →
    ∃ w' arr', (storeCells ⟨c, o, none⟩ vs i).run P w = .ok () w' ∧ w'.heap[c]? = some (.cells arr' t fz) ∧ (∀ k, k ≠ c → w'.heap[k]? = w.heap[k]?) ∧ w'.heap.size = w.heap.size ∧ (w'.os = w.os ∧ w'.tape = w.tape ∧ w'.output = w.output) ∧
      arr'.size = arr.size ∧ ∀ j, arr'[j]? = if o + i ≤ j ∧ j < o + i + vs.length then vs[j - (o + i)]? else arr[j]?
  | [], i, arr, w, h, _, _, _ => ⟨w, arr, rfl, h, fun _ _ => rfl, rfl, ⟨rfl, rfl, rfl⟩, rfl, fun j => by rw [if_neg (by simp only [List.length_nil]; omega)]⟩
  | v :: vs, i, arr, w, h, hb, hf, hv => by
    have hv0 := hv v (by simp)
    have hcell : (w.cell? ⟨c, o + i, none⟩).isSome = true := by
      simp [World.cell?, h]; simp at hb; omega
    obtain ⟨u, hu⟩ := Option.isSome_iff_exists.1 hcell
    have hfz : w.frozen? ⟨c, o + i, none⟩ = false := by
      have := hf.resolve_left (by simp) (o + i) (Nat.le_refl _) (by simp)
      obtain ⟨f1, f2⟩ := fz
      simp [World.frozen?, h]
      simp at this
      intro h1; exact this h1
    have hs := heap_setCell (o := o + i) h v
    obtain ⟨w', arr', r1, r2, r3, r4, r5, r6, r7⟩ := run_storeRow c o t fz vs (i + 1) (arr.setIfInBounds (o + i) v) (w.setCell ⟨c, o + i, none⟩ v) (by rw [hs]; simp)
      (by simp at hb ⊢; omega) (by
        rcases vs with _ | ⟨x, xs⟩
        · exact .inl rfl
        · refine .inr fun j h1 h2 => hf.resolve_left (by simp) j (by omega) (by simp at h2 ⊢; omega)) (fun x hx => hv x (by simp [hx]))
    refine ⟨w', arr', ?_, r2, fun k hk => by rw [r3 k hk, hs, if_neg hk], by rw [r4]; simp [World.setCell], ?_, by rw [r6]; simp, ?_⟩
    · unfold storeCells
      rw [Sem.run_bind, run_store P w _ v .plain hv0, Addr.add_lit', hu]
      simp only [hfz, Bool.false_eq_true, if_false, Result.andThen_ok]
      exact r1
    · exact ⟨r5.1, r5.2.1, r5.2.2⟩
    · intro j
      rw [r7 j]
      simp only [List.length_cons]
      by_cases h1 : o + (i + 1) ≤ j ∧ j < o + (i + 1) + vs.length
      · rw [if_pos h1, if_pos (by omega), show j - (o + i) = (j - (o + (i + 1))) + 1 by omega, List.getElem?_cons_succ]
      · rw [if_neg h1]
        by_cases h2 : j = o + i
        · subst h2
          rw [if_pos (by omega), Nat.sub_self, List.getElem?_cons_zero, Array.getElem?_setIfInBounds_self]
          simp at hb
          rw [if_pos (by omega)]
        · rw [if_neg (by omega), Array.getElem?_setIfInBounds_ne (by omega)]
end
/-- Cells that are known as far as said. -/
def VOs (π : Pi) (l : List (Option AV)) (vs : List Value) : Prop := l.length = vs.length ∧ ∀ (i : Nat) (v : AV), l[i]? = some (some v) → ∃ cv, vs[i]? = some cv ∧ VR π v cv
theorem VOs.of {π : Pi} {l : List AV} {vs : List Value} (h : VRs π l vs) : VOs π (l.map some) vs :=
  ⟨by simp [h.length], fun i v hv => by simp at hv; exact h.get hv⟩
theorem VOs.append {π : Pi} {l m : List (Option AV)} {vs us : List Value} (h : VOs π l vs) (k : VOs π m us) : VOs π (l ++ m) (vs ++ us) := by
  refine ⟨by simp [h.1, k.1], fun i v hv => ?_⟩
  by_cases hi : i < l.length
  · rw [List.getElem?_append_left hi] at hv
    rw [List.getElem?_append_left (by rw [← h.1]; exact hi)]
    exact h.2 i v hv
  · rw [List.getElem?_append_right (by omega)] at hv
    rw [List.getElem?_append_right (by rw [← h.1]; omega), ← h.1]
    exact k.2 _ v hv
theorem VOs.take {π : Pi} {l : List (Option AV)} {vs : List Value} (h : VOs π l vs) (n : Nat) : VOs π (l.take n) (vs.take n) := by
  refine ⟨by simp [h.1], fun i v hv => ?_⟩
  rw [List.getElem?_take] at hv ⊢
  split at hv
  · rename_i hi; rw [if_pos hi]; exact h.2 i v hv
  · cases hv
theorem lays_get (l : List (Option AV)) : ∀ (j : Nat) (c : T AV) (i : Nat), (lays j l c).get (Pos.of i) = if j ≤ i ∧ i < j + l.length then (l[i - j]?).getD none else c.get (Pos.of i) := by
  induction l with
  | nil => intro j c i; rw [if_neg (by simp only [List.length_nil]; omega)]; rfl
  | cons v l ih =>
    intro j c i
    rw [lays, ih, T.get_putN]
    simp only [List.length_cons]
    by_cases h1 : j + 1 ≤ i ∧ i < j + 1 + l.length
    · rw [if_pos h1, if_pos (by omega), show i - j = (i - (j + 1)) + 1 by omega, List.getElem?_cons_succ]
    · rw [if_neg h1]
      by_cases h2 : i = j
      · subst h2; rw [if_pos rfl, if_pos (by omega), Nat.sub_self, List.getElem?_cons_zero]; rfl
      · rw [if_neg h2, if_neg (by omega)]
theorem allCells_mem : ∀ {l : List (Option AV)}, allCells l = true → ∀ (i : Nat) (v : AV), l[i]? = some (some v) → v.isCell = true
  | [], _, i, v, h => by simp at h
  | some u :: l, ha, i, v, h => by
    simp [allCells] at ha
    cases i with
    | zero => simp at h; subst h; exact ha.1
    | succ i => exact allCells_mem ha.2 i v (by simpa using h)
  | none :: l, ha, i, v, h => by
    simp [allCells] at ha
    cases i with
    | zero => simp at h
    | succ i => exact allCells_mem ha i v (by simpa using h)
theorem kill_get (j : Nat) (l : List Nat) : ∀ (h : Hp) (b : Nat) (x : Blk), (kill j l h).get b = some x → h.get b = some x ∧ (b ∈ l → ∀ c d n e lo hi w s, x = .cells c d n e lo hi w s → n ≤ j) := by
  induction l with
  | nil => intro h b x hx; exact ⟨hx, fun hb => by cases hb⟩
  | cons s l ih =>
    intro h b x hx
    rw [kill] at hx
    obtain ⟨h1, h2⟩ := ih _ b x hx
    have h3 : h.get b = some x ∧ (b = s → ∀ c d n e lo hi w s, x = .cells c d n e lo hi w s → n ≤ j) := by
      split at h1
      · rename_i c d n e lo hi w sb hs
        cases hb : Nat.blt j n with
        | true =>
          rw [hb, cond_true, Hp.get_del] at h1
          split at h1
          · cases h1
          · rename_i hne; exact ⟨h1, fun e => absurd e hne⟩
        | false =>
          rw [hb, cond_false] at h1
          refine ⟨h1, fun e => ?_⟩
          subst e
          rw [hs] at h1; cases h1
          intro c' d' n' e' lo' hi' w' s' heq
          cases heq
          have : ¬ j < n := fun k => by
            have k' : Nat.blt j n = true := by simpa [Nat.blt_eq] using k
            rw [k'] at hb; cases hb
          omega
      · rename_i hno
        refine ⟨h1, fun e => ?_⟩
        subst e
        intro c d n e lo hi w sb heq
        subst heq
        exact absurd h1 (hno _ _ _ _ _ _ _ _)
    refine ⟨h3.1, fun hb => ?_⟩
    cases hb with
    | head => exact h3.2 rfl
    | tail _ hm => exact h2 hm
theorem kill_nx (j : Nat) (l : List Nat) : ∀ (h : Hp), (kill j l h).nx = h.nx := by
  induction l with
  | nil => intro h; rfl
  | cons s l ih =>
    intro h
    rw [kill, ih]
    split
    · rename_i c d n e lo hi w sb hs; cases Nat.blt j n <;> rfl
    · rfl
/-- A row written into a block. -/
theorem stores_sound {B : Nat} {π : Pi} {H H' : Hp} {w : World} {b j c z : Nat} {l : List (Option AV)} {vs : List Value} (P : Program) (hH : HRel π B H w) (hp : π b = some (c, z)) (h : stores H b j l = some H') (hl : VOs π l vs) (hone : ∀ v ∈ vs, v.oneCell' = true) :
    ∃ w', (storeCells ⟨c, j, none⟩ vs).run P w = .ok () w' ∧ Step B π H w π H' w' := by
  cases l with
  | nil =>
    cases h
    have : vs = [] := List.length_eq_zero_iff.1 hl.1.symm
    subst this
    exact ⟨w, rfl, .refl hH⟩
  | cons v0 l0 =>
    generalize hl0 : v0 :: l0 = l at *
    have hlen : 0 < l.length := by rw [← hl0]; simp
    have main : ∀ (d : Option AV) (cells : T AV) (n e lo hi : Nat) (sib : List Nat), H.get b = some (.cells cells d n e lo hi true sib) → (Nat.ble (j + l.length) n && (Nat.ble hi j || Nat.ble (j + l.length) lo || Nat.beq lo hi) && allCells l) = true → (d = none ∨ l.all Option.isSome = true) →
        H' = (kill j sib H).set b (.cells (lays j l cells) d n e lo hi true sib) → ∃ w', (storeCells ⟨c, j, none⟩ vs).run P w = .ok () w' ∧ Step B π H w π H' w' := by
      intro d cells n e lo hi sib hb hc hd hH'
      obtain ⟨c', arr, fz, a1, a2, a3, a4, a5, a6, a7⟩ := hH.cells hb
      rw [hp] at a1; cases a1
      simp only [Bool.and_eq_true, Bool.or_eq_true, Nat.ble_eq, Nat.beq_eq] at hc
      obtain ⟨⟨hc1, hc2⟩, hc3⟩ := hc
      have hvl : vs.length = l.length := hl.1.symm
      obtain ⟨w', arr', r1, r2, r3, r4, r5, r6, r7⟩ := run_storeRow (P := P) c j e fz vs 0 arr w a2 (by omega) (.inr fun k k1 k2 kf => by
        have := (a4 rfl).2 k kf.1 kf.2
        rcases hc2 with (hc2 | hc2) | hc2 <;> omega) hone
      refine ⟨w', r1, ?_⟩
      refine Step.write hH hb rfl hp r2 r3 r4 r5 (Evo.noMap (by simp)) (x' := .cells (lays j l cells) d n e lo hi true sib) ?_ rfl (fun _ => rfl) (by rw [hH', Hp.nx_set, kill_nx]) ?_
      · refine ⟨arr', fz, rfl, r6, a3, a4, ?_, ?_⟩
        · intro k v hk
          obtain ⟨hk1, hk2⟩ := ob_eq (b := Nat.blt k n) hk
          have hk3 : oo ((lays j l cells).get (Pos.of k)) d some = some v := hk2
          rw [lays_get] at hk3
          rw [r7 k, Nat.add_zero, hvl]
          by_cases hin : j ≤ k ∧ k < j + l.length
          · rw [if_pos hin] at hk3 ⊢
            cases hg : l[k - j]? with
            | none => rw [List.getElem?_eq_none_iff] at hg; omega
            | some ov =>
              rw [hg] at hk3
              cases ov with
              | none =>
                rcases hd with hd | hd
                · rw [hd] at hk3; cases hk3
                · have := List.all_eq_true.1 hd none (List.mem_of_getElem? hg); cases this
              | some u =>
                have : u = v := by simpa [oo] using hk3
                subst this
                exact hl.2 _ _ hg
          · rw [if_neg hin] at hk3 ⊢
            refine a5 k v ?_
            show ob (Nat.blt k n) none _ = _
            rw [hk1]; exact hk3
        · intro k cv hk
          rw [r7 k] at hk
          split at hk
          · exact hone cv (List.mem_of_getElem? hk)
          · exact a6 k cv hk
      · intro i y hy
        rw [hH', Hp.get_set] at hy
        split at hy
        · rename_i e; cases hy; exact .inl ⟨e, rfl⟩
        · rename_i hne
          obtain ⟨k1, k2⟩ := kill_get j sib H i y hy
          refine .inr ⟨hne, k1, fun z' hz' => ?_⟩
          obtain ⟨s1, s2⟩ := hH.sep b _ i y c _ z' hb k1 hp hz' (fun e => hne e.symm)
          obtain ⟨s3, s4⟩ := s2 rfl
          obtain ⟨ci, zi, oi, b1, b2, b3, b4⟩ := hH.blk i y k1
          rw [hz'] at b1; cases b1
          rw [a2] at b2; cases b2
          cases y with
          | cells ty dy ny ey loy hiy wy sy =>
            obtain ⟨arr2, fz2, q1, q2, q3, q4, q5, q6⟩ := b3
            cases q1
            have hw : wy = false := s4
            have hny := k2 s3 _ _ _ _ _ _ _ _ rfl
            refine ⟨arr', fz, rfl, by rw [r6]; exact q2, q3, fun e => (by rw [hw] at e; cases e), ?_, ?_⟩
            · intro k v hk
              obtain ⟨hk1, _⟩ := ob_eq (b := Nat.blt k ny) hk
              have : k < ny := by simpa [Nat.blt_eq] using hk1
              rw [r7 k, if_neg (by omega)]
              exact q5 k v hk
            · intro k cv hk
              rw [r7 k] at hk
              split at hk
              · exact hone cv (List.mem_of_getElem? hk)
              · exact q6 k cv hk
          | map => exact absurd s4 (by simp [Blk.wr])
          | loop => exact absurd s4 (by simp [Blk.wr])
          | dfr => exact absurd s4 (by simp [Blk.wr])
          | siter => exact absurd s4 (by simp [Blk.wr])
          | miter => exact absurd s4 (by simp [Blk.wr])
    unfold stores at h
    split at h
    · rw [← hl0] at hlen; simp at hl0
    · split at h
      · rename_i cells n e lo hi sib hb
        cases hc : (Nat.ble (j + l.length) n && (Nat.ble hi j || Nat.ble (j + l.length) lo || Nat.beq lo hi) && allCells l) with
        | true => rw [hc, cond_true] at h; cases h; exact main none cells n e lo hi sib hb hc (.inl rfl) rfl
        | false => rw [hc, cond_false] at h; cases h
      · rename_i cells d n e lo hi sib hb
        cases hc : (Nat.ble (j + l.length) n && (Nat.ble hi j || Nat.ble (j + l.length) lo || Nat.beq lo hi) && allCells l && l.all Option.isSome) with
        | true =>
          rw [hc, cond_true] at h; cases h
          rw [Bool.and_eq_true] at hc
          exact main (some d) cells n e lo hi sib hb hc.1 (.inr hc.2) rfl
        | false => rw [hc, cond_false] at h; cases h
      · cases h
end Go.Proofs.YtmoejaloachlkaaGreatDoor.Ev
