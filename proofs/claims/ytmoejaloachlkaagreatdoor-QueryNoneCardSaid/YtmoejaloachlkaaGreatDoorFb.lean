/- The evaluator's soundness, 8: maps, append, copy. -/
import Derived.Test.YtmoejaloachlkaaGreatDoorFa
namespace Go.Proofs.YtmoejaloachlkaaGreatDoor.Ev
open Go Go.RowKit

/-! ### Equal values -/
theorem beq_and {a b : Bool} (h : (a && b) = true) : a = true ∧ b = true := by simpa using h
theorem AV.beq_eq (x : AV) : ∀ y, AV.beq x y = true → x = y := by
  refine AV.rec (motive_1 := fun x => ∀ y, AV.beq x y = true → x = y) (motive_2 := fun l => ∀ m, AV.beqs l m = true → l = m) ?_ ?_ ?_ ?_ ?_ ?_ ?_ ?_ ?_ ?_ ?_ ?_ ?_ ?_ ?_ ?_ ?_ ?_ ?_ ?_ x
  · intro a y h; cases y <;> first | (simp [AV.beq] at h; done) | (simp [AV.beq] at h; rw [h])
  · intro k n y h
    cases y <;> first | (simp [AV.beq] at h; done) | skip
    rw [AV.beq] at h
    obtain ⟨h1, h2⟩ := beq_and h
    rw [iEq_iff] at h2
    rw [kEq_eq h1, of_decide_eq_true h2]
  · intro n v y h
    cases y <;> first | (simp [AV.beq] at h; done) | skip
    rw [AV.beq] at h
    obtain ⟨h1, h2⟩ := beq_and h
    rw [Nat.eq_of_beq_eq_true h1, Nat.eq_of_beq_eq_true h2]
  · intro n v y h
    cases y <;> first | (simp [AV.beq] at h; done) | skip
    rw [AV.beq] at h
    obtain ⟨h1, h2⟩ := beq_and h
    rw [Nat.eq_of_beq_eq_true h1, Nat.eq_of_beq_eq_true h2]
  · intro y h; cases y <;> first | rfl | (simp [AV.beq] at h; done)
  · intro b o n lo ex s y h
    cases y <;> first | (simp [AV.beq] at h; done) | skip
    rw [AV.beq] at h
    obtain ⟨h, h6⟩ := beq_and h
    obtain ⟨h, h5⟩ := beq_and h
    obtain ⟨h, h4⟩ := beq_and h
    obtain ⟨h, h3⟩ := beq_and h
    obtain ⟨h1, h2⟩ := beq_and h
    rw [Nat.eq_of_beq_eq_true h1, Nat.eq_of_beq_eq_true h2, Nat.eq_of_beq_eq_true h3, Nat.eq_of_beq_eq_true h4, eq_of_beq h5, Nat.eq_of_beq_eq_true h6]
  · intro y h; cases y <;> first | rfl | (simp [AV.beq] at h; done)
  · intro y h; cases y <;> first | rfl | (simp [AV.beq] at h; done)
  · intro n y h
    cases y <;> first | (simp [AV.beq] at h; done) | skip
    rw [AV.beq] at h
    rw [Nat.eq_of_beq_eq_true h]
  · intro y h; cases y <;> first | rfl | (simp [AV.beq] at h; done)
  · intro f a c iha ihc y h
    cases y <;> first | (simp [AV.beq] at h; done) | skip
    rw [AV.beq] at h
    obtain ⟨h, h3⟩ := beq_and h
    obtain ⟨h1, h2⟩ := beq_and h
    rw [Nat.eq_of_beq_eq_true h1, iha _ h2, ihc _ h3]
  · intro y h; cases y <;> first | rfl | (simp [AV.beq] at h; done)
  · intro n y h
    cases y <;> first | (simp [AV.beq] at h; done) | skip
    rw [AV.beq] at h
    rw [Nat.eq_of_beq_eq_true h]
  · intro t v ih y h
    cases y <;> first | (simp [AV.beq] at h; done) | skip
    rw [AV.beq] at h
    obtain ⟨h1, h2⟩ := beq_and h
    rw [Nat.eq_of_beq_eq_true h1, ih _ h2]
  · intro y h; cases y <;> first | rfl | (simp [AV.beq] at h; done)
  · intro y h; cases y <;> first | rfl | (simp [AV.beq] at h; done)
  · intro l ih y h
    cases y <;> first | (simp [AV.beq] at h; done) | skip
    rw [AV.beq] at h
    rw [ih _ h]
  · intro l ih y h
    cases y <;> first | (simp [AV.beq] at h; done) | skip
    rw [AV.beq] at h
    rw [ih _ h]
  · intro m h; cases m <;> first | rfl | (simp [AV.beqs] at h; done)
  · intro a l iha ihl m h
    cases m <;> first | (simp [AV.beqs] at h; done) | skip
    rw [AV.beqs] at h
    obtain ⟨h1, h2⟩ := beq_and h
    rw [iha _ h1, ihl _ h2]

theorem AV.beq_refl (x : AV) : AV.beq x x = true := by
  refine AV.rec (motive_1 := fun x => AV.beq x x = true) (motive_2 := fun l => AV.beqs l l = true) ?_ ?_ ?_ ?_ ?_ ?_ ?_ ?_ ?_ ?_ ?_ ?_ ?_ ?_ ?_ ?_ ?_ ?_ ?_ ?_ x
  all_goals intros
  all_goals first
    | rfl
    | (simp [AV.beq, kEq_refl, iEq_iff]; done)
    | (simp [AV.beqs]; done)
    | (rename_i h; simp [AV.beq, h]; done)
    | (rename_i h h'; simp [AV.beq, h, h']; done)
    | (rename_i h h'; simp [AV.beqs, h, h']; done)
section
variable {P : Program} {B : Nat} {π : Pi} {H H' : Hp} {w : World} {v : AV}
theorem mapKV_eq {t : TypeId} {p : TypeId × TypeId} (h : mapKV P t = some p) : P.underlying t = some (.map p.1 p.2) := by
  unfold mapKV at h
  split at h
  · rename_i k v hu; cases h; exact hu
  · cases h
theorem HRel.map (hH : HRel π B H w) {b : Nat} {es : List (AV × AV)} {c : Nat} (h : H.get b = some (.map es c)) :
    ∃ m z l es', π b = some (m, z) ∧ w.heap[m]? = some (.map l c) ∧ es.Perm es' ∧ ERs π es' l.toList ∧ (l.toList.map (·.born)).Nodup ∧ (∀ e ∈ l.toList, e.born < c) ∧ (∀ e ∈ es, simpleK e.1 = true) ∧ (es.map (·.1)).Nodup := by
  obtain ⟨m, z, o, h1, h2, ⟨l, es', rfl, h4⟩, _⟩ := hH.blk b _ h
  exact ⟨m, z, l, es', h1, h2, h4⟩
theorem run_getObj_map {m c : Nat} {l : Array MapEntry} (h : w.heap[m]? = some (.map l c)) : (getObj m).run P w = .ok (.map l c) w := by simp [getObj, Sem.run, h]
theorem lookup_sound (hH : HRel π B H w) {t : TypeId} {m k : AV} {cm ck : Value} {ok : Bool} (hm : VR π m cm) (hk : VR π k ck) (h : lookupA P t m k ok H = some v) : ∃ cv, (Instr.lookup t cm ck ok).run P w = .ok cv w ∧ VR π v cv := by
  unfold lookupA at h
  split at h
  · rename_i kt vt hkv
    have hu := mapKV_eq hkv
    have main : ∀ (es es0 : List (AV × AV)) (es' : Array MapEntry), es.Perm es0 → ERs π es0 es'.toList → (match findE P H kt k es with
        | some (some v) => some (bif ok then .tup [v, .bool true] else v)
        | some none => match zeroA P vt with
          | some z => some (bif ok then .tup [z, .bool false] else z)
          | none => none
        | none => none) = some v → (Instr.checkKey es'.isEmpty 10000 kt ck).run P w = .ok () w ∧ ((∃ i cu u, (Instr.findKey kt ck es'.toList).run P w = .ok (some (i, cu)) w ∧ VR π u cu ∧ v = (bif ok then .tup [u, .bool true] else u)) ∨
          ((Instr.findKey kt ck es'.toList).run P w = .ok none w ∧ ∃ z cz, (zeroValue vt).run P w = .ok cz w ∧ VR π z cz ∧ v = (bif ok then .tup [z, .bool false] else z))) := by
      intro es es0 es' hp hE h
      cases hf : findE P H kt k es with
      | none => rw [hf] at h; cases h
      | some r =>
        rw [hf] at h
        obtain ⟨h1, r', h2, h3⟩ := findE_sound (P := P) hH hk hp hE hf es'.isEmpty
        refine ⟨h1, ?_⟩
        cases r with
        | none =>
          cases r' with
          | some p => exact h3.elim
          | none =>
            simp only at h
            cases hz : zeroA P vt with
            | none => rw [hz] at h; cases h
            | some z =>
              rw [hz] at h; cases h
              obtain ⟨cz, z1, z2⟩ := zeroA_run (P := P) (w := w) (π := π) hz
              exact .inr ⟨h2, z, cz, z1, z2, rfl⟩
        | some u =>
          cases r' with
          | none => exact h3.elim
          | some p =>
            obtain ⟨j, cu⟩ := p
            cases h
            exact .inl ⟨j, cu, u, h2, h3.1, rfl⟩
    have fin : ∀ {u : AV} {cu : Value} {b : Bool}, VR π u cu → VR π (bif ok then .tup [u, .bool b] else u) (if ok = true then .tuple #[cu, .bool b] else cu) := by
      intro u cu b hu
      cases ok with
      | true => exact .tup _ _ (.cons _ _ _ _ hu (.cons _ _ _ _ (.bool _) .nil))
      | false => exact hu
    unfold Instr.lookup
    rw [Sem.run_bind, run_underlying hu, Result.andThen_ok]
    cases hm with
    | nilm =>
      simp only at h
      obtain ⟨a, b⟩ := main [] [] #[] (.refl _) .nil h
      rcases b with ⟨i, cu, u, b1, b2, rfl⟩ | ⟨b1, z, cz, b2, b3, rfl⟩
      · exact ⟨_, by simp only [Sem.run_bind, Sem.run_pure, Result.andThen_ok, a, b1], fin b2⟩
      · exact ⟨_, by simp only [Sem.run_bind, Sem.run_pure, Result.andThen_ok, a, b1, b2], fin b3⟩
    | map b m z hp =>
      simp only at h
      cases hb : H.get b with
      | none => rw [hb] at h; cases h
      | some x =>
        rw [hb] at h
        cases x with
        | map es c =>
          obtain ⟨m', z', l, es0, a1, a2, a0, a3, _⟩ := hH.map hb
          rw [hp] at a1; cases a1
          obtain ⟨a, b⟩ := main es es0 l a0 a3 h
          rcases b with ⟨i, cu, u, b1, b2, rfl⟩ | ⟨b1, z, cz, b2, b3, rfl⟩
          · exact ⟨_, by simp only [Sem.run_bind, Sem.run_pure, Result.andThen_ok, run_getObj_map a2, a, b1], fin b2⟩
          · exact ⟨_, by simp only [Sem.run_bind, Sem.run_pure, Result.andThen_ok, run_getObj_map a2, a, b1, b2], fin b3⟩
        | _ => cases h
    | _ => cases h
  · cases h
/-! ### Maps are written -/
theorem eqF_refl {eq : TypeId → AV → AV → Option Bool} (he : ∀ t x b, eq t x x = some b → b = true) (P : Program) (xs : List AV) : ∀ (fs : List Field) (b : Bool), eqF eq P xs xs fs = some b → b = true
  | [], b, h => by cases h; rfl
  | f :: fs, b, h => by
    unfold eqF at h
    cases hn : f.name == "_" with
    | true => rw [hn, cond_true] at h; exact eqF_refl he P xs fs b h
    | false =>
      rw [hn, cond_false] at h
      split at h
      · rename_i x y h1 h2
        rw [h1] at h2; cases h2
        rcases andO_some' h with ⟨a, rfl⟩ | ⟨a, c⟩
        · exact he _ _ _ a
        · exact eqF_refl he P xs fs b c
      · cases h
where
  andO_some' {a : Option Bool} {b : Unit → Option Bool} {r : Bool} (h : andO a b = some r) : (a = some r ∧ r = false) ∨ (a = some true ∧ b () = some r) := by
    unfold andO at h
    split at h
    · exact .inr ⟨rfl, h⟩
    · rename_i hne
      cases a with
      | none => cases h
      | some x => cases x with
        | true => exact absurd rfl hne
        | false => cases h; exact .inl ⟨rfl, rfl⟩
theorem eqA_refl : ∀ (d : Nat) (t : TypeId) (x : AV) (b : Bool), eqA P H d t x x = some b → b = true
  | 0, t, x, b, h => by unfold eqA at h; cases h
  | d + 1, t, x, b, h => by
    have ih := eqA_refl d
    have hr : ∀ n, Nat.beq n n = true := fun n => by simp
    cases x <;> unfold eqA at h <;> split at h <;> first | (cases h; done) | skip
    all_goals rename_i heq hx
    all_goals first
      | (cases heq; done)
      | (cases hx; done)
      | (cases heq; cases hx; cases h; rfl)
      | (cases heq; cases hx; cases h; simp; done)
      | (cases heq; cases hx; rw [kEq_refl, cond_true] at h; cases h; rw [iEq_iff]; simp; done)
      | (cases heq; cases hx
         split at h
         · rw [hr, cond_true] at h; cases h; exact hr _
         · cases h)
      | (cases heq; cases hx
         rw [hr, cond_true] at h
         split at h
         · rename_i inf hi
           cases hc : inf.comparable with
           | false => rw [hc] at h; cases h
           | true => rw [hc] at h; exact ih _ _ _ h
         · cases h)
      | (cases heq; cases hx
         cases hc : P.stoodInHeld t with
         | false => rw [hc] at h; exact eqF_refl ih P _ _ _ h
         | true => rw [hc] at h; cases h)
/-! #### Another value -/
theorem setK_split {k v : AV} : ∀ {es es1 : List (AV × AV)}, setK k v es = some es1 → ∃ pre v0 post, es = pre ++ (k, v0) :: post ∧ es1 = pre ++ (k, v) :: post
  | [], _, h => by cases h
  | (k0, v0) :: es, es1, h => by
    unfold setK at h
    cases hb : AV.beq k k0 with
    | true =>
      rw [hb, cond_true] at h; cases h
      have := AV.beq_eq k k0 hb
      subst this
      exact ⟨[], v0, es, rfl, rfl⟩
    | false =>
      rw [hb, cond_false] at h
      simp only [Option.map_eq_some_iff] at h
      obtain ⟨es2, h1, rfl⟩ := h
      obtain ⟨pre, v1, post, rfl, rfl⟩ := setK_split h1
      exact ⟨(k0, v0) :: pre, v1, post, rfl, rfl⟩
theorem dropK_split {k : AV} : ∀ {es es1 : List (AV × AV)}, dropK k es = some es1 → ∃ pre v0 post, es = pre ++ (k, v0) :: post ∧ es1 = pre ++ post
  | [], _, h => by cases h
  | (k0, v0) :: es, es1, h => by
    unfold dropK at h
    cases hb : AV.beq k k0 with
    | true =>
      rw [hb, cond_true] at h; cases h
      have := AV.beq_eq k k0 hb
      subst this
      exact ⟨[], v0, es, rfl, rfl⟩
    | false =>
      rw [hb, cond_false] at h
      simp only [Option.map_eq_some_iff] at h
      obtain ⟨es2, h1, rfl⟩ := h
      obtain ⟨pre, v1, post, rfl, rfl⟩ := dropK_split h1
      exact ⟨(k0, v0) :: pre, v1, post, rfl, rfl⟩
/-- The entry that was found is the key's own. -/
theorem found_own {kt : TypeId} {k k1 v : AV} {pre post pre0 post0 : List (AV × AV)} {v0 : AV} (hp : (pre0 ++ (k, v0) :: post0).Perm (pre ++ (k1, v) :: post)) (h1 : eqA P H 20 kt k k1 = some true) (h2 : ∀ e ∈ pre ++ post, eqA P H 20 kt k e.1 = some false) : k1 = k ∧ v = v0 ∧ (pre0 ++ post0).Perm (pre ++ post) := by
  have hm : (k, v0) ∈ pre ++ (k1, v) :: post := hp.mem_iff.1 (by simp)
  have hk : (k, v0) = (k1, v) := by
    rcases List.mem_append.1 hm with h | h
    · have := eqA_refl _ _ _ _ (h2 (k, v0) (by simp [h])); cases this
    · rcases List.mem_cons.1 h with h | h
      · exact h
      · have := eqA_refl _ _ _ _ (h2 (k, v0) (by simp [h])); cases this
  cases hk
  refine ⟨rfl, rfl, ?_⟩
  exact ((List.perm_middle.symm.trans hp).trans List.perm_middle).cons_inv
theorem ERs.append {a b : List (AV × AV)} {a' b' : List MapEntry} (h : ERs π a a') (k : ERs π b b') : ERs π (a ++ b) (a' ++ b') := by
  induction h with
  | nil => exact k
  | cons _ _ _ _ _ _ _ hk hv _ ih => exact .cons _ _ _ _ _ _ _ hk hv ih
theorem ERs.length {a : List (AV × AV)} {a' : List MapEntry} (h : ERs π a a') : a.length = a'.length := by
  induction h with
  | nil => rfl
  | cons _ _ _ _ _ _ _ _ _ _ ih => simp [ih]
theorem ERs.split {pre post : List (AV × AV)} {k v : AV} : ∀ {l : List MapEntry}, ERs π (pre ++ (k, v) :: post) l → ∃ lp e lq, l = lp ++ e :: lq ∧ lp.length = pre.length ∧ ERs π pre lp ∧ VR π k e.key ∧ VR π v e.val ∧ ERs π post lq := by
  induction pre with
  | nil =>
    intro l h
    cases h with
    | cons _ _ b k' v' _ l' hk hv h' => exact ⟨[], _, l', rfl, rfl, .nil, hk, hv, h'⟩
  | cons p pre ih =>
    intro l h
    cases h with
    | cons _ _ b k' v' _ l' hk hv h' =>
      obtain ⟨lp, e, lq, rfl, h1, h2, h3, h4, h5⟩ := ih h'
      exact ⟨_ :: lp, e, lq, rfl, by simp [h1], .cons _ _ _ _ _ _ _ hk hv h2, h3, h4, h5⟩
theorem keyStays_run (old new : Value) : ∃ k' w1, (Instr.keyThatStays old new).run P w = .ok k' w1 ∧ (k' = old ∨ k' = new) ∧ w1.heap = w.heap ∧ (w1.os = w.os ∧ w1.tape = w.tape ∧ w1.output = w.output) := by
  unfold Instr.keyThatStays
  split
  · exact ⟨new, w, rfl, .inr rfl, rfl, rfl, rfl, rfl⟩
  · simp only [Sem.run_bind, choose, Sem.run, Question.forced]
    simp only [Nat.reduceEqDiff, decide_false, Bool.false_eq_true, if_false, Result.andThen_ok, Sem.run_pure]
    split
    · exact ⟨new, _, rfl, .inr rfl, rfl, rfl, rfl, rfl⟩
    · exact ⟨old, _, rfl, .inl rfl, rfl, rfl, rfl, rfl⟩
/-- A map is written. -/
theorem mapSet_step (hH : HRel π B H w) {b : Nat} {es es1 : List (AV × AV)} {c c1 m z : Nat} {l l1 : Array MapEntry} (hb : H.get b = some (.map es c)) (hp : π b = some (m, z)) (hw : w.heap[m]? = some (.map l c)) (hE : ∀ w', BR π w' (.map es1 c1) z (.map l1 c1)) (hev : Evo (some (.map l c)) (some (.map l1 c1))) :
    (setObj m (.map l1 c1)).run P w = .ok () { w with heap := w.heap.setIfInBounds m (.map l1 c1) } ∧ Step B π H w π (H.set b (.map es1 c1)) { w with heap := w.heap.setIfInBounds m (.map l1 c1) } := by
  have hlt : m < w.heap.size := by
    rcases Nat.lt_or_ge m w.heap.size with h | h
    · exact h
    · simp [Array.getElem?_eq_none h] at hw
  refine ⟨by simp [setObj, Sem.run, hw], ?_⟩
  refine Step.write (x := .map es c) (x' := .map es1 c1) (o' := .map l1 c1) hH hb rfl hp ?_ ?_ (by simp) ⟨rfl, rfl, rfl⟩ (by rw [hw]; exact hev) (hE _) rfl (fun _ => rfl) rfl ?_
  · simp [hlt]
  · intro k hk
    rw [Array.getElem?_setIfInBounds_ne (fun e => hk e.symm)]
  · intro i y hy
    rw [Hp.get_set] at hy
    split at hy
    · rename_i e; cases hy; exact .inl ⟨e, rfl⟩
    · rename_i hne
      refine .inr ⟨hne, hy, fun z' hz' => ?_⟩
      have := (hH.sep b _ i y m z z' hb hy hp hz' (fun e => hne e.symm)).1
      cases this
theorem mapUpd_sound (hH : HRel π B H w) {t : TypeId} {m k v : AV} {cm ck cv : Value} (hm : VR π m cm) (hk : VR π k ck) (hv : VR π v cv) (h : mapUpd P t m k v H = some H') : ∃ w', (Instr.mapUpdate t cm ck cv).run P w = .ok () w' ∧ Step B π H w π H' w' := by
  unfold mapUpd at h
  split at h
  · rename_i kt vt b hkv
    have hu := mapKV_eq hkv
    split at h
    · rename_i es c hb
      obtain ⟨mm, z, l, es', a1, a2, a3, a4, a5, a6, a7, a8⟩ := hH.map hb
      cases hm with
      | map _ m' z' hp =>
        rw [hp] at a1; cases a1
        unfold Instr.mapUpdate
        rw [Sem.run_bind, run_underlying hu, Result.andThen_ok]
        simp only [Sem.run_bind, run_getObj_map a2, Result.andThen_ok]
        cases hf : findE P H kt k es with
        | none => rw [hf] at h; cases h
        | some r =>
          rw [hf] at h
          obtain ⟨h1, r', h2, h3⟩ := findE_sound (P := P) hH hk a3 a4 hf false
          simp only [Sem.run_bind, h1, Result.andThen_ok, h2]
          cases r with
          | none =>
            cases r' with
            | some p => exact h3.elim
            | none =>
              simp only at h
              cases hs : simpleK k with
              | false => rw [hs] at h; cases h
              | true =>
                rw [hs, cond_true, fN_eq] at h
                cases h
                have hE : ∀ w', BR π w' (.map ((k, v) :: es) (c + 1)) z (.map (l.push { key := ck, val := cv, born := c }) (c + 1)) := by
                  intro w'
                  refine ⟨_, es' ++ [(k, v)], rfl, (a3.cons _).trans (List.perm_append_singleton _ _).symm, ?_, ?_, ?_, ?_, ?_⟩
                  · rw [Array.toList_push]; exact a4.append (.cons _ _ _ _ _ _ _ hk hv .nil)
                  · rw [Array.toList_push, List.map_append, List.nodup_append]
                    refine ⟨a5, by simp, ?_⟩
                    intro x hx y hy
                    obtain ⟨e, he, rfl⟩ := List.mem_map.1 hx
                    have := a6 e he
                    simp at hy
                    omega
                  · intro e he
                    rw [Array.toList_push] at he
                    rcases List.mem_append.1 he with he | he
                    · have := a6 e he; omega
                    · simp at he; subst he; simp
                  · intro e he
                    rcases List.mem_cons.1 he with rfl | he
                    · exact hs
                    · exact a7 e he
                  · rw [List.map_cons, List.nodup_cons]
                    refine ⟨fun hm => ?_, a8⟩
                    obtain ⟨e, he, hek⟩ := List.mem_map.1 hm
                    have h2 := (ob_eq hf).2
                    have := findK_none h2 e he
                    rw [hek] at this
                    cases eqA_refl _ _ _ _ this
                have hV : Evo (some (.map l c)) (some (.map (l.push { key := ck, val := cv, born := c }) (c + 1))) := by
                  intro l' k' e
                  cases e
                  exact ⟨l, c, rfl, by omega, fun e => by omega⟩
                obtain ⟨k1, k2⟩ := mapSet_step (P := P) hH hb hp a2 hE hV
                exact ⟨_, k1, k2⟩
          | some v1 =>
            cases r' with
            | none => exact h3.elim
            | some p =>
              obtain ⟨j, cu⟩ := p
              obtain ⟨_, pre, k1, post, rfl, rfl, f1, f2⟩ := h3
              simp only [Option.map_eq_some_iff] at h
              obtain ⟨es1, s1, rfl⟩ := h
              obtain ⟨pre0, v0, post0, rfl, rfl⟩ := setK_split s1
              obtain ⟨rfl, rfl, hperm⟩ := found_own a3 f1 f2
              obtain ⟨lp, e, lq, hl, q1, q2, q3, q4, q5⟩ := a4.split
              obtain ⟨key', w1, g1, g2, g3, g4⟩ := keyStays_run (P := P) (w := w) (((l[0 + pre.length]?).map (·.key)).getD ck) ck
              have hge : l[0 + pre.length]? = some e := by
                rw [Nat.zero_add, ← Array.getElem?_toList, hl, ← q1]; simp
              have hkey : VR π k1 key' := by
                rcases g2 with rfl | rfl
                · rw [hge]; exact q3
                · exact hk
              have hmod : (l.modify (0 + pre.length) fun x => { x with key := key', val := cv }).toList = lp ++ { e with key := key', val := cv } :: lq := by
                rw [Nat.zero_add, Array.toList_modify, hl, ← q1]
                have : ∀ (lp : List MapEntry) (f : MapEntry → MapEntry), (lp ++ e :: lq).modify lp.length f = lp ++ f e :: lq := by
                  intro lp f
                  induction lp with
                  | nil => rfl
                  | cons x lp ih => show x :: (lp ++ e :: lq).modify lp.length f = _; rw [ih]; rfl
                exact this lp _
              have hH1 := hH.same g3
              have hE : ∀ w', BR π w' (.map (pre0 ++ (k1, v) :: post0) c) z (.map (l.modify (0 + pre.length) fun x => { x with key := key', val := cv }) c) := by
                intro w'
                refine ⟨_, pre ++ (k1, v) :: post, rfl, (List.perm_middle.trans (hperm.cons _)).trans List.perm_middle.symm, ?_, ?_, ?_, ?_, by simpa using a8⟩
                · rw [hmod]; exact q2.append (.cons _ _ _ _ _ _ _ hkey hv q5)
                · rw [hmod]
                  rw [hl] at a5
                  simpa using a5
                · intro x hx
                  rw [hmod] at hx
                  rcases List.mem_append.1 hx with hx | hx
                  · exact a6 x (by rw [hl]; simp [hx])
                  · rcases List.mem_cons.1 hx with rfl | hx
                    · exact a6 e (by rw [hl]; simp)
                    · exact a6 x (by rw [hl]; simp [hx])
                · intro x hx
                  rcases List.mem_append.1 hx with hx | hx
                  · exact a7 x (by simp [hx])
                  · rcases List.mem_cons.1 hx with rfl | hx
                    · exact a7 (k1, v1) (by simp)
                    · exact a7 x (by simp [hx])
              have hV : Evo (some (.map l c)) (some (.map (l.modify (0 + pre.length) fun x => { x with key := key', val := cv }) c)) := by
                intro l' k' ee
                cases ee
                refine ⟨l, c, rfl, Nat.le_refl _, fun _ x hx => ?_⟩
                rw [hmod] at hx
                rcases List.mem_append.1 hx with hx | hx
                · exact ⟨x, by rw [hl]; simp [hx], rfl, fun _ _ => Iff.rfl⟩
                · rcases List.mem_cons.1 hx with rfl | hx
                  · refine ⟨e, by rw [hl]; simp, rfl, fun kk hkk => ?_⟩
                    have hs1 := a7 (k1, v1) (by simp)
                    show SV kk key' ↔ SV kk e.key
                    constructor
                    · intro hsv
                      have := simple_inj hkk hs1 (hsv.vr (π := π)) hkey
                      subst this
                      exact simple_SV hs1 q3
                    · intro hsv
                      have := simple_inj hkk hs1 (hsv.vr (π := π)) q3
                      subst this
                      exact simple_SV hs1 hkey
                  · exact ⟨x, by rw [hl]; simp [hx], rfl, fun _ _ => Iff.rfl⟩
              obtain ⟨r1, r2⟩ := mapSet_step (P := P) (w := w1) hH1 hb hp (by rw [g3]; exact a2) hE hV
              refine ⟨_, ?_, Step.trans hH (Step.same hH g3 g4) r2⟩
              show Sem.run P (do
                let key ← Instr.keyThatStays (((l[0 + pre.length]?).map (·.key)).getD ck) ck
                setObj mm (.map (l.modify (0 + pre.length) fun e => { e with key, val := cv }) c)) w = _
              rw [Sem.run_bind, g1, Result.andThen_ok]
              exact r1
    · cases h
  · cases h
theorem BR_map {π : Pi} {es es' : List (AV × AV)} {c z : Nat} {l : Array MapEntry} (h1 : es.Perm es') (h2 : ERs π es' l.toList) (h3 : (l.toList.map (·.born)).Nodup) (h4 : ∀ e ∈ l.toList, e.born < c) (h5 : ∀ e ∈ es, simpleK e.1 = true) (h6 : (es.map (·.1)).Nodup) (w : World) : BR π w (.map es c) z (.map l c) :=
  ⟨l, es', rfl, h1, h2, h3, h4, h5, h6⟩
theorem Evo.sub {l l1 : Array MapEntry} {c : Nat} (h : ∀ e ∈ l1.toList, e ∈ l.toList) : Evo (some (.map l c)) (some (.map l1 c)) := by
  intro l' k' e
  cases e
  exact ⟨l, c, rfl, Nat.le_refl _, fun _ x hx => ⟨x, h x hx, rfl, fun _ _ => Iff.rfl⟩⟩
theorem run_setObj_map {m c c1 : Nat} {l l1 : Array MapEntry} (hw : w.heap[m]? = some (.map l c)) : (setObj m (.map l1 c1)).run P w = .ok () { w with heap := w.heap.setIfInBounds m (.map l1 c1) } := by simp [setObj, Sem.run, hw]
theorem setIfInBounds_self {m : Nat} {o : Obj} (hw : w.heap[m]? = some o) : ({ w with heap := w.heap.setIfInBounds m o } : World) = w := by
  have : w.heap.setIfInBounds m o = w.heap := by
    apply Array.ext
    · simp
    · intro i h1 h2
      rw [Array.getElem_setIfInBounds]
      split
      · rename_i e; subst e
        rw [Array.getElem?_eq_getElem h2] at hw
        simpa using hw.symm
      · rfl
  rw [this]
theorem mapDel_sound (hH : HRel π B H w) {t u : TypeId} {ts : Array TypeId} {m k : AV} {cm ck : Value} (ht : ts[0]? = some t) (hm : VR π m cm) (hk : VR π k ck) (h : mapDel P t m k H = some H') : ∃ w', (Builtin.delete_ ts u #[cm, ck]).run P w = .ok (.tuple #[]) w' ∧ Step B π H w π H' w' := by
  unfold mapDel at h
  unfold Builtin.delete_
  simp only [ht, List.getElem?_toArray, List.getElem?_cons_zero, List.getElem?_cons_succ]
  split at h
  · rename_i kt vt hkv
    have hu := mapKV_eq hkv
    cases hm with
    | nilm =>
      obtain ⟨hb, rfl⟩ := cond_some h
      refine ⟨w, ?_, .refl hH⟩
      rw [Sem.run_bind, run_underlying hu, Result.andThen_ok]
      simp only [Sem.run_bind, keyOk_sound 5 10000 kt k ck true (by omega) hk hb, Result.andThen_ok, Sem.run_pure]
  · rename_i kt vt b hkv
    have hu := mapKV_eq hkv
    split at h
    · rename_i es c hb
      obtain ⟨mm, z, l, es', a1, a2, a3, a4, a5, a6, a7, a8⟩ := hH.map hb
      cases hm with
      | map _ m' z' hp =>
        rw [hp] at a1; cases a1
        rw [Sem.run_bind, run_underlying hu, Result.andThen_ok]
        simp only [Sem.run_bind, run_getObj_map a2, Result.andThen_ok]
        cases hf : findE P H kt k es with
        | none => rw [hf] at h; cases h
        | some r =>
          rw [hf] at h
          obtain ⟨h1, r', h2, h3⟩ := findE_sound (P := P) hH hk a3 a4 hf l.isEmpty
          simp only [Sem.run_bind, h1, Result.andThen_ok, h2]
          cases r with
          | none =>
            cases r' with
            | some p => exact h3.elim
            | none =>
              cases h
              refine ⟨w, ?_, .refl hH⟩
              simp only [Sem.run_bind, run_setObj_map a2, Result.andThen_ok, Sem.run_pure]
              rw [setIfInBounds_self a2]
          | some v1 =>
            cases r' with
            | none => exact h3.elim
            | some p =>
              obtain ⟨j, cu⟩ := p
              obtain ⟨_, pre, k1, post, rfl, rfl, f1, f2⟩ := h3
              simp only [Option.map_eq_some_iff] at h
              obtain ⟨es1, s1, rfl⟩ := h
              obtain ⟨pre0, v0, post0, rfl, rfl⟩ := dropK_split s1
              obtain ⟨rfl, rfl, hperm⟩ := found_own a3 f1 f2
              obtain ⟨lp, e, lq, hl, q1, q2, q3, q4, q5⟩ := a4.split
              have her : (l.eraseIdxIfInBounds (0 + pre.length)).toList = lp ++ lq := by
                rw [Nat.zero_add]
                unfold Array.eraseIdxIfInBounds
                split
                · rw [Array.toList_eraseIdx, hl, ← q1]
                  rw [List.eraseIdx_append_of_length_le (Nat.le_refl _)]
                  simp
                · rename_i hn
                  exfalso
                  apply hn
                  rw [← Array.length_toList, hl, List.length_append, List.length_cons]
                  omega
              have hsub : ∀ x ∈ lp ++ lq, x ∈ l.toList := fun x hx => by
                rw [hl]
                rcases List.mem_append.1 hx with hx | hx <;> simp [hx]
              have hE : ∀ w', BR π w' (.map (pre0 ++ post0) c) z (.map (l.eraseIdxIfInBounds (0 + pre.length)) c) := by
                refine BR_map hperm ?_ ?_ ?_ ?_ ?_
                · rw [her]; exact q2.append q5
                · rw [her]
                  rw [hl, List.map_append, List.map_cons] at a5
                  rw [List.map_append]
                  exact (List.nodup_cons.1 (List.perm_middle.nodup_iff.1 a5)).2
                · intro x hx
                  rw [her] at hx
                  exact a6 x (hsub x hx)
                · intro x hx
                  rcases List.mem_append.1 hx with hx | hx
                  · exact a7 x (by simp [hx])
                  · exact a7 x (by simp [hx])
                · rw [List.map_append, List.map_cons] at a8
                  rw [List.map_append]
                  exact (List.nodup_cons.1 (List.perm_middle.nodup_iff.1 a8)).2
              have hV : Evo (some (.map l c)) (some (.map (l.eraseIdxIfInBounds (0 + pre.length)) c)) := Evo.sub fun x hx => by rw [her] at hx; exact hsub x hx
              obtain ⟨r1, r2⟩ := mapSet_step (P := P) hH hb hp a2 hE hV
              refine ⟨_, ?_, r2⟩
              simp only [Sem.run_bind, r1, Result.andThen_ok, Sem.run_pure]
    · cases h
  · cases h
/-! ### Walks over maps -/
theorem objSet_step (hH : HRel π B H w) {b : Nat} {x x' : Blk} {m z : Nat} {o o' : Obj} (hb : H.get b = some x) (hx : x.isC = false) (hx' : x'.isC = false) (hp : π b = some (m, z)) (hw : w.heap[m]? = some o) (ho : ∀ a t f, o ≠ .cells a t f) (hev : Evo (some o) (some o')) (hR : BR π { w with heap := w.heap.setIfInBounds m o' } x' z o') :
    (setObj m o').run P w = .ok () { w with heap := w.heap.setIfInBounds m o' } ∧ Step B π H w π (H.set b x') { w with heap := w.heap.setIfInBounds m o' } := by
  have hlt : m < w.heap.size := by
    rcases Nat.lt_or_ge m w.heap.size with h | h
    · exact h
    · simp [Array.getElem?_eq_none h] at hw
  have wr : ∀ y : Blk, y.isC = false → y.wr = true := by intro y hy; cases y <;> first | rfl | cases hy
  have sb : ∀ y : Blk, y.isC = false → y.sib = [] := by intro y hy; cases y <;> first | rfl | cases hy
  refine ⟨?_, ?_⟩
  · unfold setObj
    simp only [Sem.run, hw]
  refine Step.write (x := x) (x' := x') hH hb (wr x hx) hp ?_ ?_ (by simp) ⟨rfl, rfl, rfl⟩ (by rw [hw]; exact hev) hR (by rw [hx, hx']) (fun _ => by rw [sb x hx, sb x' hx']) rfl ?_
  · simp [hlt]
  · intro k hk
    rw [Array.getElem?_setIfInBounds_ne (fun e => hk e.symm)]
  · intro i y hy
    rw [Hp.get_set] at hy
    split at hy
    · rename_i e; cases hy; exact .inl ⟨e, rfl⟩
    · rename_i hne
      refine .inr ⟨hne, hy, fun z' hz' => ?_⟩
      have := (hH.sep b _ i y m z z' hb hy hp hz' (fun e => hne e.symm)).1
      rw [hx] at this; cases this
theorem run_getObj {m : Nat} {o : Obj} (h : w.heap[m]? = some o) (ho : ∀ a t f, o ≠ .cells a t f) : (getObj m).run P w = .ok o w := by
  unfold getObj
  simp only [Sem.run, h]
end
end Go.Proofs.YtmoejaloachlkaaGreatDoor.Ev
