/- The evaluator's soundness, 7: equality, maps. -/
import Derived.Test.YtmoejaloachlkaaGreatDoorEz
namespace Go.Proofs.YtmoejaloachlkaaGreatDoor.Ev
open Go Go.RowKit

section
variable {P : Program} {B : Nat} {π : Pi} {H H' : Hp} {w : World} {v : AV}
theorem eqF_sound {D : Nat} {eq : TypeId → AV → AV → Option Bool} (he : ∀ t x y r cx cy, VR π x cx → VR π y cy → eq t x y = some r → (Op.equalIn D t cx cy).run P w = .ok r w) {xs ys : List AV} {cxs cys : Array Value} (hx : VRs π xs cxs.toList) (hy : VRs π ys cys.toList) :
    ∀ {fs : List Field} {r : Bool}, eqF eq P xs ys fs = some r → (Op.eqFields D cxs cys fs).run P w = .ok r w
  | [], r, h => by cases h; rfl
  | f :: fs, r, h => by
    unfold eqF at h
    unfold Op.eqFields
    cases hn : f.name == "_" with
    | true =>
      rw [hn, cond_true] at h
      have : f.name = "_" := by simpa using hn
      rw [if_neg (by simp [this])]
      exact eqF_sound he hx hy h
    | false =>
      rw [hn, cond_false] at h
      have : f.name ≠ "_" := by simpa using hn
      rw [if_pos this]
      cases h1 : partA P f.type xs f.offset with
      | none => rw [h1] at h; cases h
      | some x =>
        cases h2 : partA P f.type ys f.offset with
        | none => rw [h1, h2] at h; cases h
        | some y =>
          rw [h1, h2] at h
          obtain ⟨cx, a1, a2⟩ := partA_sound (P := P) (w := w) hx h1
          obtain ⟨cy, b1, b2⟩ := partA_sound (P := P) (w := w) hy h2
          simp only at h
          cases h3 : eq f.type x y with
          | none => rw [h3] at h; cases h
          | some q =>
            rw [h3] at h
            have h4 := he _ _ _ _ _ _ a2 b2 h3
            simp only [Sem.run_bind, a1, Result.andThen_ok, b1, h4]
            cases q with
            | true =>
              simp only [Bool.not_true, Bool.false_eq_true, if_false]
              exact eqF_sound he hx hy h
            | false => cases h; rfl
theorem wr_fz {b c z : Nat} (hH : HRel π B H w) {t : T AV} {d : Option AV} {n e lo hi : Nat} {s : List Nat} (hx : H.get b = some (.cells t d n e lo hi true s)) (hp : π b = some (c, z)) (hl : hi = lo) (hn : 0 < n) :
    (∀ o, w.frozen? ⟨c, o, none⟩ = false) ∧ ∃ arr, w.shape? c = some (e, arr) ∧ 0 < arr := by
  obtain ⟨c', arr, fz, h1, h2, h3, h4, _⟩ := hH.cells hx
  rw [hp] at h1; cases h1
  refine ⟨fun o => ?_, arr.size, by simp [World.shape?, h2], by omega⟩
  obtain ⟨f1, f2⟩ := fz
  simp [World.frozen?, h2]
  intro hf
  rcases Nat.lt_or_ge o f2 with hk | hk
  · have := (h4 rfl).2 o hf hk; omega
  · exact hk
set_option maxHeartbeats 1000000 in
theorem eqA_sound : ∀ (d D : Nat) (t : TypeId) (x y : AV) (r : Bool) (cx cy : Value), d ≤ D → HRel π B H w → VR π x cx → VR π y cy → eqA P H d t x y = some r → (Op.equalIn D t cx cy).run P w = .ok r w := by
  intro d
  induction d with
  | zero => intro D t x y r cx cy _ _ _ _ h; cases h
  | succ d ih =>
    intro D t x y r cx cy hD hH hx hy h
    obtain ⟨D, rfl⟩ : ∃ k, D = k + 1 := ⟨D - 1, by omega⟩
    unfold eqA at h
    split at h
    · rename_i a b hu; cases h; cases hx; cases hy; exact run_equalIn_bool w D t a b hu
    · rename_i q j a k b hu
      cases hk : kEq j k with
      | false => rw [hk] at h; cases h
      | true => rw [hk, cond_true] at h; cases h; cases hx; cases hy
                have := kEq_eq hk; subst this
                rw [run_equalIn_int w D t _ _ _ _ hu, iEq_iff]; rfl
    · rename_i n v' m u hu; cases h; cases hx; cases hy
      rw [run_equalIn_string w D t _ _ hu, natOf_eq_iff]
    · rename_i e hu; cases h; cases hx; cases hy
      rw [Op.equalIn, Sem.run_bind, run_underlying hu]; rfl
    · rename_i e b o hu; cases h; cases hx; cases hy
      rw [Op.equalIn, Sem.run_bind, run_underlying hu]; rfl
    · rename_i e b o hu; cases h; cases hx; cases hy
      rw [Op.equalIn, Sem.run_bind, run_underlying hu]; rfl
    · rename_i e a i b j hu
      split at h
      · rename_i g s hs
        cases hx with
        | ptr _ _ c z hp =>
          cases hy with
          | ptr _ _ c' z' hp' =>
            have hsz := tAgg_size (w := w) hs
            cases hab : Nat.beq a b with
            | true =>
              rw [hab, cond_true] at h; cases h
              have := Nat.eq_of_beq_eq_true hab; subst this
              rw [hp] at hp'; cases hp'
              unfold Op.equalIn
              simp only [Sem.run_bind, run_underlying hu, Result.andThen_ok, hsz]
              rw [if_pos (by simp)]
              unfold sameAddr
              simp only [beq_self_eq_true, if_true, Sem.run_pure]
              congr 1
              rw [Bool.eq_iff_iff]; simp [Nat.beq_eq]
            | false =>
              rw [hab, cond_false] at h
              split at h
              · rename_i t1 d1 n1 e1 lo1 hi1 s1 t2 d2 n2 e2 lo2 hi2 s2 g1 g2
                cases hc : (Nat.beq hi1 lo1 && Nat.beq hi2 lo2 && Nat.blt 0 n1 && Nat.blt 0 n2) with
                | false => rw [hc] at h; cases h
                | true =>
                  rw [hc, cond_true] at h; cases h
                  simp only [Bool.and_eq_true, Nat.beq_eq, Nat.blt_eq] at hc
                  obtain ⟨f1, ar1, sh1, z1⟩ := wr_fz hH g1 hp hc.1.1.1 hc.1.2
                  obtain ⟨f2, ar2, sh2, z2⟩ := wr_fz hH g2 hp' hc.1.1.2 hc.2
                  have hne : c ≠ c' := by
                    rintro rfl
                    have hab' : a ≠ b := fun e => by subst e; simp at hab
                    have := (hH.sep a _ b _ c z z' g1 g2 hp hp' hab').2 rfl
                    cases this.2
                  unfold Op.equalIn
                  simp only [Sem.run_bind, run_underlying hu, Result.andThen_ok, hsz]
                  rw [if_pos (by simp)]
                  unfold sameAddr
                  have hbe : ((c == c') = true) = False := by simp [hne]
                  simp only [hbe, if_false, Sem.run_bind, run_frozen, Result.andThen_ok, f1, f2, Bool.false_and, Bool.false_eq_true]
                  simp [noView, viewAt, run_shape, sh1, sh2, mayBeOne, stringish, f1, f2]
              · cases h
      · cases h
    · rename_i ms hu; cases h; cases hx; cases hy; rw [Op.equalIn, Sem.run_bind, run_underlying hu]; rfl
    · rename_i ms t' v' hu; cases h; cases hx; cases hy; rw [Op.equalIn, Sem.run_bind, run_underlying hu]; rfl
    · rename_i ms t' v' hu; cases h; cases hx; cases hy; rw [Op.equalIn, Sem.run_bind, run_underlying hu]; rfl
    · rename_i ms hu; cases h; cases hx; cases hy; rw [Op.equalIn, Sem.run_bind, run_underlying hu]; rfl
    · rename_i ms hu; cases h; cases hx; cases hy; rw [Op.equalIn, Sem.run_bind, run_underlying hu]; rfl
    · rename_i ms t1 v1 t2 v2 hu
      cases hx with
      | ifc _ _ cv1 h1 =>
        cases hy with
        | ifc _ _ cv2 h2 =>
          cases ht : Nat.beq t1 t2 with
          | false =>
            rw [ht, cond_false] at h; cases h
            have hne : t1 ≠ t2 := fun e => by subst e; simp at ht
            unfold Op.equalIn
            simp [run_underlying hu, hne]
          | true =>
            rw [ht, cond_true] at h
            have := Nat.eq_of_beq_eq_true ht; subst this
            split at h
            · rename_i i hi
              cases hc : i.comparable with
              | false => rw [hc] at h; cases h
              | true =>
                rw [hc, cond_true] at h
                unfold Op.equalIn
                simp only [Sem.run_bind, run_underlying hu, Result.andThen_ok]
                rw [if_neg (by simp)]
                simp only [Sem.run_bind, run_typeInfo hi, Result.andThen_ok, hc, Bool.not_true, Bool.false_eq_true, if_false]
                exact ih D _ _ _ _ _ _ (by omega) hH h1 h2 h
            · cases h
    · rename_i fs xs ys hu
      cases hx with
      | agg _ cxs h1 =>
        cases hy with
        | agg _ cys h2 =>
          cases hs : P.stoodInHeld t with
          | true => rw [hs] at h; cases h
          | false =>
            rw [hs, cond_false] at h
            have hf : P.fieldsOf t = fs := by unfold Program.fieldsOf; rw [hu]
            rw [run_equalIn_struct w D t cxs cys (by rw [hf]; exact hu) hs, hf]
            exact eqF_sound (fun t x y r cx cy hx hy he => ih D t x y r cx cy (by omega) hH hx hy he) h1 h2 h
    all_goals first
      | (cases h; done)
      | (cases h; cases hx; cases hy; rw [Op.equalIn, Sem.run_bind, run_underlying (by assumption)]; rfl)

/-! ### Keys -/
theorem checkKey_fields {d : Nat} {em : Bool} {cs : Array Value} (fs : List Field) (h : ∀ f ∈ fs, f.name ≠ "_" → ∃ cx, (part f.type cs f.offset).run P w = .ok cx w ∧ (Instr.checkKey em d f.type cx).run P w = .ok () w) :
    (forIn (m := Sem) fs PUnit.unit (fun f _ => do
      if f.name ≠ "_" then Instr.checkKey em d f.type (← part f.type cs f.offset)
      pure (ForInStep.yield PUnit.unit))).run P w = .ok PUnit.unit w := by
  induction fs with
  | nil => simp
  | cons f fs ih =>
    rw [List.forIn_cons]
    by_cases hn : f.name ≠ "_"
    · obtain ⟨cx, h1, h2⟩ := h f (by simp) hn
      simp only [if_pos hn, Sem.run_bind, h1, Result.andThen_ok, h2, Sem.run_pure]
      exact ih (fun g hg => h g (by simp [hg]))
    · simp only [if_neg hn, Sem.run_bind, Sem.run_pure, Result.andThen_ok]
      exact ih (fun g hg => h g (by simp [hg]))
theorem keyOk_sound : ∀ (d D : Nat) (t : TypeId) (k : AV) (ck : Value) (em : Bool), d ≤ D → VR π k ck → keyOk P d t k = true → (Instr.checkKey em D t ck).run P w = .ok () w := by
  intro d
  induction d with
  | zero => intro D t k ck em _ _ h; cases h
  | succ d ih =>
    intro D t k ck em hD hk h
    obtain ⟨D, rfl⟩ : ∃ k, D = k + 1 := ⟨D - 1, by omega⟩
    unfold keyOk at h
    split at h
    · rename_i hu
      unfold Instr.checkKey
      rw [Sem.run_bind, run_underlying hu]
      cases ck <;> rfl
    · rename_i q hu
      unfold Instr.checkKey
      rw [Sem.run_bind, run_underlying hu]
      cases ck <;> rfl
    · rename_i hu
      unfold Instr.checkKey
      rw [Sem.run_bind, run_underlying hu]
      cases ck <;> rfl
    · rename_i fs l hu
      cases hk with
      | agg _ cs hl =>
        unfold Instr.checkKey
        rw [Sem.run_bind, run_underlying hu, Result.andThen_ok]
        simp only
        rw [← Array.forIn_toList]
        have := checkKey_fields (P := P) (w := w) (d := D) (em := em) (cs := cs) fs.toList (fun f hf hn => by
          have h1 := List.all_eq_true.1 h f hf
          rw [Bool.or_eq_true] at h1
          rcases h1 with h1 | h1
          · exact absurd (by simpa using h1) hn
          · split at h1
            · rename_i x hx
              obtain ⟨cx, a1, a2⟩ := partA_sound (P := P) (w := w) hl hx
              exact ⟨cx, a1, ih D _ _ _ _ (by omega) a2 h1⟩
            · cases h1)
        rw [Sem.run_bind, this]; rfl
    · cases h
/-! ### Searches -/
section
variable {eq : AV → AV → Option Bool} {k v : AV} {es : List (AV × AV)}
theorem findK_split (h : findK eq k es = some (some v)) : ∃ pre k1 post, es = pre ++ (k1, v) :: post ∧ eq k k1 = some true ∧ ∀ e ∈ pre ++ post, eq k e.1 = some false := by
  have hnone : ∀ (es : List (AV × AV)), findK eq k es = some none → ∀ e ∈ es, eq k e.1 = some false := by
    intro es
    induction es with
    | nil => intro _ e he; cases he
    | cons e0 es ih =>
      obtain ⟨k0, v0⟩ := e0
      intro h e he
      unfold findK at h
      split at h
      · split at h <;> cases h
      · rename_i h0
        rcases List.mem_cons.1 he with rfl | he
        · exact h0
        · exact ih h e he
      · cases h
  induction es with
  | nil => cases h
  | cons e0 es ih =>
    obtain ⟨k0, v0⟩ := e0
    unfold findK at h
    split at h
    · rename_i h0
      split at h
      · rename_i h1
        cases h
        exact ⟨[], k0, es, rfl, h0, fun e he => hnone es h1 e (by simpa using he)⟩
      · cases h
    · rename_i h0
      obtain ⟨pre, k1, post, rfl, h1, h2⟩ := ih h
      refine ⟨(k0, v0) :: pre, k1, post, rfl, h1, fun e he => ?_⟩
      rcases List.mem_cons.1 he with rfl | he
      · exact h0
      · exact h2 e he
    · cases h
theorem findK_none (h : findK eq k es = some none) : ∀ e ∈ es, eq k e.1 = some false := by
  induction es with
  | nil => intro e he; cases he
  | cons e0 es ih =>
    obtain ⟨k0, v0⟩ := e0
    intro e he
    unfold findK at h
    split at h
    · split at h <;> cases h
    · rename_i h0
      rcases List.mem_cons.1 he with rfl | he
      · exact h0
      · exact ih h e he
    · cases h
theorem findK_of_none (h : ∀ e ∈ es, eq k e.1 = some false) : findK eq k es = some none := by
  induction es with
  | nil => rfl
  | cons e0 es ih =>
    obtain ⟨k0, v0⟩ := e0
    unfold findK
    rw [show eq k k0 = some false from h (k0, v0) (by simp)]
    exact ih fun e he => h e (by simp [he])
theorem findK_of_split {pre post : List (AV × AV)} {k1 : AV} (h1 : eq k k1 = some true) (h2 : ∀ e ∈ pre ++ post, eq k e.1 = some false) : findK eq k (pre ++ (k1, v) :: post) = some (some v) := by
  induction pre with
  | nil =>
    show findK eq k ((k1, v) :: post) = _
    unfold findK
    rw [h1, findK_of_none fun e he => h2 e (by simpa using he)]
  | cons e0 pre ih =>
    obtain ⟨k0, v0⟩ := e0
    show findK eq k ((k0, v0) :: (pre ++ (k1, v) :: post)) = _
    unfold findK
    rw [show eq k k0 = some false from h2 (k0, v0) (by simp)]
    exact ih fun e he => h2 e (by simp at he ⊢; exact .inr he)
theorem findK_perm {es' : List (AV × AV)} {r : Option AV} (hp : es.Perm es') (h : findK eq k es = some r) : findK eq k es' = some r := by
  cases r with
  | none => exact findK_of_none fun e he => findK_none h e (hp.mem_iff.2 he)
  | some v =>
    obtain ⟨pre, k1, post, rfl, h1, h2⟩ := findK_split h
    have hm : (k1, v) ∈ es' := hp.mem_iff.1 (by simp)
    obtain ⟨pre', post', rfl⟩ := List.append_of_mem hm
    have hp2 : ((k1, v) :: (pre ++ post)).Perm ((k1, v) :: (pre' ++ post')) := (List.perm_middle.symm.trans hp).trans List.perm_middle
    have hp3 := hp2.cons_inv
    exact findK_of_split h1 fun e he => h2 e (hp3.mem_iff.2 he)
end
/-- What a search comes to. -/
def FR (π : Pi) (eq : AV → AV → Option Bool) (k : AV) (es : List (AV × AV)) (i : Nat) : Option AV → Option (Nat × Value) → Prop
  | none, none => True
  | some v, some (j, u) => VR π v u ∧ ∃ pre k1 post, es = pre ++ (k1, v) :: post ∧ j = i + pre.length ∧ eq k k1 = some true ∧ ∀ e ∈ pre ++ post, eq k e.1 = some false
  | _, _ => False
theorem FR.next {π : Pi} {eq : AV → AV → Option Bool} {k : AV} {e : AV × AV} {es : List (AV × AV)} {i : Nat} {r : Option AV} {r' : Option (Nat × Value)} (he : eq k e.1 = some false) (h : FR π eq k es (i + 1) r r') : FR π eq k (e :: es) i r r' := by
  cases r with
  | none => cases r' <;> exact h
  | some v =>
    cases r' with
    | none => exact h
    | some ju =>
      obtain ⟨j, u⟩ := ju
      obtain ⟨h1, pre, k1, post, rfl, h2, h3, h4⟩ := h
      refine ⟨h1, e :: pre, k1, post, rfl, by simp [h2]; omega, h3, fun e' he' => ?_⟩
      rcases List.mem_cons.1 he' with rfl | he'
      · exact he
      · exact h4 e' he'
theorem findAsking_sound {eq : AV → AV → Option Bool} {kt : TypeId} {k : AV} {ck : Value} (he : ∀ y r cy, VR π y cy → eq k y = some r → (Op.equal kt ck cy).run P w = .ok r w) : ∀ {es : List (AV × AV)} {es' : List MapEntry} {i : Nat} {r : Option AV}, ERs π es es' → findK eq k es = some r →
    ∃ r', (Instr.findAsking kt ck es' i).run P w = .ok r' w ∧ FR π eq k es i r r'
  | [], es', i, r, hE, h => by cases hE; cases h; exact ⟨none, rfl, trivial⟩
  | (k1, v1) :: es, es', i, r, hE, h => by
    cases hE with
    | cons _ _ _ ck1 cv1 _ l' hk hv hE' =>
      unfold findK at h
      unfold Instr.findAsking
      cases h1 : eq k k1 with
      | none => rw [h1] at h; cases h
      | some q =>
        rw [h1] at h
        have h2 := he _ _ _ hk h1
        cases q with
        | true =>
          simp only at h
          split at h
          · rename_i h3
            cases h
            refine ⟨some (i, cv1), ?_, hv, [], k1, es, rfl, rfl, h1, fun e he => findK_none h3 e (by simpa using he)⟩
            simp only [Sem.run_bind, h2, Result.andThen_ok, if_true, Sem.run_pure]
          · cases h
        | false =>
          obtain ⟨r', a, b⟩ := findAsking_sound he hE' h
          refine ⟨r', ?_, FR.next h1 b⟩
          simp only [Sem.run_bind, h2, Result.andThen_ok, Bool.false_eq_true, if_false]
          exact a
theorem findNow_none {d : TypeDesc} (hd : (∀ k, d ≠ .int k) ∧ d ≠ .string ∧ d ≠ .bool) (k : Value) (e : MapEntry) (es : List MapEntry) (i : Nat) : Instr.findNow d k (e :: es) i = none := by
  unfold Instr.findNow
  have : Instr.sameNow d k e.key = none := by
    cases d <;> first | rfl | exact absurd rfl (hd.1 _) | exact absurd rfl hd.2.1 | exact absurd rfl hd.2.2
  rw [this]
theorem findNow_sound (hH : HRel π B H w) {kt : TypeId} {d : TypeDesc} (hu : P.underlying kt = some d) (hd : (∃ k, d = .int k) ∨ d = .string ∨ d = .bool) {k : AV} {ck : Value} (hk : VR π k ck) : ∀ {es : List (AV × AV)} {es' : List MapEntry} {i : Nat} {r : Option AV}, ERs π es es' → findK (eqA P H 20 kt) k es = some r →
    ∃ r', Instr.findNow d ck es' i = some r' ∧ FR π (eqA P H 20 kt) k es i r r'
  | [], es', i, r, hE, h => by cases hE; cases h; exact ⟨none, rfl, trivial⟩
  | (k1, v1) :: es, es', i, r, hE, h => by
    cases hE with
    | cons _ _ _ ck1 cv1 _ l' hk1 hv hE' =>
      unfold findK at h
      unfold Instr.findNow
      cases h1 : eqA P H 20 kt k k1 with
      | none => rw [h1] at h; cases h
      | some q =>
        rw [h1] at h
        have h10 := h1
        have h2 : Instr.sameNow d ck ck1 = some q := by
          unfold eqA at h1
          rw [hu] at h1
          rcases hd with ⟨kk, rfl⟩ | rfl | rfl
          · split at h1 <;> (try (rename_i hx; cases hx)) <;> first | (cases h1; done) | skip
            all_goals (try (cases h1; done))
            · rename_i j a j' b
              cases hk; cases hk1
              cases hkk : kEq j j' with
              | false => rw [hkk] at h1; cases h1
              | true =>
                rw [hkk, cond_true] at h1; cases h1
                have := kEq_eq hkk; subst this
                simp only [Instr.sameNow, iEq_iff, if_true]
                congr 1
                first | done | (rw [Bool.eq_iff_iff]; simp)
          · split at h1 <;> (try (rename_i hx; cases hx)) <;> first | (cases h1; done) | skip
            · cases hk; cases hk1; cases h1
              simp only [Instr.sameNow]
              rw [natOf_eq_iff, beq_toListBytes]
          · split at h1 <;> (try (rename_i hx; cases hx)) <;> first | (cases h1; done) | skip
            · cases hk; cases hk1; cases h1
              rfl
        rw [h2]
        cases q with
        | true =>
          simp only at h
          split at h
          · rename_i h3
            cases h
            exact ⟨some (i, cv1), rfl, hv, [], k1, es, rfl, rfl, h10, fun e he => findK_none h3 e (by simpa using he)⟩
          · cases h
        | false =>
          obtain ⟨r', a, b⟩ := findNow_sound hH hu hd hk hE' h
          exact ⟨r', a, FR.next h10 b⟩
theorem findE_sound (hH : HRel π B H w) {kt : TypeId} {k : AV} {ck : Value} (hk : VR π k ck) {es es0 : List (AV × AV)} {es' : List MapEntry} {r : Option AV} (hp : es0.Perm es) (hE : ERs π es es') (h : findE P H kt k es0 = some r) (em : Bool) :
    (Instr.checkKey em 10000 kt ck).run P w = .ok () w ∧ ∃ r', (Instr.findKey kt ck es').run P w = .ok r' w ∧ FR π (eqA P H 20 kt) k es 0 r r' := by
  obtain ⟨h1, h2⟩ := ob_eq h
  have h2 := findK_perm hp h2
  refine ⟨keyOk_sound 5 10000 kt k ck em (by omega) hk h1, ?_⟩
  have hd : ∃ d, P.underlying kt = some d := by
    unfold keyOk at h1
    cases hu : P.underlying kt with
    | none => rw [hu] at h1; cases h1
    | some d => exact ⟨d, rfl⟩
  obtain ⟨d, hu⟩ := hd
  unfold Instr.findKey
  rw [Sem.run_bind, run_underlying hu, Result.andThen_ok]
  by_cases hs : (∃ k, d = .int k) ∨ d = .string ∨ d = .bool
  · obtain ⟨r', a, b⟩ := findNow_sound hH hu hs hk (i := 0) hE h2
    rw [a]; exact ⟨r', rfl, b⟩
  · cases hE with
    | nil => cases h2; exact ⟨none, rfl, trivial⟩
    | cons k1 v1 b1 ck1 cv1 l l' hk1 hv1 hE' =>
      rw [findNow_none ⟨fun k e => hs (.inl ⟨k, e⟩), fun e => hs (.inr (.inl e)), fun e => hs (.inr (.inr e))⟩]
      exact findAsking_sound (fun y r cy hy he => eqA_sound 20 10000 kt k y r ck cy (by omega) hH hk hy he) (.cons _ _ _ _ _ _ _ hk1 hv1 hE') h2
end
end Go.Proofs.YtmoejaloachlkaaGreatDoor.Ev
