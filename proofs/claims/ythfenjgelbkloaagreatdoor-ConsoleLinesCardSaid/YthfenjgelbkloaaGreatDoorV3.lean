/- The evaluator, 3: Operands, loads, stores, places, equality, maps. No conditions. -/
import Derived.Test.YthfenjgelbkloaaGreatDoorV2

namespace Go.Proofs.YthfenjgelbkloaaGreatDoor.Ev
open Go Go.RowKit

/-! ### New rows -/
theorem cells_arr {v : Value} : v.cells.toList.toArray = v.cells := by simp
section
variable {B : Nat} {π : Pi} {H : Hp} {w : World}
theorem rd_row {e n lo hi : Nat} {wr : Bool} {sib : List Nat} {l : List (Option AV)} {j : Nat} {v : AV} (h : (Blk.cells (lays 0 l .e) none n e lo hi wr sib).rd j = some v) : j < n ∧ l[j]? = some (some v) := by
  obtain ⟨h1, h2⟩ := ob_eq (b := Nat.blt j n) h
  have h3 : oo ((lays 0 l .e).get (Pos.of j)) none some = some v := h2
  rw [lays_get] at h3
  refine ⟨by simpa [Nat.blt_eq] using h1, ?_⟩
  split at h3
  · rename_i hj
    rw [Nat.sub_zero] at h3
    cases hg : l[j]? with
    | none => rw [hg] at h3; cases h3
    | some ov => rw [hg] at h3; cases ov with
      | none => cases h3
      | some u => have : u = v := by simpa [oo] using h3
                  rw [this]
  · rw [T.get_e] at h3; cases h3
/-- What is known of a row that is made. -/
theorem BR_row {e n lo hi : Nat} {wr : Bool} {sib : List Nat} {l : List (Option AV)} {arr : Array Value} (hn : n ≤ arr.size) (h : ∀ (j : Nat) (v : AV), j < n → l[j]? = some (some v) → ∃ cv, arr[j]? = some cv ∧ VR π v cv) (h1 : ∀ v ∈ arr.toList, v.oneCell' = true) (fz : Nat × Nat)
    (hf : wr = true → fz.1 ≤ fz.2 ∧ ∀ j, fz.1 ≤ j → j < fz.2 → (lo ≤ j ∧ j < hi) ∨ (hi < lo ∧ arr.size ≤ j)) {w : World} : BR π w (.cells (lays 0 l .e) none n e lo hi wr sib) arr.size (.cells arr e fz) :=
  ⟨arr, fz, rfl, rfl, hn, hf, fun j v hj => let ⟨a, b⟩ := rd_row hj; h j v a b, fun j cv hj => h1 cv (by rw [← Array.getElem?_toList] at hj; exact List.mem_of_getElem? hj)⟩
theorem isCell_one {l : List AV} {vs : List Value} (h : VRs π l vs) (hc : l.all AV.isCell = true) : ∀ v ∈ vs, v.oneCell' = true := by
  induction l generalizing vs with
  | nil => cases h; intro v hv; cases hv
  | cons x l ih =>
    cases h with
    | cons _ v' _ l' h h' =>
      simp at hc
      intro v hv
      cases hv with
      | head => exact h.one hc.1
      | tail _ hm => exact ih h' (by simpa using hc.2) v hm
theorem newRow_sound (P : Program) (hH : HRel π B H w) {e : Nat} {l : List AV} {vs : List Value} (h : VRs π l vs) (hc : l.all AV.isCell = true) :
    (newRow e vs.toArray).run P w = .ok ⟨w.heap.size, 0, none⟩ (w.alloc (.cells vs.toArray e)) ∧ Step B π H w (piNew π H.nx w.heap.size vs.length) (H.new (rowV e l)) (w.alloc (.cells vs.toArray e)) := by
  refine ⟨by simp [newRow], ?_⟩
  have he := piNew_ext (H := H) (hH.fresh (Nat.le_refl _)) w.heap.size vs.length
  have := BR_row (π := piNew π H.nx w.heap.size vs.length) (w := w.alloc (.cells vs.toArray e)) (e := e) (n := l.length) (lo := 0) (hi := 0) (wr := true) (sib := []) (l := l.map some) (arr := vs.toArray) (by simp [h.length])
    (fun j v _ hj => by
      simp at hj
      obtain ⟨cv, a, b⟩ := h.get hj
      exact ⟨cv, by simpa using a, b.mono he⟩) (by simpa using isCell_one h hc) (0, 0) (fun _ => ⟨Nat.le_refl _, fun j a b => by omega⟩)
  refine Step.alloc hH _ vs.length _ ?_
  show BR _ _ (rowV e l) _ _
  unfold rowV row
  rw [List.length_map]
  simpa using this
end
theorem zeroC_run {P : Program} {π : Pi} {w : World} {t : TypeId} {l : List AV} (h : zeroC P t = some l) : ∃ z cz s g, zeroA P t = some z ∧ z.cells = l ∧ tAgg P t = some (g, s) ∧ l.length = s ∧ l.all AV.isCell = true ∧ (zeroValue t).run P w = .ok cz w ∧ VR π z cz ∧ VRs π l cz.cells.toList := by
  unfold zeroC at h
  split at h
  · rename_i z g s hz ht
    cases hb : (z.cells.all AV.isCell && Nat.beq z.cells.length s) with
    | false => rw [hb, cond_false] at h; cases h
    | true =>
      rw [hb, cond_true] at h; cases h
      simp only [Bool.and_eq_true, Nat.beq_eq] at hb
      obtain ⟨cz, a, b⟩ := zeroA_run (P := P) (w := w) (π := π) hz
      exact ⟨z, cz, s, g, hz, rfl, ht, hb.2, hb.1, a, b, b.cells⟩
  · cases h
section
variable {P : Program} {B : Nat} {π : Pi} {H H' : Hp} {w : World} {r : T AV} {a : Act} {v : AV}
theorem alloc_sound (hH : HRel π B H w) {e : TypeId} (h : opAlloc e P r H = .val v H') : OVal P (do let x ← Instr.alloc e true (.tuple #[]); pure (.value x)) B π H w v H' := by
  obtain ⟨l, h1, h2⟩ := oo_val h (by simp [orB])
  rw [fN_eq] at h2; cases h2
  obtain ⟨z, cz, s, g, _, _, _, _, hc, hz, _, hl⟩ := zeroC_run (P := P) (π := π) (w := w) h1
  obtain ⟨k1, k2⟩ := newRow_sound P hH (e := e) hl hc
  refine OVal.mk (cv := .pointer (some ⟨w.heap.size, 0, none⟩)) ?_ (.ptr _ _ _ cz.cells.toList.length (by simp [piNew])) k2
  unfold Instr.alloc
  rw [Sem.run_bind, hz, Result.andThen_ok]
  simp only [newVar, Sem.run_bind]
  rw [show cz.cells = cz.cells.toList.toArray by simp, k1]; rfl
theorem box_sound (hH : HRel π B H w) (hR : RR π r a.tmps) {e : TypeId} {x : Operand} (h : opBox e x P r H = .val v H') : OVal P (do let y ← Instr.box e (a.eval x); pure (.value y)) B π H w v H' := by
  obtain ⟨u, h1, h2⟩ := oo_val h (by simp [orB])
  obtain ⟨h3, h4⟩ := ob_val h2 (by simp [orB])
  rw [fN_eq] at h4; cases h4
  obtain ⟨k1, k2⟩ := newRow_sound P hH (e := e) (opnd_sound hH hR h1).cells h3
  refine OVal.mk (cv := .pointer (some ⟨w.heap.size, 0, none⟩)) ?_ (.ptr _ _ _ (a.eval x).cells.toList.length (by simp [piNew])) k2
  simp only [Instr.box, newVar, Sem.run_bind]
  rw [show (a.eval x).cells = (a.eval x).cells.toList.toArray by simp, k1]; rfl

/-! ### Filling -/
/-- Parts by number. -/
inductive PsR (π : Pi) : List (Nat × AV) → List (Nat × Value) → Prop where
  | nil : PsR π [] []
  | cons (i : Nat) (v : AV) (v' : Value) (l : List (Nat × AV)) (l' : List (Nat × Value)) (h : VR π v v') (h' : PsR π l l') : PsR π ((i, v) :: l) ((i, v') :: l')
theorem partsA_sound (hH : HRel π B H w) (hR : RR π r a.tmps) : ∀ {ps : List (Nat × Operand)} {l : List (Nat × AV)}, partsA r ps = some l → PsR π l (ps.map fun p => (p.1, a.eval p.2))
  | [], l, h => by cases h; exact .nil
  | (i, x) :: ps, l, h => by
    unfold partsA at h
    cases hx : opnd r x with
    | none => rw [hx] at h; cases h
    | some u =>
      rw [hx] at h
      simp only [Option.map_eq_some_iff] at h
      obtain ⟨m, h1, rfl⟩ := h
      exact .cons _ _ _ _ _ (opnd_sound hH hR hx) (partsA_sound hH hR h1)
theorem setL_fold (vs : List Value) : ∀ (i k : Nat) (cs : Array Value), ((vs.zipIdx k).foldl (fun cs (c, j) => cs.setIfInBounds (i + j) c) cs).toList = (vs.zipIdx k).foldl (fun l (c, j) => l.set (i + j) c) cs.toList := by
  induction vs with
  | nil => intro i k cs; rfl
  | cons v vs ih => intro i k cs; rw [List.zipIdx_cons, List.foldl_cons, List.foldl_cons, ih]; simp
theorem setL_sound {l : List AV} {vs : List Value} (h : VRs π l vs) : ∀ {m : List AV} {us : List Value} (i k : Nat), VRs π m us → VRs π (setL (i + k) m l) ((us.zipIdx k).foldl (fun l (c, j) => l.set (i + j) c) vs) := by
  intro m
  induction m generalizing l vs with
  | nil => intro us i k hm; cases hm; exact h
  | cons x m ih =>
    intro us i k hm
    cases hm with
    | cons _ u _ us' hx hm' =>
      rw [List.zipIdx_cons, List.foldl_cons, setL]
      have := ih (h.set (i + k) hx) i (k + 1) hm'
      rwa [show i + (k + 1) = i + k + 1 by omega] at this
theorem fill_sound {pl pl' : Nat → Option (Nat × Nat)} (hpl : ∀ i p, pl i = some p → pl' i = some p) : ∀ {ps : List (Nat × AV)} {qs : List (Nat × Value)} {l l' : List AV} {cs : Array Value}, PsR π ps qs → VRs π l cs.toList → fillA pl l ps = some l' →
    ∃ cs', Instr.fill pl' cs qs = some cs' ∧ VRs π l' cs'.toList
  | [], qs, l, l', cs, hp, hl, h => by cases hp; cases h; exact ⟨cs, rfl, hl⟩
  | (i, v) :: ps, qs, l, l', cs, hp, hl, h => by
    cases hp with
    | cons _ _ v' _ qs' hv hp' =>
      unfold fillA at h
      cases hi : pl i with
      | none => rw [hi] at h; cases h
      | some p =>
        obtain ⟨off, s⟩ := p
        rw [hi] at h
        simp only at h
        cases hb : (Nat.beq v.cells.length s && Nat.ble (off + s) l.length) with
        | false => rw [hb, cond_false] at h; cases h
        | true =>
          rw [hb, cond_true] at h
          simp only [Bool.and_eq_true, Nat.beq_eq, Nat.ble_eq] at hb
          have hcl := hv.cells.length
          have hll := hl.length
          have h1 := setL_sound hl off 0 hv.cells
          rw [Nat.add_zero] at h1
          have h2 := setL_fold v'.cells.toList off 0 cs
          obtain ⟨cs', k1, k2⟩ := fill_sound hpl (cs := (v'.cells.toList.zipIdx.foldl (fun cs (c, j) => cs.setIfInBounds (off + j) c) cs)) hp' (by rw [h2]; exact h1) h
          refine ⟨cs', ?_, k2⟩
          unfold Instr.fill
          rw [hpl i _ hi]
          simp only
          have e1 : v'.cells.size = s := by rw [← Array.length_toList, ← hcl]; exact hb.1
          have e2 : ¬ off + v'.cells.size > cs.size := by rw [← Array.length_toList (xs := cs), ← hll, e1]; omega
          rw [if_neg (by simp [e1]; rw [e1] at e2; omega)]
          rw [← k1]; congr 1
          rw [← Array.foldl_toList]; simp
theorem places_some (fs : List Field) (h : (fs.all fun f => (tAgg P f.type).isSome) = true) : ∃ places, fs.mapM (fun f => (P.info? f.type).map fun i => (f.offset, i.size)) = some places ∧ ∀ (i : Nat) (f : Field), fs[i]? = some f → ∃ g s, tAgg P f.type = some (g, s) ∧ places[i]? = some (f.offset, s) := by
  induction fs with
  | nil => exact ⟨[], by simp, fun i f h => by simp at h⟩
  | cons f fs ih =>
    simp only [List.all_cons, Bool.and_eq_true] at h
    obtain ⟨places, h1, h2⟩ := ih h.2
    obtain ⟨⟨g, s⟩, hs⟩ := Option.isSome_iff_exists.1 h.1
    obtain ⟨i, d, hi, hsz, _⟩ := tAgg_info hs
    refine ⟨(f.offset, s) :: places, by simp [List.mapM_cons, hi, h1, hsz], fun k q hk => ?_⟩
    cases k with
    | zero => simp at hk; subst hk; exact ⟨g, s, hs, rfl⟩
    | succ k => exact h2 k q (by simpa using hk)
theorem build_sound {t : TypeId} {ps : List (Nat × AV)} {qs : Array (Nat × Value)} (hp : PsR π ps qs.toList) (h : buildA P t ps = some v) : ∃ cv, (Instr.build t qs).run P w = .ok cv w ∧ VR π v cv := by
  obtain ⟨hf, h⟩ := ob_eq h
  split at h
  · rename_i fs z hu hz
    simp only [Option.map_eq_some_iff] at h
    obtain ⟨l, h1, rfl⟩ := h
    unfold fieldsOk at hf
    rw [hu] at hf
    obtain ⟨places, hpl, hget⟩ := places_some fs.toList hf
    unfold zeroA at hz
    split at hz
    · rename_i i hi
      simp only [Option.bind_eq_some_iff] at hz
      obtain ⟨zv, hz1, hz2⟩ := hz
      have hzr := (ofV_sound (π := π) _ _ _ hz2).cells
      obtain ⟨cs, k1, k2⟩ := fill_sound (pl' := (places.toArray[·]?)) (fun i p hp => by
        unfold placesA at hp
        split at hp
        · rename_i f hfi
          rw [← Array.getElem?_toList] at hfi
          obtain ⟨g, s, a1, a2⟩ := hget i f hfi
          rw [a1] at hp
          simp at hp
          subst hp
          simpa using a2
        · cases hp) hp hzr h1
      refine ⟨.agg cs, ?_, .agg _ _ k2⟩
      refine run_build (P := P) w t qs cs ?_
      unfold Program.built
      rw [hi, hu]
      simp only [hz1, hpl]
      exact k1
    · cases hz
  · rename_i n e z hu hz
    split at h
    · rename_i g s hs
      simp only [Option.map_eq_some_iff] at h
      obtain ⟨l, h1, rfl⟩ := h
      obtain ⟨ie, d, hie, hsz, _⟩ := tAgg_info hs
      unfold zeroA at hz
      split at hz
      · rename_i i hi
        simp only [Option.bind_eq_some_iff] at hz
        obtain ⟨zv, hz1, hz2⟩ := hz
        have hzr := (ofV_sound (π := π) _ _ _ hz2).cells
        obtain ⟨cs, k1, k2⟩ := fill_sound (pl' := fun i => some (i * s, s)) (fun i p hp => hp) hp hzr h1
        refine ⟨.agg cs, ?_, .agg _ _ k2⟩
        refine run_build (P := P) w t qs cs ?_
        unfold Program.built
        rw [hi, hu]
        simp only [hz1, hie, hsz]
        exact k1
      · cases hz
    · cases h
  · cases h
theorem repl_nil (n : Nat) : repl [] n = [] := by
  induction n with
  | zero => rfl
  | succ n ih => exact ih
theorem repl_range (z : List AV) (zc : Array Value) (n : Nat) (h : VRs π z zc.toList) (_h0 : 0 < z.length) : VRs π (repl z n) ((List.range (n * zc.size)).map fun i => zc[i % zc.size]!) := by
  have hs : z.length = zc.size := by rw [h.length]; simp
  induction n with
  | zero => simp [repl]; exact .nil
  | succ n ih =>
    rw [repl, Nat.succ_mul, Nat.add_comm, List.range_add, List.map_append]
    refine VRs.append ?_ ?_
    · have : (List.range zc.size).map (fun i => zc[i % zc.size]!) = zc.toList := by
        apply List.ext_getElem (by simp)
        intro i h1 h2
        simp at h1 h2
        simp [Nat.mod_eq_of_lt h1, h1]
      rw [this]; exact h
    · rw [List.map_map]
      have : ((fun i => zc[i % zc.size]!) ∘ fun x => zc.size + x) = fun i => zc[i % zc.size]! := by funext i; simp
      rw [this]; exact ih
theorem buildSlice_sound (hH : HRel π B H w) (hR : RR π r a.tmps) {t : TypeId} {n : Nat} {ps : Array (Nat × Operand)} (h : opBuildSlice t n ps P r H = .val v H') :
    OVal P (do let y ← Instr.buildSlice t n (ps.map fun (i, x) => (i, a.eval x)); pure (.value y)) B π H w v H' := by
  obtain ⟨e, h1, h⟩ := oo_val h (by simp [orB])
  obtain ⟨l, h2, h⟩ := oo_val h (by simp [orB])
  obtain ⟨⟨g, s⟩, h3, h⟩ := oo_val h (by simp [orB])
  obtain ⟨z, h4, h⟩ := oo_val h (by simp [orB])
  obtain ⟨h5, h⟩ := ob_val h (by simp [orB])
  obtain ⟨cs, h6, h⟩ := oo_val h (by simp [orB])
  obtain ⟨h7, h⟩ := ob_val h (by simp [orB])
  rw [fN_eq] at h; cases h
  have hps := partsA_sound hH hR h2
  obtain ⟨za, cz, s', g', _, _, hs', hzl, hzc, hz, _, hzr⟩ := zeroC_run (P := P) (π := π) (w := w) h4
  rw [h3] at hs'; cases hs'
  have h5 : n < 16777216 ∧ n * s < 16777216 := by simpa [Nat.blt_eq, maxNeed] using h5
  obtain ⟨h50, h5⟩ := h5
  have hczs : cz.cells.size = s := by rw [← hzl, hzr.length]; simp
  -- the row's cells ahead of the parts
  have hrow : ∃ zr : Array Value, (n * s = 0 ∧ zr = #[] ∨ n * s ≠ 0 ∧ zr = cz.cells) ∧ VRs π (repl z n) ((List.range (n * s)).map fun i => zr[i % zr.size]!) := by
    by_cases h0 : n * s = 0
    · refine ⟨#[], .inl ⟨h0, rfl⟩, ?_⟩
      rw [h0]
      have : repl z n = [] := by
        rcases Nat.mul_eq_zero.1 h0 with rfl | h0
        · rfl
        · have : z = [] := List.length_eq_zero_iff.1 (by rw [hzl]; exact h0)
          subst this
          exact repl_nil n
      rw [this]; exact .nil
    · refine ⟨cz.cells, .inr ⟨h0, rfl⟩, ?_⟩
      have := repl_range z cz.cells n hzr (by rw [hzl]; rcases Nat.eq_zero_or_pos s with k | k; exact absurd (by rw [k]; simp) h0; exact k)
      rwa [hczs] at this ⊢
  obtain ⟨zr, hz1, hz2⟩ := hrow
  obtain ⟨cs', k1, k2⟩ := fill_sound (π := π) (pl := fun i => some (i * s, s)) (pl' := fun i => some (i * s, s)) (fun i p hp => hp) (cs := (Array.range (n * s)).map (zr[· % zr.size]!)) (qs := (ps.map fun (i, x) => (i, a.eval x)).toList) (by simpa using hps) (by simpa using hz2) h6
  obtain ⟨m1, m2⟩ := newRow_sound P hH (e := e) k2 h7
  have hlen : cs'.toList.length = n * s := by
    have : ∀ (qs : List (Nat × Value)) (c c' : Array Value), Instr.fill (fun i => some (i * s, s)) c qs = some c' → c'.size = c.size := by
      intro qs
      induction qs with
      | nil => intro c c' hc; cases hc; rfl
      | cons q qs ih =>
        intro c c' hc
        obtain ⟨i, v⟩ := q
        unfold Instr.fill at hc
        simp only at hc
        split at hc
        · cases hc
        · rw [ih _ _ hc]
          have : ∀ (us : List (Value × Nat)) (off : Nat) (c : Array Value), (us.foldl (fun cs (x : Value × Nat) => cs.setIfInBounds (off + x.2) x.1) c).size = c.size := by
            intro us
            induction us with
            | nil => intro off c; rfl
            | cons u us ih => intro off c; rw [List.foldl_cons, ih]; simp
          rw [← Array.foldl_toList]
          exact this _ _ _
    have h9 := this _ _ _ k1
    rw [Array.length_toList, h9]; simp
  refine OVal.mk (cv := .slice (some ⟨w.heap.size, 0, none⟩) n n) (π' := piNew π H.nx w.heap.size (n * s)) ?_ (.sl _ _ _ _ _ _ w.heap.size (n * s) n (by simp [piNew]) (Nat.le_refl _) (Nat.le_refl _) (fun _ => rfl) (by simp) (by unfold big63; omega)) (by rw [hlen] at m2; exact m2)
  unfold Instr.buildSlice
  simp only [Sem.run_bind, run_underlying (elemSl_eq h1), Result.andThen_ok, tAgg_size h3]
  rw [if_neg (by omega)]
  have k1' : Instr.fill (fun i => some (i * s, s)) ((Array.range (n * s)).map fun x => zr[x % zr.size]!) (Array.map (fun x => (x.fst, a.eval x.snd)) ps).toList = some cs' := k1
  have m1' : Sem.run P (newRow e cs') w = Result.ok ⟨w.heap.size, 0, none⟩ (w.alloc (Obj.cells cs'.toList.toArray e)) := by rw [← m1]
  rcases hz1 with ⟨h0, rfl⟩ | ⟨h0, rfl⟩
  · rw [if_pos h0]
    simp only [Sem.run_bind, Sem.run_pure, Result.andThen_ok]
    rw [k1']
    simp only [Sem.run_bind, m1', Result.andThen_ok, Sem.run_pure]
  · rw [if_neg h0]
    simp only [Sem.run_bind, hz, Sem.run_pure, Result.andThen_ok]
    rw [k1']
    simp only [Sem.run_bind, m1', Result.andThen_ok, Sem.run_pure]
end
end Go.Proofs.YthfenjgelbkloaaGreatDoor.Ev

namespace Go.Proofs.YthfenjgelbkloaaGreatDoor.Ev
open Go Go.RowKit

section
variable {P : Program} {B : Nat} {π : Pi} {H H' : Hp} {w : World} {r : T AV} {a : Act} {v : AV}
theorem avPtr_eqO {β : Type} {x : AV} {k : Nat → Nat → Option β} {u : β} (h : avPtr x none k = some u) : ∃ b o, x = .ptr b o ∧ k b o = some u := avPtr_some (p := (· = some u)) h (by simp)
theorem avAgg_eqO {β : Type} {x : AV} {k : List AV → Option β} {u : β} (h : avAgg x none k = some u) : ∃ l, x = .agg l ∧ k l = some u := avAgg_some (p := (· = some u)) h (by simp)
theorem avStr_eqO {β : Type} {x : AV} {k : Nat → Nat → Option β} {u : β} (h : avStr x none k = some u) : ∃ n v, x = .str n v ∧ k n v = some u := avStr_some (p := (· = some u)) h (by simp)
theorem avInt_eqO {β : Type} {x : AV} {k : IntKind → Int → Option β} {u : β} (h : avInt x none k = some u) : ∃ j n, x = .int j n ∧ k j n = some u := avInt_some (p := (· = some u)) h (by simp)
theorem avSl_eqO {β : Type} {x : AV} {k : Nat → Nat → Nat → Nat → Bool → Nat → Option β} {u : β} (h : avSl x none k = some u) : ∃ b o n l e s, x = .sl b o n l e s ∧ k b o n l e s = some u := avSl_some (p := (· = some u)) h (by simp)
theorem addO_eq (o n : Nat) : addO o n = o + n := by
  unfold addO
  cases h : Nat.beq n 0 with
  | true => have : n = 0 := Nat.eq_of_beq_eq_true h; subst this; rfl
  | false => rfl
theorem intN_eq {x : AV} {n : Nat} (h : intN x = some n) : ∃ k, x = .int k n := by
  obtain ⟨k, m, rfl, h1⟩ := avInt_eqO h
  cases m with
  | ofNat m => have : m = n := by simpa [oi] using h1
               subst this; exact ⟨k, rfl⟩
  | negSucc m => simp [oi] at h1
theorem VR.int_inv {k : IntKind} {n : Int} {cv : Value} (h : VR π (.int k n) cv) : cv = .int k n := by cases h; rfl
theorem fieldOf_eq {t : TypeId} {f : Nat} {fd : Field} (h : fieldOf P t f = some fd) : ∃ fs : Array Field, P.underlying t = some (.struct fs) ∧ fs[f]? = some fd := by
  unfold fieldOf at h
  split at h
  · rename_i fs hu; exact ⟨fs, hu, h⟩
  · cases h
theorem fieldAddr_sound {t : TypeId} {x : AV} {f : Nat} {cx : Value} (hx : VR π x cx) (h : fieldAddrA P t x f = some v) : ∃ cv, (Instr.fieldAt t cx f).run P w = .ok cv w ∧ VR π v cv := by
  obtain ⟨n, h1, h2⟩ := oo_eq h
  obtain ⟨b, o, rfl, h3⟩ := avPtr_eqO h2
  rw [fN_eq, addO_eq] at h3; cases h3
  cases hx with
  | ptr b o c z hp =>
    unfold fOff at h1
    split at h1
    · rename_i fd hf
      obtain ⟨fs, hu, hg⟩ := fieldOf_eq hf
      split at h1
      · rename_i g s hs
        cases h1
        refine ⟨.pointer (some ⟨c, o + fd.offset, none⟩), ?_, .ptr _ _ _ _ hp⟩
        have hsu : (Instr.sureAddr (.pointer (some ⟨c, o, none⟩))).run P w = .ok ⟨c, o, none⟩ w := rfl
        unfold Instr.fieldAt
        simp only [Sem.run_bind, run_underlying hu, Result.andThen_ok, hg, hsu]
        unfold fieldPlace
        simp only [Sem.run_bind, tAgg_size hs, Result.andThen_ok]
        rw [if_neg (by simp), Addr.add_lit']; rfl
      · cases h1
    · cases h1
theorem partA_sound {t : TypeId} {l : List AV} {cs : Array Value} (hl : VRs π l cs.toList) {off : Nat} (h : partA P t l off = some v) : ∃ cv, (part t cs off).run P w = .ok cv w ∧ VR π v cv := by
  unfold partA at h
  split at h
  · rename_i s hs
    cases h
    refine ⟨.agg (cs.extract off (off + s)), ?_, .agg _ _ ?_⟩
    · unfold part
      simp only [Sem.run_bind, tAgg_isAgg hs, Result.andThen_ok, if_true, tAgg_size hs, Sem.run_pure]
    · have := (hl.drop off).take s
      rw [Array.toList_extract, List.extract_eq_take_drop]
      simpa using this
  · rename_i s hs
    obtain ⟨cv, h1, h2⟩ := hl.get h
    refine ⟨cv, ?_, h2⟩
    rw [Array.getElem?_toList] at h1
    unfold part
    simp only [Sem.run_bind, tAgg_isAgg hs, Result.andThen_ok, Bool.false_eq_true, if_false, h1, Sem.run_pure]
  · cases h
theorem field_sound {t : TypeId} {l : List AV} {f : Nat} {fd : Field} {cx : Value} (hx : VR π (.agg l) cx) (hf : fieldOf P t f = some fd) (h : partA P fd.type l fd.offset = some v) : ∃ cv, (Instr.field t cx f).run P w = .ok cv w ∧ VR π v cv := by
  cases hx with
  | agg _ cs hl =>
    obtain ⟨fs, hu, hg⟩ := fieldOf_eq hf
    obtain ⟨cv, h1, h2⟩ := partA_sound (P := P) (w := w) hl h
    refine ⟨cv, ?_, h2⟩
    unfold Instr.field
    simp only [Sem.run_bind, run_underlying hu, Result.andThen_ok, hg]
    exact h1
theorem seqT_eq {t : TypeId} {g : Bool × Nat × Nat} (h : seqT P t = some g) : (∃ e a, P.underlying t = some (.slice e) ∧ tAgg P e = some (a, g.2.2) ∧ g.1 = true) ∨ (∃ e a, P.underlying t = some (.array g.2.1 e) ∧ tAgg P e = some (a, g.2.2) ∧ g.1 = false) := by
  unfold seqT at h
  split at h
  · rename_i e hu
    split at h
    · rename_i a s hs; cases h; exact .inl ⟨e, a, hu, hs, rfl⟩
    · cases h
  · rename_i n e hu
    split at h
    · rename_i a s hs; cases h; exact .inr ⟨e, a, hu, hs, rfl⟩
    · cases h
  · cases h
theorem ptrAt_eq {b o i n s : Nat} (h : ptrAt b o i n s = some v) : i < n ∧ v = .ptr b (o + i * s) := by
  obtain ⟨h1, h2⟩ := ob_eq h
  rw [fN_eq, addO_eq] at h2
  exact ⟨by simpa [Nat.blt_eq] using h1, (Option.some.inj h2).symm⟩
theorem idxAddr_sound {t : TypeId} {x ix : AV} {cx cix : Value} (hx : VR π x cx) (hix : VR π ix cix) (h : idxAddr P t x ix = some v) : ∃ cv, (Instr.indexAt t cx cix).run P w = .ok cv w ∧ VR π v cv := by
  obtain ⟨g, h1, h⟩ := oo_eq h
  obtain ⟨i, h2, h⟩ := oo_eq h
  obtain ⟨k, rfl⟩ := intN_eq h2
  rw [hix.int_inv]
  rcases seqT_eq h1 with ⟨e, ag, hu, hs, hg⟩ | ⟨e, ag, hu, hs, hg⟩
  · rw [hg] at h
    obtain ⟨b, o, n, lo, ex, s, rfl, h3⟩ := avSl_eqO (show avSl x none _ = some v from h)
    obtain ⟨h4, h5⟩ := ob_eq h3
    have h4 : s = g.2.2 := Nat.eq_of_beq_eq_true h4
    obtain ⟨h6, rfl⟩ := ptrAt_eq h5
    cases hx with
    | sl _ _ _ _ _ _ c z cap hp =>
      refine ⟨.pointer (some ⟨c, o + i * s, none⟩), ?_, .ptr _ _ _ _ hp⟩
      have hlt : (0 : Int) ≤ (i : Int) ∧ (i : Int) < (n : Int) := by omega
      unfold Instr.indexAt
      simp only [asIntOf, Sem.run_bind, Sem.run_pure, Result.andThen_ok, run_underlying hu]
      rw [if_pos hlt]
      simp only [Sem.run_bind, tAgg_size hs, Result.andThen_ok, Sem.run_pure, Int.toNat_natCast, Addr.add_lit', h4]
  · rw [hg] at h
    obtain ⟨b, o, rfl, h3⟩ := avPtr_eqO (show avPtr x none _ = some v from h)
    obtain ⟨h6, rfl⟩ := ptrAt_eq h3
    cases hx with
    | ptr _ _ c z hp =>
      refine ⟨.pointer (some ⟨c, o + i * g.2.2, none⟩), ?_, .ptr _ _ _ _ hp⟩
      have hlt : (0 : Int) ≤ (i : Int) ∧ (i : Int) < (g.2.1 : Int) := by omega
      have hsu : (Instr.sureAddr (.pointer (some ⟨c, o, none⟩))).run P w = .ok ⟨c, o, none⟩ w := rfl
      unfold Instr.indexAt
      simp only [asIntOf, Sem.run_bind, Sem.run_pure, Result.andThen_ok, run_underlying hu, hsu]
      rw [if_pos hlt]
      simp only [Sem.run_bind, tAgg_size hs, Result.andThen_ok, Sem.run_pure, Int.toNat_natCast, Addr.add_lit']
theorem byte_at (s : ByteArray) (i : Nat) (h : i < s.size) : (s[i].toNat : Nat) = strAt s.size (natOf s.data.toList) i := by
  have := natOf_get s.data.toList i (by simpa using h)
  unfold strAt
  rw [show s.size = s.data.toList.length by simp, ← this]
  rfl
theorem index_sound {t : TypeId} {x ix : AV} {cx cix : Value} (hx : VR π x cx) (hix : VR π ix cix) (h : indexA P t x ix = some v) : ∃ cv, (Instr.index t cx cix).run P w = .ok cv w ∧ VR π v cv := by
  obtain ⟨i, h2, h0⟩ := oo_eq h
  obtain ⟨k, rfl⟩ := intN_eq h2
  rw [hix.int_inv]
  cases hb : isStr P t with
  | true =>
    rw [hb] at h0
    obtain ⟨n, u, rfl, h3⟩ := avStr_eqO (show avStr x none _ = some v from h0)
    obtain ⟨h4, h5⟩ := ob_eq h3
    have h4 : i < n := by simpa [Nat.blt_eq] using h4
    rw [fN_eq] at h5; cases h5
    have hu : P.underlying t = some .string := by
      unfold isStr at hb; split at hb
      · assumption
      · cases hb
    cases hx with
    | str s =>
      refine ⟨.int .u8 (s[i].toNat : Int), ?_, ?_⟩
      · unfold Instr.index
        simp only [asIntOf, Sem.run_bind, Sem.run_pure, Result.andThen_ok, run_underlying hu]
        rw [if_pos (by omega)]
        have : s[(i : Int).toNat]? = some s[i] := by rw [Int.toNat_natCast]; exact getElem?_pos s i h4
        rw [this]; rfl
      · rw [← byte_at s i h4]; exact .int _ _
  | false =>
    rw [hb] at h0
    obtain ⟨⟨n, e, s⟩, h3, h4⟩ := oo_eq (show oo (arrT P t) none _ = some v from h0)
    obtain ⟨l, rfl, h5⟩ := avAgg_eqO h4
    obtain ⟨h6, h7⟩ := ob_eq h5
    have h6 : i < n := by simpa [Nat.blt_eq] using h6
    unfold arrT at h3
    split at h3
    · rename_i n' e' hu
      split at h3
      · rename_i g s' hs
        cases h3
        cases hx with
        | agg _ cs hl =>
          obtain ⟨cv, k1, k2⟩ := partA_sound (P := P) (w := w) hl h7
          refine ⟨cv, ?_, k2⟩
          unfold Instr.index
          simp only [asIntOf, Sem.run_bind, Sem.run_pure, Result.andThen_ok, run_underlying hu]
          rw [if_pos (by omega)]
          simp only [Sem.run_bind, tAgg_size hs, Result.andThen_ok, Int.toNat_natCast]
          exact k1
      · cases h3
    · cases h3

/-! ### Cuts -/
theorem optN_none {d n : Nat} (h : optN none d = some n) : n = d := by cases h; rfl
theorem optN_some {x : AV} {d n : Nat} (h : optN (some x) d = some n) : ∃ k, x = .int k n := by
  unfold optN at h
  split at h
  · rename_i h1; cases h1
  · rename_i k m h1; cases h; cases h1; exact ⟨_, rfl⟩
  · cases h
/-- An operand that may be none. -/
inductive OR1 (π : Pi) : Option AV → Option Value → Prop where
  | none : OR1 π none none
  | some (v : AV) (v' : Value) (h : VR π v v') : OR1 π (some v) (some v')
theorem bound_run {k : IntKind} {n y : Nat} {code : BoundsCode} (h : n ≤ y) : (Instr.sliceBound (.int k (n : Int)) y code).run P w = .ok n w := by
  unfold Instr.sliceBound
  simp only [asIntOf, Sem.run_bind, Sem.run_pure, Result.andThen_ok]
  rw [if_pos (by omega)]
  simp
theorem bounds_run2 {sl : Bool} {len cap l h : Nat} {lo hi : Option AV} {lo' hi' : Option Value} (h1 : OR1 π lo lo') (h2 : OR1 π hi hi') (e1 : optN lo 0 = some l) (e2 : optN hi len = some h) (hl : l ≤ h) (hc : h ≤ cap) : (Instr.sliceBounds sl len cap lo' hi' none).run P w = .ok (l, h, cap) w := by
  unfold Instr.sliceBounds
  simp only [Sem.run_bind, Sem.run_pure, Result.andThen_ok]
  cases h2 with
  | none =>
    have := optN_none e2; subst this
    cases h1 with
    | none => have := optN_none e1; subst this; simp []
    | some v v' hv =>
      obtain ⟨k, rfl⟩ := optN_some e1
      rw [hv.int_inv]
      simp [bound_run (P := P) (w := w) hl]
  | some u u' hu =>
    obtain ⟨k, rfl⟩ := optN_some e2
    rw [hu.int_inv]
    simp only []
    cases h1 with
    | none => have := optN_none e1; subst this; simp [bound_run (P := P) (w := w) hc]
    | some v v' hv =>
      obtain ⟨k, rfl⟩ := optN_some e1
      rw [hv.int_inv]
      simp [bound_run (P := P) (w := w) hl, bound_run (P := P) (w := w) hc]
theorem bounds_run3 {sl : Bool} {len cap l h m : Nat} {lo hi : Option AV} {lo' hi' : Option Value} {mx : AV} {mx' : Value} (h1 : OR1 π lo lo') (h2 : OR1 π hi hi') (hi0 : hi ≠ none) (h3 : VR π mx mx') (e1 : optN lo 0 = some l) (e2 : optN hi len = some h) (e3 : intN mx = some m) (hl : l ≤ h) (hc : h ≤ m) (hm : m ≤ cap) :
    (Instr.sliceBounds sl len cap lo' hi' (some mx')).run P w = .ok (l, h, m) w := by
  obtain ⟨k, rfl⟩ := intN_eq e3
  rw [h3.int_inv]
  unfold Instr.sliceBounds
  simp only [Sem.run_bind, Result.andThen_ok, bound_run (P := P) (w := w) hm]
  cases h2 with
  | none => exact absurd rfl hi0
  | some u u' hu =>
    obtain ⟨k, rfl⟩ := optN_some e2
    rw [hu.int_inv]
    simp only []
    cases h1 with
    | none => have := optN_none e1; subst this; simp [bound_run (P := P) (w := w) hc]
    | some v v' hv =>
      obtain ⟨k, rfl⟩ := optN_some e1
      rw [hv.int_inv]
      simp [bound_run (P := P) (w := w) hl, bound_run (P := P) (w := w) hc]
theorem optA_sound (hH : HRel π B H w) (hR : RR π r a.tmps) {x : Option Operand} {o : Option AV} (h : optA r x = some o) : OR1 π o (x.map a.eval) := by
  cases x with
  | none => cases h; exact .none
  | some x =>
    simp only [optA, Option.map_eq_some_iff] at h
    obtain ⟨u, h1, rfl⟩ := h
    exact .some _ _ (opnd_sound hH hR h1)
/-- A cut of cells: what it is. -/
theorem cutSl_inv {b o n lo s : Nat} {ex : Bool} {l h m : Option AV} (e : cutSl b o n lo ex s l h m = some v) : ∃ l' h', optN l 0 = some l' ∧ optN h n = some h' ∧ l' ≤ h' ∧ h' ≤ lo ∧
    ((m = none ∧ (l' = 0 ∧ v = .sl b o h' lo ex s ∨ 0 < l' ∧ l' < lo ∧ v = .sl b (o + l' * s) (h' - l') (lo - l') ex s ∨ l' = lo ∧ ex = true ∧ v = .sl b o (h' - l') (lo - l') ex s ∨ l' = lo ∧ v = .slz)) ∨
     (∃ mx m', m = some mx ∧ intN mx = some m' ∧ h' ≤ m' ∧ m' ≤ lo ∧ (l' = m' ∧ v = .sl b o (h' - l') (m' - l') true s ∨ l' ≠ m' ∧ v = .sl b (o + l' * s) (h' - l') (m' - l') true s))) := by
  unfold cutSl at e
  split at e
  · rename_i l' h' hl hh
    split at e
    · cases hb : (Nat.ble l' h' && Nat.ble h' lo) with
      | false => rw [hb] at e; cases e
      | true =>
        rw [hb, cond_true] at e
        simp only [Bool.and_eq_true, Nat.ble_eq] at hb
        refine ⟨l', h', hl, hh, hb.1, hb.2, .inl ⟨rfl, ?_⟩⟩
        cases h0 : Nat.beq l' 0 with
        | true =>
          rw [h0, cond_true] at e
          exact .inl ⟨Nat.eq_of_beq_eq_true h0, (Option.some.inj e).symm⟩
        | false =>
          rw [h0, cond_false] at e
          have h0' : l' ≠ 0 := fun k => by subst k; simp at h0
          cases h1 : Nat.blt l' lo with
          | true =>
            rw [h1, cond_true] at e
            exact .inr (.inl ⟨by omega, by simpa [Nat.blt_eq] using h1, (Option.some.inj e).symm⟩)
          | false =>
            rw [h1, cond_false] at e
            have h1' : l' = lo := by
              have : ¬ l' < lo := fun k => by
                have : Nat.blt l' lo = true := by simpa [Nat.blt_eq] using k
                rw [this] at h1; cases h1
              omega
            cases ex with
            | true => exact .inr (.inr (.inl ⟨h1', rfl, (Option.some.inj e).symm⟩))
            | false => exact .inr (.inr (.inr ⟨h1', (Option.some.inj e).symm⟩))
    · rename_i mx
      split at e
      · rename_i m' hm
        cases hb : (Nat.ble l' h' && Nat.ble h' m' && Nat.ble m' lo) with
        | false => rw [hb] at e; cases e
        | true =>
          rw [hb, cond_true] at e
          simp only [Bool.and_eq_true, Nat.ble_eq] at hb
          refine ⟨l', h', hl, hh, hb.1.1, by omega, .inr ⟨mx, m', rfl, hm, hb.1.2, hb.2, ?_⟩⟩
          cases h0 : Nat.beq l' m' with
          | true =>
            rw [h0, cond_true] at e
            exact .inl ⟨Nat.eq_of_beq_eq_true h0, (Option.some.inj e).symm⟩
          | false =>
            rw [h0, cond_false] at e
            have h0' : l' ≠ m' := fun k => by subst k; simp at h0
            refine .inr ⟨h0', ?_⟩
            rw [← Option.some.inj e]
            cases h1 : Nat.beq l' 0 with
            | true => have := Nat.eq_of_beq_eq_true h1; subst this; simp
            | false => rfl
      · cases e
  · cases e
/-- A cut of real cells. -/
theorem cut_sound {b c z o n lo s cap : Nat} {ex : Bool} (hp : π b = some (c, z)) (k1 : lo ≤ cap) (k2 : ex = true → cap = lo) (k3 : o + cap * s ≤ z) (k4 : cap < big63) {l h m : Option AV} {l' h' m' : Option Value} (hl : OR1 π l l') (hh : OR1 π h h') (hm : OR1 π m m') (hmh : m ≠ none → h ≠ none) (sl : Bool)
    (e : cutSl b o n lo ex s l h m = some v) : ∃ i j k, (Instr.sliceBounds sl n cap l' h' m').run P w = .ok (i, j, k) w ∧ VR π v (.slice (some (if k = i then ⟨c, o, none⟩ else (⟨c, o, none⟩ : Addr).add (i * s))) (j - i) (k - i)) := by
  obtain ⟨i, j, e1, e2, h1, h2, h3⟩ := cutSl_inv e
  have mul_sub : ∀ x y : Nat, y ≤ x → x * s = (x - y) * s + y * s := fun x y hxy => by rw [← Nat.add_mul, Nat.sub_add_cancel hxy]
  rcases h3 with ⟨rfl, h3⟩ | ⟨mx, m2, rfl, e3, h4, h5, h3⟩
  · cases hm with
    | none =>
      refine ⟨i, j, cap, bounds_run2 (P := P) (w := w) hl hh e1 e2 h1 (by omega), ?_⟩
      rcases h3 with ⟨rfl, rfl⟩ | ⟨i0, i1, rfl⟩ | ⟨i0, rfl, rfl⟩ | ⟨i0, rfl⟩
      · rw [show (if cap = 0 then (⟨c, o, none⟩ : Addr) else (⟨c, o, none⟩ : Addr).add (0 * s)) = ⟨c, o, none⟩ by split <;> simp [Addr.add]]
        exact .sl _ _ _ _ _ _ _ _ _ hp h2 k1 k2 k3 k4
      · rw [if_neg (by omega), Addr.add_lit']
        refine .sl _ _ _ _ _ _ _ _ _ hp (by omega) (by omega) (fun he => by rw [k2 he]) ?_ (by omega)
        have := mul_sub cap i (by omega); omega
      · have := k2 rfl
        rw [if_pos (by omega)]
        refine .sl _ _ _ _ _ _ _ _ _ hp (by omega) (by omega) (fun he => by omega) ?_ (by omega)
        have := mul_sub cap i (by omega); omega
      · have hj : j = i := by omega
        rw [hj, Nat.sub_self]
        split
        · exact .slz _ _
        · exact .slz _ _
  · cases hm with
    | some mx mx' hmx =>
      refine ⟨i, j, m2, bounds_run3 (P := P) (w := w) hl hh (hmh (by simp)) hmx e1 e2 e3 h1 h4 (by omega), ?_⟩
      have hms := mul_sub cap m2 (by omega)
      have hmi := mul_sub m2 i (by omega)
      rcases h3 with ⟨i0, rfl⟩ | ⟨i0, rfl⟩
      · rw [if_pos (by omega)]
        exact .sl _ _ _ _ _ _ _ _ _ hp (by omega) (Nat.le_refl _) (fun _ => rfl) (by omega) (by omega)
      · rw [if_neg (by omega), Addr.add_lit']
        exact .sl _ _ _ _ _ _ _ _ _ hp (by omega) (Nat.le_refl _) (fun _ => rfl) (by omega) (by omega)
theorem okHM_ne {h m : Option AV} (e : okHM h m = true) : m ≠ none → h ≠ none := by
  intro hm
  cases m with
  | none => exact absurd rfl hm
  | some m => cases h with
    | none => cases e
    | some h => simp
theorem extract_nat (s : ByteArray) (l h : Nat) (hl : l ≤ h) (hh : h ≤ s.size) : VR π (strCut s.size (natOf s.data.toList) l h) (.string (s.extract l h)) := by
  have h1 : (s.extract l h).size = h - l := by simp; omega
  have h2 : natOf (s.extract l h).data.toList = natOf s.data.toList / 256 ^ (s.size - h) % 256 ^ (h - l) := by
    have : (s.extract l h).data.toList = (s.data.toList.take h).drop l := by
      rw [ByteArray.data_extract, Array.toList_extract, List.extract_eq_take_drop]
      rw [List.drop_take]
    rw [this, natOf_drop, natOf_take, List.length_take]
    have hsz : s.data.toList.length = s.size := by simp
    rw [hsz, Nat.min_eq_left hh]
  unfold strCut
  rw [← h2]
  have := VR.str (π := π) (s.extract l h)
  rwa [h1] at this
theorem fits_le (hH : HRel π B H w) {b n c z : Nat} (h : fits H b n = true) (hp : π b = some (c, z)) : n ≤ z := by
  unfold fits at h
  split at h
  · rename_i hb
    obtain ⟨c', arr, fz, h1, h2, h3, _⟩ := hH.cells hb
    rw [hp] at h1; cases h1
    have := Nat.le_of_ble_eq_true h; omega
  · cases h
theorem slice_sound (hH : HRel π B H w) {t : TypeId} {x : AV} {cx : Value} {l h m : Option AV} {l' h' m' : Option Value} (hx : VR π x cx) (hl : OR1 π l l') (hh : OR1 π h h') (hm : OR1 π m m') (e : sliceA P t x l h m H = some v) : ∃ cv, (Instr.sliceAt t cx l' h' m').run P w = .ok cv w ∧ VR π v cv := by
  obtain ⟨hk, e'⟩ := ob_eq e
  clear e
  have e := e'
  clear e'
  have hmh := okHM_ne hk
  unfold Instr.sliceAt
  split at e
  · rename_i n u hu
    split at e
    · rename_i i j hi hj
      cases hb : (Nat.ble i j && Nat.ble j n) with
      | false => rw [hb] at e; cases e
      | true =>
        rw [hb, cond_true] at e; cases e
        simp only [Bool.and_eq_true, Nat.ble_eq] at hb
        cases hx with
        | str s =>
          cases hm
          refine ⟨.string (s.extract i j), ?_, extract_nat s i j hb.1 hb.2⟩
          simp only [Sem.run_bind, run_underlying hu, Result.andThen_ok]
          unfold Instr.slice
          simp only [Sem.run_bind, run_underlying hu, Result.andThen_ok, Option.isSome_none, Bool.false_eq_true, if_false]
          simp [bounds_run2 (P := P) (w := w) hl hh hi hj hb.1 hb.2]
    · cases e
  · rename_i el b o n lo ex s hu
    split at e
    · rename_i g s' hs
      cases hb : Nat.beq s s' with
      | false => rw [hb] at e; cases e
      | true =>
        rw [hb, cond_true] at e
        have := Nat.eq_of_beq_eq_true hb; subst this
        cases hx with
        | sl _ _ _ _ _ _ c z cap hp h1 h2 h3 h4 h5 =>
          obtain ⟨i, j, k, r1, r2⟩ := cut_sound (P := P) (w := w) hp h2 h3 h4 h5 hl hh hm hmh true e
          refine ⟨_, ?_, r2⟩
          simp only [Sem.run_bind, run_underlying hu, Result.andThen_ok]
          unfold Instr.slice
          simp only [Sem.run_bind, run_underlying hu, Result.andThen_ok, r1, tAgg_size hs, Sem.run_pure]
          split <;> rfl
    · cases e
  · rename_i el hu
    split at e
    · rename_i gs e1 e2 e3 hsl
      cases e
      cases hx
      refine ⟨.slice none 0 0, ?_, .nils⟩
      simp only [Sem.run_bind, run_underlying hu, Result.andThen_ok]
      have hb : (Instr.sliceBounds true 0 0 l' h' m').run P w = .ok (0, 0, 0) w := by
        cases hm with
        | none => exact bounds_run2 (P := P) (w := w) hl hh e1 e2 (Nat.le_refl _) (Nat.le_refl _)
        | some mx mx' hmx =>
          obtain ⟨k, rfl⟩ := optN_some e3
          exact bounds_run3 (P := P) (w := w) hl hh (hmh (by simp)) hmx e1 e2 rfl (Nat.le_refl _) (Nat.le_refl _) (Nat.le_refl _)
      obtain ⟨g, s⟩ := gs
      unfold Instr.slice
      simp only [Sem.run_bind, run_underlying hu, Result.andThen_ok, hb, tAgg_size hsl, Sem.run_pure]
      rfl
    · cases e
  · rename_i el hu
    split at e
    · rename_i gs e1 e2 hsl
      cases e
      obtain ⟨g, s⟩ := gs
      cases hx with
      | slz ad cap =>
        cases hm
        have hb := bounds_run2 (P := P) (w := w) (sl := true) (cap := cap) hl hh e1 e2 (Nat.le_refl _) (Nat.zero_le _)
        refine ⟨.slice (if cap = 0 then some ad else (some ad).map (·.add (0 * s))) 0 cap, ?_, ?_⟩
        · simp only [Sem.run_bind, run_underlying hu, Result.andThen_ok]
          unfold Instr.slice
          simp only [Sem.run_bind, run_underlying hu, Result.andThen_ok, hb, tAgg_size hsl, Sem.run_pure, Nat.sub_zero]
        · split <;> exact .slz _ _
    · cases e
  · rename_i n el b o hu
    split at e
    · rename_i g s hs
      cases hb : (fits H b (o + n * s) && Nat.blt n big63) with
      | false => rw [hb] at e; cases e
      | true =>
        rw [hb, cond_true] at e
        simp only [Bool.and_eq_true, Nat.blt_eq] at hb
        cases hx with
        | ptr _ _ c z hp =>
          have hsu : (Instr.sureAddr (.pointer (some ⟨c, o, none⟩))).run P w = .ok ⟨c, o, none⟩ w := rfl
          obtain ⟨i, j, k, r1, r2⟩ := cut_sound (P := P) (w := w) hp (Nat.le_refl n) (fun _ => rfl) (fits_le hH hb.1 hp) hb.2 hl hh hm hmh false e
          refine ⟨_, ?_, r2⟩
          simp only [Sem.run_bind, run_underlying hu, Result.andThen_ok, hsu, r1, tAgg_size hs, Sem.run_pure]
    · cases e
  · rename_i el b o hu
    split at e
    · rename_i n el2 hu2
      split at e
      · rename_i g s hs
        cases hb : (fits H b (o + n * s) && Nat.blt n big63) with
        | false => rw [hb] at e; cases e
        | true =>
          rw [hb, cond_true] at e
          simp only [Bool.and_eq_true, Nat.blt_eq] at hb
          cases hx with
          | ptr _ _ c z hp =>
            obtain ⟨i, j, k, r1, r2⟩ := cut_sound (P := P) (w := w) hp (Nat.le_refl n) (fun _ => rfl) (fits_le hH hb.1 hp) hb.2 hl hh hm hmh false e
            refine ⟨_, ?_, r2⟩
            simp only [Sem.run_bind, run_underlying hu, Result.andThen_ok]
            unfold Instr.slice
            simp only [Sem.run_bind, run_underlying hu, run_underlying hu2, Result.andThen_ok, asAddr, Sem.run_pure, r1, tAgg_size hs]
      · cases e
    · cases e
  · cases e
end
end Go.Proofs.YthfenjgelbkloaaGreatDoor.Ev

namespace Go.Proofs.YthfenjgelbkloaaGreatDoor.Ev
open Go Go.RowKit

section
variable {P : Program} {B : Nat} {π : Pi} {H H' : Hp} {w : World} {v : AV}
theorem eqF_sound {D : Nat} {eq : TypeId → AV → AV → Option Bool} (he : ∀ t x y r cx cy, VR π x cx → VR π y cy → eq t x y = some r → (Op.equalIn D t cx cy).run P w = .ok r w) {xs ys : List AV} {cxs cys : Array Value} (hx : VRs π xs cxs.toList) (hy : VRs π ys cys.toList) :
    ∀ {fs : List Field} {r : Bool}, eqF eq P xs ys fs = some r → (Op.eqFields D cxs cys fs).run P w = .ok r w
  | [], r, h => by cases h; rfl
  | f :: fs, r, h => by
    unfold eqF at h
    unfold Op.eqFields
    cases hn : f.name == "_" with
    | true =>
      rw [hn, cond_true] at h
      have : f.name = "_" := by simpa using hn
      rw [if_neg (by simp [this])]
      exact eqF_sound he hx hy h
    | false =>
      rw [hn, cond_false] at h
      have : f.name ≠ "_" := by simpa using hn
      rw [if_pos this]
      cases h1 : partA P f.type xs f.offset with
      | none => rw [h1] at h; cases h
      | some x =>
        cases h2 : partA P f.type ys f.offset with
        | none => rw [h1, h2] at h; cases h
        | some y =>
          rw [h1, h2] at h
          obtain ⟨cx, a1, a2⟩ := partA_sound (P := P) (w := w) hx h1
          obtain ⟨cy, b1, b2⟩ := partA_sound (P := P) (w := w) hy h2
          simp only at h
          cases h3 : eq f.type x y with
          | none => rw [h3] at h; cases h
          | some q =>
            rw [h3] at h
            have h4 := he _ _ _ _ _ _ a2 b2 h3
            simp only [Sem.run_bind, a1, Result.andThen_ok, b1, h4]
            cases q with
            | true =>
              simp only [Bool.not_true, Bool.false_eq_true, if_false]
              exact eqF_sound he hx hy h
            | false => cases h; rfl
theorem wr_fz {b c z : Nat} (hH : HRel π B H w) {t : T AV} {d : Option AV} {n e lo hi : Nat} {s : List Nat} (hx : H.get b = some (.cells t d n e lo hi true s)) (hp : π b = some (c, z)) (hl : hi = lo) (hn : 0 < n) :
    (∀ o, w.frozen? ⟨c, o, none⟩ = false) ∧ ∃ arr, w.shape? c = some (e, arr) ∧ 0 < arr := by
  obtain ⟨c', arr, fz, h1, h2, h3, h4, _⟩ := hH.cells hx
  rw [hp] at h1; cases h1
  refine ⟨fun o => ?_, arr.size, by simp [World.shape?, h2], by omega⟩
  obtain ⟨f1, f2⟩ := fz
  simp [World.frozen?, h2]
  intro hf
  rcases Nat.lt_or_ge o f2 with hk | hk
  · have := (h4 rfl).2 o hf hk; omega
  · exact hk
set_option maxHeartbeats 1000000 in
theorem eqA_sound : ∀ (d D : Nat) (t : TypeId) (x y : AV) (r : Bool) (cx cy : Value), d ≤ D → HRel π B H w → VR π x cx → VR π y cy → eqA P H d t x y = some r → (Op.equalIn D t cx cy).run P w = .ok r w := by
  intro d
  induction d with
  | zero => intro D t x y r cx cy _ _ _ _ h; cases h
  | succ d ih =>
    intro D t x y r cx cy hD hH hx hy h
    obtain ⟨D, rfl⟩ : ∃ k, D = k + 1 := ⟨D - 1, by omega⟩
    unfold eqA at h
    split at h
    · rename_i a b hu; cases h; cases hx; cases hy; exact run_equalIn_bool w D t a b hu
    · rename_i q j a k b hu
      cases hk : kEq j k with
      | false => rw [hk] at h; cases h
      | true => rw [hk, cond_true] at h; cases h; cases hx; cases hy
                have := kEq_eq hk; subst this
                rw [run_equalIn_int w D t _ _ _ _ hu, iEq_iff]; rfl
    · rename_i n v' m u hu; cases h; cases hx; cases hy
      rw [run_equalIn_string w D t _ _ hu, natOf_eq_iff]
    · rename_i e hu; cases h; cases hx; cases hy
      rw [Op.equalIn, Sem.run_bind, run_underlying hu]; rfl
    · rename_i e b o hu; cases h; cases hx; cases hy
      rw [Op.equalIn, Sem.run_bind, run_underlying hu]; rfl
    · rename_i e b o hu; cases h; cases hx; cases hy
      rw [Op.equalIn, Sem.run_bind, run_underlying hu]; rfl
    · rename_i e a i b j hu
      split at h
      · rename_i g s hs
        cases hx with
        | ptr _ _ c z hp =>
          cases hy with
          | ptr _ _ c' z' hp' =>
            have hsz := tAgg_size (w := w) hs
            cases hab : Nat.beq a b with
            | true =>
              rw [hab, cond_true] at h; cases h
              have := Nat.eq_of_beq_eq_true hab; subst this
              rw [hp] at hp'; cases hp'
              unfold Op.equalIn
              simp only [Sem.run_bind, run_underlying hu, Result.andThen_ok, hsz]
              rw [if_pos (by simp)]
              unfold sameAddr
              simp only [beq_self_eq_true, if_true, Sem.run_pure]
              congr 1
              rw [Bool.eq_iff_iff]; simp [Nat.beq_eq]
            | false =>
              rw [hab, cond_false] at h
              split at h
              · rename_i t1 d1 n1 e1 lo1 hi1 s1 t2 d2 n2 e2 lo2 hi2 s2 g1 g2
                cases hc : (Nat.beq hi1 lo1 && Nat.beq hi2 lo2 && Nat.blt 0 n1 && Nat.blt 0 n2) with
                | false => rw [hc] at h; cases h
                | true =>
                  rw [hc, cond_true] at h; cases h
                  simp only [Bool.and_eq_true, Nat.beq_eq, Nat.blt_eq] at hc
                  obtain ⟨f1, ar1, sh1, z1⟩ := wr_fz hH g1 hp hc.1.1.1 hc.1.2
                  obtain ⟨f2, ar2, sh2, z2⟩ := wr_fz hH g2 hp' hc.1.1.2 hc.2
                  have hne : c ≠ c' := by
                    rintro rfl
                    have hab' : a ≠ b := fun e => by subst e; simp at hab
                    have := (hH.sep a _ b _ c z z' g1 g2 hp hp' hab').2 rfl
                    cases this.2
                  unfold Op.equalIn
                  simp only [Sem.run_bind, run_underlying hu, Result.andThen_ok, hsz]
                  rw [if_pos (by simp)]
                  unfold sameAddr
                  have hbe : ((c == c') = true) = False := by simp [hne]
                  simp only [hbe, if_false, Sem.run_bind, run_frozen, Result.andThen_ok, f1, f2, Bool.false_and, Bool.false_eq_true]
                  simp [noView, viewAt, run_shape, sh1, sh2, mayBeOne, stringish, f1, f2]
              · cases h
      · cases h
    · rename_i ms hu; cases h; cases hx; cases hy; rw [Op.equalIn, Sem.run_bind, run_underlying hu]; rfl
    · rename_i ms t' v' hu; cases h; cases hx; cases hy; rw [Op.equalIn, Sem.run_bind, run_underlying hu]; rfl
    · rename_i ms t' v' hu; cases h; cases hx; cases hy; rw [Op.equalIn, Sem.run_bind, run_underlying hu]; rfl
    · rename_i ms hu; cases h; cases hx; cases hy; rw [Op.equalIn, Sem.run_bind, run_underlying hu]; rfl
    · rename_i ms hu; cases h; cases hx; cases hy; rw [Op.equalIn, Sem.run_bind, run_underlying hu]; rfl
    · rename_i ms t1 v1 t2 v2 hu
      cases hx with
      | ifc _ _ cv1 h1 =>
        cases hy with
        | ifc _ _ cv2 h2 =>
          cases ht : Nat.beq t1 t2 with
          | false =>
            rw [ht, cond_false] at h; cases h
            have hne : t1 ≠ t2 := fun e => by subst e; simp at ht
            unfold Op.equalIn
            simp [run_underlying hu, hne]
          | true =>
            rw [ht, cond_true] at h
            have := Nat.eq_of_beq_eq_true ht; subst this
            split at h
            · rename_i i hi
              cases hc : i.comparable with
              | false => rw [hc] at h; cases h
              | true =>
                rw [hc, cond_true] at h
                unfold Op.equalIn
                simp only [Sem.run_bind, run_underlying hu, Result.andThen_ok]
                rw [if_neg (by simp)]
                simp only [Sem.run_bind, run_typeInfo hi, Result.andThen_ok, hc, Bool.not_true, Bool.false_eq_true, if_false]
                exact ih D _ _ _ _ _ _ (by omega) hH h1 h2 h
            · cases h
    · rename_i fs xs ys hu
      cases hx with
      | agg _ cxs h1 =>
        cases hy with
        | agg _ cys h2 =>
          cases hs : P.stoodInHeld t with
          | true => rw [hs] at h; cases h
          | false =>
            rw [hs, cond_false] at h
            have hf : P.fieldsOf t = fs := by unfold Program.fieldsOf; rw [hu]
            rw [run_equalIn_struct w D t cxs cys (by rw [hf]; exact hu) hs, hf]
            exact eqF_sound (fun t x y r cx cy hx hy he => ih D t x y r cx cy (by omega) hH hx hy he) h1 h2 h
    all_goals first
      | (cases h; done)
      | (cases h; cases hx; cases hy; rw [Op.equalIn, Sem.run_bind, run_underlying (by assumption)]; rfl)

/-! ### Keys -/
theorem checkKey_fields {d : Nat} {em : Bool} {cs : Array Value} (fs : List Field) (h : ∀ f ∈ fs, f.name ≠ "_" → ∃ cx, (part f.type cs f.offset).run P w = .ok cx w ∧ (Instr.checkKey em d f.type cx).run P w = .ok () w) :
    (forIn (m := Sem) fs PUnit.unit (fun f _ => do
      if f.name ≠ "_" then Instr.checkKey em d f.type (← part f.type cs f.offset)
      pure (ForInStep.yield PUnit.unit))).run P w = .ok PUnit.unit w := by
  induction fs with
  | nil => simp
  | cons f fs ih =>
    rw [List.forIn_cons]
    by_cases hn : f.name ≠ "_"
    · obtain ⟨cx, h1, h2⟩ := h f (by simp) hn
      simp only [if_pos hn, Sem.run_bind, h1, Result.andThen_ok, h2, Sem.run_pure]
      exact ih (fun g hg => h g (by simp [hg]))
    · simp only [if_neg hn, Sem.run_bind, Sem.run_pure, Result.andThen_ok]
      exact ih (fun g hg => h g (by simp [hg]))
theorem keyOk_sound : ∀ (d D : Nat) (t : TypeId) (k : AV) (ck : Value) (em : Bool), d ≤ D → VR π k ck → keyOk P d t k = true → (Instr.checkKey em D t ck).run P w = .ok () w := by
  intro d
  induction d with
  | zero => intro D t k ck em _ _ h; cases h
  | succ d ih =>
    intro D t k ck em hD hk h
    obtain ⟨D, rfl⟩ : ∃ k, D = k + 1 := ⟨D - 1, by omega⟩
    unfold keyOk at h
    split at h
    · rename_i hu
      unfold Instr.checkKey
      rw [Sem.run_bind, run_underlying hu]
      cases ck <;> rfl
    · rename_i q hu
      unfold Instr.checkKey
      rw [Sem.run_bind, run_underlying hu]
      cases ck <;> rfl
    · rename_i hu
      unfold Instr.checkKey
      rw [Sem.run_bind, run_underlying hu]
      cases ck <;> rfl
    · rename_i fs l hu
      cases hk with
      | agg _ cs hl =>
        unfold Instr.checkKey
        rw [Sem.run_bind, run_underlying hu, Result.andThen_ok]
        simp only
        rw [← Array.forIn_toList]
        have := checkKey_fields (P := P) (w := w) (d := D) (em := em) (cs := cs) fs.toList (fun f hf hn => by
          have h1 := List.all_eq_true.1 h f hf
          rw [Bool.or_eq_true] at h1
          rcases h1 with h1 | h1
          · exact absurd (by simpa using h1) hn
          · split at h1
            · rename_i x hx
              obtain ⟨cx, a1, a2⟩ := partA_sound (P := P) (w := w) hl hx
              exact ⟨cx, a1, ih D _ _ _ _ (by omega) a2 h1⟩
            · cases h1)
        rw [Sem.run_bind, this]; rfl
    · cases h
/-! ### Searches -/
section
variable {eq : AV → AV → Option Bool} {k v : AV} {es : List (AV × AV)}
theorem findK_split (h : findK eq k es = some (some v)) : ∃ pre k1 post, es = pre ++ (k1, v) :: post ∧ eq k k1 = some true ∧ ∀ e ∈ pre ++ post, eq k e.1 = some false := by
  have hnone : ∀ (es : List (AV × AV)), findK eq k es = some none → ∀ e ∈ es, eq k e.1 = some false := by
    intro es
    induction es with
    | nil => intro _ e he; cases he
    | cons e0 es ih =>
      obtain ⟨k0, v0⟩ := e0
      intro h e he
      unfold findK at h
      split at h
      · split at h <;> cases h
      · rename_i h0
        rcases List.mem_cons.1 he with rfl | he
        · exact h0
        · exact ih h e he
      · cases h
  induction es with
  | nil => cases h
  | cons e0 es ih =>
    obtain ⟨k0, v0⟩ := e0
    unfold findK at h
    split at h
    · rename_i h0
      split at h
      · rename_i h1
        cases h
        exact ⟨[], k0, es, rfl, h0, fun e he => hnone es h1 e (by simpa using he)⟩
      · cases h
    · rename_i h0
      obtain ⟨pre, k1, post, rfl, h1, h2⟩ := ih h
      refine ⟨(k0, v0) :: pre, k1, post, rfl, h1, fun e he => ?_⟩
      rcases List.mem_cons.1 he with rfl | he
      · exact h0
      · exact h2 e he
    · cases h
theorem findK_none (h : findK eq k es = some none) : ∀ e ∈ es, eq k e.1 = some false := by
  induction es with
  | nil => intro e he; cases he
  | cons e0 es ih =>
    obtain ⟨k0, v0⟩ := e0
    intro e he
    unfold findK at h
    split at h
    · split at h <;> cases h
    · rename_i h0
      rcases List.mem_cons.1 he with rfl | he
      · exact h0
      · exact ih h e he
    · cases h
theorem findK_of_none (h : ∀ e ∈ es, eq k e.1 = some false) : findK eq k es = some none := by
  induction es with
  | nil => rfl
  | cons e0 es ih =>
    obtain ⟨k0, v0⟩ := e0
    unfold findK
    rw [show eq k k0 = some false from h (k0, v0) (by simp)]
    exact ih fun e he => h e (by simp [he])
theorem findK_of_split {pre post : List (AV × AV)} {k1 : AV} (h1 : eq k k1 = some true) (h2 : ∀ e ∈ pre ++ post, eq k e.1 = some false) : findK eq k (pre ++ (k1, v) :: post) = some (some v) := by
  induction pre with
  | nil =>
    show findK eq k ((k1, v) :: post) = _
    unfold findK
    rw [h1, findK_of_none fun e he => h2 e (by simpa using he)]
  | cons e0 pre ih =>
    obtain ⟨k0, v0⟩ := e0
    show findK eq k ((k0, v0) :: (pre ++ (k1, v) :: post)) = _
    unfold findK
    rw [show eq k k0 = some false from h2 (k0, v0) (by simp)]
    exact ih fun e he => h2 e (by simp at he ⊢; exact .inr he)
theorem findK_perm {es' : List (AV × AV)} {r : Option AV} (hp : es.Perm es') (h : findK eq k es = some r) : findK eq k es' = some r := by
  cases r with
  | none => exact findK_of_none fun e he => findK_none h e (hp.mem_iff.2 he)
  | some v =>
    obtain ⟨pre, k1, post, rfl, h1, h2⟩ := findK_split h
    have hm : (k1, v) ∈ es' := hp.mem_iff.1 (by simp)
    obtain ⟨pre', post', rfl⟩ := List.append_of_mem hm
    have hp2 : ((k1, v) :: (pre ++ post)).Perm ((k1, v) :: (pre' ++ post')) := (List.perm_middle.symm.trans hp).trans List.perm_middle
    have hp3 := hp2.cons_inv
    exact findK_of_split h1 fun e he => h2 e (hp3.mem_iff.2 he)
end
/-- What a search comes to. -/
def FR (π : Pi) (eq : AV → AV → Option Bool) (k : AV) (es : List (AV × AV)) (i : Nat) : Option AV → Option (Nat × Value) → Prop
  | none, none => True
  | some v, some (j, u) => VR π v u ∧ ∃ pre k1 post, es = pre ++ (k1, v) :: post ∧ j = i + pre.length ∧ eq k k1 = some true ∧ ∀ e ∈ pre ++ post, eq k e.1 = some false
  | _, _ => False
theorem FR.next {π : Pi} {eq : AV → AV → Option Bool} {k : AV} {e : AV × AV} {es : List (AV × AV)} {i : Nat} {r : Option AV} {r' : Option (Nat × Value)} (he : eq k e.1 = some false) (h : FR π eq k es (i + 1) r r') : FR π eq k (e :: es) i r r' := by
  cases r with
  | none => cases r' <;> exact h
  | some v =>
    cases r' with
    | none => exact h
    | some ju =>
      obtain ⟨j, u⟩ := ju
      obtain ⟨h1, pre, k1, post, rfl, h2, h3, h4⟩ := h
      refine ⟨h1, e :: pre, k1, post, rfl, by simp [h2]; omega, h3, fun e' he' => ?_⟩
      rcases List.mem_cons.1 he' with rfl | he'
      · exact he
      · exact h4 e' he'
theorem findAsking_sound {eq : AV → AV → Option Bool} {kt : TypeId} {k : AV} {ck : Value} (he : ∀ y r cy, VR π y cy → eq k y = some r → (Op.equal kt ck cy).run P w = .ok r w) : ∀ {es : List (AV × AV)} {es' : List MapEntry} {i : Nat} {r : Option AV}, ERs π es es' → findK eq k es = some r →
    ∃ r', (Instr.findAsking kt ck es' i).run P w = .ok r' w ∧ FR π eq k es i r r'
  | [], es', i, r, hE, h => by cases hE; cases h; exact ⟨none, rfl, trivial⟩
  | (k1, v1) :: es, es', i, r, hE, h => by
    cases hE with
    | cons _ _ _ ck1 cv1 _ l' hk hv hE' =>
      unfold findK at h
      unfold Instr.findAsking
      cases h1 : eq k k1 with
      | none => rw [h1] at h; cases h
      | some q =>
        rw [h1] at h
        have h2 := he _ _ _ hk h1
        cases q with
        | true =>
          simp only at h
          split at h
          · rename_i h3
            cases h
            refine ⟨some (i, cv1), ?_, hv, [], k1, es, rfl, rfl, h1, fun e he => findK_none h3 e (by simpa using he)⟩
            simp only [Sem.run_bind, h2, Result.andThen_ok, if_true, Sem.run_pure]
          · cases h
        | false =>
          obtain ⟨r', a, b⟩ := findAsking_sound he hE' h
          refine ⟨r', ?_, FR.next h1 b⟩
          simp only [Sem.run_bind, h2, Result.andThen_ok, Bool.false_eq_true, if_false]
          exact a
theorem findNow_none {d : TypeDesc} (hd : (∀ k, d ≠ .int k) ∧ d ≠ .string ∧ d ≠ .bool) (k : Value) (e : MapEntry) (es : List MapEntry) (i : Nat) : Instr.findNow d k (e :: es) i = none := by
  unfold Instr.findNow
  have : Instr.sameNow d k e.key = none := by
    cases d <;> first | rfl | exact absurd rfl (hd.1 _) | exact absurd rfl hd.2.1 | exact absurd rfl hd.2.2
  rw [this]
theorem findNow_sound (hH : HRel π B H w) {kt : TypeId} {d : TypeDesc} (hu : P.underlying kt = some d) (hd : (∃ k, d = .int k) ∨ d = .string ∨ d = .bool) {k : AV} {ck : Value} (hk : VR π k ck) : ∀ {es : List (AV × AV)} {es' : List MapEntry} {i : Nat} {r : Option AV}, ERs π es es' → findK (eqA P H 20 kt) k es = some r →
    ∃ r', Instr.findNow d ck es' i = some r' ∧ FR π (eqA P H 20 kt) k es i r r'
  | [], es', i, r, hE, h => by cases hE; cases h; exact ⟨none, rfl, trivial⟩
  | (k1, v1) :: es, es', i, r, hE, h => by
    cases hE with
    | cons _ _ _ ck1 cv1 _ l' hk1 hv hE' =>
      unfold findK at h
      unfold Instr.findNow
      cases h1 : eqA P H 20 kt k k1 with
      | none => rw [h1] at h; cases h
      | some q =>
        rw [h1] at h
        have h10 := h1
        have h2 : Instr.sameNow d ck ck1 = some q := by
          unfold eqA at h1
          rw [hu] at h1
          rcases hd with ⟨kk, rfl⟩ | rfl | rfl
          · split at h1 <;> (try (rename_i hx; cases hx)) <;> first | (cases h1; done) | skip
            all_goals (try (cases h1; done))
            · rename_i j a j' b
              cases hk; cases hk1
              cases hkk : kEq j j' with
              | false => rw [hkk] at h1; cases h1
              | true =>
                rw [hkk, cond_true] at h1; cases h1
                have := kEq_eq hkk; subst this
                simp only [Instr.sameNow, iEq_iff, if_true]
                congr 1
                first | done | (rw [Bool.eq_iff_iff]; simp)
          · split at h1 <;> (try (rename_i hx; cases hx)) <;> first | (cases h1; done) | skip
            · cases hk; cases hk1; cases h1
              simp only [Instr.sameNow]
              rw [natOf_eq_iff, beq_toListBytes]
          · split at h1 <;> (try (rename_i hx; cases hx)) <;> first | (cases h1; done) | skip
            · cases hk; cases hk1; cases h1
              rfl
        rw [h2]
        cases q with
        | true =>
          simp only at h
          split at h
          · rename_i h3
            cases h
            exact ⟨some (i, cv1), rfl, hv, [], k1, es, rfl, rfl, h10, fun e he => findK_none h3 e (by simpa using he)⟩
          · cases h
        | false =>
          obtain ⟨r', a, b⟩ := findNow_sound hH hu hd hk hE' h
          exact ⟨r', a, FR.next h10 b⟩
theorem findE_sound (hH : HRel π B H w) {kt : TypeId} {k : AV} {ck : Value} (hk : VR π k ck) {es es0 : List (AV × AV)} {es' : List MapEntry} {r : Option AV} (hp : es0.Perm es) (hE : ERs π es es') (h : findE P H kt k es0 = some r) (em : Bool) :
    (Instr.checkKey em 10000 kt ck).run P w = .ok () w ∧ ∃ r', (Instr.findKey kt ck es').run P w = .ok r' w ∧ FR π (eqA P H 20 kt) k es 0 r r' := by
  obtain ⟨h1, h2⟩ := ob_eq h
  have h2 := findK_perm hp h2
  refine ⟨keyOk_sound 5 10000 kt k ck em (by omega) hk h1, ?_⟩
  have hd : ∃ d, P.underlying kt = some d := by
    unfold keyOk at h1
    cases hu : P.underlying kt with
    | none => rw [hu] at h1; cases h1
    | some d => exact ⟨d, rfl⟩
  obtain ⟨d, hu⟩ := hd
  unfold Instr.findKey
  rw [Sem.run_bind, run_underlying hu, Result.andThen_ok]
  by_cases hs : (∃ k, d = .int k) ∨ d = .string ∨ d = .bool
  · obtain ⟨r', a, b⟩ := findNow_sound hH hu hs hk (i := 0) hE h2
    rw [a]; exact ⟨r', rfl, b⟩
  · cases hE with
    | nil => cases h2; exact ⟨none, rfl, trivial⟩
    | cons k1 v1 b1 ck1 cv1 l l' hk1 hv1 hE' =>
      rw [findNow_none ⟨fun k e => hs (.inl ⟨k, e⟩), fun e => hs (.inr (.inl e)), fun e => hs (.inr (.inr e))⟩]
      exact findAsking_sound (fun y r cy hy he => eqA_sound 20 10000 kt k y r ck cy (by omega) hH hk hy he) (.cons _ _ _ _ _ _ _ hk1 hv1 hE') h2
end
end Go.Proofs.YthfenjgelbkloaaGreatDoor.Ev

namespace Go.Proofs.YthfenjgelbkloaaGreatDoor.Ev
open Go Go.RowKit

/-! ### Equal values -/
theorem beq_and {a b : Bool} (h : (a && b) = true) : a = true ∧ b = true := by simpa using h
theorem AV.beq_eq (x : AV) : ∀ y, AV.beq x y = true → x = y := by
  refine AV.rec (motive_1 := fun x => ∀ y, AV.beq x y = true → x = y) (motive_2 := fun l => ∀ m, AV.beqs l m = true → l = m) ?_ ?_ ?_ ?_ ?_ ?_ ?_ ?_ ?_ ?_ ?_ ?_ ?_ ?_ ?_ ?_ ?_ ?_ ?_ ?_ x
  · intro a y h; cases y <;> first | (simp [AV.beq] at h; done) | (simp [AV.beq] at h; rw [h])
  · intro k n y h
    cases y <;> first | (simp [AV.beq] at h; done) | skip
    rw [AV.beq] at h
    obtain ⟨h1, h2⟩ := beq_and h
    rw [iEq_iff] at h2
    rw [kEq_eq h1, of_decide_eq_true h2]
  · intro n v y h
    cases y <;> first | (simp [AV.beq] at h; done) | skip
    rw [AV.beq] at h
    obtain ⟨h1, h2⟩ := beq_and h
    rw [Nat.eq_of_beq_eq_true h1, Nat.eq_of_beq_eq_true h2]
  · intro n v y h
    cases y <;> first | (simp [AV.beq] at h; done) | skip
    rw [AV.beq] at h
    obtain ⟨h1, h2⟩ := beq_and h
    rw [Nat.eq_of_beq_eq_true h1, Nat.eq_of_beq_eq_true h2]
  · intro y h; cases y <;> first | rfl | (simp [AV.beq] at h; done)
  · intro b o n lo ex s y h
    cases y <;> first | (simp [AV.beq] at h; done) | skip
    rw [AV.beq] at h
    obtain ⟨h, h6⟩ := beq_and h
    obtain ⟨h, h5⟩ := beq_and h
    obtain ⟨h, h4⟩ := beq_and h
    obtain ⟨h, h3⟩ := beq_and h
    obtain ⟨h1, h2⟩ := beq_and h
    rw [Nat.eq_of_beq_eq_true h1, Nat.eq_of_beq_eq_true h2, Nat.eq_of_beq_eq_true h3, Nat.eq_of_beq_eq_true h4, eq_of_beq h5, Nat.eq_of_beq_eq_true h6]
  · intro y h; cases y <;> first | rfl | (simp [AV.beq] at h; done)
  · intro y h; cases y <;> first | rfl | (simp [AV.beq] at h; done)
  · intro n y h
    cases y <;> first | (simp [AV.beq] at h; done) | skip
    rw [AV.beq] at h
    rw [Nat.eq_of_beq_eq_true h]
  · intro y h; cases y <;> first | rfl | (simp [AV.beq] at h; done)
  · intro f a c iha ihc y h
    cases y <;> first | (simp [AV.beq] at h; done) | skip
    rw [AV.beq] at h
    obtain ⟨h, h3⟩ := beq_and h
    obtain ⟨h1, h2⟩ := beq_and h
    rw [Nat.eq_of_beq_eq_true h1, iha _ h2, ihc _ h3]
  · intro y h; cases y <;> first | rfl | (simp [AV.beq] at h; done)
  · intro n y h
    cases y <;> first | (simp [AV.beq] at h; done) | skip
    rw [AV.beq] at h
    rw [Nat.eq_of_beq_eq_true h]
  · intro t v ih y h
    cases y <;> first | (simp [AV.beq] at h; done) | skip
    rw [AV.beq] at h
    obtain ⟨h1, h2⟩ := beq_and h
    rw [Nat.eq_of_beq_eq_true h1, ih _ h2]
  · intro y h; cases y <;> first | rfl | (simp [AV.beq] at h; done)
  · intro y h; cases y <;> first | rfl | (simp [AV.beq] at h; done)
  · intro l ih y h
    cases y <;> first | (simp [AV.beq] at h; done) | skip
    rw [AV.beq] at h
    rw [ih _ h]
  · intro l ih y h
    cases y <;> first | (simp [AV.beq] at h; done) | skip
    rw [AV.beq] at h
    rw [ih _ h]
  · intro m h; cases m <;> first | rfl | (simp [AV.beqs] at h; done)
  · intro a l iha ihl m h
    cases m <;> first | (simp [AV.beqs] at h; done) | skip
    rw [AV.beqs] at h
    obtain ⟨h1, h2⟩ := beq_and h
    rw [iha _ h1, ihl _ h2]

theorem AV.beq_refl (x : AV) : AV.beq x x = true := by
  refine AV.rec (motive_1 := fun x => AV.beq x x = true) (motive_2 := fun l => AV.beqs l l = true) ?_ ?_ ?_ ?_ ?_ ?_ ?_ ?_ ?_ ?_ ?_ ?_ ?_ ?_ ?_ ?_ ?_ ?_ ?_ ?_ x
  all_goals intros
  all_goals first
    | rfl
    | (simp [AV.beq, kEq_refl, iEq_iff]; done)
    | (simp [AV.beqs]; done)
    | (rename_i h; simp [AV.beq, h]; done)
    | (rename_i h h'; simp [AV.beq, h, h']; done)
    | (rename_i h h'; simp [AV.beqs, h, h']; done)
section
variable {P : Program} {B : Nat} {π : Pi} {H H' : Hp} {w : World} {v : AV}
theorem mapKV_eq {t : TypeId} {p : TypeId × TypeId} (h : mapKV P t = some p) : P.underlying t = some (.map p.1 p.2) := by
  unfold mapKV at h
  split at h
  · rename_i k v hu; cases h; exact hu
  · cases h
theorem HRel.map (hH : HRel π B H w) {b : Nat} {es : List (AV × AV)} {c : Nat} (h : H.get b = some (.map es c)) :
    ∃ m z l es', π b = some (m, z) ∧ w.heap[m]? = some (.map l c) ∧ es.Perm es' ∧ ERs π es' l.toList ∧ (l.toList.map (·.born)).Nodup ∧ (∀ e ∈ l.toList, e.born < c) ∧ (∀ e ∈ es, simpleK e.1 = true) ∧ (es.map (·.1)).Nodup := by
  obtain ⟨m, z, o, h1, h2, ⟨l, es', rfl, h4⟩, _⟩ := hH.blk b _ h
  exact ⟨m, z, l, es', h1, h2, h4⟩
theorem run_getObj_map {m c : Nat} {l : Array MapEntry} (h : w.heap[m]? = some (.map l c)) : (getObj m).run P w = .ok (.map l c) w := by simp [getObj, Sem.run, h]
theorem lookup_sound (hH : HRel π B H w) {t : TypeId} {m k : AV} {cm ck : Value} {ok : Bool} (hm : VR π m cm) (hk : VR π k ck) (h : lookupA P t m k ok H = some v) : ∃ cv, (Instr.lookup t cm ck ok).run P w = .ok cv w ∧ VR π v cv := by
  unfold lookupA at h
  split at h
  · rename_i kt vt hkv
    have hu := mapKV_eq hkv
    have main : ∀ (es es0 : List (AV × AV)) (es' : Array MapEntry), es.Perm es0 → ERs π es0 es'.toList → (match findE P H kt k es with
        | some (some v) => some (bif ok then .tup [v, .bool true] else v)
        | some none => match zeroA P vt with
          | some z => some (bif ok then .tup [z, .bool false] else z)
          | none => none
        | none => none) = some v → (Instr.checkKey es'.isEmpty 10000 kt ck).run P w = .ok () w ∧ ((∃ i cu u, (Instr.findKey kt ck es'.toList).run P w = .ok (some (i, cu)) w ∧ VR π u cu ∧ v = (bif ok then .tup [u, .bool true] else u)) ∨
          ((Instr.findKey kt ck es'.toList).run P w = .ok none w ∧ ∃ z cz, (zeroValue vt).run P w = .ok cz w ∧ VR π z cz ∧ v = (bif ok then .tup [z, .bool false] else z))) := by
      intro es es0 es' hp hE h
      cases hf : findE P H kt k es with
      | none => rw [hf] at h; cases h
      | some r =>
        rw [hf] at h
        obtain ⟨h1, r', h2, h3⟩ := findE_sound (P := P) hH hk hp hE hf es'.isEmpty
        refine ⟨h1, ?_⟩
        cases r with
        | none =>
          cases r' with
          | some p => exact h3.elim
          | none =>
            simp only at h
            cases hz : zeroA P vt with
            | none => rw [hz] at h; cases h
            | some z =>
              rw [hz] at h; cases h
              obtain ⟨cz, z1, z2⟩ := zeroA_run (P := P) (w := w) (π := π) hz
              exact .inr ⟨h2, z, cz, z1, z2, rfl⟩
        | some u =>
          cases r' with
          | none => exact h3.elim
          | some p =>
            obtain ⟨j, cu⟩ := p
            cases h
            exact .inl ⟨j, cu, u, h2, h3.1, rfl⟩
    have fin : ∀ {u : AV} {cu : Value} {b : Bool}, VR π u cu → VR π (bif ok then .tup [u, .bool b] else u) (if ok = true then .tuple #[cu, .bool b] else cu) := by
      intro u cu b hu
      cases ok with
      | true => exact .tup _ _ (.cons _ _ _ _ hu (.cons _ _ _ _ (.bool _) .nil))
      | false => exact hu
    unfold Instr.lookup
    rw [Sem.run_bind, run_underlying hu, Result.andThen_ok]
    cases hm with
    | nilm =>
      simp only at h
      obtain ⟨a, b⟩ := main [] [] #[] (.refl _) .nil h
      rcases b with ⟨i, cu, u, b1, b2, rfl⟩ | ⟨b1, z, cz, b2, b3, rfl⟩
      · exact ⟨_, by simp only [Sem.run_bind, Sem.run_pure, Result.andThen_ok, a, b1], fin b2⟩
      · exact ⟨_, by simp only [Sem.run_bind, Sem.run_pure, Result.andThen_ok, a, b1, b2], fin b3⟩
    | map b m z hp =>
      simp only at h
      cases hb : H.get b with
      | none => rw [hb] at h; cases h
      | some x =>
        rw [hb] at h
        cases x with
        | map es c =>
          obtain ⟨m', z', l, es0, a1, a2, a0, a3, _⟩ := hH.map hb
          rw [hp] at a1; cases a1
          obtain ⟨a, b⟩ := main es es0 l a0 a3 h
          rcases b with ⟨i, cu, u, b1, b2, rfl⟩ | ⟨b1, z, cz, b2, b3, rfl⟩
          · exact ⟨_, by simp only [Sem.run_bind, Sem.run_pure, Result.andThen_ok, run_getObj_map a2, a, b1], fin b2⟩
          · exact ⟨_, by simp only [Sem.run_bind, Sem.run_pure, Result.andThen_ok, run_getObj_map a2, a, b1, b2], fin b3⟩
        | _ => cases h
    | _ => cases h
  · cases h
/-! ### Maps are written -/
theorem eqF_refl {eq : TypeId → AV → AV → Option Bool} (he : ∀ t x b, eq t x x = some b → b = true) (P : Program) (xs : List AV) : ∀ (fs : List Field) (b : Bool), eqF eq P xs xs fs = some b → b = true
  | [], b, h => by cases h; rfl
  | f :: fs, b, h => by
    unfold eqF at h
    cases hn : f.name == "_" with
    | true => rw [hn, cond_true] at h; exact eqF_refl he P xs fs b h
    | false =>
      rw [hn, cond_false] at h
      split at h
      · rename_i x y h1 h2
        rw [h1] at h2; cases h2
        rcases andO_some' h with ⟨a, rfl⟩ | ⟨a, c⟩
        · exact he _ _ _ a
        · exact eqF_refl he P xs fs b c
      · cases h
where
  andO_some' {a : Option Bool} {b : Unit → Option Bool} {r : Bool} (h : andO a b = some r) : (a = some r ∧ r = false) ∨ (a = some true ∧ b () = some r) := by
    unfold andO at h
    split at h
    · exact .inr ⟨rfl, h⟩
    · rename_i hne
      cases a with
      | none => cases h
      | some x => cases x with
        | true => exact absurd rfl hne
        | false => cases h; exact .inl ⟨rfl, rfl⟩
theorem eqA_refl : ∀ (d : Nat) (t : TypeId) (x : AV) (b : Bool), eqA P H d t x x = some b → b = true
  | 0, t, x, b, h => by unfold eqA at h; cases h
  | d + 1, t, x, b, h => by
    have ih := eqA_refl d
    have hr : ∀ n, Nat.beq n n = true := fun n => by simp
    cases x <;> unfold eqA at h <;> split at h <;> first | (cases h; done) | skip
    all_goals rename_i heq hx
    all_goals first
      | (cases heq; done)
      | (cases hx; done)
      | (cases heq; cases hx; cases h; rfl)
      | (cases heq; cases hx; cases h; simp; done)
      | (cases heq; cases hx; rw [kEq_refl, cond_true] at h; cases h; rw [iEq_iff]; simp; done)
      | (cases heq; cases hx
         split at h
         · rw [hr, cond_true] at h; cases h; exact hr _
         · cases h)
      | (cases heq; cases hx
         rw [hr, cond_true] at h
         split at h
         · rename_i inf hi
           cases hc : inf.comparable with
           | false => rw [hc] at h; cases h
           | true => rw [hc] at h; exact ih _ _ _ h
         · cases h)
      | (cases heq; cases hx
         cases hc : P.stoodInHeld t with
         | false => rw [hc] at h; exact eqF_refl ih P _ _ _ h
         | true => rw [hc] at h; cases h)
/-! #### Another value -/
theorem setK_split {k v : AV} : ∀ {es es1 : List (AV × AV)}, setK k v es = some es1 → ∃ pre v0 post, es = pre ++ (k, v0) :: post ∧ es1 = pre ++ (k, v) :: post
  | [], _, h => by cases h
  | (k0, v0) :: es, es1, h => by
    unfold setK at h
    cases hb : AV.beq k k0 with
    | true =>
      rw [hb, cond_true] at h; cases h
      have := AV.beq_eq k k0 hb
      subst this
      exact ⟨[], v0, es, rfl, rfl⟩
    | false =>
      rw [hb, cond_false] at h
      simp only [Option.map_eq_some_iff] at h
      obtain ⟨es2, h1, rfl⟩ := h
      obtain ⟨pre, v1, post, rfl, rfl⟩ := setK_split h1
      exact ⟨(k0, v0) :: pre, v1, post, rfl, rfl⟩
theorem dropK_split {k : AV} : ∀ {es es1 : List (AV × AV)}, dropK k es = some es1 → ∃ pre v0 post, es = pre ++ (k, v0) :: post ∧ es1 = pre ++ post
  | [], _, h => by cases h
  | (k0, v0) :: es, es1, h => by
    unfold dropK at h
    cases hb : AV.beq k k0 with
    | true =>
      rw [hb, cond_true] at h; cases h
      have := AV.beq_eq k k0 hb
      subst this
      exact ⟨[], v0, es, rfl, rfl⟩
    | false =>
      rw [hb, cond_false] at h
      simp only [Option.map_eq_some_iff] at h
      obtain ⟨es2, h1, rfl⟩ := h
      obtain ⟨pre, v1, post, rfl, rfl⟩ := dropK_split h1
      exact ⟨(k0, v0) :: pre, v1, post, rfl, rfl⟩
/-- The entry that was found is the key's own. -/
theorem found_own {kt : TypeId} {k k1 v : AV} {pre post pre0 post0 : List (AV × AV)} {v0 : AV} (hp : (pre0 ++ (k, v0) :: post0).Perm (pre ++ (k1, v) :: post)) (h1 : eqA P H 20 kt k k1 = some true) (h2 : ∀ e ∈ pre ++ post, eqA P H 20 kt k e.1 = some false) : k1 = k ∧ v = v0 ∧ (pre0 ++ post0).Perm (pre ++ post) := by
  have hm : (k, v0) ∈ pre ++ (k1, v) :: post := hp.mem_iff.1 (by simp)
  have hk : (k, v0) = (k1, v) := by
    rcases List.mem_append.1 hm with h | h
    · have := eqA_refl _ _ _ _ (h2 (k, v0) (by simp [h])); cases this
    · rcases List.mem_cons.1 h with h | h
      · exact h
      · have := eqA_refl _ _ _ _ (h2 (k, v0) (by simp [h])); cases this
  cases hk
  refine ⟨rfl, rfl, ?_⟩
  exact ((List.perm_middle.symm.trans hp).trans List.perm_middle).cons_inv
theorem ERs.append {a b : List (AV × AV)} {a' b' : List MapEntry} (h : ERs π a a') (k : ERs π b b') : ERs π (a ++ b) (a' ++ b') := by
  induction h with
  | nil => exact k
  | cons _ _ _ _ _ _ _ hk hv _ ih => exact .cons _ _ _ _ _ _ _ hk hv ih
theorem ERs.length {a : List (AV × AV)} {a' : List MapEntry} (h : ERs π a a') : a.length = a'.length := by
  induction h with
  | nil => rfl
  | cons _ _ _ _ _ _ _ _ _ _ ih => simp [ih]
theorem ERs.split {pre post : List (AV × AV)} {k v : AV} : ∀ {l : List MapEntry}, ERs π (pre ++ (k, v) :: post) l → ∃ lp e lq, l = lp ++ e :: lq ∧ lp.length = pre.length ∧ ERs π pre lp ∧ VR π k e.key ∧ VR π v e.val ∧ ERs π post lq := by
  induction pre with
  | nil =>
    intro l h
    cases h with
    | cons _ _ b k' v' _ l' hk hv h' => exact ⟨[], _, l', rfl, rfl, .nil, hk, hv, h'⟩
  | cons p pre ih =>
    intro l h
    cases h with
    | cons _ _ b k' v' _ l' hk hv h' =>
      obtain ⟨lp, e, lq, rfl, h1, h2, h3, h4, h5⟩ := ih h'
      exact ⟨_ :: lp, e, lq, rfl, by simp [h1], .cons _ _ _ _ _ _ _ hk hv h2, h3, h4, h5⟩
theorem keyStays_run (old new : Value) : ∃ k' w1, (Instr.keyThatStays old new).run P w = .ok k' w1 ∧ (k' = old ∨ k' = new) ∧ w1.heap = w.heap ∧ (w1.os = w.os ∧ w1.tape = w.tape ∧ w1.output = w.output) := by
  unfold Instr.keyThatStays
  split
  · exact ⟨new, w, rfl, .inr rfl, rfl, rfl, rfl, rfl⟩
  · simp only [Sem.run_bind, choose, Sem.run, Question.forced]
    simp only [Nat.reduceEqDiff, decide_false, Bool.false_eq_true, if_false, Result.andThen_ok, Sem.run_pure]
    split
    · exact ⟨new, _, rfl, .inr rfl, rfl, rfl, rfl, rfl⟩
    · exact ⟨old, _, rfl, .inl rfl, rfl, rfl, rfl, rfl⟩
/-- A map is written. -/
theorem mapSet_step (hH : HRel π B H w) {b : Nat} {es es1 : List (AV × AV)} {c c1 m z : Nat} {l l1 : Array MapEntry} (hb : H.get b = some (.map es c)) (hp : π b = some (m, z)) (hw : w.heap[m]? = some (.map l c)) (hE : ∀ w', BR π w' (.map es1 c1) z (.map l1 c1)) (hev : Evo (some (.map l c)) (some (.map l1 c1))) :
    (setObj m (.map l1 c1)).run P w = .ok () { w with heap := w.heap.setIfInBounds m (.map l1 c1) } ∧ Step B π H w π (H.set b (.map es1 c1)) { w with heap := w.heap.setIfInBounds m (.map l1 c1) } := by
  have hlt : m < w.heap.size := by
    rcases Nat.lt_or_ge m w.heap.size with h | h
    · exact h
    · simp [Array.getElem?_eq_none h] at hw
  refine ⟨by simp [setObj, Sem.run, hw], ?_⟩
  refine Step.write (x := .map es c) (x' := .map es1 c1) (o' := .map l1 c1) hH hb rfl hp ?_ ?_ (by simp) ⟨rfl, rfl, rfl⟩ (by rw [hw]; exact hev) (hE _) rfl (fun _ => rfl) rfl ?_
  · simp [hlt]
  · intro k hk
    rw [Array.getElem?_setIfInBounds_ne (fun e => hk e.symm)]
  · intro i y hy
    rw [Hp.get_set] at hy
    split at hy
    · rename_i e; cases hy; exact .inl ⟨e, rfl⟩
    · rename_i hne
      refine .inr ⟨hne, hy, fun z' hz' => ?_⟩
      have := (hH.sep b _ i y m z z' hb hy hp hz' (fun e => hne e.symm)).1
      cases this
theorem mapUpd_sound (hH : HRel π B H w) {t : TypeId} {m k v : AV} {cm ck cv : Value} (hm : VR π m cm) (hk : VR π k ck) (hv : VR π v cv) (h : mapUpd P t m k v H = some H') : ∃ w', (Instr.mapUpdate t cm ck cv).run P w = .ok () w' ∧ Step B π H w π H' w' := by
  unfold mapUpd at h
  split at h
  · rename_i kt vt b hkv
    have hu := mapKV_eq hkv
    split at h
    · rename_i es c hb
      obtain ⟨mm, z, l, es', a1, a2, a3, a4, a5, a6, a7, a8⟩ := hH.map hb
      cases hm with
      | map _ m' z' hp =>
        rw [hp] at a1; cases a1
        unfold Instr.mapUpdate
        rw [Sem.run_bind, run_underlying hu, Result.andThen_ok]
        simp only [Sem.run_bind, run_getObj_map a2, Result.andThen_ok]
        cases hf : findE P H kt k es with
        | none => rw [hf] at h; cases h
        | some r =>
          rw [hf] at h
          obtain ⟨h1, r', h2, h3⟩ := findE_sound (P := P) hH hk a3 a4 hf false
          simp only [h1, Result.andThen_ok, h2]
          cases r with
          | none =>
            cases r' with
            | some p => exact h3.elim
            | none =>
              simp only at h
              cases hs : simpleK k with
              | false => rw [hs] at h; cases h
              | true =>
                rw [hs, cond_true, fN_eq] at h
                cases h
                have hE : ∀ w', BR π w' (.map ((k, v) :: es) (c + 1)) z (.map (l.push { key := ck, val := cv, born := c }) (c + 1)) := by
                  intro w'
                  refine ⟨_, es' ++ [(k, v)], rfl, (a3.cons _).trans (List.perm_append_singleton _ _).symm, ?_, ?_, ?_, ?_, ?_⟩
                  · rw [Array.toList_push]; exact a4.append (.cons _ _ _ _ _ _ _ hk hv .nil)
                  · rw [Array.toList_push, List.map_append, List.nodup_append]
                    refine ⟨a5, by simp, ?_⟩
                    intro x hx y hy
                    obtain ⟨e, he, rfl⟩ := List.mem_map.1 hx
                    have := a6 e he
                    simp at hy
                    omega
                  · intro e he
                    rw [Array.toList_push] at he
                    rcases List.mem_append.1 he with he | he
                    · have := a6 e he; omega
                    · simp at he; subst he; simp
                  · intro e he
                    rcases List.mem_cons.1 he with rfl | he
                    · exact hs
                    · exact a7 e he
                  · rw [List.map_cons, List.nodup_cons]
                    refine ⟨fun hm => ?_, a8⟩
                    obtain ⟨e, he, hek⟩ := List.mem_map.1 hm
                    have h2 := (ob_eq hf).2
                    have := findK_none h2 e he
                    rw [hek] at this
                    cases eqA_refl _ _ _ _ this
                have hV : Evo (some (.map l c)) (some (.map (l.push { key := ck, val := cv, born := c }) (c + 1))) := by
                  intro l' k' e
                  cases e
                  exact ⟨l, c, rfl, by omega, fun e => by omega⟩
                obtain ⟨k1, k2⟩ := mapSet_step (P := P) hH hb hp a2 hE hV
                exact ⟨_, k1, k2⟩
          | some v1 =>
            cases r' with
            | none => exact h3.elim
            | some p =>
              obtain ⟨j, cu⟩ := p
              obtain ⟨_, pre, k1, post, rfl, rfl, f1, f2⟩ := h3
              simp only [Option.map_eq_some_iff] at h
              obtain ⟨es1, s1, rfl⟩ := h
              obtain ⟨pre0, v0, post0, rfl, rfl⟩ := setK_split s1
              obtain ⟨rfl, rfl, hperm⟩ := found_own a3 f1 f2
              obtain ⟨lp, e, lq, hl, q1, q2, q3, q4, q5⟩ := a4.split
              obtain ⟨key', w1, g1, g2, g3, g4⟩ := keyStays_run (P := P) (w := w) (((l[0 + pre.length]?).map (·.key)).getD ck) ck
              have hge : l[0 + pre.length]? = some e := by
                rw [Nat.zero_add, ← Array.getElem?_toList, hl, ← q1]; simp
              have hkey : VR π k1 key' := by
                rcases g2 with rfl | rfl
                · rw [hge]; exact q3
                · exact hk
              have hmod : (l.modify (0 + pre.length) fun x => { x with key := key', val := cv }).toList = lp ++ { e with key := key', val := cv } :: lq := by
                rw [Nat.zero_add, Array.toList_modify, hl, ← q1]
                have : ∀ (lp : List MapEntry) (f : MapEntry → MapEntry), (lp ++ e :: lq).modify lp.length f = lp ++ f e :: lq := by
                  intro lp f
                  induction lp with
                  | nil => rfl
                  | cons x lp ih => show x :: (lp ++ e :: lq).modify lp.length f = _; rw [ih]; rfl
                exact this lp _
              have hH1 := hH.same g3
              have hE : ∀ w', BR π w' (.map (pre0 ++ (k1, v) :: post0) c) z (.map (l.modify (0 + pre.length) fun x => { x with key := key', val := cv }) c) := by
                intro w'
                refine ⟨_, pre ++ (k1, v) :: post, rfl, (List.perm_middle.trans (hperm.cons _)).trans List.perm_middle.symm, ?_, ?_, ?_, ?_, by simpa using a8⟩
                · rw [hmod]; exact q2.append (.cons _ _ _ _ _ _ _ hkey hv q5)
                · rw [hmod]
                  rw [hl] at a5
                  simpa using a5
                · intro x hx
                  rw [hmod] at hx
                  rcases List.mem_append.1 hx with hx | hx
                  · exact a6 x (by rw [hl]; simp [hx])
                  · rcases List.mem_cons.1 hx with rfl | hx
                    · exact a6 e (by rw [hl]; simp)
                    · exact a6 x (by rw [hl]; simp [hx])
                · intro x hx
                  rcases List.mem_append.1 hx with hx | hx
                  · exact a7 x (by simp [hx])
                  · rcases List.mem_cons.1 hx with rfl | hx
                    · exact a7 (k1, v1) (by simp)
                    · exact a7 x (by simp [hx])
              have hV : Evo (some (.map l c)) (some (.map (l.modify (0 + pre.length) fun x => { x with key := key', val := cv }) c)) := by
                intro l' k' ee
                cases ee
                refine ⟨l, c, rfl, Nat.le_refl _, fun _ x hx => ?_⟩
                rw [hmod] at hx
                rcases List.mem_append.1 hx with hx | hx
                · exact ⟨x, by rw [hl]; simp [hx], rfl, fun _ _ => Iff.rfl⟩
                · rcases List.mem_cons.1 hx with rfl | hx
                  · refine ⟨e, by rw [hl]; simp, rfl, fun kk hkk => ?_⟩
                    have hs1 := a7 (k1, v1) (by simp)
                    show SV kk key' ↔ SV kk e.key
                    constructor
                    · intro hsv
                      have := simple_inj hkk hs1 (hsv.vr (π := π)) hkey
                      subst this
                      exact simple_SV hs1 q3
                    · intro hsv
                      have := simple_inj hkk hs1 (hsv.vr (π := π)) q3
                      subst this
                      exact simple_SV hs1 hkey
                  · exact ⟨x, by rw [hl]; simp [hx], rfl, fun _ _ => Iff.rfl⟩
              obtain ⟨r1, r2⟩ := mapSet_step (P := P) (w := w1) hH1 hb hp (by rw [g3]; exact a2) hE hV
              refine ⟨_, ?_, Step.trans hH (Step.same hH g3 g4) r2⟩
              show Sem.run P (do
                let key ← Instr.keyThatStays (((l[0 + pre.length]?).map (·.key)).getD ck) ck
                setObj mm (.map (l.modify (0 + pre.length) fun e => { e with key, val := cv }) c)) w = _
              rw [Sem.run_bind, g1, Result.andThen_ok]
              exact r1
    · cases h
  · cases h
theorem BR_map {π : Pi} {es es' : List (AV × AV)} {c z : Nat} {l : Array MapEntry} (h1 : es.Perm es') (h2 : ERs π es' l.toList) (h3 : (l.toList.map (·.born)).Nodup) (h4 : ∀ e ∈ l.toList, e.born < c) (h5 : ∀ e ∈ es, simpleK e.1 = true) (h6 : (es.map (·.1)).Nodup) (w : World) : BR π w (.map es c) z (.map l c) :=
  ⟨l, es', rfl, h1, h2, h3, h4, h5, h6⟩
theorem Evo.sub {l l1 : Array MapEntry} {c : Nat} (h : ∀ e ∈ l1.toList, e ∈ l.toList) : Evo (some (.map l c)) (some (.map l1 c)) := by
  intro l' k' e
  cases e
  exact ⟨l, c, rfl, Nat.le_refl _, fun _ x hx => ⟨x, h x hx, rfl, fun _ _ => Iff.rfl⟩⟩
theorem run_setObj_map {m c c1 : Nat} {l l1 : Array MapEntry} (hw : w.heap[m]? = some (.map l c)) : (setObj m (.map l1 c1)).run P w = .ok () { w with heap := w.heap.setIfInBounds m (.map l1 c1) } := by simp [setObj, Sem.run, hw]
theorem setIfInBounds_self {m : Nat} {o : Obj} (hw : w.heap[m]? = some o) : ({ w with heap := w.heap.setIfInBounds m o } : World) = w := by
  have : w.heap.setIfInBounds m o = w.heap := by
    apply Array.ext
    · simp
    · intro i h1 h2
      rw [Array.getElem_setIfInBounds]
      split
      · rename_i e; subst e
        rw [Array.getElem?_eq_getElem h2] at hw
        simpa using hw.symm
      · rfl
  rw [this]
theorem mapDel_sound (hH : HRel π B H w) {t u : TypeId} {ts : Array TypeId} {m k : AV} {cm ck : Value} (ht : ts[0]? = some t) (hm : VR π m cm) (hk : VR π k ck) (h : mapDel P t m k H = some H') : ∃ w', (Builtin.delete_ ts u #[cm, ck]).run P w = .ok (.tuple #[]) w' ∧ Step B π H w π H' w' := by
  unfold mapDel at h
  unfold Builtin.delete_
  simp only [ht, List.getElem?_toArray, List.getElem?_cons_zero, List.getElem?_cons_succ]
  split at h
  · rename_i kt vt hkv
    have hu := mapKV_eq hkv
    cases hm with
    | nilm =>
      obtain ⟨hb, rfl⟩ := cond_some h
      refine ⟨w, ?_, .refl hH⟩
      rw [Sem.run_bind, run_underlying hu, Result.andThen_ok]
      simp only [Sem.run_bind, keyOk_sound 5 10000 kt k ck true (by omega) hk hb, Result.andThen_ok, Sem.run_pure]
  · rename_i kt vt b hkv
    have hu := mapKV_eq hkv
    split at h
    · rename_i es c hb
      obtain ⟨mm, z, l, es', a1, a2, a3, a4, a5, a6, a7, a8⟩ := hH.map hb
      cases hm with
      | map _ m' z' hp =>
        rw [hp] at a1; cases a1
        rw [Sem.run_bind, run_underlying hu, Result.andThen_ok]
        simp only [Sem.run_bind, run_getObj_map a2, Result.andThen_ok]
        cases hf : findE P H kt k es with
        | none => rw [hf] at h; cases h
        | some r =>
          rw [hf] at h
          obtain ⟨h1, r', h2, h3⟩ := findE_sound (P := P) hH hk a3 a4 hf l.isEmpty
          simp only [h1, Result.andThen_ok, h2]
          cases r with
          | none =>
            cases r' with
            | some p => exact h3.elim
            | none =>
              cases h
              refine ⟨w, ?_, .refl hH⟩
              simp only [Sem.run_bind, run_setObj_map a2, Result.andThen_ok, Sem.run_pure]
              rw [setIfInBounds_self a2]
          | some v1 =>
            cases r' with
            | none => exact h3.elim
            | some p =>
              obtain ⟨j, cu⟩ := p
              obtain ⟨_, pre, k1, post, rfl, rfl, f1, f2⟩ := h3
              simp only [Option.map_eq_some_iff] at h
              obtain ⟨es1, s1, rfl⟩ := h
              obtain ⟨pre0, v0, post0, rfl, rfl⟩ := dropK_split s1
              obtain ⟨rfl, rfl, hperm⟩ := found_own a3 f1 f2
              obtain ⟨lp, e, lq, hl, q1, q2, q3, q4, q5⟩ := a4.split
              have her : (l.eraseIdxIfInBounds (0 + pre.length)).toList = lp ++ lq := by
                rw [Nat.zero_add]
                unfold Array.eraseIdxIfInBounds
                split
                · rw [Array.toList_eraseIdx, hl, ← q1]
                  rw [List.eraseIdx_append_of_length_le (Nat.le_refl _)]
                  simp
                · rename_i hn
                  exfalso
                  apply hn
                  rw [← Array.length_toList, hl, List.length_append, List.length_cons]
                  omega
              have hsub : ∀ x ∈ lp ++ lq, x ∈ l.toList := fun x hx => by
                rw [hl]
                rcases List.mem_append.1 hx with hx | hx <;> simp [hx]
              have hE : ∀ w', BR π w' (.map (pre0 ++ post0) c) z (.map (l.eraseIdxIfInBounds (0 + pre.length)) c) := by
                refine BR_map hperm ?_ ?_ ?_ ?_ ?_
                · rw [her]; exact q2.append q5
                · rw [her]
                  rw [hl, List.map_append, List.map_cons] at a5
                  rw [List.map_append]
                  exact (List.nodup_cons.1 (List.perm_middle.nodup_iff.1 a5)).2
                · intro x hx
                  rw [her] at hx
                  exact a6 x (hsub x hx)
                · intro x hx
                  rcases List.mem_append.1 hx with hx | hx
                  · exact a7 x (by simp [hx])
                  · exact a7 x (by simp [hx])
                · rw [List.map_append, List.map_cons] at a8
                  rw [List.map_append]
                  exact (List.nodup_cons.1 (List.perm_middle.nodup_iff.1 a8)).2
              have hV : Evo (some (.map l c)) (some (.map (l.eraseIdxIfInBounds (0 + pre.length)) c)) := Evo.sub fun x hx => by rw [her] at hx; exact hsub x hx
              obtain ⟨r1, r2⟩ := mapSet_step (P := P) hH hb hp a2 hE hV
              refine ⟨_, ?_, r2⟩
              simp only [Sem.run_bind, r1, Result.andThen_ok, Sem.run_pure]
    · cases h
  · cases h
/-! ### Walks over maps -/
theorem objSet_step (hH : HRel π B H w) {b : Nat} {x x' : Blk} {m z : Nat} {o o' : Obj} (hb : H.get b = some x) (hx : x.isC = false) (hx' : x'.isC = false) (hp : π b = some (m, z)) (hw : w.heap[m]? = some o) (ho : ∀ a t f, o ≠ .cells a t f) (hev : Evo (some o) (some o')) (hR : BR π { w with heap := w.heap.setIfInBounds m o' } x' z o') :
    (setObj m o').run P w = .ok () { w with heap := w.heap.setIfInBounds m o' } ∧ Step B π H w π (H.set b x') { w with heap := w.heap.setIfInBounds m o' } := by
  have hlt : m < w.heap.size := by
    rcases Nat.lt_or_ge m w.heap.size with h | h
    · exact h
    · simp [Array.getElem?_eq_none h] at hw
  have wr : ∀ y : Blk, y.isC = false → y.wr = true := by intro y hy; cases y <;> first | rfl | cases hy
  have sb : ∀ y : Blk, y.isC = false → y.sib = [] := by intro y hy; cases y <;> first | rfl | cases hy
  refine ⟨?_, ?_⟩
  · unfold setObj
    simp only [Sem.run, hw]
  refine Step.write (x := x) (x' := x') hH hb (wr x hx) hp ?_ ?_ (by simp) ⟨rfl, rfl, rfl⟩ (by rw [hw]; exact hev) hR (by rw [hx, hx']) (fun _ => by rw [sb x hx, sb x' hx']) rfl ?_
  · simp [hlt]
  · intro k hk
    rw [Array.getElem?_setIfInBounds_ne (fun e => hk e.symm)]
  · intro i y hy
    rw [Hp.get_set] at hy
    split at hy
    · rename_i e; cases hy; exact .inl ⟨e, rfl⟩
    · rename_i hne
      refine .inr ⟨hne, hy, fun z' hz' => ?_⟩
      have := (hH.sep b _ i y m z z' hb hy hp hz' (fun e => hne e.symm)).1
      rw [hx] at this; cases this
theorem run_getObj {m : Nat} {o : Obj} (h : w.heap[m]? = some o) (ho : ∀ a t f, o ≠ .cells a t f) : (getObj m).run P w = .ok o w := by
  unfold getObj
  simp only [Sem.run, h]
end
end Go.Proofs.YthfenjgelbkloaaGreatDoor.Ev
