/- The evaluator's soundness, 5: new blocks, built values, places. -/
import Derived.Test.YtmoejaloachlkaaGreatDoorEu
namespace Go.Proofs.YtmoejaloachlkaaGreatDoor.Ev
open Go Go.RowKit

/-! ### New rows -/
theorem cells_arr {v : Value} : v.cells.toList.toArray = v.cells := by simp
section
variable {B : Nat} {π : Pi} {H : Hp} {w : World}
theorem rd_row {e n lo hi : Nat} {wr : Bool} {sib : List Nat} {l : List (Option AV)} {j : Nat} {v : AV} (h : (Blk.cells (lays 0 l .e) none n e lo hi wr sib).rd j = some v) : j < n ∧ l[j]? = some (some v) := by
  obtain ⟨h1, h2⟩ := ob_eq (b := Nat.blt j n) h
  have h3 : oo ((lays 0 l .e).get (Pos.of j)) none some = some v := h2
  rw [lays_get] at h3
  refine ⟨by simpa [Nat.blt_eq] using h1, ?_⟩
  split at h3
  · rename_i hj
    rw [Nat.sub_zero] at h3
    cases hg : l[j]? with
    | none => rw [hg] at h3; cases h3
    | some ov => rw [hg] at h3; cases ov with
      | none => cases h3
      | some u => have : u = v := by simpa [oo] using h3
                  rw [this]
  · rw [T.get_e] at h3; cases h3
/-- What is known of a row that is made. -/
theorem BR_row {e n lo hi : Nat} {wr : Bool} {sib : List Nat} {l : List (Option AV)} {arr : Array Value} (hn : n ≤ arr.size) (h : ∀ (j : Nat) (v : AV), j < n → l[j]? = some (some v) → ∃ cv, arr[j]? = some cv ∧ VR π v cv) (h1 : ∀ v ∈ arr.toList, v.oneCell' = true) (fz : Nat × Nat)
    (hf : wr = true → fz.1 ≤ fz.2 ∧ ∀ j, fz.1 ≤ j → j < fz.2 → (lo ≤ j ∧ j < hi) ∨ (hi < lo ∧ arr.size ≤ j)) {w : World} : BR π w (.cells (lays 0 l .e) none n e lo hi wr sib) arr.size (.cells arr e fz) :=
  ⟨arr, fz, rfl, rfl, hn, hf, fun j v hj => let ⟨a, b⟩ := rd_row hj; h j v a b, fun j cv hj => h1 cv (by rw [← Array.getElem?_toList] at hj; exact List.mem_of_getElem? hj)⟩
theorem isCell_one {l : List AV} {vs : List Value} (h : VRs π l vs) (hc : l.all AV.isCell = true) : ∀ v ∈ vs, v.oneCell' = true := by
  induction l generalizing vs with
  | nil => cases h; intro v hv; cases hv
  | cons x l ih =>
    cases h with
    | cons _ v' _ l' h h' =>
      simp at hc
      intro v hv
      cases hv with
      | head => exact h.one hc.1
      | tail _ hm => exact ih h' (by simpa using hc.2) v hm
theorem newRow_sound (P : Program) (hH : HRel π B H w) {e : Nat} {l : List AV} {vs : List Value} (h : VRs π l vs) (hc : l.all AV.isCell = true) :
    (newRow e vs.toArray).run P w = .ok ⟨w.heap.size, 0, none⟩ (w.alloc (.cells vs.toArray e)) ∧ Step B π H w (piNew π H.nx w.heap.size vs.length) (H.new (rowV e l)) (w.alloc (.cells vs.toArray e)) := by
  refine ⟨by simp [newRow], ?_⟩
  have he := piNew_ext (H := H) (hH.fresh (Nat.le_refl _)) w.heap.size vs.length
  have := BR_row (π := piNew π H.nx w.heap.size vs.length) (w := w.alloc (.cells vs.toArray e)) (e := e) (n := l.length) (lo := 0) (hi := 0) (wr := true) (sib := []) (l := l.map some) (arr := vs.toArray) (by simp [h.length])
    (fun j v _ hj => by
      simp at hj
      obtain ⟨cv, a, b⟩ := h.get hj
      exact ⟨cv, by simpa using a, b.mono he⟩) (by simpa using isCell_one h hc) (0, 0) (fun _ => ⟨Nat.le_refl _, fun j a b => by omega⟩)
  refine Step.alloc hH _ vs.length _ ?_
  show BR _ _ (rowV e l) _ _
  unfold rowV row
  rw [List.length_map]
  simpa using this
end
theorem zeroC_run {P : Program} {π : Pi} {w : World} {t : TypeId} {l : List AV} (h : zeroC P t = some l) : ∃ z cz s g, zeroA P t = some z ∧ z.cells = l ∧ tAgg P t = some (g, s) ∧ l.length = s ∧ l.all AV.isCell = true ∧ (zeroValue t).run P w = .ok cz w ∧ VR π z cz ∧ VRs π l cz.cells.toList := by
  unfold zeroC at h
  split at h
  · rename_i z g s hz ht
    cases hb : (z.cells.all AV.isCell && Nat.beq z.cells.length s) with
    | false => rw [hb, cond_false] at h; cases h
    | true =>
      rw [hb, cond_true] at h; cases h
      simp only [Bool.and_eq_true, Nat.beq_eq] at hb
      obtain ⟨cz, a, b⟩ := zeroA_run (P := P) (w := w) (π := π) hz
      exact ⟨z, cz, s, g, hz, rfl, ht, hb.2, hb.1, a, b, b.cells⟩
  · cases h
section
variable {P : Program} {B : Nat} {π : Pi} {H H' : Hp} {w : World} {r : T AV} {a : Act} {v : AV}
theorem alloc_sound (hH : HRel π B H w) {e : TypeId} (h : opAlloc e P r H = .val v H') : OVal P (do let x ← Instr.alloc e true (.tuple #[]); pure (.value x)) B π H w v H' := by
  obtain ⟨l, h1, h2⟩ := oo_val h (by simp [orB])
  rw [fN_eq] at h2; cases h2
  obtain ⟨z, cz, s, g, _, _, _, _, hc, hz, _, hl⟩ := zeroC_run (P := P) (π := π) (w := w) h1
  obtain ⟨k1, k2⟩ := newRow_sound P hH (e := e) hl hc
  refine OVal.mk (cv := .pointer (some ⟨w.heap.size, 0, none⟩)) ?_ (.ptr _ _ _ cz.cells.toList.length (by simp [piNew])) k2
  unfold Instr.alloc
  rw [Sem.run_bind, hz, Result.andThen_ok]
  simp only [newVar, Sem.run_bind]
  rw [show cz.cells = cz.cells.toList.toArray by simp, k1]; rfl
theorem box_sound (hH : HRel π B H w) (hR : RR π r a.tmps) {e : TypeId} {x : Operand} (h : opBox e x P r H = .val v H') : OVal P (do let y ← Instr.box e (a.eval x); pure (.value y)) B π H w v H' := by
  obtain ⟨u, h1, h2⟩ := oo_val h (by simp [orB])
  obtain ⟨h3, h4⟩ := ob_val h2 (by simp [orB])
  rw [fN_eq] at h4; cases h4
  obtain ⟨k1, k2⟩ := newRow_sound P hH (e := e) (opnd_sound hH hR h1).cells h3
  refine OVal.mk (cv := .pointer (some ⟨w.heap.size, 0, none⟩)) ?_ (.ptr _ _ _ (a.eval x).cells.toList.length (by simp [piNew])) k2
  simp only [Instr.box, newVar, Sem.run_bind]
  rw [show (a.eval x).cells = (a.eval x).cells.toList.toArray by simp, k1]; rfl

/-! ### Filling -/
/-- Parts by number. -/
inductive PsR (π : Pi) : List (Nat × AV) → List (Nat × Value) → Prop where
  | nil : PsR π [] []
  | cons (i : Nat) (v : AV) (v' : Value) (l : List (Nat × AV)) (l' : List (Nat × Value)) (h : VR π v v') (h' : PsR π l l') : PsR π ((i, v) :: l) ((i, v') :: l')
theorem partsA_sound (hH : HRel π B H w) (hR : RR π r a.tmps) : ∀ {ps : List (Nat × Operand)} {l : List (Nat × AV)}, partsA r ps = some l → PsR π l (ps.map fun p => (p.1, a.eval p.2))
  | [], l, h => by cases h; exact .nil
  | (i, x) :: ps, l, h => by
    unfold partsA at h
    cases hx : opnd r x with
    | none => rw [hx] at h; cases h
    | some u =>
      rw [hx] at h
      simp only [Option.map_eq_some_iff] at h
      obtain ⟨m, h1, rfl⟩ := h
      exact .cons _ _ _ _ _ (opnd_sound hH hR hx) (partsA_sound hH hR h1)
theorem setL_fold (vs : List Value) : ∀ (i k : Nat) (cs : Array Value), ((vs.zipIdx k).foldl (fun cs (c, j) => cs.setIfInBounds (i + j) c) cs).toList = (vs.zipIdx k).foldl (fun l (c, j) => l.set (i + j) c) cs.toList := by
  induction vs with
  | nil => intro i k cs; rfl
  | cons v vs ih => intro i k cs; rw [List.zipIdx_cons, List.foldl_cons, List.foldl_cons, ih]; simp
theorem setL_sound {l : List AV} {vs : List Value} (h : VRs π l vs) : ∀ {m : List AV} {us : List Value} (i k : Nat), VRs π m us → VRs π (setL (i + k) m l) ((us.zipIdx k).foldl (fun l (c, j) => l.set (i + j) c) vs) := by
  intro m
  induction m generalizing l vs with
  | nil => intro us i k hm; cases hm; exact h
  | cons x m ih =>
    intro us i k hm
    cases hm with
    | cons _ u _ us' hx hm' =>
      rw [List.zipIdx_cons, List.foldl_cons, setL]
      have := ih (h.set (i + k) hx) i (k + 1) hm'
      rwa [show i + (k + 1) = i + k + 1 by omega] at this
theorem fill_sound {pl pl' : Nat → Option (Nat × Nat)} (hpl : ∀ i p, pl i = some p → pl' i = some p) : ∀ {ps : List (Nat × AV)} {qs : List (Nat × Value)} {l l' : List AV} {cs : Array Value}, PsR π ps qs → VRs π l cs.toList → fillA pl l ps = some l' →
    ∃ cs', Instr.fill pl' cs qs = some cs' ∧ VRs π l' cs'.toList
  | [], qs, l, l', cs, hp, hl, h => by cases hp; cases h; exact ⟨cs, rfl, hl⟩
  | (i, v) :: ps, qs, l, l', cs, hp, hl, h => by
    cases hp with
    | cons _ _ v' _ qs' hv hp' =>
      unfold fillA at h
      cases hi : pl i with
      | none => rw [hi] at h; cases h
      | some p =>
        obtain ⟨off, s⟩ := p
        rw [hi] at h
        simp only at h
        cases hb : (Nat.beq v.cells.length s && Nat.ble (off + s) l.length) with
        | false => rw [hb, cond_false] at h; cases h
        | true =>
          rw [hb, cond_true] at h
          simp only [Bool.and_eq_true, Nat.beq_eq, Nat.ble_eq] at hb
          have hcl := hv.cells.length
          have hll := hl.length
          have h1 := setL_sound hl off 0 hv.cells
          rw [Nat.add_zero] at h1
          have h2 := setL_fold v'.cells.toList off 0 cs
          obtain ⟨cs', k1, k2⟩ := fill_sound hpl (cs := (v'.cells.toList.zipIdx.foldl (fun cs (c, j) => cs.setIfInBounds (off + j) c) cs)) hp' (by rw [h2]; exact h1) h
          refine ⟨cs', ?_, k2⟩
          unfold Instr.fill
          rw [hpl i _ hi]
          simp only
          have e1 : v'.cells.size = s := by rw [← Array.length_toList, ← hcl]; exact hb.1
          have e2 : ¬ off + v'.cells.size > cs.size := by rw [← Array.length_toList (xs := cs), ← hll, e1]; omega
          rw [if_neg (by simp [e1]; rw [e1] at e2; omega)]
          rw [← k1]; congr 1
          rw [← Array.foldl_toList]; simp
theorem places_some (fs : List Field) (h : (fs.all fun f => (tAgg P f.type).isSome) = true) : ∃ places, fs.mapM (fun f => (P.info? f.type).map fun i => (f.offset, i.size)) = some places ∧ ∀ (i : Nat) (f : Field), fs[i]? = some f → ∃ g s, tAgg P f.type = some (g, s) ∧ places[i]? = some (f.offset, s) := by
  induction fs with
  | nil => exact ⟨[], by simp, fun i f h => by simp at h⟩
  | cons f fs ih =>
    simp only [List.all_cons, Bool.and_eq_true] at h
    obtain ⟨places, h1, h2⟩ := ih h.2
    obtain ⟨⟨g, s⟩, hs⟩ := Option.isSome_iff_exists.1 h.1
    obtain ⟨i, d, hi, hsz, _⟩ := tAgg_info hs
    refine ⟨(f.offset, s) :: places, by simp [List.mapM_cons, hi, h1, hsz], fun k q hk => ?_⟩
    cases k with
    | zero => simp at hk; subst hk; exact ⟨g, s, hs, rfl⟩
    | succ k => exact h2 k q (by simpa using hk)
theorem build_sound {t : TypeId} {ps : List (Nat × AV)} {qs : Array (Nat × Value)} (hp : PsR π ps qs.toList) (h : buildA P t ps = some v) : ∃ cv, (Instr.build t qs).run P w = .ok cv w ∧ VR π v cv := by
  obtain ⟨hf, h⟩ := ob_eq h
  split at h
  · rename_i fs z hu hz
    simp only [Option.map_eq_some_iff] at h
    obtain ⟨l, h1, rfl⟩ := h
    unfold fieldsOk at hf
    rw [hu] at hf
    obtain ⟨places, hpl, hget⟩ := places_some fs.toList hf
    unfold zeroA at hz
    split at hz
    · rename_i i hi
      simp only [Option.bind_eq_some_iff] at hz
      obtain ⟨zv, hz1, hz2⟩ := hz
      have hzr := (ofV_sound (π := π) _ _ _ hz2).cells
      obtain ⟨cs, k1, k2⟩ := fill_sound (pl' := (places.toArray[·]?)) (fun i p hp => by
        unfold placesA at hp
        split at hp
        · rename_i f hfi
          rw [← Array.getElem?_toList] at hfi
          obtain ⟨g, s, a1, a2⟩ := hget i f hfi
          rw [a1] at hp
          simp at hp
          subst hp
          simpa using a2
        · cases hp) hp hzr h1
      refine ⟨.agg cs, ?_, .agg _ _ k2⟩
      refine run_build (P := P) w t qs cs ?_
      unfold Program.built
      rw [hi, hu]
      simp only [hz1, hpl]
      exact k1
    · cases hz
  · rename_i n e z hu hz
    split at h
    · rename_i g s hs
      simp only [Option.map_eq_some_iff] at h
      obtain ⟨l, h1, rfl⟩ := h
      obtain ⟨ie, d, hie, hsz, _⟩ := tAgg_info hs
      unfold zeroA at hz
      split at hz
      · rename_i i hi
        simp only [Option.bind_eq_some_iff] at hz
        obtain ⟨zv, hz1, hz2⟩ := hz
        have hzr := (ofV_sound (π := π) _ _ _ hz2).cells
        obtain ⟨cs, k1, k2⟩ := fill_sound (pl' := fun i => some (i * s, s)) (fun i p hp => hp) hp hzr h1
        refine ⟨.agg cs, ?_, .agg _ _ k2⟩
        refine run_build (P := P) w t qs cs ?_
        unfold Program.built
        rw [hi, hu]
        simp only [hz1, hie, hsz]
        exact k1
      · cases hz
    · cases h
  · cases h
theorem repl_nil (n : Nat) : repl [] n = [] := by
  induction n with
  | zero => rfl
  | succ n ih => exact ih
theorem repl_range (z : List AV) (zc : Array Value) (n : Nat) (h : VRs π z zc.toList) (h0 : 0 < z.length) : VRs π (repl z n) ((List.range (n * zc.size)).map fun i => zc[i % zc.size]!) := by
  have hs : z.length = zc.size := by rw [h.length]; simp
  induction n with
  | zero => simp [repl]; exact .nil
  | succ n ih =>
    rw [repl, Nat.succ_mul, Nat.add_comm, List.range_add, List.map_append]
    refine VRs.append ?_ ?_
    · have : (List.range zc.size).map (fun i => zc[i % zc.size]!) = zc.toList := by
        apply List.ext_getElem (by simp)
        intro i h1 h2
        simp at h1 h2
        simp [Nat.mod_eq_of_lt h1, h1]
      rw [this]; exact h
    · rw [List.map_map]
      have : ((fun i => zc[i % zc.size]!) ∘ fun x => zc.size + x) = fun i => zc[i % zc.size]! := by funext i; simp
      rw [this]; exact ih
theorem buildSlice_sound (hH : HRel π B H w) (hR : RR π r a.tmps) {t : TypeId} {n : Nat} {ps : Array (Nat × Operand)} (h : opBuildSlice t n ps P r H = .val v H') :
    OVal P (do let y ← Instr.buildSlice t n (ps.map fun (i, x) => (i, a.eval x)); pure (.value y)) B π H w v H' := by
  obtain ⟨e, h1, h⟩ := oo_val h (by simp [orB])
  obtain ⟨l, h2, h⟩ := oo_val h (by simp [orB])
  obtain ⟨⟨g, s⟩, h3, h⟩ := oo_val h (by simp [orB])
  obtain ⟨z, h4, h⟩ := oo_val h (by simp [orB])
  obtain ⟨h5, h⟩ := ob_val h (by simp [orB])
  obtain ⟨cs, h6, h⟩ := oo_val h (by simp [orB])
  obtain ⟨h7, h⟩ := ob_val h (by simp [orB])
  rw [fN_eq] at h; cases h
  have hps := partsA_sound hH hR h2
  obtain ⟨za, cz, s', g', _, _, hs', hzl, hzc, hz, _, hzr⟩ := zeroC_run (P := P) (π := π) (w := w) h4
  rw [h3] at hs'; cases hs'
  have h5 : n < 16777216 ∧ n * s < 16777216 := by simpa [Nat.blt_eq, maxNeed] using h5
  obtain ⟨h50, h5⟩ := h5
  have hczs : cz.cells.size = s := by rw [← hzl, hzr.length]; simp
  -- the row's cells ahead of the parts
  have hrow : ∃ zr : Array Value, (n * s = 0 ∧ zr = #[] ∨ n * s ≠ 0 ∧ zr = cz.cells) ∧ VRs π (repl z n) ((List.range (n * s)).map fun i => zr[i % zr.size]!) := by
    by_cases h0 : n * s = 0
    · refine ⟨#[], .inl ⟨h0, rfl⟩, ?_⟩
      rw [h0]
      have : repl z n = [] := by
        rcases Nat.mul_eq_zero.1 h0 with rfl | h0
        · rfl
        · have : z = [] := List.length_eq_zero_iff.1 (by rw [hzl]; exact h0)
          subst this
          exact repl_nil n
      rw [this]; exact .nil
    · refine ⟨cz.cells, .inr ⟨h0, rfl⟩, ?_⟩
      have := repl_range z cz.cells n hzr (by rw [hzl]; rcases Nat.eq_zero_or_pos s with k | k; exact absurd (by rw [k]; simp) h0; exact k)
      rwa [hczs] at this ⊢
  obtain ⟨zr, hz1, hz2⟩ := hrow
  obtain ⟨cs', k1, k2⟩ := fill_sound (π := π) (pl := fun i => some (i * s, s)) (pl' := fun i => some (i * s, s)) (fun i p hp => hp) (cs := (Array.range (n * s)).map (zr[· % zr.size]!)) (qs := (ps.map fun (i, x) => (i, a.eval x)).toList) (by simpa using hps) (by simpa using hz2) h6
  obtain ⟨m1, m2⟩ := newRow_sound P hH (e := e) k2 h7
  have hlen : cs'.toList.length = n * s := by
    have : ∀ (qs : List (Nat × Value)) (c c' : Array Value), Instr.fill (fun i => some (i * s, s)) c qs = some c' → c'.size = c.size := by
      intro qs
      induction qs with
      | nil => intro c c' hc; cases hc; rfl
      | cons q qs ih =>
        intro c c' hc
        obtain ⟨i, v⟩ := q
        unfold Instr.fill at hc
        simp only at hc
        split at hc
        · cases hc
        · rw [ih _ _ hc]
          have : ∀ (us : List (Value × Nat)) (off : Nat) (c : Array Value), (us.foldl (fun cs (x : Value × Nat) => cs.setIfInBounds (off + x.2) x.1) c).size = c.size := by
            intro us
            induction us with
            | nil => intro off c; rfl
            | cons u us ih => intro off c; rw [List.foldl_cons, ih]; simp
          rw [← Array.foldl_toList]
          exact this _ _ _
    have h9 := this _ _ _ k1
    rw [Array.length_toList, h9]; simp
  refine OVal.mk (cv := .slice (some ⟨w.heap.size, 0, none⟩) n n) (π' := piNew π H.nx w.heap.size (n * s)) ?_ (.sl _ _ _ _ _ _ w.heap.size (n * s) n (by simp [piNew]) (Nat.le_refl _) (Nat.le_refl _) (fun _ => rfl) (by simp) (by unfold big63; omega)) (by rw [hlen] at m2; exact m2)
  unfold Instr.buildSlice
  simp only [Sem.run_bind, run_underlying (elemSl_eq h1), Result.andThen_ok, tAgg_size h3]
  rw [if_neg (by omega)]
  have k1' : Instr.fill (fun i => some (i * s, s)) ((Array.range (n * s)).map fun x => zr[x % zr.size]!) (Array.map (fun x => (x.fst, a.eval x.snd)) ps).toList = some cs' := k1
  have m1' : Sem.run P (newRow e cs') w = Result.ok ⟨w.heap.size, 0, none⟩ (w.alloc (Obj.cells cs'.toList.toArray e)) := by rw [← m1]
  rcases hz1 with ⟨h0, rfl⟩ | ⟨h0, rfl⟩
  · rw [if_pos h0]
    simp only [Sem.run_bind, Sem.run_pure, Result.andThen_ok]
    rw [k1']
    simp only [Sem.run_bind, m1', Result.andThen_ok, Sem.run_pure]
  · rw [if_neg h0]
    simp only [Sem.run_bind, hz, Sem.run_pure, Result.andThen_ok]
    rw [k1']
    simp only [Sem.run_bind, m1', Result.andThen_ok, Sem.run_pure]
end
end Go.Proofs.YtmoejaloachlkaaGreatDoor.Ev
