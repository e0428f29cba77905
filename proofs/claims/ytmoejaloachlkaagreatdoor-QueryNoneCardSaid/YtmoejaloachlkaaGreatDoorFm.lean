/- The evaluator's soundness, 18: operations that make a block, wherever its number. -/
import Derived.Test.YtmoejaloachlkaaGreatDoorFl
namespace Go.Proofs.YtmoejaloachlkaaGreatDoor.Ev
open Go Go.RowKit

section
/-- An operation makes one block, with number b. -/
def AR (P : Program) (π : Pi) (w : World) (b : Nat) (x : Blk) (v : AV) (s : Sem Value) : Prop :=
  ∃ (o : Obj) (z : Nat) (cv : Value), s.run P w = .ok cv (w.alloc o) ∧ (∀ w', BR π w' x z o) ∧ x.wr = true ∧ x.sib = [] ∧ ∀ π', PExt π π' → π' b = some (w.heap.size, z) → VR π' v cv
variable {P : Program} {B : Nat} {π : Pi} {H H' H0 : Hp} {w : World} {r : T AV} {a : Act} {v : AV}
theorem AR.oval (hH : HRel π B H w) {x : Blk} {s : Sem Value} (h : AR P π w H.nx x v s) : OVal P (do let y ← s; pure (.value y)) B π H w v (H.new x) := by
  obtain ⟨o, z, cv, h1, h2, _, _, h3⟩ := h
  have he := piNew_ext (H := H) (hH.fresh (Nat.le_refl _)) w.heap.size z
  exact OVal.mk h1 (h3 _ he (by simp [piNew])) (Step.alloc hH x z o ((h2 w).on he (fun c hc => Evo.of_eq (Below.heap_alloc _ _ _ hc)) (fun b p hp => (hH.dom b p hp).2)))
theorem row_AR (P : Program) {e : Nat} {l : List AV} {vs : List Value} (h : VRs π l vs) (hc : l.all AV.isCell = true) :
    (newRow e vs.toArray).run P w = .ok ⟨w.heap.size, 0, none⟩ (w.alloc (.cells vs.toArray e)) ∧ ∀ w', BR π w' (rowV e l) vs.length (.cells vs.toArray e) := by
  refine ⟨by simp [newRow], fun w' => ?_⟩
  have := BR_row (π := π) (w := w') (e := e) (n := l.length) (lo := 0) (hi := 0) (wr := true) (sib := []) (l := l.map some) (arr := vs.toArray) (by simp [h.length])
    (fun j v _ hj => by
      simp at hj
      obtain ⟨cv, a, b⟩ := h.get hj
      exact ⟨cv, by simpa using a, b⟩) (by simpa using isCell_one h hc) (0, 0) (fun _ => ⟨Nat.le_refl _, fun j a b => by omega⟩)
  unfold rowV row
  rw [List.length_map]
  simpa using this
theorem alloc_AR {e : TypeId} (h : opAlloc e P r H = .val v H') : ∃ x, H' = H.new x ∧ AR P π w H.nx x v (Instr.alloc e true (.tuple #[])) := by
  obtain ⟨l, h1, h2⟩ := oo_val h (by simp [orB])
  rw [fN_eq] at h2; cases h2
  obtain ⟨z, cz, s, g, _, _, _, _, hc, hz, _, hl⟩ := zeroC_run (P := P) (π := π) (w := w) h1
  obtain ⟨k1, k2⟩ := row_AR P (w := w) (e := e) hl hc
  refine ⟨rowV e l, rfl, .cells cz.cells.toList.toArray e, cz.cells.toList.length, .pointer (some ⟨w.heap.size, 0, none⟩), ?_, k2, rfl, rfl, fun π' _ hp => .ptr _ _ _ _ hp⟩
  unfold Instr.alloc
  rw [Sem.run_bind, hz, Result.andThen_ok]
  simp only [newVar, Sem.run_bind]
  rw [show cz.cells = cz.cells.toList.toArray by simp, k1]; rfl
theorem box_AR (hH : HRel π B H0 w) (hR : RR π r a.tmps) {e : TypeId} {x : Operand} (h : opBox e x P r H = .val v H') : ∃ y, H' = H.new y ∧ AR P π w H.nx y v (Instr.box e (a.eval x)) := by
  obtain ⟨u, h1, h2⟩ := oo_val h (by simp [orB])
  obtain ⟨h3, h4⟩ := ob_val h2 (by simp [orB])
  rw [fN_eq] at h4; cases h4
  obtain ⟨k1, k2⟩ := row_AR P (w := w) (e := e) (opnd_sound hH hR h1).cells h3
  refine ⟨_, rfl, .cells (a.eval x).cells.toList.toArray e, (a.eval x).cells.toList.length, .pointer (some ⟨w.heap.size, 0, none⟩), ?_, k2, rfl, rfl, fun π' _ hp => .ptr _ _ _ _ hp⟩
  simp only [Instr.box, newVar, Sem.run_bind]
  rw [show (a.eval x).cells = (a.eval x).cells.toList.toArray by simp, k1]; rfl
theorem buildSlice_AR (hH : HRel π B H0 w) (hR : RR π r a.tmps) {t : TypeId} {n : Nat} {ps : Array (Nat × Operand)} (h : opBuildSlice t n ps P r H = .val v H') :
    ∃ x, H' = H.new x ∧ AR P π w H.nx x v (Instr.buildSlice t n (ps.map fun (i, x) => (i, a.eval x))) := by
  obtain ⟨e, h1, h⟩ := oo_val h (by simp [orB])
  obtain ⟨l, h2, h⟩ := oo_val h (by simp [orB])
  obtain ⟨⟨g, s⟩, h3, h⟩ := oo_val h (by simp [orB])
  obtain ⟨z, h4, h⟩ := oo_val h (by simp [orB])
  obtain ⟨h5, h⟩ := ob_val h (by simp [orB])
  obtain ⟨cs, h6, h⟩ := oo_val h (by simp [orB])
  obtain ⟨h7, h⟩ := ob_val h (by simp [orB])
  rw [fN_eq] at h; cases h
  have hps := partsA_sound hH hR h2
  obtain ⟨za, cz, s', g', _, _, hs', hzl, hzc, hz, _, hzr⟩ := zeroC_run (P := P) (π := π) (w := w) h4
  rw [h3] at hs'; cases hs'
  have h5 : n < 16777216 ∧ n * s < 16777216 := by simpa [Nat.blt_eq, maxNeed] using h5
  obtain ⟨h50, h5⟩ := h5
  have hczs : cz.cells.size = s := by rw [← hzl, hzr.length]; simp
  -- the row's cells ahead of the parts
  have hrow : ∃ zr : Array Value, (n * s = 0 ∧ zr = #[] ∨ n * s ≠ 0 ∧ zr = cz.cells) ∧ VRs π (repl z n) ((List.range (n * s)).map fun i => zr[i % zr.size]!) := by
    by_cases h0 : n * s = 0
    · refine ⟨#[], .inl ⟨h0, rfl⟩, ?_⟩
      rw [h0]
      have : repl z n = [] := by
        rcases Nat.mul_eq_zero.1 h0 with rfl | h0
        · rfl
        · have : z = [] := List.length_eq_zero_iff.1 (by rw [hzl]; exact h0)
          subst this
          exact repl_nil n
      rw [this]; exact .nil
    · refine ⟨cz.cells, .inr ⟨h0, rfl⟩, ?_⟩
      have := repl_range z cz.cells n hzr (by rw [hzl]; rcases Nat.eq_zero_or_pos s with k | k; exact absurd (by rw [k]; simp) h0; exact k)
      rwa [hczs] at this ⊢
  obtain ⟨zr, hz1, hz2⟩ := hrow
  obtain ⟨cs', k1, k2⟩ := fill_sound (π := π) (pl := fun i => some (i * s, s)) (pl' := fun i => some (i * s, s)) (fun i p hp => hp) (cs := (Array.range (n * s)).map (zr[· % zr.size]!)) (qs := (ps.map fun (i, x) => (i, a.eval x)).toList) (by simpa using hps) (by simpa using hz2) h6
  obtain ⟨m1, m2⟩ := row_AR P (w := w) (e := e) k2 h7
  have hlen : cs'.toList.length = n * s := by
    have : ∀ (qs : List (Nat × Value)) (c c' : Array Value), Instr.fill (fun i => some (i * s, s)) c qs = some c' → c'.size = c.size := by
      intro qs
      induction qs with
      | nil => intro c c' hc; cases hc; rfl
      | cons q qs ih =>
        intro c c' hc
        obtain ⟨i, v⟩ := q
        unfold Instr.fill at hc
        simp only at hc
        split at hc
        · cases hc
        · rw [ih _ _ hc]
          have : ∀ (us : List (Value × Nat)) (off : Nat) (c : Array Value), (us.foldl (fun cs (x : Value × Nat) => cs.setIfInBounds (off + x.2) x.1) c).size = c.size := by
            intro us
            induction us with
            | nil => intro off c; rfl
            | cons u us ih => intro off c; rw [List.foldl_cons, ih]; simp
          rw [← Array.foldl_toList]
          exact this _ _ _
    have h9 := this _ _ _ k1
    rw [Array.length_toList, h9]; simp
  refine ⟨rowV e cs, rfl, .cells cs'.toList.toArray e, n * s, .slice (some ⟨w.heap.size, 0, none⟩) n n, ?_, fun w' => by rw [← hlen]; exact m2 w', rfl, rfl, fun π' _ hp => .sl _ _ _ _ _ _ w.heap.size (n * s) n hp (Nat.le_refl _) (Nat.le_refl _) (fun _ => rfl) (by simp) (by unfold big63; omega)⟩
  unfold Instr.buildSlice
  simp only [Sem.run_bind, run_underlying (elemSl_eq h1), Result.andThen_ok, tAgg_size h3]
  rw [if_neg (by omega)]
  have k1' : Instr.fill (fun i => some (i * s, s)) ((Array.range (n * s)).map fun x => zr[x % zr.size]!) (Array.map (fun x => (x.fst, a.eval x.snd)) ps).toList = some cs' := k1
  have m1' : Sem.run P (newRow e cs') w = Result.ok ⟨w.heap.size, 0, none⟩ (w.alloc (Obj.cells cs'.toList.toArray e)) := by rw [← m1]
  rcases hz1 with ⟨h0, rfl⟩ | ⟨h0, rfl⟩
  · rw [if_pos h0]
    simp only [Sem.run_bind, Sem.run_pure, Result.andThen_ok]
    rw [k1']
    simp only [Sem.run_bind, m1', Result.andThen_ok, Sem.run_pure]
  · rw [if_neg h0]
    simp only [Sem.run_bind, hz, Sem.run_pure, Result.andThen_ok]
    rw [k1']
    simp only [Sem.run_bind, m1', Result.andThen_ok, Sem.run_pure]

theorem makeMap_AR {t : TypeId} {x : Option Operand} (hH : HRel π B H0 w) (hR : RR π r a.tmps) (h : opMakeMap t x P r H = .val v H') : ∃ y, H' = H.new y ∧ AR P π w H.nx y v (Instr.makeMap t (x.map a.eval)) := by
  unfold opMakeMap at h
  have fin : ∀ s : Sem Value, s.run P w = .ok (.map (some w.heap.size)) (w.alloc (.map #[] 0)) → AR P π w H.nx (.map [] 0) (.map H.nx) s := fun s hs =>
    ⟨.map #[] 0, 0, .map (some w.heap.size), hs, fun _ => ⟨#[], [], rfl, .refl _, .nil, .nil, fun e he => (by cases he), fun e he => (by cases he), .nil⟩, rfl, rfl, fun π' _ hp => .map _ _ _ hp⟩
  split at h
  · rename_i k e hu hx
    cases h
    refine ⟨_, rfl, fin _ ?_⟩
    have : x = none := by
      cases x with
      | none => rfl
      | some y => unfold optA at hx; simp at hx
    subst this
    unfold Instr.makeMap
    simp [newObj, Sem.run]
  · rename_i k e kk n hu hx
    cases h
    refine ⟨_, rfl, fin _ ?_⟩
    have hor := optA_sound hH hR hx
    generalize hxe : x.map a.eval = xe at hor
    cases hor with
    | some _ v' hv =>
      have := hv.int_inv
      subst this
      unfold Instr.makeMap
      simp only [Sem.run_bind, run_underlying hu, Result.andThen_ok, asInt, asIntOf, Sem.run_pure, newObj, Sem.run]
      rfl
  · cases h
theorem zeros_BR (P : Program) {e c : Nat} {z : List AV} {zc : Array Value} (hz : VRs π z zc.toList) (hc : z.all AV.isCell = true) (h0 : 0 < z.length) :
    ∀ w', BR π w' (zeros e c z) (c * zc.size) (.cells ((Array.range (c * zc.size)).map (zc[· % zc.size]!)) e) := by
  have hlen : z.length = zc.size := by rw [hz.length]; simp
  have hrows := repl_range z zc c hz h0
  have ha : ((List.range (c * zc.size)).map fun i => zc[i % zc.size]!).toArray = (Array.range (c * zc.size)).map (zc[· % zc.size]!) := by
    apply Array.ext' ; simp
  have hone : ∀ v ∈ ((List.range (c * zc.size)).map fun i => zc[i % zc.size]!), v.oneCell' = true := by
    intro v hv
    obtain ⟨i, _, rfl⟩ := List.mem_map.1 hv
    have hlt : i % zc.size < zc.size := Nat.mod_lt _ (by omega)
    refine isCell_one hz hc _ ?_
    rw [getElem!_pos zc (i % zc.size) hlt]
    simp
  intro w'
  unfold zeros
  split
  · rename_i u
    have hs : zc.size = 1 := by rw [← hlen]; rfl
    cases hz0 : zc.toList with
    | nil => rw [hz0] at hz; cases hz
    | cons cu l =>
      rw [hz0] at hz
      cases hz with
      | cons _ _ _ _ hu hn =>
        cases hn
        have hzc : zc = #[cu] := by apply Array.ext'; rw [hz0]
        refine ⟨_, (0, 0), rfl, by simp, by rw [hs]; omega, fun _ => ⟨Nat.le_refl _, fun j a b => by simp at b⟩, ?_, ?_⟩
        · intro j v hj
          obtain ⟨t, d, n, e', lo, hi, wr, s, hbk, hjn⟩ := Blk.rd_some hj
          cases hbk
          refine ⟨cu, ?_, ?_⟩
          · rw [hzc]
            rw [Array.getElem?_map, Array.getElem?_eq_getElem (by simpa using hjn)]
            simp [Nat.mod_one]
          · have e1 : (Blk.cells T.e (some u) c e 0 0 true []).rd j = some u := by
              unfold Blk.rd
              show ob (Nat.blt j c) none (oo ((T.e : T AV).get (Pos.of j)) (some u) some) = some u
              rw [show Nat.blt j c = true from by simpa [Nat.blt_eq] using hjn, ob_true, T.get_e]; rfl
            rw [e1] at hj; cases hj
            exact hu
        · intro j cv hj
          refine hone cv ?_
          rw [← Array.getElem?_toList] at hj
          have := List.mem_of_getElem? hj
          simpa using this
  · have hl : (repl z c).all AV.isCell = true := by
      clear hrows ha hone
      induction c with
      | zero => rfl
      | succ c ih => rw [repl, List.all_append, hc, ih]; rfl
    have := (row_AR P (w := default) (e := e) hrows hl).2 w'
    rw [ha] at this
    simpa using this
theorem makeSlice_AR {t : TypeId} {l c : Operand} (hH : HRel π B H0 w) (hR : RR π r a.tmps) (h : opMakeSlice t l c P r H = .val v H') : ∃ y, H' = H.new y ∧ AR P π w H.nx y v (Instr.makeSlice t (a.eval l) (a.eval c)) := by
  unfold opMakeSlice at h
  split at h
  · rename_i e k1 ln k2 cn he hl hc
    split at h
    · rename_i g s z i ht hz hi
      cases hb : Nat.ble ln cn && Nat.blt cn maxNeed && Nat.blt i.bytes 65536 && Nat.blt 0 s with
      | false => rw [hb] at h; cases h
      | true =>
        rw [hb] at h
        cases h
        rw [Bool.and_eq_true, Bool.and_eq_true, Bool.and_eq_true] at hb
        obtain ⟨⟨⟨b1, b2⟩, b3⟩, b4⟩ := hb
        have b1 : ln ≤ cn := Nat.le_of_ble_eq_true b1
        have b2 : cn < 16777216 := Nat.le_of_ble_eq_true b2
        have b3 : i.bytes < 65536 := Nat.le_of_ble_eq_true b3
        have b4 : 0 < s := Nat.le_of_ble_eq_true b4
        obtain ⟨za, cz, s', g', _, _, hs', hzl, hzc, hzr0, _, hzr⟩ := zeroC_run (P := P) (π := π) (w := w) hz
        rw [ht] at hs'; cases hs'
        have hczs : cz.cells.size = s := by rw [← hzl, hzr.length]; simp
        have hBR := zeros_BR P (e := e) (c := cn) hzr hzc (by omega)
        rw [hczs] at hBR
        refine ⟨_, rfl, _, cn * s, .slice (some ⟨w.heap.size, 0, none⟩) ln cn, ?_, hBR, ?_, ?_, fun π' _ hp => .sl _ _ _ _ _ _ w.heap.size (cn * s) cn hp b1 (Nat.le_refl _) (fun _ => rfl) (by simp) (by unfold big63; omega)⟩
        · have e1 := (opnd_sound hH hR hl).int_inv
          have e2 := (opnd_sound hH hR hc).int_inv
          unfold Instr.makeSlice
          simp only [Sem.run_bind, run_underlying (elemSl_eq he), Result.andThen_ok, e1, e2, asInt, asIntOf, Sem.run_pure, run_typeInfo hi]
          have w1 : IntKind.i64.wrap (Int.ofNat ln) = (ln : Int) := lim_wrap .i64 ln (by show ln < big63; unfold big63; omega)
          have w2 : IntKind.i64.wrap (Int.ofNat cn) = (cn : Int) := lim_wrap .i64 cn (by show cn < big63; unfold big63; omega)
          rw [w1, w2]
          have hm : i.bytes * cn ≤ 65536 * 16777216 := Nat.mul_le_mul (by omega) (by omega)
          have hmi : ((i.bytes : Int) * (cn : Int)) ≤ ((65536 * 16777216 : Nat) : Int) := by rw [← Int.natCast_mul]; exact Int.ofNat_le.2 hm
          have hmn : ((65536 * 16777216 : Nat) : Int) = 1099511627776 := rfl
          rw [hmn] at hmi
          have hroom : ∀ n, (askRoom n).run P w = .ok () w := by intro n; unfold askRoom; split <;> rfl
          have hp48 : (2 : Int) ^ 48 = 281474976710656 := rfl
          have q1 : decide ((cn : Int) < 0) = false := decide_eq_false (by omega)
          have q2 : decide ((i.bytes : Int) * (cn : Int) > 2 ^ 48) = false := decide_eq_false (by rw [hp48]; omega)
          have q3 : decide ((ln : Int) < 0) = false := decide_eq_false (by omega)
          have q4 : decide ((ln : Int) > (cn : Int)) = false := decide_eq_false (by omega)
          rw [q1, q2, q3, q4]
          rw [if_neg (by decide)]
          simp only [Sem.run_bind, hroom, Result.andThen_ok, tAgg_size ht, Int.toNat_natCast]
          by_cases h0 : cn * s = 0
          · rw [if_pos h0, h0]
            simp [newRow, newObj, Sem.run, Array.range]
          · rw [if_neg h0]
            simp only [Sem.run_bind, hzr0, Sem.run_pure, Result.andThen_ok]
            simp [newRow, newObj, Sem.run, hczs]
        · unfold zeros; split <;> rfl
        · unfold zeros; split <;> rfl
    · cases h
  · cases h
theorem cls2 {o : Oper} (hc : cls P o.op = 2) (hH : HRel π B H0 w) (hR : RR π r a.tmps) (e : opA P r o H = .val v H') : ∃ x s, H' = H.new x ∧ execOp a.eval o = (do let y ← s; pure (.value y)) ∧ AR P π w H.nx x v s := by
  have hA : ∀ op', o.op = op' → opA P r o H = opA P r { o with op := op' } H := fun op' e => by subst e; rfl
  have hE : ∀ op', o.op = op' → execOp a.eval o = execOp a.eval { o with op := op' } := fun op' e => by subst e; rfl
  cases ho : o.op <;> rw [ho] at hc <;> rw [hA _ ho] at e <;> rw [hE _ ho]
  case alloc t => obtain ⟨x, h1, h2⟩ := alloc_AR (π := π) (w := w) (r := r) e; exact ⟨x, _, h1, rfl, h2⟩
  case box t y => obtain ⟨x, h1, h2⟩ := box_AR hH hR e; exact ⟨x, _, h1, rfl, h2⟩
  case buildSlice t n ps => obtain ⟨x, h1, h2⟩ := buildSlice_AR hH hR e; exact ⟨x, _, h1, rfl, h2⟩
  case makeMap t y => obtain ⟨x, h1, h2⟩ := makeMap_AR hH hR e; exact ⟨x, _, h1, rfl, h2⟩
  case makeSlice t y z => obtain ⟨x, h1, h2⟩ := makeSlice_AR hH hR e; exact ⟨x, _, h1, rfl, h2⟩
  case slice t x l hh m =>
    exfalso
    have hc : Ev.ob (isSlS P t) 1 0 = 2 := hc
    cases hb : isSlS P t <;> rw [hb] at hc <;> exact absurd hc (by decide)
  case call c =>
    exfalso
    have hc : clsC c = 2 := hc
    unfold clsC at hc
    split at hc
    · split at hc <;> exact absurd hc (by decide)
    · exact absurd hc (by decide)
  all_goals first | exact absurd (show (3 : Nat) = 2 from hc) (by decide) | exact absurd (show (1 : Nat) = 2 from hc) (by decide) | exact absurd (show (0 : Nat) = 2 from hc) (by decide)
end
end Go.Proofs.YtmoejaloachlkaaGreatDoor.Ev
