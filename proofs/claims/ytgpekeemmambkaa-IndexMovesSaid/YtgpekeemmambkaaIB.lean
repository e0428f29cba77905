/- Plain laws on worlds for package index: footprints, rows whose capacity was cut, maps as functions. No program in sight. -/
import Derived.Test.YtgpekeemmambkaaLists
import Derived.WalkKit
import Derived.Maps.OwnSet
import Derived.Deep.Draws
import Derived.Lib.Hide
namespace Go.Proofs.Ytgpekeemmambkaa
open Go.RowKit Go.ChangeMaps Go.MapKept

/-- The same heap and the same outside: the draws may have moved on. -/
def Same (w w' : World) : Prop := w'.heap = w.heap ∧ w'.os = w.os ∧ w'.tape = w.tape ∧ w'.output = w.output

/-- From w to w' only blocks of S have turned; new ones have come. -/
structure FP (S : Nat → Prop) (w w' : World) : Prop where
  os : w'.os = w.os
  tape : w'.tape = w.tape
  output : w'.output = w.output
  size : w.heap.size ≤ w'.heap.size
  blk : ∀ k, k < w.heap.size → ¬ S k → w'.heap[k]? = w.heap[k]?

def nob : Nat → Prop := fun _ => False

theorem lt_blk {w : World} {b : Nat} {o : Obj} (h : w.heap[b]? = some o) : b < w.heap.size := by
  rcases Nat.lt_or_ge b w.heap.size with h' | h'
  · exact h'
  · simp [Array.getElem?_eq_none h'] at h
theorem heap_set {w : World} {b t o : Nat} {cs : Array Value} (h : w.heap[b]? = some (.cells cs t (0,0))) (v : Value) (k : Nat) :
    (w.setCell ⟨b,o,none⟩ v).heap[k]? = if k = b then some (.cells (cs.setIfInBounds o v) t (0,0)) else w.heap[k]? := by
  simp only [World.setCell, Array.getElem?_modify]
  by_cases hk : k = b
  · subst hk; simp [h]
  · rw [if_neg (by omega), if_neg hk]
theorem heap_set_ne {w : World} {a : Addr} {v : Value} {k : Nat} (h : k ≠ a.block) : (w.setCell a v).heap[k]? = w.heap[k]? := Below.heap_setCell _ _ _ _ h
theorem size_set (w : World) (a : Addr) (v : Value) : (w.setCell a v).heap.size = w.heap.size := by simp [World.setCell]
theorem cell_blk {w : World} {b t o : Nat} {cs : Array Value} (h : w.heap[b]? = some (.cells cs t (0,0))) : w.cell? ⟨b, o, none⟩ = cs[o]? := by simp [World.cell?, h]
theorem frz_blk {w : World} {b t o : Nat} {cs : Array Value} (h : w.heap[b]? = some (.cells cs t (0,0))) : w.frozen? ⟨b, o, none⟩ = false := by simp [World.frozen?, h]
theorem heap_alloc_ne {w : World} {o : Obj} {k : Nat} (h : k ≠ w.heap.size) : (w.alloc o).heap[k]? = w.heap[k]? := by
  show (w.heap.push o)[k]? = _
  rw [Array.getElem?_push, if_neg h]
theorem heap_new_at {w : World} {k : Nat} (h : w.heap.size = k) (o : Obj) : (w.alloc o).heap[k]? = some o := by subst h; exact heap_alloc_new w o

section
variable {S T U : Nat → Prop} {a b c w w' w'' : World}
theorem FP.refl (S : Nat → Prop) (w : World) : FP S w w := ⟨rfl, rfl, rfl, Nat.le_refl _, fun _ _ _ => rfl⟩
theorem FP.trans (h : FP S a b) (k : FP T b c) (hT : ∀ i, T i → S i ∨ a.heap.size ≤ i) : FP S a c :=
  ⟨k.os.trans h.os, k.tape.trans h.tape, k.output.trans h.output, Nat.le_trans h.size k.size, fun i hi hs =>
    (k.blk i (Nat.lt_of_lt_of_le hi h.size) (fun ht => by rcases hT i ht with h1 | h1; exact hs h1; omega)).trans (h.blk i hi hs)⟩
theorem FP.mono (h : FP S w w') (hs : ∀ i, S i → T i) : FP T w w' := ⟨h.os, h.tape, h.output, h.size, fun i hi ht => h.blk i hi (fun x => ht (hs i x))⟩
theorem FP.same (h : FP S w w') (hs : Same w' w'') : FP S w w'' :=
  ⟨hs.2.1.trans h.os, hs.2.2.1.trans h.tape, hs.2.2.2.trans h.output, by rw [hs.1]; exact h.size, fun k hk ho => by rw [hs.1]; exact h.blk k hk ho⟩
theorem FP.ofSame (hs : Same w w') : FP S w w' := (FP.refl S w).same hs
theorem FP.alloc (h : FP S a w) (o : Obj) : FP S a (w.alloc o) :=
  h.trans (T := nob) ⟨rfl, rfl, rfl, by simp, fun k hk _ => Below.heap_alloc _ _ _ hk⟩ (fun _ h => h.elim)
theorem FP.set (h : FP S a w) {p : Addr} (v : Value) (hp : S p.block ∨ a.heap.size ≤ p.block) : FP S a (w.setCell p v) :=
  h.trans (T := fun k => k = p.block) ⟨rfl, rfl, rfl, by simp [World.setCell], fun k _ hk => heap_set_ne hk⟩ (fun i hi => by rw [hi]; exact hp)
theorem FP.grown (h : FP S a w) {row : Option Nat} (hg : w.grownBy w' row) (hr : ∀ k, row = some k → S k ∨ a.heap.size ≤ k) : FP S a w' :=
  h.trans (T := fun k => some k = row) ⟨hg.os, hg.tape, hg.output, hg.size, fun k hk hx => hg.block k hk (fun e => hx e)⟩ (fun i hi => hr i hi.symm)
theorem FP.below (h : FP S w w') {base : Nat} (hS : ∀ k, S k → base ≤ k) (hb : base ≤ w.heap.size) : Below base w w' :=
  ⟨h.os, h.tape, h.output, h.size, fun k hk => h.blk k (by omega) (fun hs => by have := hS k hs; omega)⟩
end

/-! ### rows whose capacity may have been cut -/

/-- v holds xs, in block go (none: no block). -/
def RowC (w : World) (e : TypeId) (v : Value) (go : Option Nat) (xs : List Value) : Prop :=
  (v = .slice none 0 0 ∧ go = none ∧ xs = []) ∨
  ∃ g cap cur, v = .slice (some ⟨g, 0, none⟩) xs.length cap ∧ go = some g ∧ w.heap[g]? = some (.cells cur e (0, 0)) ∧ xs.length ≤ cap ∧ cap ≤ maxLen ∧ cap ≤ cur.size ∧ cur.toList.take xs.length = xs

section
variable {w w' : World} {e : TypeId} {v : Value} {go : Option Nat} {xs : List Value}
theorem RowC.frame (h : RowC w e v go xs) (hf : ∀ g, go = some g → w'.heap[g]? = w.heap[g]?) : RowC w' e v go xs := by
  rcases h with h | ⟨g, cap, cur, h1, h2, h3, h4⟩
  · exact .inl h
  · exact .inr ⟨g, cap, cur, h1, h2, by rw [hf g h2]; exact h3, h4⟩
theorem RowC.shape (h : RowC w e v go xs) : ∃ ao cap, v = .slice ao xs.length cap ∧ (xs.length ≤ cap) := by
  rcases h with ⟨rfl, _, rfl⟩ | ⟨g, cap, cur, h1, h2, h3, h4, _⟩
  · exact ⟨_, _, rfl, Nat.le_refl _⟩
  · exact ⟨_, _, h1, h4⟩
theorem RowC.at_ (h : RowC w e v go xs) (hx : 0 < xs.length) : ∃ g cap, v = .slice (some ⟨g, 0, none⟩) xs.length cap ∧ go = some g ∧ xs.length ≤ cap ∧ ∀ j, j < xs.length → w.cell? ⟨g, j, none⟩ = xs[j]? := by
  rcases h with ⟨_, _, rfl⟩ | ⟨g, cap, cur, h1, h2, h3, h4, h5, h6, h7⟩
  · simp at hx
  · refine ⟨g, cap, h1, h2, h4, fun j hj => ?_⟩
    rw [cell_blk h3]
    have : (cur.toList.take xs.length)[j]? = xs[j]? := by rw [h7]
    rw [List.getElem?_take, if_pos hj] at this
    simpa using this
theorem RowC.lt (h : RowC w e v go xs) : ∀ g, go = some g → g < w.heap.size := by
  intro g hg
  rcases h with ⟨_, h1, _⟩ | ⟨g', cap, cur, _, h2, h3, _⟩
  · rw [h1] at hg; simp at hg
  · rw [h2] at hg; simp at hg; subst hg; exact lt_blk h3
theorem RowC.tagged (h : RowC w e v go xs) : ∀ g, go = some g → ∃ cs, w.heap[g]? = some (.cells cs e (0,0)) := by
  intro g hg
  rcases h with ⟨_, h1, _⟩ | ⟨g', cap, cur, _, h2, h3, _⟩
  · rw [h1] at hg; simp at hg
  · rw [h2] at hg; simp at hg; subst hg; exact ⟨_, h3⟩
theorem RowC.ofOwn {base n : Nat} (h : w.ownsRow base e 1 v n xs) : RowC w e v v.ownBlock xs := by
  obtain ⟨hl, h⟩ := h
  rcases h with ⟨rfl, rfl⟩ | ⟨g, cap, cur, rfl, _, h3, h4, h5, h6, h7⟩
  · refine .inl ⟨rfl, rfl, ?_⟩
    simpa using hl
  · simp only [Nat.mul_one] at hl h6 h7
    exact .inr ⟨g, cap, cur, by rw [hl], rfl, h3, by omega, h5, by omega, by rw [hl]; exact h7⟩
/-- 's[: n-1 : n-1]'. -/
theorem RowC.cut {g n cap : Nat} (h : RowC w e (.slice (some ⟨g, 0, none⟩) n cap) go xs) (m : Nat) (hm : m ≤ n) : RowC w e (.slice (some ⟨g, 0, none⟩) m m) go (xs.take m) := by
  rcases h with ⟨h, _⟩ | ⟨g', cap', cur, h1, h2, h3, h4, h5, h6, h7⟩
  · simp at h
  · simp only [Value.slice.injEq, Option.some.injEq, Addr.mk.injEq, and_true, true_and] at h1
    obtain ⟨rfl, hn, rfl⟩ := h1
    have hl : (xs.take m).length = m := by rw [List.length_take]; omega
    refine .inr ⟨g, m, cur, by rw [hl], h2, h3, by omega, by omega, by omega, ?_⟩
    rw [hl, ← h7, List.take_take, Nat.min_eq_left (by omega)]

variable {P : Program}
/-- 'append(v, x)'. -/
theorem run_append_c (t ty : TypeId) (i : TypeInfo) (z : Value) (ht : P.underlying t = some (.slice e)) (hi : P.info? e = some i) (hz : i.zero = some z)
    (hsize : i.size = 1) (hby : i.bytes = 8) (hzs : z.cells.size = 1) (h : RowC w e v go xs) (a : Addr) (c : Nat) (x : Value) (hx : w.cell? a = some x) (h1 : x.oneCell' = true)
    (hlen : xs.length < 1099511627776) :
    ∃ v' g' w', (Builtin.append_ #[t, t] ty #[v, .slice (some a) 1 c]).run P w = .ok v' w' ∧ RowC w' e v' (some g') (xs ++ [x]) ∧ FP (fun k => go = some k) w w' ∧ (go = some g' ∨ w.heap.size ≤ g') := by
  have hnews : ∀ j u, [x][j]? = some u → w.cell? (a.add j) = some u := by
    intro j u hj
    match j, hj with
    | 0, hj => simp at hj; subst hj; rw [show a.add 0 = a by unfold Addr.add; simp]; exact hx
  have grown : ∀ (old : Nat), old < xs.length + 1 →
      RowC (w.drew.alloc (.cells (xs.toArray ++ [x].toArray ++ Builtin.zeroCells z.cells (grownCap w (xs.length + 1) old e - (xs.length + 1))) e)) e
        (.slice (some ⟨w.heap.size, 0, none⟩) (xs.length + 1) (grownCap w (xs.length + 1) old e)) (some w.heap.size) (xs ++ [x]) ∧
      FP (fun k => go = some k) w (w.drew.alloc (.cells (xs.toArray ++ [x].toArray ++ Builtin.zeroCells z.cells (grownCap w (xs.length + 1) old e - (xs.length + 1))) e)) := by
    intro old ho
    have hge := grownCap_ge w (xs.length + 1) old e
    have hcm : grownCap w (xs.length + 1) old e ≤ maxLen := grownCap_le_maxLen w (xs.length + 1) old e (by unfold maxLen; omega)
    have hl : (xs ++ [x]).length = xs.length + 1 := by simp
    refine ⟨.inr ⟨w.heap.size, _, _, by rw [hl], rfl, heap_alloc_new w.drew _, by rw [hl]; exact hge, hcm, ?_, ?_⟩, ⟨rfl, rfl, rfl, by simp, fun k hk _ => _root_.Go.heap_alloc_old w.drew _ hk⟩⟩
    · simp only [Array.size_append, List.size_toArray, size_zeroCells, hzs, List.length_cons, List.length_nil]; omega
    · simp only [Array.toList_append, hl]
      rw [show xs.length + 1 = (xs ++ [x]).length from hl.symm]
      exact List.take_left
  rcases h with ⟨rfl, rfl, rfl⟩ | ⟨g, cap, cur, rfl, rfl, h3, h4, h5, h6, h7⟩
  · have hr := run_append_nil (P := P) w t ty e i z ht hi hz a 1 c [x] (by simp [hsize]) hnews (by omega) (by omega) (by rw [hby]; omega)
    have hgr := grown 0 (by simp)
    simp only [List.length_nil, Nat.zero_add, List.nil_append, Array.empty_append] at hgr ⊢
    exact ⟨_, _, _, hr, hgr.1, hgr.2, .inr (Nat.le_refl _)⟩
  · by_cases hroom : xs.length + 1 ≤ cap
    · have hr := run_append_room (P := P) w t ty e i ht hi g xs.length cap cur h3 a 1 c [x] (by simp [hsize]) hnews (by intro u hu; simp at hu; subst hu; exact h1) hroom (by rw [hsize]; simp; omega)
      refine ⟨_, g, _, hr, .inr ⟨g, cap, _, by simp, rfl, setRow_heap w g cur _ e _ h3, by simp; omega, h5, ?_, ?_⟩, ⟨rfl, rfl, rfl, by simp, fun k _ hk => setRow_other w g k _ (fun e => hk (by rw [e]))⟩, .inl rfl⟩
      · simp only [List.size_toArray, List.length_append, List.length_take, List.length_drop, Array.length_toList, hsize, List.length_cons, List.length_nil]; omega
      · rw [hsize, Nat.mul_one, h7]
        exact List.take_left
    · have holds : ∀ j u, xs[j]? = some u → w.cell? ((⟨g, 0, none⟩ : Addr).add j) = some u := by
        intro j u hu
        have hadd : (⟨g, 0, none⟩ : Addr).add j = ⟨g, j, none⟩ := by unfold Addr.add; split <;> simp_all
        have hj := (List.getElem?_eq_some_iff.1 hu).1
        rw [hadd, cell_blk h3]
        have : (cur.toList.take xs.length)[j]? = xs[j]? := by rw [h7]
        rw [List.getElem?_take, if_pos hj] at this
        rw [← hu, ← this]; simp
      have hr := run_append_grow (P := P) w t ty e i z ht hi hz ⟨g, 0, none⟩ xs.length cap xs (by simp [hsize]) holds a 1 c [x] (by simp [hsize]) hnews (by omega) (by omega) (growslice_fits (by omega) (by rw [hby]; omega))
      have hgr := grown cap (by omega)
      exact ⟨_, _, _, hr, hgr.1, hgr.2, .inr (Nat.le_refl _)⟩

theorem wpList_append_c {ops : Array Oper} {rest : List Oper} {o : Oper} {a : Act} {Q : Exit → Act → World → Prop} (hgd : o.guard = none) (s y : Operand) (t : TypeId)
    (ho : o.op = .call { callee := .builtin .append, args := #[s, y], argTypes := #[t, t] })
    (e : TypeId) (i : TypeInfo) (z : Value) (ht : P.underlying t = some (.slice e)) (hi : P.info? e = some i) (hz : i.zero = some z)
    (hsize : i.size = 1) (hby : i.bytes = 8) (hzs : z.cells.size = 1) (v : Value) (go : Option Nat) (xs : List Value) (hs : a.eval s = v) (h : RowC w e v go xs)
    (ad : Addr) (c : Nat) (x : Value) (hy : a.eval y = .slice (some ad) 1 c) (hx : w.cell? ad = some x) (h1 : x.oneCell' = true) (hlen : xs.length < 1099511627776)
    (hK : ∀ v' g' w', RowC w' e v' (some g') (xs ++ [x]) → FP (fun k => go = some k) w w' → (go = some g' ∨ w.heap.size ≤ g') → wpList P ops Q rest (a.put o.dst v') w') :
    wpList P ops Q (o :: rest) a w := by
  refine wpList_plain hgd fun K' hK' => ?_
  obtain ⟨v', g', w', hr, h2, h3, h4⟩ := run_append_c (P := P) t o.type i z ht hi hz hsize hby hzs h ad c x hx h1 hlen
  unfold Oper.wp execOp
  simp only [ho, resolve, invoke, builtin, Sem.run_bind, Sem.run_pure, Result.andThen_ok, List.map_toArray, List.map_cons, List.map_nil, hs, hy, hr]
  exact hK' _ _ (hK v' g' w' h2 h3 h4)
end

/-! ### maps as functions -/
abbrev DU := DataW Unit
abbrev I64 (a : Int) : Prop := -9223372036854775808 ≤ a ∧ a ≤ 9223372036854775807
theorem wf_i64 {a : Int} (h : I64 a) : (Lit.int .i64 a).wf = true := by
  simp only [Lit.wf, Bool.and_eq_true, decide_eq_true_eq]; exact h

section
variable {P : Program} {w w' : World} {IT : TypeId} {b n : Nat}

theorem tight {K : TypeId} {R : Value → Option (DU × List MemPlace)} {D : DU} (h : w.ownsMap P K R b n D) : w.ownsMap P K R b (Maps.size D) D := by
  obtain ⟨es, clock, hb, F, hs, hD⟩ := h
  refine ⟨es, clock, hb, F, ?_, hD⟩
  rw [hD]; simp [Maps.size, length_sorted]

/-- A map from integers to integers. -/
def MapI (P : Program) (IT : TypeId) (w : World) (b : Nat) (f : Int → Option Int) (n : Nat) : Prop :=
  ∃ D : DU, w.ownsMap P IT (plainElem P IT) b (Maps.size D) D ∧ Maps.size D ≤ n ∧
    ∀ id, I64 id → Maps.has D (.int .i64 id) = (f id).isSome ∧ ∀ c, f id = some c → D.atKey (.int .i64 id) (.lit (.int .i64 0)) = .lit (.int .i64 c)
/-- A set of integers. -/
def SetI (P : Program) (IT : TypeId) (w : World) (b : Nat) (s : Int → Bool) (n : Nat) : Prop :=
  ∃ D : DU, w.ownsMap P IT unitElem b (Maps.size D) D ∧ Maps.size D ≤ n ∧ ∀ id, I64 id → Maps.has D (.int .i64 id) = s id

theorem frame_map {K : TypeId} {R : Value → Option (DU × List MemPlace)} {D : DU} (h : w.ownsMap P K R b n D) (hf : w'.heap[b]? = w.heap[b]?) : w'.ownsMap P K R b n D := by
  obtain ⟨es, clock, hb, F, hs, hD⟩ := h
  exact ⟨es, clock, by rw [hf]; exact hb, F, hs, hD⟩
theorem MapI.frame {f} (h : MapI P IT w b f n) (hf : w'.heap[b]? = w.heap[b]?) : MapI P IT w' b f n := by
  obtain ⟨D, h1, h2⟩ := h
  exact ⟨D, frame_map h1 hf, h2⟩
theorem SetI.frame {s} (h : SetI P IT w b s n) (hf : w'.heap[b]? = w.heap[b]?) : SetI P IT w' b s n := by
  obtain ⟨D, h1, h2⟩ := h
  exact ⟨D, frame_map h1 hf, h2⟩
theorem MapI.blk {f} (h : MapI P IT w b f n) : ∃ es c, w.heap[b]? = some (.map es c) := by
  obtain ⟨D, ⟨es, c, hb, _⟩, _⟩ := h; exact ⟨es, c, hb⟩
theorem SetI.blk {s} (h : SetI P IT w b s n) : ∃ es c, w.heap[b]? = some (.map es c) := by
  obtain ⟨D, ⟨es, c, hb, _⟩, _⟩ := h; exact ⟨es, c, hb⟩
theorem MapI.mono {f m} (h : MapI P IT w b f n) (hm : n ≤ m) : MapI P IT w b f m := by
  obtain ⟨D, h1, h2, h3⟩ := h; exact ⟨D, h1, by omega, h3⟩
theorem SetI.mono {s m} (h : SetI P IT w b s n) (hm : n ≤ m) : SetI P IT w b s m := by
  obtain ⟨D, h1, h2, h3⟩ := h; exact ⟨D, h1, by omega, h3⟩

theorem map_new {K : TypeId} {R : Value → Option (DU × List MemPlace)} (hb : w.heap[b]? = some (.map #[] 0)) : w.ownsMap P K R b 0 (.map []) :=
  ⟨#[], 0, hb, ⟨by simp, stamped_empty 0, by simp⟩, Nat.le_refl _, rfl⟩
theorem MapI.new (hb : w.heap[b]? = some (.map #[] 0)) : MapI P IT w b (fun _ => none) 0 :=
  ⟨.map [], map_new hb, Nat.le_refl _, fun id _ => ⟨rfl, fun c hc => by simp at hc⟩⟩
theorem SetI.new (hb : w.heap[b]? = some (.map #[] 0)) : SetI P IT w b (fun _ => false) 0 :=
  ⟨.map [], map_new hb, Nat.le_refl _, fun id _ => rfl⟩

theorem fp_turned {w' : World} (h : w.mapTurned w' b) : FP (fun k => k = b) w w' := by
  have g := h.grown
  exact ⟨g.os, g.tape, g.output, g.size, fun k hk hn => g.block k hk (fun e => hn (by simpa using e))⟩

variable {MT : TypeId} (hI : P.underlying IT = some (.int .i64)) (hM : P.underlying MT = some (.map IT IT))
include hI hM
theorem MapI.look_ok {f} (h : MapI P IT w b f n) (hz : (zeroValue IT).run P w = .ok (.int .i64 0) w) {id : Int} (hid : I64 id) :
    (Instr.lookup MT (.map (some b)) (.int .i64 id) true).run P w = .ok (.tuple #[.int .i64 ((f id).getD 0), .bool (f id).isSome]) w := by
  obtain ⟨D, h1, h2, h3⟩ := h
  obtain ⟨e1, e2⟩ := h3 id hid
  obtain ⟨v, ps, hrun, hv⟩ := h1.look_ok (Maps.int_keyed hI) hM hz (plainElem_int hI (by decide)) (Maps.keyOf_int_mk hI (wf_i64 hid))
  obtain ⟨c, rfl, hc, hwc⟩ := plainElem_int_inv hI hv
  rw [hrun, e1]
  have hc' := congrArg Prod.fst hc
  simp only at hc'
  cases hf : f id with
  | none =>
    rw [hf] at e1
    rw [Maps.atKey_of_not_has e1] at hc'
    simp at hc'; subst hc'; rfl
  | some x =>
    rw [e2 x hf] at hc'
    simp at hc'; subst hc'; rfl
theorem MapI.look {f} (h : MapI P IT w b f n) (hz : (zeroValue IT).run P w = .ok (.int .i64 0) w) {id : Int} (hid : I64 id) :
    (Instr.lookup MT (.map (some b)) (.int .i64 id) false).run P w = .ok (.int .i64 ((f id).getD 0)) w := by
  obtain ⟨D, h1, h2, h3⟩ := h
  obtain ⟨e1, e2⟩ := h3 id hid
  obtain ⟨c, hrun, hc, _⟩ := h1.lookup_int (Maps.int_keyed hI) hM hI hz (Maps.keyOf_int_mk hI (wf_i64 hid))
  rw [hrun]
  cases hf : f id with
  | none =>
    rw [hf] at e1
    rw [Maps.atKey_of_not_has e1] at hc
    simp at hc; subst hc; rfl
  | some x =>
    rw [e2 x hf] at hc
    simp at hc; subst hc; rfl
theorem MapI.store {f} (h : MapI P IT w b f n) (hn : n < 1099511627776) {id c : Int} (hid : I64 id) (hc : I64 c) :
    ∃ w', (Instr.mapUpdate MT (.map (some b)) (.int .i64 id) (.int .i64 c)).run P w = .ok () w' ∧ MapI P IT w' b (updB f id (some c)) (if (f id).isSome then n else n + 1) ∧ FP (fun k => k = b) w w' := by
  obtain ⟨D, h1, h2, h3⟩ := h
  have K := Maps.int_keyed hI
  have hk := Maps.keyOf_int_mk hI (wf_i64 hid)
  obtain ⟨w', hr, g1, g2⟩ := h1.store K hM (by unfold maxLen; omega) hk (plainElem_int hI (wf_i64 hc))
  refine ⟨w', hr, ⟨_, tight g1, ?_, fun x hx => ?_⟩, fp_turned g2⟩
  · rw [Maps.size_put (h1.tidy K), (h3 id hid).1]
    split <;> omega
  · by_cases e : x = id
    · subst e
      rw [updB_same, Maps.has_put_same h1.isMap (K.key hk)]
      refine ⟨rfl, fun c' hc' => ?_⟩
      simp at hc'; subst hc'
      exact Maps.atKey_put_same h1.isMap (K.key hk) _ _
    · rw [updB_ne f _ e, Maps.has_put_other (by simp [e])]
      refine ⟨(h3 x hx).1, fun c' hc' => ?_⟩
      rw [Maps.atKey_put_other (by simp [e])]
      exact (h3 x hx).2 c' hc'
theorem MapI.drop {f} (h : MapI P IT w b f n) {id : Int} (hid : I64 id) (ty : TypeId) :
    ∃ w', (Builtin.delete_ #[MT, IT] ty #[.map (some b), .int .i64 id]).run P w = .ok (.tuple #[]) w' ∧ MapI P IT w' b (updB f id none) n ∧ FP (fun k => k = b) w w' := by
  obtain ⟨D, h1, h2, h3⟩ := h
  have K := Maps.int_keyed hI
  have hk := Maps.keyOf_int_mk hI (wf_i64 hid)
  obtain ⟨w', hr, g1, g2⟩ := h1.drop K hM hk ty
  refine ⟨w', hr, ⟨_, tight g1, ?_, fun x hx => ?_⟩, fp_turned g2⟩
  · have := Maps.size_del (k := .int .i64 id) (h1.tidy K); omega
  · by_cases e : x = id
    · subst e
      rw [updB_same, Maps.has_del_same]
      exact ⟨rfl, fun c' hc' => by simp at hc'⟩
    · rw [updB_ne f _ e, Maps.has_del_other (by simp [e])]
      refine ⟨(h3 x hx).1, fun c' hc' => ?_⟩
      rw [Maps.atKey_del_other (by simp [e])]
      exact (h3 x hx).2 c' hc'
omit hM
variable {UT : TypeId} (hS : P.underlying MT = some (.map IT UT))
include hS
theorem SetI.look_ok {s} (h : SetI P IT w b s n) (hz : (zeroValue UT).run P w = .ok (.agg #[]) w) {id : Int} (hid : I64 id) :
    (Instr.lookup MT (.map (some b)) (.int .i64 id) true).run P w = .ok (.tuple #[.agg #[], .bool (s id)]) w := by
  obtain ⟨D, h1, h2, h3⟩ := h
  obtain ⟨v, ps, hrun, hv⟩ := h1.look_ok (Maps.int_keyed hI) hS hz unitElem_mk (Maps.keyOf_int_mk hI (wf_i64 hid))
  obtain ⟨rfl, _⟩ := unitElem_inv hv
  rw [hrun, h3 id hid]
theorem SetI.store {s} (h : SetI P IT w b s n) (hn : n < 1099511627776) {id : Int} (hid : I64 id) :
    ∃ w', (Instr.mapUpdate MT (.map (some b)) (.int .i64 id) (.agg #[])).run P w = .ok () w' ∧ SetI P IT w' b (updB s id true) (n + 1) ∧ FP (fun k => k = b) w w' := by
  obtain ⟨D, h1, h2, h3⟩ := h
  have K := Maps.int_keyed hI
  have hk := Maps.keyOf_int_mk hI (wf_i64 hid)
  obtain ⟨w', hr, g1, g2⟩ := h1.store K hS (by unfold maxLen; omega) hk unitElem_mk
  refine ⟨w', hr, ⟨_, tight g1, ?_, fun x hx => ?_⟩, fp_turned g2⟩
  · rw [Maps.size_put (h1.tidy K)]
    split <;> omega
  · by_cases e : x = id
    · subst e
      rw [updB_same, Maps.has_put_same h1.isMap (K.key hk)]
    · rw [updB_ne s _ e, Maps.has_put_other (by simp [e])]
      exact h3 x hx
theorem SetI.drop {s} (h : SetI P IT w b s n) {id : Int} (hid : I64 id) (ty : TypeId) :
    ∃ w', (Builtin.delete_ #[MT, IT] ty #[.map (some b), .int .i64 id]).run P w = .ok (.tuple #[]) w' ∧ SetI P IT w' b (updB s id false) n ∧ FP (fun k => k = b) w w' := by
  obtain ⟨D, h1, h2, h3⟩ := h
  have K := Maps.int_keyed hI
  have hk := Maps.keyOf_int_mk hI (wf_i64 hid)
  obtain ⟨w', hr, g1, g2⟩ := h1.drop K hS hk ty
  refine ⟨w', hr, ⟨_, tight g1, ?_, fun x hx => ?_⟩, fp_turned g2⟩
  · have := Maps.size_del (k := .int .i64 id) (h1.tidy K); omega
  · by_cases e : x = id
    · subst e
      rw [updB_same, Maps.has_del_same]
    · rw [updB_ne s _ e, Maps.has_del_other (by simp [e])]
      exact h3 x hx
end

/-! ### a map from keys to blocks -/

/-- A pointer to a block reads as the block's number. -/
def ptrElem : Value → Option (DU × List MemPlace)
  | .pointer (some ⟨B, 0, none⟩) => some (.lit (.int .i64 B), [])
  | .pointer none => some (.nil, [])
  | _ => none
theorem ptrElem_mk (B : Nat) : ptrElem (.pointer (some ⟨B, 0, none⟩)) = some (.lit (.int .i64 B), []) := rfl
theorem ptrElem_inv {v : Value} {B : Nat} {ps : List MemPlace} (h : ptrElem v = some (.lit (.int .i64 B), ps)) : v = .pointer (some ⟨B, 0, none⟩) := by
  unfold ptrElem at h
  split at h
  · simp at h; obtain ⟨h1, _⟩ := h; simp only [Value.pointer.injEq, Option.some.injEq, Addr.mk.injEq, and_true]; omega
  · simp at h
  · simp at h
theorem ptrElem_inv_nil {v : Value} {ps : List MemPlace} (h : ptrElem v = some (.nil, ps)) : v = .pointer none := by
  unfold ptrElem at h
  split at h
  · simp at h
  · rfl
  · simp at h

def MapP (P : Program) (K : TypeId) (w : World) (b : Nat) (F : Lit → Option Nat) (n : Nat) : Prop :=
  ∃ D : DU, w.ownsMap P K ptrElem b (Maps.size D) D ∧ Maps.size D = n ∧
    ∀ k, Maps.has D k = (F k).isSome ∧ ∀ c, F k = some c → D.atKey k .nil = .lit (.int .i64 (c : Int))

open Classical in
noncomputable def updL {β : Type} (f : Lit → β) (i : Lit) (x : β) : Lit → β := fun k => if k = i then x else f k
theorem updL_same {β : Type} (f : Lit → β) (i : Lit) (x : β) : updL f i x i = x := if_pos rfl
theorem updL_ne {β : Type} (f : Lit → β) {i k : Lit} (x : β) (h : k ≠ i) : updL f i x k = f k := if_neg h

def optPtr : Option Nat → Value
  | none => .pointer none
  | some B => .pointer (some ⟨B, 0, none⟩)

section
variable {P : Program} {w w' : World} {b n : Nat} {F : Lit → Option Nat} {K MT PT : TypeId}
theorem MapP.frame (h : MapP P K w b F n) (hf : w'.heap[b]? = w.heap[b]?) : MapP P K w' b F n := by
  obtain ⟨D, h1, h2⟩ := h
  exact ⟨D, frame_map h1 hf, h2⟩
theorem MapP.blk (h : MapP P K w b F n) : ∃ es c, w.heap[b]? = some (.map es c) := by
  obtain ⟨D, ⟨es, c, hb, _⟩, _⟩ := h; exact ⟨es, c, hb⟩
theorem MapP.new (hb : w.heap[b]? = some (.map #[] 0)) : MapP P K w b (fun _ => none) 0 :=
  ⟨.map [], map_new hb, rfl, fun id => ⟨rfl, fun c hc => by simp at hc⟩⟩
variable (KL : Maps.Keyed P K) (hM : P.underlying MT = some (.map K PT))
include KL hM
theorem MapP.look (h : MapP P K w b F n) (hz : (zeroValue PT).run P w = .ok (.pointer none) w) {key : Value} {kl : Lit} (hk : keyOf P K key = some kl) :
    (Instr.lookup MT (.map (some b)) key false).run P w = .ok (optPtr (F kl)) w := by
  obtain ⟨D, h1, h2, h3⟩ := h
  obtain ⟨e1, e2⟩ := h3 kl
  obtain ⟨v, ps, hrun, hv⟩ := h1.lookup KL hM hz (show ptrElem (.pointer none) = some (.nil, []) from rfl) hk
  rw [hrun]
  cases hf : F kl with
  | none =>
    rw [hf] at e1
    rw [Maps.atKey_of_not_has e1] at hv
    rw [ptrElem_inv_nil hv]; rfl
  | some x =>
    rw [e2 x hf] at hv
    rw [ptrElem_inv hv]; rfl
omit KL in
theorem MapP.len (h : MapP P K w b F n) (ty : TypeId) : (Builtin.len_ #[MT] ty #[.map (some b)]).run P w = .ok (.int .i64 n) w := by
  obtain ⟨D, h1, h2, h3⟩ := h
  rw [h1.len hM, h2]
theorem MapP.store (h : MapP P K w b F n) (hn : n < 1099511627776) {key : Value} {kl : Lit} (hk : keyOf P K key = some kl) (B : Nat) :
    ∃ w', (Instr.mapUpdate MT (.map (some b)) key (.pointer (some ⟨B, 0, none⟩))).run P w = .ok () w' ∧ MapP P K w' b (updL F kl (some B)) (if (F kl).isSome then n else n + 1) ∧ FP (fun k => k = b) w w' := by
  obtain ⟨D, h1, h2, h3⟩ := h
  obtain ⟨w', hr, g1, g2⟩ := h1.store KL hM (by unfold maxLen; omega) hk (ptrElem_mk B)
  refine ⟨w', hr, ⟨_, tight g1, ?_, fun x => ?_⟩, fp_turned g2⟩
  · rw [Maps.size_put (h1.tidy KL), (h3 kl).1, h2]
  · by_cases e : x = kl
    · subst e
      rw [updL_same, Maps.has_put_same h1.isMap (KL.key hk)]
      refine ⟨rfl, fun c' hc' => ?_⟩
      simp at hc'; subst hc'
      exact Maps.atKey_put_same h1.isMap (KL.key hk) _ _
    · rw [updL_ne F _ e, Maps.has_put_other e]
      refine ⟨(h3 x).1, fun c' hc' => ?_⟩
      rw [Maps.atKey_put_other e]
      exact (h3 x).2 c' hc'
theorem MapP.drop (h : MapP P K w b F n) {key : Value} {kl : Lit} (hk : keyOf P K key = some kl) (ty : TypeId) :
    ∃ w', (Builtin.delete_ #[MT, K] ty #[.map (some b), key]).run P w = .ok (.tuple #[]) w' ∧ MapP P K w' b (updL F kl none) (if (F kl).isSome then n - 1 else n) ∧ FP (fun k => k = b) w w' := by
  obtain ⟨D, h1, h2, h3⟩ := h
  obtain ⟨w', hr, g1, g2⟩ := h1.drop KL hM hk ty
  refine ⟨w', hr, ⟨_, tight g1, ?_, fun x => ?_⟩, fp_turned g2⟩
  · have := Maps.size_del (k := kl) (h1.tidy KL)
    rw [(h3 kl).1] at this
    split at this <;> rename_i hs <;> simp [hs] <;> omega
  · by_cases e : x = kl
    · subst e
      rw [updL_same, Maps.has_del_same]
      exact ⟨rfl, fun c' hc' => by simp at hc'⟩
    · rw [updL_ne F _ e, Maps.has_del_other e]
      refine ⟨(h3 x).1, fun c' hc' => ?_⟩
      rw [Maps.atKey_del_other e]
      exact (h3 x).2 c' hc'
end

/-! ### at the operation: a map's operation by its run's equation -/
section
variable {P : Program} {w : World} {ops : Array Oper} {rest : List Oper} {o : Oper} {a : Act} {Q : Exit → Act → World → Prop}
theorem wpList_look_run (hg : o.guard = none) (m x : Operand) (t : TypeId) (c : Bool) (hop : o.op = Op.lookup t m x c) (b : Nat) (key : Value) (hm : a.eval m = .map (some b)) (hx : a.eval x = key) (v : Value)
    (hrun : (Instr.lookup t (.map (some b)) key c).run P w = .ok v w) (hK : wpList P ops Q rest (a.put o.dst v) w) : wpList P ops Q (o :: rest) a w := by
  refine wpList_plain hg fun K' hK' => ?_
  unfold Oper.wp
  simp [execOp, hop, hm, hx, hrun, Result.andThen]
  exact hK' _ _ hK
theorem wpList_store_run (hg : o.guard = none) (m x v : Operand) (t : TypeId) (hop : o.op = Op.mapUpdate t m x v) (b : Nat) (key val : Value) (hm : a.eval m = .map (some b)) (hx : a.eval x = key) (hv : a.eval v = val) (w' : World)
    (hrun : (Instr.mapUpdate t (.map (some b)) key val).run P w = .ok () w') (hK : wpList P ops Q rest (a.put o.dst undef) w') : wpList P ops Q (o :: rest) a w := by
  refine wpList_plain hg fun K' hK' => ?_
  unfold Oper.wp
  simp [execOp, hop, hm, hx, hv, hrun, Result.andThen]
  exact hK' _ _ hK
theorem wpList_drop_run (hg : o.guard = none) (m x : Operand) (t k : TypeId) (hop : o.op = Op.call { callee := Callee.builtin Builtin.delete, args := #[m, x], argTypes := #[t, k] }) (b : Nat) (key : Value)
    (hm : a.eval m = .map (some b)) (hx : a.eval x = key) (w' : World)
    (hrun : (Builtin.delete_ #[t, k] o.type #[.map (some b), key]).run P w = .ok (.tuple #[]) w') (hK : wpList P ops Q rest (a.put o.dst (.tuple #[])) w') : wpList P ops Q (o :: rest) a w := by
  refine wpList_plain hg fun K' hK' => ?_
  unfold Oper.wp
  simp [execOp, hop, resolve, invoke, builtin, hm, hx, hrun, Result.andThen]
  exact hK' _ _ hK
end
end Go.Proofs.Ytgpekeemmambkaa
