/- The argument of the laws of layer 13, opened: a Script's operations as cells. -/
import Derived.Test.YtgpekeemmambkaaProg
import Derived.WalkKit
import Derived.ProofKit
import Derived.OpenShut
import Derived.Lib.SmallJoins
import Derived.Deep.Slices
import Derived.Deep.Fields
import Derived.ChangeSame
import Derived.Below
namespace Go.Proofs.Ytgpekeemmambkaa
open Go.ChangeShapes Go.WideShapes Go.ChangeAt Go.RowKit Go.Deep Go.Joins

section
variable {H : Type} {enc : TypeId × Value → H} {P : Program} {w : World} {base : Nat} {spare : Nat → Bool} {held : Bool}
theorem open_slice_fields {t e : TypeId} {fs : Array Field} {fuel : Nat} {cs : List Value} {x : DataW H × List MemPlace} (ht : P.underlying t = some (.slice e)) (he : P.underlying e = some (.struct fs))
    (hone : oneCellFields P fs = true) (hC : P.cellsOf e = fs.size) (h : DataW.trod enc P w base spare held fuel t cs = some x) :
    (cs = [.slice none 0 0] ∧ x = (.nil, [])) ∨
    ∃ (a : Addr) (len cap m : Nat) (D : Nat → DataW H) (Pl : Nat → List MemPlace), cs = [.slice (some a) len cap] ∧ base ≤ a.block ∧ len ≤ cap ∧ cap ≤ maxLen ∧ m = (if spare a.block then cap else len) ∧
      x = (.slice ((List.range len).map D) ((List.range (m - len)).map fun j => D (len + j)), MemPlace.row a (m * fs.size) ++ (List.range m).flatMap Pl) ∧
      ∀ i, i < m → ∃ (ys : List (DataW H × List MemPlace)) (n : Nat), D i = .agg (ys.map (·.1)) ∧ Pl i = ys.flatMap (·.2) ∧ ys.length = fs.size ∧
        ∀ (j : Nat) (f : Field), fs[j]? = some f → ∃ (v : Value) (y : DataW H × List MemPlace), w.cell? (a.add (i * fs.size + j)) = some v ∧ ys[j]? = some y ∧ DataW.trod enc P w base spare held n f.type [v] = some y := by
  rcases open_slice ht h with h0 | ⟨a, len, cap, m, n, D, Pl, hcs, hb, hl, hm, hmm, hx, hi⟩
  · exact .inl h0
  · refine .inr ⟨a, len, cap, m, D, Pl, hcs, hb, hl, hm, hmm, by rw [hC] at hx; exact hx, fun i him => ?_⟩
    obtain ⟨cs', hc, ht'⟩ := hi i him
    rw [hC] at hc
    obtain ⟨ys, n', hn', hy, hlen, hyl, hf⟩ := DataW.trod_struct he ht'
    obtain ⟨_, hcl, hat⟩ := World.cells?_some hc
    simp only [Prod.mk.injEq] at hy
    refine ⟨ys, n', hy.1, hy.2, hyl, fun j f hj => ?_⟩
    obtain ⟨ho, hk⟩ := hone_of hone j f hj
    have hjl : j < fs.size := (Array.getElem?_eq_some_iff.1 hj).1
    have hcell := hat j hjl
    have hv : cs'[j]? = some (cs'[j]'(by omega)) := List.getElem?_eq_getElem (by omega)
    have h1 := hf j f hj
    rw [ho, hk] at h1
    have hone' : (cs'.drop j).take 1 = [cs'[j]'(by omega)] := by
      rw [List.drop_eq_getElem_cons (by omega)]
      rfl
    rw [hone'] at h1
    have hys : ys[j]? = some (ys[j]'(by omega)) := List.getElem?_eq_getElem (by omega)
    refine ⟨_, _, ?_, hys, h1.trans hys⟩
    rw [← Go.Deep.add_add, hcell, hv]

theorem post_of_below {f : Func} {s : ChangeSpec} {apart fresh handsOn again : Bool} {W W' : World} {args : Array Value} {v : Value} {ds gs : List (DataW H)} {before pa pv : List MemPlace}
    (hW : DataW.Whole enc P f.params.toList s.vars apart W args.toList ds gs before)
    (hres : ∀ (b : Nat) (sp : Nat → Bool) (hd : Bool), DataW.TrodAll enc P W' b sp hd f.resultTypes.toList (v.resultList f.resultTypes.size) (s.fn H (ds ++ gs)).results [])
    (hargs : ∀ sp : Nat → Bool, (∀ p ∈ before, sp p.block = true) → DataW.TrodAll enc P W' 0 sp true f.params.toList args.toList (s.fn H (ds ++ gs)).args pa)
    (hvars : ∀ sp : Nat → Bool, (∀ p ∈ before, sp p.block = true) → DataW.TrodVars enc P W' sp s.vars (s.fn H (ds ++ gs)).vars pv)
    (hps : before = pa ++ pv) (hb : Below W.heap.size W W')
    (hok : ∀ (j : Nat) (t : TypeId) (r : Value), f.resultTypes[j]? = some t → (v.resultList f.resultTypes.size)[j]? = some r → Value.okWide P W' .any 0 t r) :
    s.post enc P f apart fresh handsOn again W args v W' := by
  have hlt : ∀ p ∈ before, p.block < W.heap.size := fun p hp => hW.lt p hp
  have hold : ∀ p ∈ before, (fun b => decide (b < W.heap.size)) p.block = true := fun p hp => by simpa using hlt p hp
  refine ⟨ds, gs, before, [], pa, pv, hW, hres _ _ _, hargs _ hold, hvars _ hold, World.keptBut_mono (fun p hp => ⟨hp, ?_⟩) (hb.frame (· ∈ before)), fun _ => ?_⟩
  · rw [hps, List.mem_append] at hp
    exact Or.inr hp
  · obtain ⟨_, _, _, _, _, hz, hn⟩ := hW
    refine ⟨hok, _, _, ([] ++ pa) ++ pv, ⟨[] ++ pa, pv, trodAll_append (hargs _ (fun _ _ => rfl)) (hres _ _ _), hvars _ (fun _ _ => rfl), rfl, ?_, ?_⟩, ?_⟩
    · intro b off hp
      have hin : MemPlace.cell b off ∈ before := by rw [hps]; simpa using hp
      rw [hb.frozen (hlt _ hin)]
      exact hz b off hin
    · intro ha
      have := hn ha
      rw [hps] at this
      simpa using this
    · intro p hp _
      rw [hps]
      simpa using hp
end

section
variable {H : Type} {enc : TypeId × Value → H} {P : Program} {w : World} {base : Nat} {spare : Nat → Bool} {held : Bool}
theorem open_agg1 {r : Reach} {b0 : Nat} {t : TypeId} {f0 : Field} {v : Value} {d : DataW H} {p : List MemPlace} (hs : P.underlying t = some (.struct #[f0])) (hone : oneCellFields P #[f0] = true) (hC : P.cellsOf t = 1)
    (hv : Value.okWide P w r b0 t v) (h : DataW.Trod enc P w base spare held t v d p) :
    ∃ (v0 : Value) (y0 : DataW H × List MemPlace) (n : Nat), v = .agg #[v0] ∧ DataW.trod enc P w base spare held n f0.type [v0] = some y0 := by
  obtain ⟨cs, rfl, hsz⟩ := okWide_struct hs hv
  obtain ⟨c0, rfl⟩ : ∃ c0, cs = #[c0] := by
    have h1 : cs.size = 1 := hsz.trans hC
    exact ⟨cs[0], Array.ext (by simp [h1]) (fun i h2 h3 => by
      obtain rfl : i = 0 := by omega
      simp)⟩
  obtain ⟨fuel, hf⟩ := h
  obtain ⟨xs, n, _, hx, hl, hlen, hff⟩ := DataW.trod_struct hs hf
  match xs, hlen with
  | [y0], _ =>
    obtain ⟨o0, k0⟩ := hone_of hone 0 f0 rfl
    have h0 := hff 0 f0 rfl
    exact ⟨c0, y0, n, rfl, by simpa [Value.cells, o0, k0] using h0⟩
end

/-- What a Script's value is: its operations' cells. -/
structure ScriptAt (w : World) (v : Value) (La : Option Addr) (ln lc : Nat) (D I : Nat → Int) (K T : Nat → ByteArray) : Prop where
  shape : v = .agg #[.slice La ln lc]
  lmax : ln ≤ 9223372036854775807
  ops : 0 < ln → ∃ b o, La = some ⟨b, o, none⟩ ∧ b < w.heap.size ∧ ∀ i, i < ln → w.cell? ⟨b, o + i * 4, none⟩ = some (.int .i64 (D i)) ∧ w.cell? ⟨b, o + i * 4 + 1, none⟩ = some (.string (K i)) ∧ w.cell? ⟨b, o + i * 4 + 2, none⟩ = some (.string (T i)) ∧ w.cell? ⟨b, o + i * 4 + 3, none⟩ = some (.int .i64 (I i))
  wfD : ∀ i, -9223372036854775808 ≤ D i ∧ D i ≤ 9223372036854775807
  wfI : ∀ i, -9223372036854775808 ≤ I i ∧ I i ≤ 9223372036854775807
  wfK : ∀ i, (K i).size ≤ maxLen
  wfT : ∀ i, (T i).size ≤ maxLen

theorem Try.cells24 : Try.prog.cellsOf 24 = 1 := by kernel_rfl
theorem Try.cells32 : Try.prog.cellsOf 32 = 4 := by kernel_rfl

theorem add_none {w : World} {a : Addr} {k : Nat} {v : Value} (hk : k = 0) (h : w.cell? (a.add k) = some v) : a = ⟨a.block, a.off, none⟩ ∧ a.block < w.heap.size := by
  subst hk
  have ha : a.add 0 = a := by unfold Addr.add; simp
  rw [ha] at h
  have hb : a.block < w.heap.size := World.block_lt_of_cell? w _ h
  refine ⟨?_, hb⟩
  obtain ⟨x, y, z⟩ := a
  cases z with
  | none => rfl
  | some z =>
    unfold World.cell? at h
    split at h <;> simp at h
theorem add_mk' (b o k : Nat) : (⟨b, o, none⟩ : Addr).add k = ⟨b, o + k, none⟩ := by
  unfold Addr.add; split <;> simp_all
theorem zero_wf : -9223372036854775808 ≤ (0 : Int) ∧ (0 : Int) ≤ 9223372036854775807 := by omega
theorem empty_wf : (⟨#[]⟩ : ByteArray).size ≤ maxLen := Nat.zero_le _

set_option maxRecDepth 100000 in
theorem open_script {H : Type} {enc : TypeId × Value → H} {W : World} {base : Nat} {v0 : Value} {d0 : DataW H} {p0 : List MemPlace}
    (hv : Value.okWide Try.prog W .any base 24 v0) (h0 : DataW.Trod enc Try.prog W 0 (fun _ => true) true 24 v0 d0 p0) :
    ∃ La ln lc D I K T, ScriptAt W v0 La ln lc D I K T := by
  obtain ⟨v0, y0, n, rfl, hy0⟩ := open_agg1 Try.underlying24 (by kernel_rfl) Try.cells24 hv h0
  rcases open_slice_fields Try.underlying22 Try.underlying32 (by kernel_rfl) Try.cells32 hy0 with ⟨hcs, hx⟩ | ⟨a, len', cap', m, D, Pl, hcs, _, hl, hm, hmm, hx, hf⟩
  · simp only [List.cons.injEq, and_true] at hcs
    exact ⟨none, 0, 0, fun _ => 0, fun _ => 0, fun _ => ⟨#[]⟩, fun _ => ⟨#[]⟩, by rw [hcs], by omega, fun h => by omega, fun _ => zero_wf, fun _ => zero_wf, fun _ => empty_wf, fun _ => empty_wf⟩
  · simp only [List.cons.injEq, and_true] at hcs
    have hm' : m = cap' := by simpa using hmm
    have hall : ∀ i, i < len' → ∃ x : Int × ByteArray × ByteArray × Int, (W.cell? (a.add (i * 4 + 0)) = some (.int .i64 x.1) ∧ W.cell? (a.add (i * 4 + 1)) = some (.string x.2.1) ∧ W.cell? (a.add (i * 4 + 2)) = some (.string x.2.2.1) ∧ W.cell? (a.add (i * 4 + 3)) = some (.int .i64 x.2.2.2)) ∧
        (-9223372036854775808 ≤ x.1 ∧ x.1 ≤ 9223372036854775807) ∧ (-9223372036854775808 ≤ x.2.2.2 ∧ x.2.2.2 ≤ 9223372036854775807) ∧ x.2.1.size ≤ maxLen ∧ x.2.2.1.size ≤ maxLen := by
      intro i hi
      obtain ⟨ys, n', _, _, _, hff⟩ := hf i (by omega)
      obtain ⟨w0, z0, hc0, _, ht0⟩ := hff 0 _ rfl
      obtain ⟨w1, z1, hc1, _, ht1⟩ := hff 1 _ rfl
      obtain ⟨w2, z2, hc2, _, ht2⟩ := hff 2 _ rfl
      obtain ⟨w3, z3, hc3, _, ht3⟩ := hff 3 _ rfl
      obtain ⟨x0, e0, _, wf0⟩ := DataW.trod_int Try.underlying3 ht0
      obtain ⟨x1, e1, _, wf1⟩ := DataW.trod_string Try.underlying9 ht1
      obtain ⟨x2, e2, _, wf2⟩ := DataW.trod_string Try.underlying9 ht2
      obtain ⟨x3, e3, _, wf3⟩ := DataW.trod_int Try.underlying3 ht3
      simp at e0 e1 e2 e3
      subst e0 e1 e2 e3
      simp only [Lit.wf, Bool.and_eq_true, decide_eq_true_eq] at wf0 wf3
      exact ⟨(x0, x1, x2, x3), ⟨hc0, hc1, hc2, hc3⟩, wf0, wf3, wf1, wf2⟩
    have hdef : ∃ f : Nat → Int × ByteArray × ByteArray × Int, (∀ i, i < len' → W.cell? (a.add (i * 4 + 0)) = some (.int .i64 (f i).1) ∧ W.cell? (a.add (i * 4 + 1)) = some (.string (f i).2.1) ∧ W.cell? (a.add (i * 4 + 2)) = some (.string (f i).2.2.1) ∧ W.cell? (a.add (i * 4 + 3)) = some (.int .i64 (f i).2.2.2)) ∧
        ∀ i, (-9223372036854775808 ≤ (f i).1 ∧ (f i).1 ≤ 9223372036854775807) ∧ (-9223372036854775808 ≤ (f i).2.2.2 ∧ (f i).2.2.2 ≤ 9223372036854775807) ∧ (f i).2.1.size ≤ maxLen ∧ (f i).2.2.1.size ≤ maxLen := by
      classical
      refine ⟨fun i => if hi : i < len' then Classical.choose (hall i hi) else (0, ⟨#[]⟩, ⟨#[]⟩, 0), fun i hi => ?_, fun i => ?_⟩
      · simp only [dif_pos hi]
        exact (Classical.choose_spec (hall i hi)).1
      · by_cases hi : i < len'
        · simp only [dif_pos hi]
          exact (Classical.choose_spec (hall i hi)).2
        · simp only [dif_neg hi]
          exact ⟨zero_wf, zero_wf, empty_wf, empty_wf⟩
    obtain ⟨f, hf1, hf2⟩ := hdef
    refine ⟨some a, len', cap', fun i => (f i).1, fun i => (f i).2.2.2, fun i => (f i).2.1, fun i => (f i).2.2.1, by rw [hcs], by unfold maxLen at hm; omega, fun hlt => ?_, fun i => (hf2 i).1, fun i => (hf2 i).2.1, fun i => (hf2 i).2.2.1, fun i => (hf2 i).2.2.2⟩
    obtain ⟨e1, e2⟩ := add_none rfl (hf1 0 hlt).1
    refine ⟨a.block, a.off, by rw [← e1], e2, fun i hi => ?_⟩
    obtain ⟨g0, g1, g2, g3⟩ := hf1 i hi
    rw [e1, add_mk'] at g0 g1 g2 g3
    exact ⟨g0, g1, g2, g3⟩
end Go.Proofs.Ytgpekeemmambkaa
