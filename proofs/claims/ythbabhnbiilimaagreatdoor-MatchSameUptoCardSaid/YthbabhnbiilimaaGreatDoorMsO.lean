/- What the row says of an argument with depth, read as values, elements, matches. No program's text is walked. -/
import Derived.Test.YthbabhnbiilimaaGreatDoorMsA
import Derived.ProofKit
import Derived.OpenShut
import Derived.Deep.Slices
import Derived.Deep.Fields
namespace Go.Proofs.YthbabhnbiilimaaGreatDoor
open Go.RowKit Go.Deep

theorem addr_none {w : World} {a : Addr} {v : Value} (h : w.cell? a = some v) : ∃ cs T mk, a.spot = none ∧ w.heap[a.block]? = some (.cells cs T mk) := by
  unfold World.cell? at h
  split at h
  · rename_i cs T mk hh
    by_cases hs : a.spot.isSome = true
    · rw [if_pos hs] at h; cases h
    · exact ⟨cs, T, mk, by simpa using hs, hh⟩
  · cases h
theorem add_none (g o k : Nat) : (⟨g, o, none⟩ : Addr).add k = ⟨g, o + k, none⟩ := by
  unfold Addr.add; split <;> simp_all
theorem RdRow.snoc {α : Type} {R : List Value → α → Prop} {xs c : List Value} {l : List α} {a : α} (h : RdRow R xs l) (hc : R c a) : RdRow R (xs ++ c) (l ++ [a]) := by
  induction h with
  | nil => simpa using RdRow.cons c [] a [] hc .nil
  | cons c' xs a' l hc' _ ih => rw [List.append_assoc]; exact .cons _ _ _ _ hc' ih
theorem rows_of {α : Type} {R : List Value → α → Prop} {n : Nat} (hR : ∀ c a, R c a → c.length = n) (off : Nat) (cs : Array Value) :
    ∀ m : Nat, (∀ i, i < m → ∃ c a, R c a ∧ ∀ j, j < n → cs[off + (i * n + j)]? = c[j]?) → ∃ (l : List α) (xs : List Value), l.length = m ∧ RdRow R xs l ∧ ∀ j, j < m * n → cs[off + j]? = xs[j]? := by
  intro m
  induction m with
  | zero => exact fun _ => ⟨[], [], rfl, .nil, fun j hj => by simp at hj⟩
  | succ m ih =>
    intro h
    obtain ⟨l, xs, h1, h2, h3⟩ := ih (fun i hi => h i (by omega))
    obtain ⟨c, a, hr, hc⟩ := h m (by omega)
    refine ⟨l ++ [a], xs ++ c, by simp [h1], h2.snoc hr, fun j hj => ?_⟩
    have hx := h2.len hR
    rw [h1] at hx
    rw [Nat.succ_mul] at hj
    by_cases hlt : j < m * n
    · rw [List.getElem?_append_left (by omega)]; exact h3 j hlt
    · rw [List.getElem?_append_right (by omega), hx, ← hc (j - m * n) (by omega)]
      congr 1; omega
section
variable {H : Type} {enc : TypeId × Value → H} {P : Program} {w : World} {base : Nat} {spare : Nat → Bool} {held : Bool}
theorem open_row {α : Type} {R : List Value → α → Prop} {t e : TypeId} {n m : Nat} (ht : P.underlying t = some (.slice e)) (hC : P.cellsOf e = n) (hn : 0 < n) (hR : ∀ c a, R c a → c.length = n)
    (ih : ∀ c y, DataW.trod enc P w base spare held m e c = some y → ∃ a, R c a) {cs : List Value} {x : DataW H × List MemPlace} (h : DataW.trod enc P w base spare held (m + 1) t cs = some x) :
    ∃ (sl : Value) (l : List α) (xs : List Value), cs = [sl] ∧ SliceAt w.heap sl l.length (l.length * n) xs ∧ RdRow R xs l := by
  rcases DataW.trod_slice ht h with ⟨rfl, _⟩ | ⟨a, len, cap, elems, rest, m', hm, rfl, _, _, hle, hmax, hel, hat, _⟩
  · exact ⟨_, [], [], rfl, ⟨by simp, by simp, none, 0, rfl, Nat.le_refl _, .inl rfl⟩, .nil⟩
  · obtain rfl : m = m' := by omega
    rw [hC] at hat
    have hall : ∀ i, i < len → ∃ c v, R c v ∧ ∀ j, j < n → w.cell? ((a.add (i * n)).add j) = c[j]? := by
      intro i hi
      have := hat i hi
      rw [List.getElem?_eq_getElem (by omega), Option.bind_eq_some_iff] at this
      obtain ⟨c, hc, hd⟩ := this
      obtain ⟨v, hv⟩ := ih _ _ hd
      exact ⟨c, v, hv, (World.cells?_some hc).2.2⟩
    unfold maxLen at hmax
    by_cases h0 : len = 0
    · subst h0
      exact ⟨_, [], [], rfl, ⟨by simp, by simp, some a, cap, rfl, hle, .inl rfl⟩, .nil⟩
    · obtain ⟨c, v, hv, hc⟩ := hall 0 (by omega)
      have hc0 := hc 0 hn
      have hcl := hR _ _ hv
      rw [List.getElem?_eq_getElem (by omega)] at hc0
      obtain ⟨cs, T, mk, hs, hb⟩ := addr_none hc0
      obtain ⟨g, off, sp⟩ := a
      have e0 : ((⟨g, off, sp⟩ : Addr).add (0 * n)).add 0 = ⟨g, off, sp⟩ := by simp [Addr.add]
      rw [e0] at hs hb
      have hb' : w.heap[g]? = some (.cells cs T mk) := hb
      obtain rfl : sp = none := hs
      obtain ⟨l, xs, h1, h2, h3⟩ := rows_of hR off cs len (fun i hi => by
        obtain ⟨c, v, hv, hc⟩ := hall i hi
        refine ⟨c, v, hv, fun j hj => ?_⟩
        rw [← hc j hj]
        rw [add_none, add_none, Nat.add_assoc]
        simp [World.cell?, hb'])
      refine ⟨_, l, xs, rfl, ⟨?_, by omega, some ⟨g, off, none⟩, cap, by rw [h1], by omega, .inr ⟨g, off, cs, T, mk, rfl, hb', ?_⟩⟩, h2⟩
      · exact h2.len hR
      · rw [h1]; exact h3
theorem len3 {α : Type} {l : List α} (h : l.length = 3) : ∃ a b c, l = [a, b, c] := by
  match l, h with
  | [a, b, c], _ => exact ⟨a, b, c, rfl⟩
theorem len5 {α : Type} {l : List α} (h : l.length = 5) : ∃ a b c d e, l = [a, b, c, d, e] := by
  match l, h with
  | [a, b, c, d, e], _ => exact ⟨a, b, c, d, e, rfl⟩
theorem of_struct3 {t : TypeId} {f0 f1 f2 : Field} {fuel : Nat} {cs : List Value} {x : DataW H × List MemPlace} (ht : P.underlying t = some (.struct #[f0, f1, f2])) (hC : P.cellsOf t = 3)
    (h0 : f0.offset = 0 ∧ P.cellsOf f0.type = 1) (h1 : f1.offset = 1 ∧ P.cellsOf f1.type = 1) (h2 : f2.offset = 2 ∧ P.cellsOf f2.type = 1) (h : DataW.trod enc P w base spare held fuel t cs = some x) :
    ∃ c0 c1 c2 y0 y1 y2 n, fuel = n + 1 ∧ cs = [c0, c1, c2] ∧ DataW.trod enc P w base spare held n f0.type [c0] = some y0 ∧ DataW.trod enc P w base spare held n f1.type [c1] = some y1 ∧ DataW.trod enc P w base spare held n f2.type [c2] = some y2 := by
  obtain ⟨xs, n, hn, _, hl, hxl, hx⟩ := DataW.trod_struct ht h
  obtain ⟨c0, c1, c2, rfl⟩ := len3 (hl.trans hC)
  match xs, hxl with
  | [y0, y1, y2], _ =>
    have x0 := hx 0 f0 rfl
    have x1 := hx 1 f1 rfl
    have x2 := hx 2 f2 rfl
    rw [h0.1, h0.2] at x0
    rw [h1.1, h1.2] at x1
    rw [h2.1, h2.2] at x2
    exact ⟨c0, c1, c2, y0, y1, y2, n, hn, rfl, x0.trans rfl, x1.trans rfl, x2.trans rfl⟩
theorem of_struct5 {t : TypeId} {f0 f1 f2 f3 f4 : Field} {fuel : Nat} {cs : List Value} {x : DataW H × List MemPlace} (ht : P.underlying t = some (.struct #[f0, f1, f2, f3, f4])) (hC : P.cellsOf t = 5)
    (h0 : f0.offset = 0 ∧ P.cellsOf f0.type = 1) (h1 : f1.offset = 1 ∧ P.cellsOf f1.type = 1) (h2 : f2.offset = 2 ∧ P.cellsOf f2.type = 1) (h3 : f3.offset = 3 ∧ P.cellsOf f3.type = 1) (h4 : f4.offset = 4 ∧ P.cellsOf f4.type = 1) (h : DataW.trod enc P w base spare held fuel t cs = some x) :
    ∃ c0 c1 c2 c3 c4 y0 y1 y2 y3 y4 n, fuel = n + 1 ∧ cs = [c0, c1, c2, c3, c4] ∧ DataW.trod enc P w base spare held n f0.type [c0] = some y0 ∧ DataW.trod enc P w base spare held n f1.type [c1] = some y1 ∧ DataW.trod enc P w base spare held n f2.type [c2] = some y2 ∧ DataW.trod enc P w base spare held n f3.type [c3] = some y3 ∧ DataW.trod enc P w base spare held n f4.type [c4] = some y4 := by
  obtain ⟨xs, n, hn, _, hl, hxl, hx⟩ := DataW.trod_struct ht h
  obtain ⟨c0, c1, c2, c3, c4, rfl⟩ := len5 (hl.trans hC)
  match xs, hxl with
  | [y0, y1, y2, y3, y4], _ =>
    have x0 := hx 0 f0 rfl
    have x1 := hx 1 f1 rfl
    have x2 := hx 2 f2 rfl
    have x3 := hx 3 f3 rfl
    have x4 := hx 4 f4 rfl
    rw [h0.1, h0.2] at x0
    rw [h1.1, h1.2] at x1
    rw [h2.1, h2.2] at x2
    rw [h3.1, h3.2] at x3
    rw [h4.1, h4.2] at x4
    exact ⟨c0, c1, c2, c3, c4, y0, y1, y2, y3, y4, n, hn, rfl, x0.trans rfl, x1.trans rfl, x2.trans rfl, x3.trans rfl, x4.trans rfl⟩
/-- A value: five fields of a cell each. -/
theorem open_value {tV tL : TypeId} {f0 f1 f2 f3 f4 : Field} (hV : P.underlying tV = some (.struct #[f0, f1, f2, f3, f4])) (hL : P.underlying tL = some (.slice tV)) (hC : P.cellsOf tV = 5)
    (k0 : f0.offset = 0 ∧ P.cellsOf f0.type = 1) (k1 : f1.offset = 1 ∧ P.cellsOf f1.type = 1) (k2 : f2.offset = 2 ∧ P.cellsOf f2.type = 1) (k3 : f3.offset = 3 ∧ P.cellsOf f3.type = 1) (k4 : f4.offset = 4 ∧ P.cellsOf f4.type = 1)
    (u0 : P.underlying f0.type = some (.int .i64)) (u1 : P.underlying f1.type = some .bool) (u2 : P.underlying f2.type = some (.int .i64)) (u3 : P.underlying f3.type = some .string) (u4 : f4.type = tL) :
    ∀ fuel, (∀ cs x, DataW.trod enc P w base spare held fuel tV cs = some x → ∃ v, RdV w.heap cs v) ∧
      ∀ cs x, DataW.trod enc P w base spare held fuel tL cs = some x → ∃ (sl : Value) (l : List GV) (xs : List Value), cs = [sl] ∧ SliceAt w.heap sl l.length (l.length * 5) xs ∧ RdRow (RdV w.heap) xs l := by
  intro fuel
  induction fuel with
  | zero => exact ⟨fun cs x h => by simp [DataW.trod] at h, fun cs x h => by simp [DataW.trod] at h⟩
  | succ m ih =>
    refine ⟨fun cs x h => ?_, fun cs x h => open_row hL hC (by omega) (fun _ _ r => r.len) ih.1 h⟩
    obtain ⟨c0, c1, c2, c3, c4, y0, y1, y2, y3, y4, n, hn, rfl, x0, x1, x2, x3, x4⟩ := of_struct5 hV hC k0 k1 k2 k3 k4 h
    obtain rfl : m = n := by omega
    rw [u4] at x4
    obtain ⟨k, e0, _⟩ := DataW.trod_int u0 x0
    obtain ⟨b, e1, _⟩ := DataW.trod_bool u1 x1
    obtain ⟨i, e2, _⟩ := DataW.trod_int u2 x2
    obtain ⟨t, e3, _, ht⟩ := DataW.trod_string u3 x3
    obtain ⟨sl, l, ys, e4, hs, hl⟩ := ih.2 _ _ x4
    injection e0 with e0 _
    injection e1 with e1 _
    injection e2 with e2 _
    injection e3 with e3 _
    injection e4 with e4 _
    subst e0 e1 e2 e3 e4
    exact ⟨_, .mk k b i t _ ys l (by unfold maxLen at ht; omega) hs hl.vs⟩
/-- An element: two numbers, and values. -/
theorem open_elem {tE tL : TypeId} {f0 f1 f2 : Field} (hE : P.underlying tE = some (.struct #[f0, f1, f2])) (hC : P.cellsOf tE = 3)
    (k0 : f0.offset = 0 ∧ P.cellsOf f0.type = 1) (k1 : f1.offset = 1 ∧ P.cellsOf f1.type = 1) (k2 : f2.offset = 2 ∧ P.cellsOf f2.type = 1)
    (u0 : P.underlying f0.type = some (.int .i64)) (u1 : P.underlying f1.type = some (.int .i64)) (u2 : f2.type = tL)
    (hv : ∀ fuel cs x, DataW.trod enc P w base spare held fuel tL cs = some x → ∃ (sl : Value) (l : List GV) (xs : List Value), cs = [sl] ∧ SliceAt w.heap sl l.length (l.length * 5) xs ∧ RdRow (RdV w.heap) xs l)
    (fuel : Nat) (cs : List Value) (x : DataW H × List MemPlace) (h : DataW.trod enc P w base spare held fuel tE cs = some x) : ∃ v, RdE w.heap cs v := by
  obtain ⟨c0, c1, c2, y0, y1, y2, n, hn, rfl, x0, x1, x2⟩ := of_struct3 hE hC k0 k1 k2 h
  rw [u2] at x2
  obtain ⟨k, e0, _⟩ := DataW.trod_int u0 x0
  obtain ⟨i, e1, _⟩ := DataW.trod_int u1 x1
  obtain ⟨sl, l, ys, e2, hs, hl⟩ := hv _ _ _ x2
  injection e0 with e0 _
  injection e1 with e1 _
  injection e2 with e2 _
  subst e0 e1 e2
  exact ⟨_, .mk k i _ ys l hs hl⟩
/-- A match: a number, elements, an environment. -/
theorem open_match {tM tL tX : TypeId} {f0 f1 f2 : Field} (hM : P.underlying tM = some (.struct #[f0, f1, f2])) (hC : P.cellsOf tM = 3)
    (k0 : f0.offset = 0 ∧ P.cellsOf f0.type = 1) (k1 : f1.offset = 1 ∧ P.cellsOf f1.type = 1) (k2 : f2.offset = 2 ∧ P.cellsOf f2.type = 1)
    (u0 : P.underlying f0.type = some (.int .i64)) (u1 : f1.type = tL) (u2 : P.underlying f2.type = some (.slice tX))
    (hv : ∀ fuel cs x, DataW.trod enc P w base spare held fuel tL cs = some x → ∃ (sl : Value) (l : List EV) (xs : List Value), cs = [sl] ∧ SliceAt w.heap sl l.length (l.length * 3) xs ∧ RdRow (RdE w.heap) xs l)
    (fuel : Nat) (cs : List Value) (x : DataW H × List MemPlace) (h : DataW.trod enc P w base spare held fuel tM cs = some x) : ∃ v, RdM w.heap cs v := by
  obtain ⟨c0, c1, c2, y0, y1, y2, n, hn, rfl, x0, x1, x2⟩ := of_struct3 hM hC k0 k1 k2 h
  rw [u1] at x1
  obtain ⟨k, e0, _⟩ := DataW.trod_int u0 x0
  obtain ⟨sl, l, ys, e1, hs, hl⟩ := hv _ _ _ x1
  have he : ∃ o n c, c2 = .slice o n c := by
    rcases DataW.trod_slice u2 x2 with ⟨e, _⟩ | ⟨a, len, cap, _, _, _, _, e, _⟩
    · injection e with e _
      exact ⟨_, _, _, e⟩
    · injection e with e _
      exact ⟨_, _, _, e⟩
  injection e0 with e0 _
  injection e1 with e1 _
  subst e0 e1
  exact ⟨_, .mk k _ c2 ys l hs hl he⟩
/-- A row of things, at any fuel. -/
theorem open_rows {α : Type} {R : List Value → α → Prop} {t e : TypeId} {n : Nat} (ht : P.underlying t = some (.slice e)) (hC : P.cellsOf e = n) (hn : 0 < n) (hR : ∀ c a, R c a → c.length = n)
    (ih : ∀ m c y, DataW.trod enc P w base spare held m e c = some y → ∃ a, R c a) (fuel : Nat) (cs : List Value) (x : DataW H × List MemPlace) (h : DataW.trod enc P w base spare held fuel t cs = some x) :
    ∃ (sl : Value) (l : List α) (xs : List Value), cs = [sl] ∧ SliceAt w.heap sl l.length (l.length * n) xs ∧ RdRow R xs l := by
  cases fuel with
  | zero => simp [DataW.trod] at h
  | succ m => exact open_row ht hC hn hR (ih m) h
end
end Go.Proofs.YthbabhnbiilimaaGreatDoor
