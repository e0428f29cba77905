/- Values, elements, matches as they lie in memory, and what the program's comparisons come to. No program in sight. -/
import Derived.WalkKit
import Derived.WalkSpells
import Derived.WalkLawsBesides
import Derived.Deep.QuietTactic
import Derived.BigQuiet
import Derived.BigRegion
import Derived.Deep.Draws
import Derived.Deep.LoopGhost
import Derived.Lib.Hide
namespace Go.Proofs.YthbabhnbiilimaaGreatDoor
open Go.RowKit

/-- A value, all its fields. -/
inductive GV where
  | mk (kind : Int) (b : Bool) (i : Int) (t : List UInt8) (l : List GV)
theorem GV.ind {P : GV → Prop} (h : ∀ k b i t l, (∀ x ∈ l, P x) → P (.mk k b i t l)) : ∀ v, P v
  | .mk k b i t l => h k b i t l (fun x _ => GV.ind h x)
/-- An element of a match. -/
structure EV where
  handle : Int
  stamp : Int
  vals : List GV
/-- A match, its environment aside. -/
structure MV where
  core : Int
  elems : List EV

def allB {α : Type} (f : α → α → Bool) : List α → List α → Bool
  | [], [] => true
  | a :: l, b :: m => f a b && allB f l m
  | [], _ :: _ => false
  | _ :: _, [] => false
def ordL {α : Type} (f : α → α → Int) : List α → List α → Int
  | [], [] => 0
  | [], _ :: _ => -1
  | _ :: _, [] => 1
  | a :: l, b :: m => if f a b = 0 then ordL f l m else f a b
def cmpI (x y : Int) : Int := if x < y then -1 else if y < x then 1 else 0
def cmpT (x y : List UInt8) : Int := if Op.bytesLess x y then -1 else if !(Op.bytesLess x y || x == y) then 1 else 0
def bitI (b : Bool) : Int := if b then 1 else 0
mutual
def sameG : GV → GV → Bool
  | .mk k b i t l, .mk k' b' i' t' l' => (((k == k' && b == b') && i == i') && t == t') && samesG l l'
def samesG : List GV → List GV → Bool
  | [], [] => true
  | a :: l, b :: m => sameG a b && samesG l m
  | [], _ :: _ => false
  | _ :: _, [] => false
end
mutual
def ordG : GV → GV → Int
  | .mk k b i t l, .mk k' b' i' t' l' =>
    if cmpI k k' = 0 then
      if k = 0 then 0 else if k = 1 then bitI b - bitI b' else if k = 2 ∨ k = 5 then cmpI i i' else if k = 4 then ordsG l l' else cmpT t t'
    else cmpI k k'
def ordsG : List GV → List GV → Int
  | [], [] => 0
  | [], _ :: _ => -1
  | _ :: _, [] => 1
  | a :: l, b :: m => if ordG a b = 0 then ordsG l m else ordG a b
end
theorem samesG_all : ∀ l m, samesG l m = allB sameG l m
  | [], [] => by simp [samesG, allB]
  | [], _ :: _ => by simp [samesG, allB]
  | _ :: _, [] => by simp [samesG, allB]
  | a :: l, b :: m => by simp [samesG, allB, samesG_all l m]
theorem ordsG_all : ∀ l m, ordsG l m = ordL ordG l m
  | [], [] => by simp [ordsG, ordL]
  | [], _ :: _ => by simp [ordsG, ordL]
  | _ :: _, [] => by simp [ordsG, ordL]
  | a :: l, b :: m => by simp [ordsG, ordL, ordsG_all l m]
def sameE (a b : EV) : Bool := (a.handle == b.handle && a.stamp == b.stamp) && allB sameG a.vals b.vals
def ordE (a b : EV) : Int := if cmpI b.stamp a.stamp = 0 then (if cmpI a.handle b.handle = 0 then ordL ordG a.vals b.vals else cmpI a.handle b.handle) else cmpI b.stamp a.stamp
def sameM (a b : MV) : Bool := a.core == b.core && allB sameE a.elems b.elems
def ordM (a b : MV) : Int := if cmpI a.core b.core = 0 then ordL ordE a.elems b.elems else cmpI a.core b.core

section
variable {α : Type}
theorem allB_len {f : α → α → Bool} : ∀ {l m : List α}, l.length ≠ m.length → allB f l m = false
  | [], [], h => absurd rfl h
  | [], _ :: _, _ => rfl
  | _ :: _, [], _ => rfl
  | a :: l, b :: m, h => by rw [allB, allB_len (l := l) (m := m) (by simpa using h), Bool.and_false]
theorem allB_step {f : α → α → Bool} {l m : List α} {k : Nat} {a b : α} (ha : l[k]? = some a) (hb : m[k]? = some b) : allB f (l.drop k) (m.drop k) = (f a b && allB f (l.drop (k + 1)) (m.drop (k + 1))) := by
  obtain ⟨h1, rfl⟩ := List.getElem?_eq_some_iff.1 ha
  obtain ⟨h2, rfl⟩ := List.getElem?_eq_some_iff.1 hb
  rw [List.drop_eq_getElem_cons h1, List.drop_eq_getElem_cons h2, allB]
theorem ordL_step {f : α → α → Int} {l m : List α} {k : Nat} {a b : α} (ha : l[k]? = some a) (hb : m[k]? = some b) : ordL f (l.drop k) (m.drop k) = if f a b = 0 then ordL f (l.drop (k + 1)) (m.drop (k + 1)) else f a b := by
  obtain ⟨h1, rfl⟩ := List.getElem?_eq_some_iff.1 ha
  obtain ⟨h2, rfl⟩ := List.getElem?_eq_some_iff.1 hb
  rw [List.drop_eq_getElem_cons h1, List.drop_eq_getElem_cons h2, ordL]
theorem ordL_end {f : α → α → Int} {l m : List α} {k : Nat} (h : l.length ≤ k ∨ m.length ≤ k) : ordL f (l.drop k) (m.drop k) = if m.length ≤ k then (if l.length ≤ k then 0 else 1) else -1 := by
  by_cases h1 : l.length ≤ k
  · rw [List.drop_eq_nil_of_le h1]
    by_cases h2 : m.length ≤ k
    · rw [List.drop_eq_nil_of_le h2, if_pos h2, if_pos h1]; rfl
    · rw [if_neg h2, List.drop_eq_getElem_cons (by omega)]; rfl
  · have h2 : m.length ≤ k := by omega
    rw [List.drop_eq_nil_of_le h2, if_pos h2, if_neg h1, List.drop_eq_getElem_cons (by omega)]; rfl
end

theorem addr_none' {w : World} {a : Addr} {v : Value} (h : w.cell? a = some v) : ∃ cs T mk, a.spot = none ∧ w.heap[a.block]? = some (.cells cs T mk) := by
  unfold World.cell? at h
  split at h
  · rename_i cs T mk hh
    by_cases hs : a.spot.isSome = true
    · rw [if_pos hs] at h; cases h
    · exact ⟨cs, T, mk, by simpa using hs, hh⟩
  · cases h
/-- A slice value of n elements whose m cells are xs. -/
def SliceAt (h : Array Obj) (v : Value) (n m : Nat) (xs : List Value) : Prop :=
  xs.length = m ∧ n ≤ 9223372036854775807 ∧ ∃ ao cap, v = .slice ao n cap ∧ n ≤ cap ∧ (n = 0 ∨ ∃ g off cs T mk, ao = some ⟨g, off, none⟩ ∧ h[g]? = some (.cells cs T mk) ∧ ∀ j, j < m → cs[off + j]? = xs[j]?)
theorem SliceAt.cell {w : World} {v : Value} {n m : Nat} {xs : List Value} (h : SliceAt w.heap v n m xs) (hn : n ≠ 0) : ∃ g off cap, v = .slice (some ⟨g, off, none⟩) n cap ∧ n ≤ cap ∧ ∀ j u, xs[j]? = some u → w.cell? ⟨g, off + j, none⟩ = some u := by
  obtain ⟨h0, _, ao, cap, h1, h2, h3 | ⟨g, off, cs, T, mk, rfl, q3, q4⟩⟩ := h
  · exact absurd h3 hn
  · refine ⟨g, off, cap, h1, h2, ?_⟩
    intro j u hj
    have hl := (List.getElem?_eq_some_iff.1 hj).1
    have := q4 j (by omega)
    simp [World.cell?, q3, this, hj]
theorem SliceAt.shape {h : Array Obj} {v : Value} {n m : Nat} {xs : List Value} (hs : SliceAt h v n m xs) : ∃ ao cap, v = .slice ao n cap ∧ n ≤ cap ∧ n ≤ 9223372036854775807 := by
  obtain ⟨_, hm, ao, cap, h1, h2, _⟩ := hs
  exact ⟨ao, cap, h1, h2, hm⟩
mutual
/-- Five cells are a value. -/
inductive RdV (h : Array Obj) : List Value → GV → Prop where
  | mk (k : Int) (b : Bool) (i : Int) (t : ByteArray) (sl : Value) (xs : List Value) (l : List GV) (ht : t.size ≤ 9223372036854775807) (hs : SliceAt h sl l.length (l.length * 5) xs) (hl : RdVs h xs l) :
      RdV h [.int .i64 k, .bool b, .int .i64 i, .string t, sl] (.mk k b i t.toList l)
/-- Values, one behind the other. -/
inductive RdVs (h : Array Obj) : List Value → List GV → Prop where
  | nil : RdVs h [] []
  | cons (c xs : List Value) (v : GV) (l : List GV) (hc : RdV h c v) (hl : RdVs h xs l) : RdVs h (c ++ xs) (v :: l)
end
theorem RdV.len {h : Array Obj} {c : List Value} {v : GV} (r : RdV h c v) : c.length = 5 := by cases r; rfl
/-- Things of one size, one behind the other. -/
inductive RdRow {α : Type} (R : List Value → α → Prop) : List Value → List α → Prop where
  | nil : RdRow R [] []
  | cons (c xs : List Value) (a : α) (l : List α) (hc : R c a) (hl : RdRow R xs l) : RdRow R (c ++ xs) (a :: l)
theorem RdVs.row {h : Array Obj} : ∀ {xs : List Value} {l : List GV}, RdVs h xs l → RdRow (RdV h) xs l
  | _, [], r => by cases r; exact .nil
  | _, v :: l, r => by
    cases r with
    | cons c xs _ _ hc hl => exact .cons _ _ _ _ hc hl.row
theorem RdRow.vs {h : Array Obj} {xs : List Value} {l : List GV} (r : RdRow (RdV h) xs l) : RdVs h xs l := by
  induction r with
  | nil => exact .nil
  | cons c xs a l hc _ ih => exact .cons _ _ _ _ hc ih
section
variable {α : Type} {R : List Value → α → Prop} {n : Nat}
theorem RdRow.len (hR : ∀ c a, R c a → c.length = n) {xs : List Value} {l : List α} (h : RdRow R xs l) : xs.length = l.length * n := by
  induction h with
  | nil => simp
  | cons c xs a l hc _ ih => rw [List.length_append, hR _ _ hc, ih, List.length_cons, Nat.succ_mul]; omega
theorem RdRow.get (hR : ∀ c a, R c a → c.length = n) {xs : List Value} {l : List α} (h : RdRow R xs l) {i : Nat} {v : α} (hi : l[i]? = some v) : ∃ c, R c v ∧ ∀ j, j < n → xs[i * n + j]? = c[j]? := by
  induction h generalizing i with
  | nil => simp at hi
  | cons c xs a l hc _ ih =>
    have hn := hR _ _ hc
    match i, hi with
    | 0, hi =>
      simp at hi; subst hi
      exact ⟨c, hc, fun j hj => by rw [Nat.zero_mul, Nat.zero_add, List.getElem?_append_left (by omega)]⟩
    | i + 1, hi =>
      obtain ⟨c', h1, h2⟩ := ih (i := i) (by simpa using hi)
      refine ⟨c', h1, fun j hj => ?_⟩
      rw [List.getElem?_append_right (by rw [hn, Nat.succ_mul]; omega), ← h2 j hj, hn]
      congr 1; rw [Nat.succ_mul]; omega
end
/-- Three cells are an element. -/
inductive RdE (h : Array Obj) : List Value → EV → Prop where
  | mk (a s : Int) (sl : Value) (xs : List Value) (l : List GV) (hs : SliceAt h sl l.length (l.length * 5) xs) (hl : RdRow (RdV h) xs l) : RdE h [.int .i64 a, .int .i64 s, sl] ⟨a, s, l⟩
theorem RdE.len {h : Array Obj} {c : List Value} {v : EV} (r : RdE h c v) : c.length = 3 := by cases r; rfl
/-- Three cells are a match. -/
inductive RdM (h : Array Obj) : List Value → MV → Prop where
  | mk (a : Int) (sl env : Value) (xs : List Value) (l : List EV) (hs : SliceAt h sl l.length (l.length * 3) xs) (hl : RdRow (RdE h) xs l) (he : ∃ o n c, env = .slice o n c) : RdM h [.int .i64 a, sl, env] ⟨a, l⟩
theorem RdM.len {h : Array Obj} {c : List Value} {v : MV} (r : RdM h c v) : c.length = 3 := by cases r; rfl
section
variable {h h' : Array Obj}
theorem SliceAt.frame (hw : ∀ g, g < h.size → h'[g]? = h[g]?) {v : Value} {n m : Nat} {xs : List Value} (hs : SliceAt h v n m xs) : SliceAt h' v n m xs := by
  obtain ⟨h0, hm, ao, cap, h1, h2, h3⟩ := hs
  refine ⟨h0, hm, ao, cap, h1, h2, h3.imp id ?_⟩
  rintro ⟨g, off, cs, T, mk, q1, q2, q3⟩
  have hg : g < h.size := by
    rcases Nat.lt_or_ge g h.size with hx | hx
    · exact hx
    · rw [Array.getElem?_eq_none hx] at q2; cases q2
  exact ⟨g, off, cs, T, mk, q1, (hw g hg).trans q2, q3⟩
theorem RdVs.imp : ∀ {xs : List Value} {l : List GV}, RdVs h xs l → (∀ v ∈ l, ∀ c, RdV h c v → RdV h' c v) → RdVs h' xs l
  | _, [], r, _ => by cases r; exact .nil
  | _, v :: l, r, hv => by
    cases r with
    | cons c xs _ _ hc hl => exact .cons _ _ _ _ (hv v (by simp) c hc) (hl.imp (fun u hu => hv u (by simp [hu])))
theorem RdV.frame (hw : ∀ g, g < h.size → h'[g]? = h[g]?) : ∀ v c, RdV h c v → RdV h' c v := by
  intro v
  induction v using GV.ind with
  | h k b i t l ih =>
    intro c r
    cases r with
    | mk _ _ _ t sl xs _ ht hs hl => exact .mk _ _ _ _ _ _ _ ht (hs.frame hw) (hl.imp ih)
theorem RdRow.imp {α : Type} {R S : List Value → α → Prop} {xs : List Value} {l : List α} (r : RdRow R xs l) (hv : ∀ c a, R c a → S c a) : RdRow S xs l := by
  induction r with
  | nil => exact .nil
  | cons c xs a l hc _ ih => exact .cons _ _ _ _ (hv _ _ hc) ih
theorem RdE.frame (hw : ∀ g, g < h.size → h'[g]? = h[g]?) {c : List Value} {v : EV} (r : RdE h c v) : RdE h' c v := by
  cases r with
  | mk a s sl xs l hs hl => exact .mk a s sl xs l (hs.frame hw) (hl.imp (fun c v => RdV.frame hw v c))
theorem RdM.frame (hw : ∀ g, g < h.size → h'[g]? = h[g]?) {c : List Value} {v : MV} (r : RdM h c v) : RdM h' c v := by
  cases r with
  | mk a sl env xs l hs hl he => exact .mk a sl env xs l (hs.frame hw) (hl.imp (fun _ _ q => q.frame hw)) he
end
/-- The cells of a row's value number k. -/
theorem cells5 {w : World} {sl : Value} {l : List GV} {xs : List Value} (hs : SliceAt w.heap sl l.length (l.length * 5) xs) (hl : RdRow (RdV w.heap) xs l) {k : Nat} {v : GV} (hk : l[k]? = some v) :
    ∃ g off cap kd b i t s ys m, sl = .slice (some ⟨g, off, none⟩) l.length cap ∧ l.length ≤ cap ∧ v = .mk kd b i t.toList m ∧ t.size ≤ 9223372036854775807 ∧ SliceAt w.heap s m.length (m.length * 5) ys ∧ RdRow (RdV w.heap) ys m ∧
      w.cell? ⟨g, off + k * 5, none⟩ = some (.int .i64 kd) ∧ w.cell? ⟨g, off + k * 5 + 1, none⟩ = some (.bool b) ∧ w.cell? ⟨g, off + k * 5 + 2, none⟩ = some (.int .i64 i) ∧ w.cell? ⟨g, off + k * 5 + 3, none⟩ = some (.string t) ∧ w.cell? ⟨g, off + k * 5 + 4, none⟩ = some s := by
  have hlt := (List.getElem?_eq_some_iff.1 hk).1
  obtain ⟨g, off, cap, rfl, hc, hcell⟩ := hs.cell (by omega)
  obtain ⟨c, hR, hx⟩ := hl.get (n := 5) (fun _ _ r => r.len) hk
  cases hR with
  | mk kd b i t s ys m ht hs' hl' =>
    refine ⟨g, off, cap, kd, b, i, t, s, ys, m, rfl, hc, rfl, ht, hs', hl'.row, hcell (k * 5) _ ((hx 0 (by omega)).trans rfl), ?_, ?_, ?_, ?_⟩
    · rw [Nat.add_assoc]; exact hcell (k * 5 + 1) _ ((hx 1 (by omega)).trans rfl)
    · rw [Nat.add_assoc]; exact hcell (k * 5 + 2) _ ((hx 2 (by omega)).trans rfl)
    · rw [Nat.add_assoc]; exact hcell (k * 5 + 3) _ ((hx 3 (by omega)).trans rfl)
    · rw [Nat.add_assoc]; exact hcell (k * 5 + 4) _ ((hx 4 (by omega)).trans rfl)
/-- The cells of a row's element number k. -/
theorem cells3 {w : World} {sl : Value} {l : List EV} {xs : List Value} (hs : SliceAt w.heap sl l.length (l.length * 3) xs) (hl : RdRow (RdE w.heap) xs l) {k : Nat} {v : EV} (hk : l[k]? = some v) :
    ∃ g off cap s ys, sl = .slice (some ⟨g, off, none⟩) l.length cap ∧ l.length ≤ cap ∧ SliceAt w.heap s v.vals.length (v.vals.length * 5) ys ∧ RdRow (RdV w.heap) ys v.vals ∧
      w.cell? ⟨g, off + k * 3, none⟩ = some (.int .i64 v.handle) ∧ w.cell? ⟨g, off + k * 3 + 1, none⟩ = some (.int .i64 v.stamp) ∧ w.cell? ⟨g, off + k * 3 + 2, none⟩ = some s := by
  have hlt := (List.getElem?_eq_some_iff.1 hk).1
  obtain ⟨g, off, cap, rfl, hc, hcell⟩ := hs.cell (by omega)
  obtain ⟨c, hR, hx⟩ := hl.get (n := 3) (fun _ _ r => r.len) hk
  cases hR with
  | mk a st s ys m hs' hl' =>
    refine ⟨g, off, cap, s, ys, rfl, hc, hs', hl', hcell (k * 3) _ ((hx 0 (by omega)).trans rfl), ?_, ?_⟩
    · rw [Nat.add_assoc]; exact hcell (k * 3 + 1) _ ((hx 1 (by omega)).trans rfl)
    · rw [Nat.add_assoc]; exact hcell (k * 3 + 2) _ ((hx 2 (by omega)).trans rfl)
/-- The cells of a row's match number k. -/
theorem cellsM {w : World} {sl : Value} {l : List MV} {xs : List Value} (hs : SliceAt w.heap sl l.length (l.length * 3) xs) (hl : RdRow (RdM w.heap) xs l) {k : Nat} {v : MV} (hk : l[k]? = some v) :
    ∃ g off cap s env ys, sl = .slice (some ⟨g, off, none⟩) l.length cap ∧ l.length ≤ cap ∧ SliceAt w.heap s v.elems.length (v.elems.length * 3) ys ∧ RdRow (RdE w.heap) ys v.elems ∧
      w.cell? ⟨g, off + k * 3, none⟩ = some (.int .i64 v.core) ∧ w.cell? ⟨g, off + k * 3 + 1, none⟩ = some s ∧ w.cell? ⟨g, off + k * 3 + 2, none⟩ = some env ∧ (∃ o n c, env = .slice o n c) := by
  have hlt := (List.getElem?_eq_some_iff.1 hk).1
  obtain ⟨g, off, cap, rfl, hc, hcell⟩ := hs.cell (by omega)
  obtain ⟨c, hR, hx⟩ := hl.get (n := 3) (fun _ _ r => r.len) hk
  cases hR with
  | mk a s env ys m hs' hl' he =>
    refine ⟨g, off, cap, s, env, ys, rfl, hc, hs', hl', hcell (k * 3) _ ((hx 0 (by omega)).trans rfl), ?_, ?_, he⟩
    · rw [Nat.add_assoc]; exact hcell (k * 3 + 1) _ ((hx 1 (by omega)).trans rfl)
    · rw [Nat.add_assoc]; exact hcell (k * 3 + 2) _ ((hx 2 (by omega)).trans rfl)
end Go.Proofs.YthbabhnbiilimaaGreatDoor
