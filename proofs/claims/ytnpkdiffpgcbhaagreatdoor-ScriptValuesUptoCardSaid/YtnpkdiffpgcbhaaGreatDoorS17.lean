/- Values and operations as they lie in memory. No conditions. -/
import Derived.Test.YtnpkdiffpgcbhaaGreatDoorS06
import Derived.Laws.AppendOwn
import Derived.Deep.Onto
namespace Go.Proofs.YtnpkdiffpgcbhaaGreatDoor
open Go.RowKit
theorem GV.ind {P : GV → Prop} (h : ∀ k b i t l, (∀ x ∈ l, P x) → P (.mk k b i t l)) : ∀ v, P v
 | .mk k b i t l => h k b i t l (fun x _ => GV.ind h x)
def SliceAt (w : World) (F : Nat → Prop) (v : Value) (n m : Nat) (xs : List Value) : Prop :=
 xs.length = m ∧ ∃ ao cap, v = .slice ao n cap ∧ n ≤ cap ∧ (n = 0 ∨ ∃ g off cs T mk, ao = some ⟨g, off, none⟩ ∧ F g ∧ w.heap[g]? = some (.cells cs T mk) ∧ ∀ j, j < m → cs[off + j]? = xs[j]?)
section
variable {w w' : World} {F G : Nat → Prop}
theorem SliceAt.frame {v : Value} {n m : Nat} {xs : List Value} (h : SliceAt w F v n m xs) (hw : ∀ g, F g → g < w.heap.size → w'.heap[g]? = w.heap[g]?) : SliceAt w' F v n m xs := by
 obtain ⟨h0, ao, cap, h1, h2, h3⟩ := h
 refine ⟨h0, ao, cap, h1, h2, h3.imp id ?_⟩
 rintro ⟨g, off, cs, T, mk, q1, q2, q3, q4⟩
 exact ⟨g, off, cs, T, mk, q1, q2, (hw g q2 (lt_blk q3)).trans q3, q4⟩
theorem SliceAt.wide {v : Value} {n m : Nat} {xs : List Value} (h : SliceAt w F v n m xs) (hw : ∀ g, F g → g < w.heap.size → G g) : SliceAt w G v n m xs := by
 obtain ⟨h0, ao, cap, h1, h2, h3⟩ := h
 refine ⟨h0, ao, cap, h1, h2, h3.imp id ?_⟩
 rintro ⟨g, off, cs, T, mk, q1, q2, q3, q4⟩
 exact ⟨g, off, cs, T, mk, q1, hw g q2 (lt_blk q3), q3, q4⟩
theorem SliceAt.own {base : Nat} {e : TypeId} {size : Nat} {v : Value} {n : Nat} {xs : List Value} (h : w.ownsRow base e size v n xs) : SliceAt w (fun b => base ≤ b) v n (n * size) xs := by
 refine ⟨h.1, ?_⟩
 rcases h.2 with ⟨rfl, rfl⟩ | ⟨g, cap, cur, rfl, hb, hg, hn, _, hc, ht⟩
 ·exact ⟨_, _, rfl, Nat.le_refl _, .inl rfl⟩
 ·refine ⟨_, _, rfl, hn, .inr ⟨g, 0, cur, e, _, rfl, hb, hg, ?_⟩⟩
  intro j hj
  rw [← ht, List.getElem?_take_of_lt hj, Nat.zero_add, Array.getElem?_toList]
theorem SliceAt.cell {v : Value} {n m : Nat} {xs : List Value} (h : SliceAt w F v n m xs) (hn : n ≠ 0) : ∃ g off cap, v = .slice (some ⟨g, off, none⟩) n cap ∧ n ≤ cap ∧ F g ∧ g < w.heap.size ∧ ∀ j u, xs[j]? = some u → w.cell? ⟨g, off + j, none⟩ = some u := by
 obtain ⟨h0, ao, cap, h1, h2, h3 | ⟨g, off, cs, T, mk, rfl, q2, q3, q4⟩⟩ := h
 ·exact absurd h3 hn
 ·refine ⟨g, off, cap, h1, h2, q2, lt_blk q3, ?_⟩
  intro j u hj
  have hl := (List.getElem?_eq_some_iff.1 hj).1
  have := q4 j (by omega)
  simp [World.cell?, q3, this, hj]
mutual
inductive RdV (w : World) (F : Nat → Prop) : List Value → GV → Prop where
 | mk (k : Int) (b : Bool) (i : Int) (t : ByteArray) (sl : Value) (xs : List Value) (l : List GV) (hs : SliceAt w F sl l.length (l.length * 5) xs) (hl : RdVs w F xs l) : RdV w F [.int .i64 k, .bool b, .int .i64 i, .string t, sl] (.mk k b i t.data.toList l)
inductive RdVs (w : World) (F : Nat → Prop) : List Value → List GV → Prop where
 | nil : RdVs w F [] []
 | cons (c xs : List Value) (v : GV) (l : List GV) (hc : RdV w F c v) (hl : RdVs w F xs l) : RdVs w F (c ++ xs) (v :: l)
end
theorem RdV.len {c : List Value} {v : GV} (h : RdV w F c v) : c.length = 5 := by cases h; rfl
theorem RdVs.len {xs : List Value} {l : List GV} (h : RdVs w F xs l) : xs.length = l.length * 5 := by
 induction l generalizing xs with
 | nil => cases h; rfl
 | cons v l ih =>
  cases h with
  | cons c xs v l hc hl => rw [List.length_append, hc.len, ih hl, List.length_cons]; omega
theorem RdVs.imp {w' : World} {G : Nat → Prop} {xs : List Value} {l : List GV} (h : RdVs w F xs l) (hv : ∀ v ∈ l, ∀ c, RdV w F c v → RdV w' G c v) : RdVs w' G xs l := by
 induction l generalizing xs with
 | nil => cases h; exact .nil
 | cons v l ih =>
  cases h with
  | cons c xs v l hc hl => exact .cons _ _ _ _ (hv v (by simp) c hc) (ih hl (fun u hu => hv u (by simp [hu])))
theorem RdV.trans' (hw : ∀ g, F g → g < w.heap.size → w'.heap[g]? = w.heap[g]? ∧ G g) : ∀ v c, RdV w F c v → RdV w' G c v := by
 intro v
 induction v using GV.ind with
 | h k b i t l ih =>
  intro c h
  cases h with
  | mk k b i t sl xs l hs hl =>
   refine .mk k b i t sl xs l ?_ (hl.imp (fun v hv c hc => ih v hv c hc))
   exact ((hs.wide (G := fun g => F g ∧ G g) (fun g hg hgl => ⟨hg, (hw g hg hgl).2⟩)).frame (fun g hg hgl => (hw g hg.1 hgl).1)).wide (fun g hg _ => hg.2)
theorem RdV.frame {c : List Value} {v : GV} (h : RdV w F c v) (hw : ∀ g, F g → g < w.heap.size → w'.heap[g]? = w.heap[g]?) : RdV w' F c v := RdV.trans' (fun g hg hl => ⟨hw g hg hl, hg⟩) v c h
theorem RdV.wide {c : List Value} {v : GV} (h : RdV w F c v) (hw : ∀ g, F g → g < w.heap.size → G g) : RdV w G c v := RdV.trans' (fun g hg hl => ⟨rfl, hw g hg hl⟩) v c h
theorem RdVs.frame {xs : List Value} {l : List GV} (h : RdVs w F xs l) (hw : ∀ g, F g → g < w.heap.size → w'.heap[g]? = w.heap[g]?) : RdVs w' F xs l := h.imp (fun _ _ _ hc => hc.frame hw)
theorem RdVs.wide {xs : List Value} {l : List GV} (h : RdVs w F xs l) (hw : ∀ g, F g → g < w.heap.size → G g) : RdVs w G xs l := h.imp (fun _ _ _ hc => hc.wide hw)
theorem RdVs.snoc {xs c : List Value} {l : List GV} {v : GV} (h : RdVs w F xs l) (hc : RdV w F c v) : RdVs w F (xs ++ c) (l ++ [v]) := by
 induction l generalizing xs with
 | nil => cases h; simpa using RdVs.cons c [] v [] hc .nil
 | cons u l ih =>
  cases h with
  | cons c' xs v' l hc' hl => rw [List.append_assoc]; exact .cons _ _ _ _ hc' (ih hl)
theorem RdVs.get {xs : List Value} {l : List GV} (h : RdVs w F xs l) {i : Nat} {v : GV} (hi : l[i]? = some v) : ∃ c, RdV w F c v ∧ ∀ j, j < 5 → xs[i * 5 + j]? = c[j]? := by
 induction l generalizing xs i with
 | nil => simp at hi
 | cons u l ih =>
  cases h with
  | cons c xs v' l hc hl =>
   have h5 := hc.len
   match i, hi with
   | 0, hi =>
    simp at hi; subst hi
    exact ⟨c, hc, fun j hj => by rw [Nat.zero_mul, Nat.zero_add, List.getElem?_append_left (by omega)]⟩
   | i + 1, hi =>
    obtain ⟨c', h1, h2⟩ := ih hl (i := i) (by simpa using hi)
    refine ⟨c', h1, fun j hj => ?_⟩
    rw [List.getElem?_append_right (by omega), ← h2 j hj, h5]
    congr 1; omega
end
section
variable {α : Type} {w w' : World} {F G : Nat → Prop}
inductive RdRow (R : List Value → α → Prop) : List Value → List α → Prop where
 | nil : RdRow R [] []
 | cons (c xs : List Value) (a : α) (l : List α) (hc : R c a) (hl : RdRow R xs l) : RdRow R (c ++ xs) (a :: l)
theorem RdRow.imp {β : Type} {R S : List Value → β → Prop} {xs : List Value} {l : List β} (h : RdRow R xs l) (hv : ∀ c v, v ∈ l → R c v → S c v) : RdRow S xs l := by
 induction h with
 | nil => exact .nil
 | cons c xs a l hc _ ih => exact .cons _ _ _ _ (hv _ _ (by simp) hc) (ih (fun c v hm hr => hv c v (by simp [hm]) hr))
theorem RdRow.snoc {β : Type} {R : List Value → β → Prop} {xs c : List Value} {l : List β} {a : β} (h : RdRow R xs l) (hc : R c a) : RdRow R (xs ++ c) (l ++ [a]) := by
 induction h with
 | nil => simpa using RdRow.cons c [] a [] hc .nil
 | cons c' xs a' l hc' _ ih => rw [List.append_assoc]; exact .cons _ _ _ _ hc' ih
theorem RdRow.len {β : Type} {R : List Value → β → Prop} {n : Nat} (hR : ∀ c a, R c a → c.length = n) {xs : List Value} {l : List β} (h : RdRow R xs l) : xs.length = l.length * n := by
 induction h with
 | nil => simp
 | cons c xs a l hc _ ih => rw [List.length_append, hR _ _ hc, ih, List.length_cons, Nat.succ_mul]; omega
theorem RdRow.get {β : Type} {R : List Value → β → Prop} {n : Nat} (hR : ∀ c a, R c a → c.length = n) {xs : List Value} {l : List β} (h : RdRow R xs l) {i : Nat} {v : β} (hi : l[i]? = some v) : ∃ c, R c v ∧ ∀ j, j < n → xs[i * n + j]? = c[j]? := by
 induction h generalizing i with
 | nil => simp at hi
 | cons c xs a l hc _ ih =>
  have hn := hR _ _ hc
  match i, hi with
  | 0, hi =>
   simp at hi; subst hi
   exact ⟨c, hc, fun j hj => by rw [Nat.zero_mul, Nat.zero_add, List.getElem?_append_left (by omega)]⟩
  | i + 1, hi =>
   obtain ⟨c', h1, h2⟩ := ih (i := i) (by simpa using hi)
   refine ⟨c', h1, fun j hj => ?_⟩
   rw [List.getElem?_append_right (by rw [hn, Nat.succ_mul]; omega), ← h2 j hj, hn]
   congr 1; rw [Nat.succ_mul]; omega
inductive RdG (w : World) (F : Nat → Prop) : List Value → Bs × GV → Prop where
 | mk (f : ByteArray) (c : List Value) (v : GV) (hc : RdV w F c v) : RdG w F (.string f :: c) (f.data.toList, v)
inductive RdO (w : World) (F : Nat → Prop) : List Value → Bool × GV → Prop where
 | mk (b : Bool) (c : List Value) (v : GV) (hc : RdV w F c v) : RdO w F (.bool b :: c) (b, v)
theorem RdG.len {c : List Value} {v : Bs × GV} (h : RdG w F c v) : c.length = 6 := by cases h with | mk f c v hc => simp [hc.len]
theorem RdO.len {c : List Value} {v : Bool × GV} (h : RdO w F c v) : c.length = 6 := by cases h with | mk f c v hc => simp [hc.len]
theorem RdG.trans' (hw : ∀ g, F g → g < w.heap.size → w'.heap[g]? = w.heap[g]? ∧ G g) {c : List Value} {v : Bs × GV} (h : RdG w F c v) : RdG w' G c v := by
 cases h with | mk f c v hc => exact .mk f c v (RdV.trans' hw _ _ hc)
theorem RdO.trans' (hw : ∀ g, F g → g < w.heap.size → w'.heap[g]? = w.heap[g]? ∧ G g) {c : List Value} {v : Bool × GV} (h : RdO w F c v) : RdO w' G c v := by
 cases h with | mk f c v hc => exact .mk f c v (RdV.trans' hw _ _ hc)
inductive RdOp (w : World) (F : Nat → Prop) : List Value → OpV → Prop where
 | mk (k : Int) (cl : ByteArray) (ss : Value) (h : Int) (t : ByteArray) (on : Bool) (n : Int) (as : Value) (xs ys : List Value) (set : List (Bs × GV)) (args : List (Bool × GV))
   (hs : SliceAt w F ss set.length (set.length * 6) xs) (hsl : RdRow (RdG w F) xs set) (ha : SliceAt w F as args.length (args.length * 6) ys) (hal : RdRow (RdO w F) ys args) :
   RdOp w F [.int .i64 k, .string cl, ss, .int .i64 h, .string t, .bool on, .int .i64 n, as] ⟨k, cl.data.toList, set, h, t.data.toList, on, n, args⟩
theorem RdOp.len {c : List Value} {v : OpV} (h : RdOp w F c v) : c.length = 8 := by cases h; rfl
theorem SliceAt.trans' {v : Value} {n m : Nat} {xs : List Value} (h : SliceAt w F v n m xs) (hw : ∀ g, F g → g < w.heap.size → w'.heap[g]? = w.heap[g]? ∧ G g) : SliceAt w' G v n m xs :=
 ((h.wide (G := fun g => F g ∧ G g) (fun g hg hl => ⟨hg, (hw g hg hl).2⟩)).frame (fun g hg hl => (hw g hg.1 hl).1)).wide (fun _ hg _ => hg.2)
theorem RdOp.trans' (hw : ∀ g, F g → g < w.heap.size → w'.heap[g]? = w.heap[g]? ∧ G g) {c : List Value} {v : OpV} (h : RdOp w F c v) : RdOp w' G c v := by
 cases h with
 | mk k cl ss h t on n as xs ys set args hs hsl ha hal =>
  exact .mk k cl ss h t on n as xs ys set args (hs.trans' hw) (hsl.imp (fun _ _ _ hc => hc.trans' hw)) (ha.trans' hw) (hal.imp (fun _ _ _ hc => hc.trans' hw))
end
end Go.Proofs.YtnpkdiffpgcbhaaGreatDoor
