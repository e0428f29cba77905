/- A row that grows. Conditions: each theorem's own. -/
import Derived.Test.YtnpkdiffpgcbhaaGreatDoorS19
import Derived.Test.YtnpkdiffpgcbhaaGreatDoorS21
import Derived.Deep.AppendLies
namespace Go.Proofs.YtnpkdiffpgcbhaaGreatDoor
open Go.RowKit
theorem RdVs.row {w : World} {F : Nat → Prop} {xs : List Value} {l : List GV} (h : RdVs w F xs l) : RdRow (RdV w F) xs l := by
 induction l generalizing xs with
 | nil => cases h; exact .nil
 | cons v l ih => cases h with | cons c xs v l hc hl => exact .cons _ _ _ _ hc (ih hl)
theorem RdRow.vals {w : World} {F : Nat → Prop} {xs : List Value} {l : List GV} (h : RdRow (RdV w F) xs l) : RdVs w F xs l := by
 induction h with
 | nil => exact .nil
 | cons c xs a l hc _ ih => exact .cons _ _ _ _ hc ih
structure RowC (α : Type) where
 pb : Nat
 hb : Nat
 ho : Nat
 ht : TypeId
 hcs : Value → Array Value
 e : TypeId
 sz : Nat
 R : World → (Nat → Prop) → List Value → α → Prop
 keep : List (Nat × Obj)
structure RowOk {α : Type} (C : RowC α) : Prop where
 get : ∀ v, (C.hcs v)[C.ho]? = some v
 set : ∀ v u, (C.hcs v).setIfInBounds C.ho u = C.hcs u
 tr : ∀ (w w' : World) (F G : Nat → Prop) (c : List Value) (a : α), (∀ g, F g → g < w.heap.size → w'.heap[g]? = w.heap[g]? ∧ G g) → C.R w F c a → C.R w' G c a
 pbhb : C.pb < C.hb
 kp : ∀ y ∈ C.keep, y.1 < C.hb ∧ y.1 ≠ C.pb
structure RowSt {α : Type} (C : RowC α) (w0 : World) (T : List Lx) (acc : List α) (xs : List Value) (k : Nat) (hv rv : Value) (n : Nat) (ys : List Value) (nw : Option (List Value × α)) (W : World) : Prop where
 p : PAt W C.pb T k
 kp : ∀ y ∈ C.keep, W.heap[y.1]? = some y.2
 hd : W.heap[C.hb]? = some (.cells (C.hcs hv) C.ht (0,0))
 row : W.ownsRow (C.hb + 1) C.e C.sz rv n ys
 old : RdRow (C.R W (fun b => C.hb < b ∧ rv.ownBlock ≠ some b)) xs acc
 new : ∀ x, nw = some x → C.R W (fun b => C.hb < b ∧ rv.ownBlock ≠ some b) x.1 x.2
 fp : FP (fun i => i = C.pb) w0 W
 w0s : w0.heap.size ≤ C.hb
section
variable {α : Type} {C : RowC α} {w0 W W' : World} {T : List Lx} {acc : List α} {xs ys : List Value} {k k' n : Nat} {hv rv : Value} {nw : Option (List Value × α)}
theorem RowSt.same (ok : RowOk C) (h : RowSt C w0 T acc xs k hv rv n ys nw W) (hs : Same W W') : RowSt C w0 T acc xs k hv rv n ys nw W' := by
 have hb : ∀ b : Nat, W'.heap[b]? = W.heap[b]? := fun b => by rw [hs.1]
 refine ⟨h.p.same (fun b _ => hb b), fun y hy => (hb _).trans (h.kp y hy), (hb _).trans h.hd, ?_, h.old.imp (fun c v _ hc => ok.tr _ _ _ _ _ _ (fun g hg _ => ⟨hb g, hg⟩) hc), fun x hx => ok.tr _ _ _ _ _ _ (fun g hg _ => ⟨hb g, hg⟩) (h.new x hx), h.fp.same hs, h.w0s⟩
 exact h.row.kept (row := none) ⟨hs.2.1, hs.2.2.1, hs.2.2.2, by rw [hs.1]; exact Nat.le_refl _, fun b _ _ => hb b⟩ (by cases h0 : rv.ownBlock <;> simp)
theorem RowSt.far (ok : RowOk C) (h : RowSt C w0 T acc xs k hv rv n ys nw W) (hf : FP (fun i => i = C.pb) W W') (hp : PAt W' C.pb T k') : RowSt C w0 T acc xs k' hv rv n ys nw W' := by
 have hpb := ok.pbhb
 have hb : ∀ b : Nat, b < W.heap.size → b ≠ C.pb → W'.heap[b]? = W.heap[b]? := fun b hl hne => hf.blk b hl hne
 refine ⟨hp, fun y hy => (hb _ (lt_blk (h.kp y hy)) (ok.kp y hy).2).trans (h.kp y hy), (hb _ (lt_blk h.hd) (by omega)).trans h.hd, ?_,
  h.old.imp (fun c v _ hc => ok.tr _ _ _ _ _ _ (fun g hg hl => ⟨hb g hl (by have := hg.1; omega), hg⟩) hc), fun x hx => ok.tr _ _ _ _ _ _ (fun g hg hl => ⟨hb g hl (by have := hg.1; omega), hg⟩) (h.new x hx),
  h.fp.trans hf (fun i hi => .inl hi), h.w0s⟩
 refine h.row.kept (row := some C.pb) ⟨hf.os, hf.tape, hf.output, hf.size, fun b hl hne => hb b hl (fun e => hne (by rw [e]))⟩ (.inr fun e => ?_)
 have := (h.row.lt _ e).1
 omega
theorem RowSt.alloc (ok : RowOk C) (h : RowSt C w0 T acc xs k hv rv n ys nw W) (o : Obj) : RowSt C w0 T acc xs k hv rv n ys nw (W.alloc o) :=
 h.far ok ((FP.refl _ W).alloc o) (h.p.fp (S := nob) ((FP.refl _ _).alloc o) (fun _ h => h.elim))
theorem RowSt.call (ok : RowOk C) (h : RowSt C w0 T acc xs k hv rv n ys none W) {c : List Value} {a : α} (hc : C.R W' (fun b => W.heap.size ≤ b) c a) (hp : PAt W' C.pb T k') (hf : FP (fun i => i = C.pb) W W') : RowSt C w0 T acc xs k' hv rv n ys (some (c, a)) W' := by
 have h1 := h.far ok hf hp
 refine ⟨h1.p, h1.kp, h1.hd, h1.row, h1.old, ?_, h1.fp, h1.w0s⟩
 rintro x hx
 cases hx
 refine ok.tr _ _ _ _ _ _ (fun g hg hl => ⟨rfl, ?_, fun e => ?_⟩) hc
 ·have := lt_blk h.hd; omega
 ·have := (h.row.lt _ e).2; omega
theorem RowSt.append (ok : RowOk C) (h : RowSt C w0 T acc xs k hv rv n ys nw W) {g cap m : Nat} {zs : List Value} (hg : W.grownBy W' rv.ownBlock) (hat : rv.ownBlock = some g ∨ g = W.heap.size)
  (hr : W'.ownsRow (C.hb + 1) C.e C.sz (.slice (some ⟨g, 0, none⟩) m cap) m zs) : RowSt C w0 T acc xs k hv (.slice (some ⟨g, 0, none⟩) m cap) m zs nw W' := by
 have hpb := ok.pbhb
 have hrow : ∀ b, rv.ownBlock = some b → C.hb + 1 ≤ b := fun b hb => (h.row.lt b hb).1
 have hb : ∀ b : Nat, b < W.heap.size → rv.ownBlock ≠ some b → W'.heap[b]? = W.heap[b]? := fun b hl hne => hg.block b hl (fun e => hne e.symm)
 have hlow : ∀ b : Nat, b < W.heap.size → b ≤ C.hb → W'.heap[b]? = W.heap[b]? := fun b hl hle => hb b hl (fun e => by have := hrow b e; omega)
 have mv : ∀ c a, C.R W (fun b => C.hb < b ∧ rv.ownBlock ≠ some b) c a → C.R W' (fun b => C.hb < b ∧ (Value.slice (some ⟨g, 0, none⟩) m cap).ownBlock ≠ some b) c a := fun c a hc =>
  ok.tr _ _ _ _ _ _ (fun b hq hl => ⟨hb b hl hq.2, hq.1, fun e => by
   simp only [Value.ownBlock, Option.some.injEq] at e
   rcases hat with h1 | h1
   ·exact hq.2 (by rw [h1, e])
   ·omega⟩) hc
 refine ⟨h.p.same (fun b hb' => hlow b (Nat.lt_of_le_of_lt hb' h.p.lt) (by omega)), fun y hy => (hlow _ (lt_blk (h.kp y hy)) (Nat.le_of_lt (ok.kp y hy).1)).trans (h.kp y hy), (hlow _ (lt_blk h.hd) (Nat.le_refl _)).trans h.hd, hr,
  h.old.imp (fun c v _ hc => mv c v hc), fun x hx => mv _ _ (h.new x hx), h.fp.grown hg (fun b hq => .inr (by have := hrow b hq; have := h.w0s; omega)), h.w0s⟩
theorem RowSt.elem (ok : RowOk C) {g cap m : Nat} (h : RowSt C w0 T acc xs k hv (.slice (some ⟨g, 0, none⟩) m cap) m ys nw W) {zs : List Value} (hf : FP (fun i => i = g) W W')
  (hr : W'.ownsRow (C.hb + 1) C.e C.sz (.slice (some ⟨g, 0, none⟩) m cap) m zs) : RowSt C w0 T acc xs k hv (.slice (some ⟨g, 0, none⟩) m cap) m zs nw W' := by
 have hpb := ok.pbhb
 have hgl := (h.row.lt g rfl).1
 have hb : ∀ b : Nat, b < W.heap.size → b ≠ g → W'.heap[b]? = W.heap[b]? := fun b hl hne => hf.blk b hl hne
 have mv : ∀ c a, C.R W (fun b => C.hb < b ∧ (Value.slice (some ⟨g, 0, none⟩) m cap).ownBlock ≠ some b) c a → C.R W' (fun b => C.hb < b ∧ (Value.slice (some ⟨g, 0, none⟩) m cap).ownBlock ≠ some b) c a := fun c a hc =>
  ok.tr _ _ _ _ _ _ (fun b hq hl => ⟨hb b hl (fun e => hq.2 (by rw [e]; rfl)), hq⟩) hc
 refine ⟨h.p.same (fun b hb' => hb b (Nat.lt_of_le_of_lt hb' h.p.lt) (by omega)), fun y hy => (hb _ (lt_blk (h.kp y hy)) (by have := (ok.kp y hy).1; omega)).trans (h.kp y hy), (hb _ (lt_blk h.hd) (by omega)).trans h.hd, hr,
  h.old.imp (fun c v _ hc => mv c v hc), fun x hx => mv _ _ (h.new x hx), h.fp.trans hf (fun i hi => .inr (by have := h.w0s; omega)), h.w0s⟩
theorem RowSt.head (ok : RowOk C) (h : RowSt C w0 T acc xs k hv rv n ys nw W) (u : Value) : RowSt C w0 T acc xs k u rv n ys nw (W.setCell ⟨C.hb, C.ho, none⟩ u) := by
 have hpb := ok.pbhb
 have hb : ∀ b : Nat, b ≠ C.hb → (W.setCell ⟨C.hb, C.ho, none⟩ u).heap[b]? = W.heap[b]? := fun b hne => heap_set_ne hne
 refine ⟨h.p.same (fun b hb' => hb b (by omega)), fun y hy => (hb _ (by have := (ok.kp y hy).1; omega)).trans (h.kp y hy), ?_, ?_,
  h.old.imp (fun c v _ hc => ok.tr _ _ _ _ _ _ (fun g hg hl => ⟨hb g (by have := hg.1; omega), hg⟩) hc), fun x hx => ok.tr _ _ _ _ _ _ (fun g hg hl => ⟨hb g (by have := hg.1; omega), hg⟩) (h.new x hx),
  h.fp.set u (.inr h.w0s), h.w0s⟩
 ·rw [heap_set h.hd, if_pos rfl, ok.set]
 ·exact own_other h.row (fun e => Nat.not_succ_le_self _ (h.row.lt _ e).1) u
theorem RowSt.hcell (ok : RowOk C) (h : RowSt C w0 T acc xs k hv rv n ys nw W) : W.cell? ⟨C.hb, C.ho, none⟩ = some hv ∧ W.frozen? ⟨C.hb, C.ho, none⟩ = false := ⟨(cell_blk h.hd).trans (ok.get hv), frz_blk h.hd⟩
theorem RowSt.done (h : RowSt C w0 T acc xs k hv rv n ys nw W) {c : List Value} {a : α} (hn : nw = some (c, a)) : RdRow (C.R W (fun b => C.hb < b ∧ rv.ownBlock ≠ some b)) (xs ++ c) (acc ++ [a]) := h.old.snoc (h.new _ hn)
end
end Go.Proofs.YtnpkdiffpgcbhaaGreatDoor
