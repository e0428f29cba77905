/- The evaluator's soundness, 2: heaps, what a run may turn, a call's outcome. -/
import Derived.Test.YtmoejaloachlkaaGreatDoorEr
namespace Go.Proofs.YtmoejaloachlkaaGreatDoor.Ev
open Go Go.RowKit

/-- What is written in full knowledge. -/
def Blk.wr : Blk → Bool
  | .cells _ _ _ _ _ _ w _ => w
  | _ => true
def Blk.isC : Blk → Bool
  | .cells .. => true
  | _ => false
def Blk.sib : Blk → List Nat
  | .cells _ _ _ _ _ _ _ s => s
  | _ => []
/-- Registers. -/
def RR (π : Pi) (r : T AV) (a : Array Value) : Prop := ∀ t v, r.get (Pos.of t) = some v → ∃ cv, a[t]? = some cv ∧ VR π v cv
/-- Deferred calls. -/
inductive DR (π : Pi) : AD → Deferred → Prop where
  | fn (f : Nat) (args : List AV) (cap : Array Value) (as : Array Value) (h : VRs π args (as ++ cap).toList) : DR π (.fn f args) { target := .fn (.func f) cap, args := as }
  | coll (b c z : Nat) (h : π b = some (c, z)) : DR π (.coll b) { target := .collected c, args := #[] }
inductive DRs (π : Pi) : List AD → List Deferred → Prop where
  | nil : DRs π [] []
  | cons (d : AD) (d' : Deferred) (l : List AD) (l' : List Deferred) (h : DR π d d') (h' : DRs π l l') : DRs π (d :: l) (d' :: l')
/-- A map's entries. -/
inductive ERs (π : Pi) : List (AV × AV) → List MapEntry → Prop where
  | nil : ERs π [] []
  | cons (k v : AV) (b : Nat) (k' v' : Value) (l : List (AV × AV)) (l' : List MapEntry) (hk : VR π k k') (hv : VR π v v') (h : ERs π l l') : ERs π ((k, v) :: l) (⟨k', v', b⟩ :: l')
/-- A key that is known by its look. -/
def SV (k : AV) (c : Value) : Prop := VR (fun _ => none) k c
theorem simple_SV {π : Pi} {k : AV} {c : Value} (hs : simpleK k = true) (h : VR π k c) : SV k c := by
  have hc : ∀ {x : AV} {y : Value}, cellK x = true → VR π x y → VR (fun _ => none) x y := by
    intro x y hx hy
    cases hy <;> first | (constructor; done) | cases hx
  cases h with
  | agg l a hl =>
    refine .agg _ _ ?_
    have hs : l.all cellK = true := hs
    have : ∀ (l : List AV) (m : List Value), l.all cellK = true → VRs π l m → VRs (fun _ => none) l m := by
      intro l
      induction l with
      | nil => intro m _ h; cases h; exact .nil
      | cons x l ih =>
        intro m hs h
        cases h with
        | cons _ y _ m h h' =>
          rw [List.all_cons, Bool.and_eq_true] at hs
          exact .cons _ _ _ _ (hc hs.1 h) (ih m hs.2 h')
    exact this _ _ hs hl
  | _ => exact hc (by simpa [simpleK] using hs) (by constructor <;> assumption)
theorem SV.vr {π : Pi} {k : AV} {c : Value} (h : SV k c) : VR π k c := VR.mono (fun b p hp => by cases hp) h
theorem cell_inj {π : Pi} {x y : AV} {c : Value} (hx : cellK x = true) (hy : cellK y = true) (h : VR π x c) (h' : VR π y c) : x = y := by
  cases h <;> first | cases hx | skip
  · cases h' <;> first | rfl | cases hy
  · cases h' <;> first | rfl | cases hy
  · cases h' <;> first | rfl | cases hy
theorem simple_inj {π : Pi} {x y : AV} {c : Value} (hx : simpleK x = true) (hy : simpleK y = true) (h : VR π x c) (h' : VR π y c) : x = y := by
  cases h with
  | agg l a hl =>
    cases h' with
    | agg l' _ hl' =>
      have hx : l.all cellK = true := hx
      have hy : l'.all cellK = true := hy
      have : ∀ (l l' : List AV) (m : List Value), l.all cellK = true → l'.all cellK = true → VRs π l m → VRs π l' m → l = l' := by
        intro l
        induction l with
        | nil => intro l' m _ _ h h'; cases h; cases h'; rfl
        | cons u l ih =>
          intro l' m hs hs' h h'
          cases h with
          | cons _ y _ m h1 h2 =>
            cases h' with
            | cons u' _ l' _ h1' h2' =>
              rw [List.all_cons, Bool.and_eq_true] at hs hs'
              rw [cell_inj hs.1 hs'.1 h1 h1', ih l' m hs.2 hs'.2 h2 h2']
      rw [this l l' _ hx hy hl hl']
  | bool b => cases h' <;> first | rfl | cases hy
  | int k n => cases h' <;> first | rfl | cases hy
  | str s => cases h' <;> first | rfl | cases hy
  | _ => cases hx
/-- What an iterator has told, by the entries' stamps and by their keys. -/
structure ItR (l : List MapEntry) (seen : List Nat) (vis : List AV) : Prop where
  mem : ∀ e ∈ l, (e.born ∈ seen ↔ ∃ k ∈ vis, SV k e.key)
  head : ∀ e ∈ l, ∀ k, vis.head? = some k → SV k e.key → seen.getLast? = some e.born
  simple : ∀ k ∈ vis, simpleK k = true
/-- How a map may come on: with no entry more where its clock stays. -/
def Evo (o o' : Option Obj) : Prop := ∀ l' k', o' = some (.map l' k') → ∃ l k, o = some (.map l k) ∧ k ≤ k' ∧ (k' = k → ∀ e' ∈ l'.toList, ∃ e ∈ l.toList, e.born = e'.born ∧ ∀ kk, simpleK kk = true → (SV kk e'.key ↔ SV kk e.key))
theorem Evo.refl (o : Option Obj) : Evo o o := fun l' k' h => ⟨l', k', h, Nat.le_refl _, fun _ e he => ⟨e, he, rfl, fun _ _ => Iff.rfl⟩⟩
theorem Evo.of_eq {o o' : Option Obj} (h : o' = o) : Evo o o' := h ▸ Evo.refl o
theorem Evo.trans {a b c : Option Obj} (h : Evo a b) (k : Evo b c) : Evo a c := by
  intro l' k' hc
  obtain ⟨l1, k1, e1, e2, e3⟩ := k l' k' hc
  obtain ⟨l2, k2, f1, f2, f3⟩ := h l1 k1 e1
  refine ⟨l2, k2, f1, Nat.le_trans f2 e2, fun e => ?_⟩
  intro x hx
  obtain ⟨y, y1, y2, y3⟩ := e3 (by omega) x hx
  obtain ⟨z, z1, z2, z3⟩ := f3 (by omega) y y1
  exact ⟨z, z1, z2.trans y2, fun kk hk => (y3 kk hk).trans (z3 kk hk)⟩
theorem Evo.noMap {a b : Option Obj} (h : ∀ l k, b ≠ some (.map l k)) : Evo a b := fun l k e => absurd e (h l k)
theorem ItR.evo {l l' : List MapEntry} {seen : List Nat} {vis : List AV} (h : ItR l seen vis) (he : ∀ e' ∈ l', ∃ e ∈ l, e.born = e'.born ∧ ∀ kk, simpleK kk = true → (SV kk e'.key ↔ SV kk e.key)) : ItR l' seen vis := by
  refine ⟨fun e' h' => ?_, fun e' h' k hk hs => ?_, h.simple⟩
  · obtain ⟨e, h1, h2, h3⟩ := he e' h'
    rw [← h2, h.mem e h1]
    exact ⟨fun ⟨k, a, b⟩ => ⟨k, a, (h3 k (h.simple k a)).2 b⟩, fun ⟨k, a, b⟩ => ⟨k, a, (h3 k (h.simple k a)).1 b⟩⟩
  · obtain ⟨e, h1, h2, h3⟩ := he e' h'
    rw [← h2]
    exact h.head e h1 k hk ((h3 k (h.simple k (List.mem_of_head? hk))).1 hs)
/-- A block. -/
def BR (π : Pi) (w : World) (x : Blk) (z : Nat) (o : Obj) : Prop :=
  match x with
  | .cells t d n e lo hi w s => ∃ (arr : Array Value) (fz : Nat × Nat), o = .cells arr e fz ∧ arr.size = z ∧ n ≤ z ∧ (w = true → fz.1 ≤ fz.2 ∧ ∀ j, fz.1 ≤ j → j < fz.2 → (lo ≤ j ∧ j < hi) ∨ (hi < lo ∧ z ≤ j)) ∧ (∀ (j : Nat) (v : AV), (Blk.cells t d n e lo hi w s).rd j = some v → ∃ cv, arr[j]? = some cv ∧ VR π v cv) ∧ ∀ (j : Nat) (cv : Value), arr[j]? = some cv → cv.oneCell' = true
  | .map es c => ∃ l es', o = .map l c ∧ es.Perm es' ∧ ERs π es' l.toList ∧ (l.toList.map (·.born)).Nodup ∧ (∀ e ∈ l.toList, e.born < c) ∧ (∀ e ∈ es, simpleK e.1 = true) ∧ (es.map (·.1)).Nodup
  | .loop st pd r sz ps asg body df => ∃ L : Loop, o = .loop L ∧ L.state = st ∧ L.pending = pd ∧ RR π r L.tmps ∧ L.tmps.size = sz ∧ L.params.toList = ps ∧ L.assign = asg ∧ L.body = body ∧ ∃ z', π df = some (L.defers, z')
  | .dfr ds => ∃ l, o = .deferred l ∧ match ds, l with
    | none, none => True
    | some ds, some l => DRs π ds l
    | _, _ => False
  | .siter _ _ _ => False
  | .miter m since vis => ∃ m' seen last, o = .mapIter m' since seen last ∧ match m, m' with
    | none, none => True
    | some b, some c => (∃ z', π b = some (c, z')) ∧ ∀ l k, w.heap[c]? = some (.map l k) → since ≤ k ∧ (k = since → ItR l.toList seen.toList vis ∧ (seen.toList ≠ [] → last = since))
    | _, _ => False
section
variable {π π' : Pi}
theorem RR.mono (hE : PExt π π') {r : T AV} {a : Array Value} (h : RR π r a) : RR π' r a := fun t v hv => let ⟨cv, h1, h2⟩ := h t v hv; ⟨cv, h1, h2.mono hE⟩
theorem DR.mono (hE : PExt π π') {d : AD} {d' : Deferred} (h : DR π d d') : DR π' d d' := by
  cases h with
  | fn f args cap as h => exact .fn f args cap as (h.mono hE)
  | coll b c z h => exact .coll b c z (hE _ _ h)
theorem DRs.mono (hE : PExt π π') {d : List AD} {d' : List Deferred} (h : DRs π d d') : DRs π' d d' := by
  induction h with
  | nil => exact .nil
  | cons d d' l l' h _ ih => exact .cons _ _ _ _ (h.mono hE) ih
theorem DRs.append {a b : List AD} {a' b' : List Deferred} (h : DRs π a a') (k : DRs π b b') : DRs π (a ++ b) (a' ++ b') := by
  induction h with
  | nil => exact k
  | cons d d' l l' h _ ih => exact .cons _ _ _ _ h ih
theorem ERs.mono (hE : PExt π π') {e : List (AV × AV)} {e' : List MapEntry} (h : ERs π e e') : ERs π' e e' := by
  induction h with
  | nil => exact .nil
  | cons k v b k' v' l l' hk hv _ ih => exact .cons _ _ _ _ _ _ _ (hk.mono hE) (hv.mono hE) ih
/-- The world comes on; what is known goes on. -/
theorem BR.on (hE : PExt π π') {w w' : World} (hw : ∀ c, c < w.heap.size → Evo w.heap[c]? w'.heap[c]?) (hd : ∀ b p, π b = some p → p.1 < w.heap.size) {x : Blk} {z : Nat} {o : Obj} (h : BR π w x z o) : BR π' w' x z o := by
  cases x with
  | cells t d n e lo hi w s =>
    obtain ⟨arr, fz, h1, h2, h3, h4, h5, h6⟩ := h
    exact ⟨arr, fz, h1, h2, h3, h4, fun j v hv => let ⟨cv, a, b⟩ := h5 j v hv; ⟨cv, a, b.mono hE⟩, h6⟩
  | map es c => obtain ⟨l, es', h1, h2, h3, h4⟩ := h; exact ⟨l, es', h1, h2, h3.mono hE, h4⟩
  | loop st pd r sz ps asg body df =>
    obtain ⟨L, h1, h2, h3, h4, h5, h6, h7, h8, z', h9⟩ := h
    exact ⟨L, h1, h2, h3, h4.mono hE, h5, h6, h7, h8, z', hE _ _ h9⟩
  | dfr ds =>
    obtain ⟨l, h1, h2⟩ := h
    refine ⟨l, h1, ?_⟩
    cases ds <;> cases l <;> first | trivial | exact h2.elim | exact DRs.mono hE h2
  | siter a b c => exact h.elim
  | miter m since vis =>
    obtain ⟨m', seen, last, h1, h2⟩ := h
    refine ⟨m', seen, last, h1, ?_⟩
    cases m with
    | none => cases m' <;> first | trivial | exact h2.elim
    | some b =>
      cases m' with
      | none => exact h2.elim
      | some c =>
        obtain ⟨⟨z', hz⟩, h3⟩ := h2
        refine ⟨⟨z', hE _ _ hz⟩, fun l k hl => ?_⟩
        obtain ⟨l0, k0, e1, e2, e3⟩ := hw c (hd _ _ hz) l k hl
        obtain ⟨f1, f2⟩ := h3 l0 k0 e1
        refine ⟨Nat.le_trans f1 e2, fun e => ?_⟩
        have := f2 (by omega)
        exact ⟨this.1.evo (e3 (by omega)), this.2⟩
theorem BR.mono (hE : PExt π π') {w : World} (hd : ∀ b p, π b = some p → p.1 < w.heap.size) {x : Blk} {z : Nat} {o : Obj} (h : BR π w x z o) : BR π' w x z o := h.on hE (fun _ _ => Evo.refl _) hd
end
/-- What is known of the heap. B: blocks behind it may be written. -/
structure HRel (π : Pi) (B : Nat) (H : Hp) (w : World) : Prop where
  low : B ≤ w.heap.size
  glob : ∀ g, g < gN → ∃ z, π g = some (g, z)
  blk : ∀ b x, H.get b = some x → ∃ c z o, π b = some (c, z) ∧ w.heap[c]? = some o ∧ BR π w x z o ∧ (x.wr = true → B ≤ c)
  dom : ∀ b p, π b = some p → b < H.nx ∧ p.1 < w.heap.size
  sep : ∀ b x b' x' c z z', H.get b = some x → H.get b' = some x' → π b = some (c, z) → π b' = some (c, z') → b ≠ b' → x.isC = true ∧ (x.wr = true → b' ∈ x.sib ∧ x'.wr = false)
/-- What a run may turn. -/
structure Step (B : Nat) (π : Pi) (H : Hp) (w : World) (π' : Pi) (H' : Hp) (w' : World) : Prop where
  ext : PExt π π'
  rel : HRel π' B H' w'
  fr : ∀ c, c < w.heap.size → (∀ b x z, H.get b = some x → x.wr = true → π b ≠ some (c, z)) → w'.heap[c]? = w.heap[c]?
  size : w.heap.size ≤ w'.heap.size
  nx : H.nx ≤ H'.nx
  new : ∀ b p, π' b = some p → π b = none → H.nx ≤ b ∧ (w.heap.size ≤ p.1 ∨ ∃ b0 x0 z0, H.get b0 = some x0 ∧ x0.wr = true ∧ π b0 = some (p.1, z0))
  old : ∀ b x, H'.get b = some x → (∃ y, H.get b = some y ∧ (x.wr = true → y.wr = true)) ∨ H.nx ≤ b
  out : w'.os = w.os ∧ w'.tape = w.tape ∧ w'.output = w.output
  evo : ∀ c, c < w.heap.size → Evo w.heap[c]? w'.heap[c]?
section
variable {B : Nat} {π π' π'' : Pi} {H H' H'' : Hp} {w w' w'' : World}
theorem HRel.fresh (h : HRel π B H w) {b : Nat} (hb : H.nx ≤ b) : π b = none := by
  cases hp : π b with
  | none => rfl
  | some p => have := (h.dom b p hp).1; omega
theorem Step.refl (h : HRel π B H w) : Step B π H w π H w :=
  ⟨.refl π, h, fun _ _ _ => rfl, Nat.le_refl _, Nat.le_refl _, fun b p h1 h2 => (by rw [h1] at h2; cases h2), fun b x hx => .inl ⟨x, hx, id⟩, ⟨rfl, rfl, rfl⟩, fun _ _ => Evo.refl _⟩
theorem Step.trans (h0 : HRel π B H w) (h : Step B π H w π' H' w') (k : Step B π' H' w' π'' H'' w'') : Step B π H w π'' H'' w'' := by
  refine ⟨h.ext.trans k.ext, k.rel, ?_, Nat.le_trans h.size k.size, Nat.le_trans h.nx k.nx, ?_, ?_, ⟨k.out.1.trans h.out.1, k.out.2.1.trans h.out.2.1, k.out.2.2.trans h.out.2.2⟩, fun c hc => (h.evo c hc).trans (k.evo c (Nat.lt_of_lt_of_le hc h.size))⟩
  · intro c hc hb
    rw [k.fr c (Nat.lt_of_lt_of_le hc h.size) ?_]
    · exact h.fr c hc hb
    · intro b x z hx hw hp
      rcases h.old b x hx with ⟨y, hy, hyw⟩ | hn
      · obtain ⟨c1, z1, o1, p1, _⟩ := h0.blk b y hy
        have := h.ext _ _ p1
        rw [this] at hp; cases hp
        exact hb b y z hy (hyw hw) p1
      · rcases (h.new b (c, z) hp (h0.fresh hn)).2 with this | ⟨b0, x0, z0, q1, q2, q3⟩
        · simp at this; omega
        · exact hb b0 x0 z0 q1 q2 q3
  · intro b p hp hn
    cases h1 : π' b with
    | none =>
      have := k.new b p hp h1
      refine ⟨Nat.le_trans h.nx this.1, ?_⟩
      rcases this.2 with q | ⟨b0, x0, z0, q1, q2, q3⟩
      · exact .inl (Nat.le_trans h.size q)
      · rcases h.old b0 x0 q1 with ⟨y, hy, hyw⟩ | hn0
        · obtain ⟨c1, z1, o1, p1, _⟩ := h0.blk b0 y hy
          have := h.ext _ _ p1
          rw [this] at q3; cases q3
          exact .inr ⟨b0, y, _, hy, hyw q2, p1⟩
        · exact (h.new b0 _ q3 (h0.fresh hn0)).2
    | some p' =>
      have := k.ext _ _ h1
      rw [this] at hp; cases hp
      exact h.new b p h1 hn
  · intro b x hx
    rcases k.old b x hx with ⟨y, hy, hyw⟩ | hn
    · rcases h.old b y hy with ⟨u, hu, huw⟩ | hn
      · exact .inl ⟨u, hu, fun e => huw (hyw e)⟩
      · exact .inr hn
    · exact .inr (Nat.le_trans h.nx hn)
/-- The same heap, perhaps other draws. -/
theorem HRel.same (h : HRel π B H w) (hw : w'.heap = w.heap) : HRel π B H w' :=
  ⟨by rw [hw]; exact h.low, h.glob, fun b x hx => let ⟨c, z, o, h1, h2, h3, h4⟩ := h.blk b x hx; ⟨c, z, o, h1, by rw [hw]; exact h2, h3.on (.refl π) (fun c _ => by rw [hw]; exact Evo.refl _) (fun b p hp => (h.dom b p hp).2), h4⟩, fun b p hp => by rw [hw]; exact h.dom b p hp, h.sep⟩
theorem Step.same (h : HRel π B H w) (hw : w'.heap = w.heap) (ho : w'.os = w.os ∧ w'.tape = w.tape ∧ w'.output = w.output) : Step B π H w π H w' :=
  ⟨.refl π, h.same hw, fun _ _ _ => by rw [hw], by rw [hw]; exact Nat.le_refl _, Nat.le_refl _, fun b p h1 h2 => (by rw [h1] at h2; cases h2), fun b x hx => .inl ⟨x, hx, id⟩, ho, fun c _ => by rw [hw]; exact Evo.refl _⟩
/-- A new block. -/
def piNew (π : Pi) (b c z : Nat) : Pi := fun i => if i = b then some (c, z) else π i
theorem piNew_ext' {b : Nat} (hn : π b = none) (c z : Nat) : PExt π (piNew π b c z) := by
  intro i p hp
  unfold piNew
  split
  · rename_i e; subst e; rw [hn] at hp; cases hp
  · exact hp
theorem piNew_ext (hn : π H.nx = none) (c z : Nat) : PExt π (piNew π H.nx c z) := piNew_ext' hn c z
theorem Step.alloc (h : HRel π B H w) (x : Blk) (z : Nat) (o : Obj) (hx : BR (piNew π H.nx w.heap.size z) (w.alloc o) x z o) : Step B π H w (piNew π H.nx w.heap.size z) (H.new x) (w.alloc o) := by
  have hf := h.fresh (Nat.le_refl H.nx)
  have he := piNew_ext (H := H) hf w.heap.size z
  have hold : ∀ b, H.get b ≠ none → b ≠ H.nx := by
    intro b hb e
    subst e
    cases hg : H.get H.nx with
    | none => exact hb hg
    | some y => obtain ⟨c, z, o, h1, _⟩ := h.blk _ y hg; rw [hf] at h1; cases h1
  have hheap : ∀ c, c < w.heap.size → (w.alloc o).heap[c]? = w.heap[c]? := fun c hc => Below.heap_alloc _ _ _ hc
  have hevo : ∀ c, c < w.heap.size → Evo w.heap[c]? (w.alloc o).heap[c]? := fun c hc => Evo.of_eq (hheap c hc)
  have hB := h.low
  refine ⟨he, ⟨by simp; omega, fun g hg => let ⟨z, hz⟩ := h.glob g hg; ⟨z, he _ _ hz⟩, ?_, ?_, ?_⟩, fun c hc _ => hheap c hc, by simp, Nat.le_succ _, ?_, ?_, ⟨rfl, rfl, rfl⟩, hevo⟩
  · intro b y hy
    rw [Hp.get_new] at hy
    split at hy
    · rename_i e; subst e; cases hy
      exact ⟨w.heap.size, z, o, by simp [piNew], heap_alloc_new w o, hx, fun _ => hB⟩
    · obtain ⟨c, z1, o1, h1, h2, h3, h4⟩ := h.blk b y hy
      exact ⟨c, z1, o1, he _ _ h1, (hheap c (h.dom _ _ h1).2).trans h2, h3.on he hevo (fun b p hp => (h.dom b p hp).2), h4⟩
  · intro b p hp
    unfold piNew at hp
    split at hp
    · rename_i e; subst e; cases hp; simp
    · have := h.dom b p hp; simp; omega
  · intro b y b' y' c z1 z2 hy hy' hp hp' hne
    rw [Hp.get_new] at hy hy'
    unfold piNew at hp hp'
    split at hy
    · rename_i e
      rw [if_pos e] at hp; cases hp
      rw [if_neg (by rw [← e]; exact fun k => hne k.symm)] at hp'
      have := (h.dom _ _ hp').2
      simp at this
    · rename_i e
      rw [if_neg e] at hp
      split at hy'
      · rename_i e'
        rw [if_pos e'] at hp'; cases hp'
        have := (h.dom _ _ hp).2
        simp at this
      · rename_i e'
        rw [if_neg e'] at hp'
        exact h.sep b y b' y' c z1 z2 hy hy' hp hp' hne
  · intro b p hp hn
    unfold piNew at hp
    split at hp
    · rename_i e; subst e; cases hp; exact ⟨Nat.le_refl _, .inl (Nat.le_refl _)⟩
    · rw [hn] at hp; cases hp
  · intro b y hy
    rw [Hp.get_new] at hy
    split at hy
    · rename_i e; exact .inr (by omega)
    · exact .inl ⟨y, hy, id⟩
/-- Less is known. -/
theorem HRel.less (h : HRel π B H w) (hs : ∀ b x, H'.get b = some x → H.get b = some x) (hn : H.nx ≤ H'.nx) : HRel π B H' w :=
  ⟨h.low, h.glob, fun b x hx => h.blk b x (hs b x hx), fun b p hp => by have := h.dom b p hp; omega, fun b x b' x' c z z' hx hx' hp hp' hne => h.sep b x b' x' c z z' (hs _ _ hx) (hs _ _ hx') hp hp' hne⟩
theorem Step.less (h : Step B π H w π' H' w') (hs : ∀ b x, H''.get b = some x → H'.get b = some x) (hn : H'.nx ≤ H''.nx) : Step B π H w π' H'' w' :=
  ⟨h.ext, h.rel.less hs hn, h.fr, h.size, Nat.le_trans h.nx hn, h.new, fun b x hx => h.old b x (hs b x hx), h.out, h.evo⟩
/-- The same is known, of maps in another order. -/
theorem HRel.alike (h : HRel π B H w) (hs : ∀ b x, H'.get b = some x → H.get b = some x ∨ ∃ es es' c, x = .map es c ∧ H.get b = some (.map es' c) ∧ es.Perm es') (hn : H.nx ≤ H'.nx) : HRel π B H' w := by
  have key : ∀ b x, H'.get b = some x → ∃ y, H.get b = some y ∧ y.wr = x.wr ∧ y.isC = x.isC ∧ y.sib = x.sib ∧ ∀ z o, BR π w y z o → BR π w x z o := by
    intro b x hx
    rcases hs b x hx with h1 | ⟨es, es', c, rfl, h1, h2⟩
    · exact ⟨x, h1, rfl, rfl, rfl, fun _ _ h => h⟩
    · refine ⟨_, h1, rfl, rfl, rfl, ?_⟩
      rintro z o ⟨l, es2, k1, k2, k3, k4, k5, k6⟩
      exact ⟨l, es2, k1, h2.trans k2, k3, k4, k5, fun e he => k6.1 e (h2.mem_iff.1 he), (h2.map _).nodup_iff.2 k6.2⟩
  refine ⟨h.low, h.glob, fun b x hx => ?_, fun b p hp => by have := h.dom b p hp; omega, fun b x b' x' c z z' hx hx' hp hp' hne => ?_⟩
  · obtain ⟨y, k1, k2, k3, k4, k5⟩ := key b x hx
    obtain ⟨c, z, o, h1, h2, h3, h4⟩ := h.blk b y k1
    exact ⟨c, z, o, h1, h2, k5 z o h3, by rw [← k2]; exact h4⟩
  · obtain ⟨y, k1, k2, k3, k4, k5⟩ := key b x hx
    obtain ⟨y', k1', k2', k3', k4', k5'⟩ := key b' x' hx'
    have := h.sep b y b' y' c z z' k1 k1' hp hp' hne
    rwa [k2, k3, k4, k2'] at this
theorem Step.alike (h : Step B π H w π' H' w') (hs : ∀ b x, H''.get b = some x → H'.get b = some x ∨ ∃ es es' c, x = .map es c ∧ H'.get b = some (.map es' c) ∧ es.Perm es') (hn : H'.nx ≤ H''.nx) : Step B π H w π' H'' w' := by
  refine ⟨h.ext, h.rel.alike hs hn, h.fr, h.size, Nat.le_trans h.nx hn, h.new, fun b x hx => ?_, h.out, h.evo⟩
  rcases hs b x hx with h1 | ⟨es, es', c, rfl, h1, h2⟩
  · exact h.old b x h1
  · exact (h.old b _ h1).imp (fun ⟨y, a, b⟩ => ⟨y, a, fun _ => b rfl⟩) id
end

section
variable {B : Nat} {π : Pi} {H H' : Hp} {w w' : World}
/-- One block is written. -/
theorem Step.write (h : HRel π B H w) {b c z : Nat} {x x' : Blk} {o' : Obj} (hx : H.get b = some x) (hw : x.wr = true) (hp : π b = some (c, z))
    (h1 : w'.heap[c]? = some o') (h2 : ∀ k, k ≠ c → w'.heap[k]? = w.heap[k]?) (h3 : w'.heap.size = w.heap.size) (h4 : w'.os = w.os ∧ w'.tape = w.tape ∧ w'.output = w.output) (hev : Evo w.heap[c]? (some o'))
    (hx' : BR π w' x' z o') (hc : x'.isC = x.isC) (hs : x'.wr = true → x'.sib = x.sib) (hn : H'.nx = H.nx)
    (hH : ∀ i y, H'.get i = some y → (i = b ∧ y = x') ∨ (i ≠ b ∧ H.get i = some y ∧ ∀ z', π i = some (c, z') → BR π w' y z' o')) : Step B π H w π H' w' := by
  obtain ⟨c0, z0, o0, k1, k2, k3, k4⟩ := h.blk b x hx
  rw [hp] at k1; cases k1
  have hevo : ∀ k, k < w.heap.size → Evo w.heap[k]? w'.heap[k]? := by
    intro k _
    by_cases hk : k = c
    · subst hk; rw [h1]; exact hev
    · exact Evo.of_eq (h2 k hk)
  refine ⟨.refl π, ⟨by rw [h3]; exact h.low, h.glob, ?_, fun i p hi => by rw [hn, h3]; exact h.dom i p hi, ?_⟩, ?_, by omega, by omega, fun i p a1 a2 => (by rw [a1] at a2; cases a2), ?_, h4, hevo⟩
  · intro i y hy
    rcases hH i y hy with ⟨rfl, rfl⟩ | ⟨hne, hy', hal⟩
    · exact ⟨c, z, o', hp, h1, hx', fun _ => k4 hw⟩
    · obtain ⟨c1, z1, o1, a1, a2, a3, a4⟩ := h.blk i y hy'
      by_cases hcc : c1 = c
      · subst hcc; exact ⟨c1, z1, o', a1, h1, hal z1 a1, a4⟩
      · exact ⟨c1, z1, o1, a1, (h2 c1 hcc).trans a2, a3.on (.refl π) hevo (fun b p hp => (h.dom b p hp).2), a4⟩
  · intro i y i' y' c1 z1 z2 hy hy' hpi hpi' hne
    rcases hH i y hy with ⟨rfl, rfl⟩ | ⟨hib, hyo, _⟩
    · rcases hH i' y' hy' with ⟨rfl, rfl⟩ | ⟨hib', hyo', _⟩
      · exact absurd rfl hne
      · have := h.sep i x i' y' c1 z1 z2 hx hyo' hpi hpi' hne
        exact ⟨by rw [hc]; exact this.1, fun e => by rw [hs e]; exact this.2 hw⟩
    · rcases hH i' y' hy' with ⟨rfl, rfl⟩ | ⟨hib', hyo', _⟩
      · have := h.sep i y i' x c1 z1 z2 hyo hx hpi hpi' hne
        refine ⟨this.1, fun e => ?_⟩
        have := (this.2 e).2
        rw [hw] at this; cases this
      · exact h.sep i y i' y' c1 z1 z2 hyo hyo' hpi hpi' hne
  · intro k hk hno
    exact h2 k (fun e => hno b x z hx hw (by rw [hp, e]))
  · intro i y hy
    rcases hH i y hy with ⟨rfl, rfl⟩ | ⟨_, hyo, _⟩
    · exact .inl ⟨x, hx, fun _ => hw⟩
    · exact .inl ⟨y, hyo, id⟩
end

/-! ### What a call comes to -/
inductive PRs (π : Pi) : List PE → List PanicEntry → Prop where
  | nil : PRs π [] []
  | cons (v : AV) (v' : Value) (r : Bool) (l : List PE) (l' : List PanicEntry) (h : VR π v v') (h' : PRs π l l') : PRs π (⟨v, r⟩ :: l) (⟨v', r, false⟩ :: l')
theorem PRs.mono {π π' : Pi} (hE : PExt π π') {l : List PE} {l' : List PanicEntry} (h : PRs π l l') : PRs π' l l' := by
  induction h with
  | nil => exact .nil
  | cons v v' r l l' h _ ih => exact .cons _ _ _ _ _ (h.mono hE) ih
theorem PRs.append {π : Pi} {a b : List PE} {a' b' : List PanicEntry} (h : PRs π a a') (k : PRs π b b') : PRs π (a ++ b) (a' ++ b') := by
  induction h with
  | nil => exact k
  | cons v v' r l l' h _ ih => exact .cons _ _ _ _ _ h ih
def COut (B : Nat) (π : Pi) (H : Hp) (w : World) (r : CR) (e : Ending) (w' : World) : Prop :=
  match r with
  | .bad _ => True
  | .ret v h => ∃ π' cv, e = .returned cv ∧ VR π' v cv ∧ Step B π H w π' h w'
  | .pan ch h => ∃ π' chain, e = .panicked chain ∧ PRs π' ch chain ∧ Step B π H w π' h w'
def CR.ok : CR → Prop
  | .bad _ => False
  | _ => True
/-- What b may come to a may come to. -/
def Le (a b : CR) : Prop := a.ok → b.ok ∧ ∀ B π H w e w', COut B π H w b e w' → COut B π H w a e w'
theorem Le.refl (a : CR) : Le a a := fun h => ⟨h, fun _ _ _ _ _ _ h => h⟩
theorem Le.trans {a b c : CR} (h : Le a b) (k : Le b c) : Le a c := fun ha =>
  let ⟨hb, h1⟩ := h ha
  let ⟨hc, h2⟩ := k hb
  ⟨hc, fun B π H w e w' x => h1 B π H w e w' (h2 B π H w e w' x)⟩
theorem Le.bad (w : String) (b : CR) : Le (.bad w) b := fun h => h.elim
theorem Le.ofEq {a b : CR} (h : a = b) : Le a b := h ▸ Le.refl a
end Go.Proofs.YtmoejaloachlkaaGreatDoor.Ev
