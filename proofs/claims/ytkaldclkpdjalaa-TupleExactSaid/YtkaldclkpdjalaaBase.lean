/- Plain laws on worlds for package tuple: blocks, the arena's invariant, and how each method's stores change it. No program in sight. -/
import Derived.WalkKit
import Derived.Deep.Draws
import Derived.Laws.BitsAllLaws
namespace Go.Proofs.Ytkaldclkpdjalaa
open Go.RowKit

/-- The same world but for the count of draws. -/
def Same (w w' : World) : Prop := w'.heap = w.heap ∧ w'.os = w.os ∧ w'.tape = w.tape ∧ w'.output = w.output

theorem heap_set {w : World} {b t o : Nat} {cs : Array Value} (h : w.heap[b]? = some (.cells cs t (0,0))) (v : Value) (k : Nat) :
    (w.setCell ⟨b,o,none⟩ v).heap[k]? = if k = b then some (.cells (cs.setIfInBounds o v) t (0,0)) else w.heap[k]? := by
  simp only [World.setCell, Array.getElem?_modify]
  by_cases hk : k = b
  · subst hk; simp [h]
  · rw [if_neg (by omega), if_neg hk]
theorem heap_set_ne {w : World} {a : Addr} {v : Value} {k : Nat} (h : k ≠ a.block) : (w.setCell a v).heap[k]? = w.heap[k]? := Below.heap_setCell _ _ _ _ h
theorem size_set (w : World) (a : Addr) (v : Value) : (w.setCell a v).heap.size = w.heap.size := by simp [World.setCell]
theorem cell_blk {w : World} {b t o : Nat} {cs : Array Value} (h : w.heap[b]? = some (.cells cs t (0,0))) : w.cell? ⟨b, o, none⟩ = cs[o]? := by simp [World.cell?, h]
theorem frz_blk {w : World} {b t o : Nat} {cs : Array Value} (h : w.heap[b]? = some (.cells cs t (0,0))) : w.frozen? ⟨b, o, none⟩ = false := by simp [World.frozen?, h]
theorem lt_blk {w : World} {b : Nat} {o : Obj} (h : w.heap[b]? = some o) : b < w.heap.size := by
  rcases Nat.lt_or_ge b w.heap.size with h' | h'
  · exact h'
  · simp [Array.getElem?_eq_none h'] at h
theorem cell_new_at {W : World} {B t : Nat} {u : Value} (h : W.heap.size = B) : (W.alloc (.cells #[u] t)).cell? ⟨B, 0, none⟩ = some u := by
  subst h; rw [cell_blk (heap_alloc_new W _)]; rfl
theorem ownsRow_drewN {w : World} {base : Nat} {e : TypeId} {size : Nat} {v : Value} {n : Nat} {xs : List Value} (h : w.ownsRow base e size v n xs) (q : Nat) : (w.drewN q).ownsRow base e size v n xs := h

/-- Which element type a block bears. -/
def tagged (o : Obj) (ts : List TypeId) : Bool := match o with | .cells _ t _ => ts.contains t | _ => false

/-- From w to w' only blocks from base on of the types ts have turned; new ones have come. -/
structure TF (base : Nat) (ts : List TypeId) (w w' : World) : Prop where
  os : w'.os = w.os
  tape : w'.tape = w.tape
  output : w'.output = w.output
  size : w.heap.size ≤ w'.heap.size
  blk : ∀ k o, w.heap[k]? = some o → (k < base ∨ tagged o ts = false) → w'.heap[k]? = some o

theorem TF.refl (base : Nat) (ts : List TypeId) (w : World) : TF base ts w w := ⟨rfl, rfl, rfl, Nat.le_refl _, fun _ _ h _ => h⟩
theorem TF.trans {base : Nat} {ts : List TypeId} {a b c : World} (h : TF base ts a b) (k : TF base ts b c) : TF base ts a c :=
  ⟨k.os.trans h.os, k.tape.trans h.tape, k.output.trans h.output, Nat.le_trans h.size k.size, fun i o hi ho => k.blk i o (h.blk i o hi ho) ho⟩
theorem TF.same {base : Nat} {ts : List TypeId} {w w1 w2 : World} (h : TF base ts w w1) (hs : Same w1 w2) : TF base ts w w2 :=
  ⟨hs.2.1.trans h.os, hs.2.2.1.trans h.tape, hs.2.2.2.trans h.output, by rw [hs.1]; exact h.size, fun k o hk ho => by rw [hs.1]; exact h.blk k o hk ho⟩
theorem TF.mono {base : Nat} {ts us : List TypeId} {w w' : World} (h : TF base ts w w') (hs : ∀ o, tagged o us = false → tagged o ts = false) : TF base us w w' :=
  ⟨h.os, h.tape, h.output, h.size, fun k o hk ho => h.blk k o hk (ho.imp id (hs o))⟩
theorem TF.low {base base' : Nat} {ts : List TypeId} {w w' : World} (h : TF base ts w w') (hb : base' ≤ base) : TF base' ts w w' :=
  ⟨h.os, h.tape, h.output, h.size, fun k o hk ho => h.blk k o hk (ho.imp (fun x => by omega) id)⟩
theorem TF.below {base : Nat} {ts : List TypeId} {w w' : World} (h : TF base ts w w') (hb : base ≤ w.heap.size) : Below base w w' :=
  ⟨h.os, h.tape, h.output, h.size, fun k hk => by
    have hlt : k < w.heap.size := by omega
    have := h.blk k w.heap[k] (by rw [Array.getElem?_eq_getElem hlt]) (.inl hk)
    rw [this, Array.getElem?_eq_getElem hlt]⟩
theorem TF.alloc {base : Nat} {ts : List TypeId} {a w : World} (h : TF base ts a w) (o : Obj) : TF base ts a (w.alloc o) :=
  h.trans ⟨rfl, rfl, rfl, by simp, fun k x hk _ => by rw [Below.heap_alloc _ _ _ (lt_blk hk)]; exact hk⟩
theorem TF.set {base : Nat} {ts : List TypeId} {a w : World} (h : TF base ts a w) {b o t : Nat} {cs : Array Value} (v : Value) (hb : base ≤ b) (hblk : w.heap[b]? = some (.cells cs t (0,0))) (ht : ts.contains t = true) :
    TF base ts a (w.setCell ⟨b,o,none⟩ v) :=
  h.trans ⟨rfl, rfl, rfl, by simp [World.setCell], fun k x hk hx => by
    rw [heap_set hblk]
    by_cases hkb : k = b
    · subst hkb; rw [hk] at hblk; simp only [Option.some.injEq] at hblk; subst hblk
      rcases hx with hx | hx
      · omega
      · simp [tagged] at hx; simp at ht; contradiction
    · rw [if_neg hkb]; exact hk⟩
theorem TF.grown {base : Nat} {ts : List TypeId} {a w w' : World} {row : Option Nat} (h : TF base ts a w) (hg : w.grownBy w' row)
    (hr : ∀ k, row = some k → base ≤ k ∧ ∃ cs t, w.heap[k]? = some (.cells cs t (0,0)) ∧ ts.contains t = true) : TF base ts a w' :=
  h.trans ⟨hg.os, hg.tape, hg.output, hg.size, fun k x hk hx => by
    rw [hg.block k (lt_blk hk) (fun e => by
      obtain ⟨h1, cs, t, h2, h3⟩ := hr k e.symm
      rw [hk] at h2; simp only [Option.some.injEq] at h2; subst h2
      rcases hx with hx | hx
      · omega
      · simp [tagged] at hx; simp at h3; contradiction)]
    exact hk⟩

theorem tagged_sub {o : Obj} {ts us : List TypeId} (h : tagged o ts = false) (hs : ∀ t, t ∈ us → t ∈ ts) : tagged o us = false := by
  cases o <;> simp_all [tagged]
  intro hm; exact h (hs _ hm)
theorem heap_alloc_ne {w : World} {o : Obj} {k : Nat} (h : k ≠ w.heap.size) : (w.alloc o).heap[k]? = w.heap[k]? := by
  show (w.heap.push o)[k]? = _
  rw [Array.getElem?_push, if_neg h]
theorem heap_new_at {w : World} {k : Nat} (h : w.heap.size = k) (o : Obj) : (w.alloc o).heap[k]? = some o := by subst h; exact heap_alloc_new w o

/-- Blocks of another type are not the row's. -/
theorem own_ne {w : World} {AT PT base b : Nat} {pv : Value} {n : Nat} {xs : List Value} {cs : Array Value} (hAP : AT ≠ PT) (hblk : w.heap[b]? = some (.cells cs AT (0,0))) (hown : w.ownsRow base PT 1 pv n xs) : pv.ownBlock ≠ some b := by
  rcases hown.2 with ⟨h, _⟩ | ⟨g, cap, cur, h, _, h2, _⟩
  · rw [h]; simp [Value.ownBlock]
  · rw [h]; simp only [Value.ownBlock]; intro e; simp only [Option.some.injEq] at e; subst e; rw [hblk] at h2; simp at h2; exact hAP h2.2

/-- What Put leaves where the row of pages grew. -/
def PutMore (PT PG base b : Nat) (w : World) (pv : Value) (n : Nat) (xs : List Value) (last count : Int) (page : Array Value) (w' : World) : Prop :=
  ∃ w1 v' g' cap', w1.ownsRow base PT 1 v' (n+1) (xs ++ [.pointer none]) ∧ v' = .slice (some ⟨g',0,none⟩) (n+1) cap' ∧
    ((w.setCell ⟨b,1,none⟩ (.int .i64 (last+1))).alloc (.cells #[.pointer none] PT)).grownBy w1 pv.ownBlock ∧
    Same ((((w1.setCell ⟨b,0,none⟩ v').setCell ⟨g',n,none⟩ (.pointer (some ⟨w1.heap.size,0,none⟩))).setCell ⟨b,2,none⟩ (.int .i64 (count+1))).alloc (.cells page PG)) w'

/-- What the append leaves, said of blocks. -/
theorem more_facts {AT PT base b : Nat} {w w1 : World} {pv v' : Value} {xs : List Value} {last count : Int} (hAP : AT ≠ PT)
    (hblk : w.heap[b]? = some (.cells #[pv, .int .i64 last, .int .i64 count] AT (0,0))) (hown : w.ownsRow base PT 1 pv xs.length xs)
    (hown' : w1.ownsRow base PT 1 v' (xs.length + 1) (xs ++ [.pointer none]))
    (hg : ((w.setCell ⟨b,1,none⟩ (.int .i64 (last+1))).alloc (.cells #[.pointer none] PT)).grownBy w1 pv.ownBlock) :
    ∃ g' cap', v' = .slice (some ⟨g',0,none⟩) (xs.length + 1) cap' ∧ w1.heap[b]? = some (.cells #[pv, .int .i64 (last+1), .int .i64 count] AT (0,0)) ∧ ¬ b = g' ∧
      w1.cell? ⟨g', xs.length, none⟩ = some (.pointer none) ∧ (∀ o, w1.frozen? ⟨g', o, none⟩ = false) ∧ g' < w1.heap.size ∧ w.heap.size + 1 ≤ w1.heap.size := by
  have hbp : pv.ownBlock ≠ some b := own_ne hAP hblk hown
  have hb1 : w1.heap[b]? = some (.cells #[pv, .int .i64 (last+1), .int .i64 count] AT (0,0)) := by
    rw [hg.block b (by simp [World.setCell]; have := lt_blk hblk; omega) (fun e => hbp e.symm), Below.heap_alloc _ _ _ (by rw [size_set]; exact lt_blk hblk), heap_set hblk]
    simp
  rcases hown'.2 with ⟨_, h⟩ | ⟨g, cap, cur, h, hb, h2, h3, h4, h5, h6⟩
  · omega
  · refine ⟨g, cap, h, hb1, ?_, ?_, fun o => frz_blk h2, lt_blk h2, ?_⟩
    · intro e; subst e; rw [hb1] at h2; simp at h2; exact hAP h2.2
    · rw [cell_blk h2]
      have : (cur.toList.take ((xs.length + 1) * 1))[xs.length]? = some (.pointer none) := by rw [h6]; simp
      rw [List.getElem?_take] at this
      simpa using this
    · have := hg.size; simp [World.setCell] at this; omega

/-- A page pointer's value. -/
def ptrOf : Option Nat → Value
  | none => .pointer none
  | some B => .pointer (some ⟨B, 0, none⟩)

/-- Block B is a page: 64 places of sz cells each, and the word of bits. -/
def PageIn (PG sz : Nat) (w : World) (B : Nat) (f : Nat → Option (List Value)) : Prop :=
  ∃ (cs : Array Value) (there : Int), w.heap[B]? = some (.cells cs PG (0,0)) ∧ cs.size = 64*sz+1 ∧ cs[64*sz]? = some (.int .u64 there) ∧ 0 ≤ there ∧ there < 18446744073709551616 ∧
    ∀ i, i < 64 → there.toNat.testBit i = (f i).isSome ∧ ∀ xs, f i = some xs → xs.length = sz ∧ ∀ t, t < sz → cs[i*sz+t]? = xs[t]?

/-- The arena in block b: what was given last, how many, what each number (less one) holds. -/
structure ArIn (AT PT PG sz : Nat) (w : World) (base b last : Nat) (count : Int) (val : Nat → Option (List Value)) (pv : Value) (ps : List (Option Nat)) : Prop where
  hb : base ≤ b
  blk : w.heap[b]? = some (.cells #[pv, .int .i64 last, .int .i64 count] AT (0,0))
  row : w.ownsRow base PT 1 pv ps.length (ps.map ptrOf)
  len : ps.length = (last + 63) / 64
  page : ∀ j B : Nat, ps[j]? = some (some B) → base ≤ B ∧ PageIn PG sz w B (fun i => val (64*j+i))
  nopage : ∀ j : Nat, ps[j]? = some none → ∀ i, i < 64 → val (64*j+i) = none
  uniq : ∀ i j B : Nat, ps[i]? = some (some B) → ps[j]? = some (some B) → i = j
  out : ∀ m, last ≤ m → val m = none

def Ar (AT PT PG sz : Nat) (w : World) (base b last : Nat) (count : Int) (val : Nat → Option (List Value)) : Prop :=
  ∃ pv ps, ArIn AT PT PG sz w base b last count val pv ps

theorem ownsRow_heap {w w' : World} (hh : w'.heap = w.heap) {base : Nat} {e : TypeId} {size : Nat} {v : Value} {n : Nat} {xs : List Value} (h : w.ownsRow base e size v n xs) : w'.ownsRow base e size v n xs := by
  unfold World.ownsRow at h ⊢; rw [hh]; exact h
theorem PageIn.heap {w w' : World} {PG sz B : Nat} {f} (hh : w'.heap[B]? = w.heap[B]?) (h : PageIn PG sz w B f) : PageIn PG sz w' B f := by
  unfold PageIn at h ⊢; rw [hh]; exact h

variable {AT PT PG sz : Nat} {w : World} {base b last : Nat} {count : Int} {val : Nat → Option (List Value)} {pv : Value} {ps : List (Option Nat)}

/-- The row's block: where it lies, what it holds. -/
theorem row_blk {n : Nat} {xs : List Value} (h : w.ownsRow base PT 1 pv n xs) (hn : n ≠ 0) : ∃ g cap cur, pv = .slice (some ⟨g,0,none⟩) n cap ∧ base ≤ g ∧ w.heap[g]? = some (.cells cur PT (0,0)) ∧ ∀ j, j < n → cur[j]? = xs[j]? := by
  rcases h.2 with ⟨_, h⟩ | ⟨g, cap, cur, h, hb, h2, h3, h4, h5, h6⟩
  · exact absurd h hn
  · refine ⟨g, cap, cur, h, hb, h2, fun j hj => ?_⟩
    have : (cur.toList.take (n * 1))[j]? = xs[j]? := by rw [h6]
    rw [List.getElem?_take, if_pos (by omega)] at this
    simpa using this

/-- A frame of other types leaves the arena alone. -/
theorem ArIn.frame (h : ArIn AT PT PG sz w base b last count val pv ps) {base' : Nat} {ts : List TypeId} {w' : World} (hf : TF base' ts w w')
    (h1 : ts.contains AT = false) (h2 : ts.contains PT = false) (h3 : ts.contains PG = false) : ArIn AT PT PG sz w' base b last count val pv ps := by
  refine ⟨h.hb, hf.blk _ _ h.blk (.inr (by simpa [tagged] using h1)), ?_, h.len, ?_, h.nopage, h.uniq, h.out⟩
  · refine ⟨h.row.1, ?_⟩
    rcases h.row.2 with hn | ⟨g, cap, cur, e1, e2, e3, e4⟩
    · exact .inl hn
    · exact .inr ⟨g, cap, cur, e1, e2, hf.blk _ _ e3 (.inr (by simpa [tagged] using h2)), e4⟩
  · intro j B hj
    obtain ⟨e1, e2⟩ := h.page j B hj
    refine ⟨e1, e2.heap ?_⟩
    obtain ⟨cs, there, e3, _⟩ := e2
    rw [e3]; exact hf.blk _ _ e3 (.inr (by simpa [tagged] using h3))
theorem Ar.frame (h : Ar AT PT PG sz w base b last count val) {base' : Nat} {ts : List TypeId} {w' : World} (hf : TF base' ts w w')
    (h1 : ts.contains AT = false) (h2 : ts.contains PT = false) (h3 : ts.contains PG = false) : Ar AT PT PG sz w' base b last count val := by
  obtain ⟨pv, ps, h⟩ := h
  exact ⟨pv, ps, h.frame hf h1 h2 h3⟩
theorem ArIn.same (h : ArIn AT PT PG sz w base b last count val pv ps) {w' : World} (hs : w'.heap = w.heap) : ArIn AT PT PG sz w' base b last count val pv ps :=
  ⟨h.hb, by rw [hs]; exact h.blk, ownsRow_heap hs h.row, h.len, fun j B hj => ⟨(h.page j B hj).1, (h.page j B hj).2.heap (by rw [hs])⟩, h.nopage, h.uniq, h.out⟩

/-- A number's place: its page, and the place there. -/
theorem ArIn.at_ (h : ArIn AT PT PG sz w base b last count val pv ps) {m : Nat} (hm : m < last) :
    ∃ p g cap, ps[m/64]? = some p ∧ pv = .slice (some ⟨g,0,none⟩) ps.length cap ∧ w.cell? ⟨b,0,none⟩ = some pv ∧ w.cell? ⟨b,1,none⟩ = some (.int .i64 last) ∧ w.cell? ⟨g,m/64,none⟩ = some (ptrOf p) ∧ m/64 < ps.length := by
  have hl := h.len
  have hlt : m / 64 < ps.length := by omega
  obtain ⟨g, cap, cur, e1, e2, e3, e4⟩ := row_blk h.row (by omega)
  refine ⟨ps[m/64], g, cap, by simp [hlt], e1, by rw [cell_blk h.blk]; rfl, by rw [cell_blk h.blk]; rfl, ?_, hlt⟩
  rw [cell_blk e3, e4 _ hlt]
  simp [hlt]

theorem split64 (m : Nat) : 64 * (m / 64) + m % 64 = m := Nat.div_add_mod m 64

/-- Where there is no page, or the bit is out: nothing. -/
theorem ArIn.none_of (h : ArIn AT PT PG sz w base b last count val pv ps) {m : Nat} (hp : ps[m/64]? = some none) : val m = none := by
  have := h.nopage _ hp (m % 64) (Nat.mod_lt _ (by decide))
  rwa [split64] at this

theorem ArIn.page_at (h : ArIn AT PT PG sz w base b last count val pv ps) {m B : Nat} (hp : ps[m/64]? = some (some B)) :
    ∃ (cs : Array Value) (there : Int), base ≤ B ∧ w.heap[B]? = some (.cells cs PG (0,0)) ∧ cs.size = 64*sz+1 ∧ cs[64*sz]? = some (.int .u64 there) ∧ 0 ≤ there ∧ there < 18446744073709551616 ∧
      there.toNat.testBit (m % 64) = (val m).isSome ∧ ∀ xs, val m = some xs → xs.length = sz ∧ ∀ t, t < sz → cs[m % 64 *sz+t]? = xs[t]? := by
  obtain ⟨hB, cs, there, e1, e2, e3, e4, e5, e6⟩ := h.page _ _ hp
  have := e6 (m % 64) (Nat.mod_lt _ (by decide))
  simp only [split64] at this
  exact ⟨cs, there, hB, e1, e2, e3, e4, e5, this.1, this.2⟩

/-- The test 'there >> i & 1 == 0'. -/
theorem bit_test (there : Int) (i : Nat) (h0 : 0 ≤ there) (h1 : there < 18446744073709551616) : (bits .and .u64 (there / 2 ^ i) 1 == 0) = !there.toNat.testBit i := by
  obtain ⟨t, rfl⟩ := Int.eq_ofNat_of_zero_le h0
  have e : ((t : Int) / 2 ^ i) = ((t / 2 ^ i : Nat) : Int) := by simp
  have hlt : t / 2 ^ i < 18446744073709551616 := Nat.lt_of_le_of_lt (Nat.div_le_self _ _) (by omega)
  have hb : bits .and .u64 ((t : Int) / 2 ^ i) 1 = ((t / 2 ^ i % 2 : Nat) : Int) := by
    rw [e]
    generalize t / 2 ^ i = q at *
    rw [u64_and _ _ (by omega) (by omega) (by decide) (by decide), Int.toNat_natCast]
    have : (1 : Int).toNat = 1 := rfl
    rw [this, nat_mask1]
  rw [hb]
  simp only [Int.toNat_natCast, Nat.testBit_eq_decide_div_mod_eq]
  have : t / 2 ^ i % 2 = 0 ∨ t / 2 ^ i % 2 = 1 := by omega
  rcases this with h | h <;> simp [h]

theorem wrap_pow (i : Nat) (hi : i < 64) : IntKind.u64.wrap (2 ^ i) = ((2 ^ i : Nat) : Int) := by
  have : (2 : Nat) ^ i < 2 ^ 64 := Nat.pow_lt_pow_right (by decide) hi
  rw [IntKind.wrap_u64]
  have e : ((2 : Int) ^ i) = ((2 ^ i : Nat) : Int) := by simp
  rw [e]
  generalize 2 ^ i = q at *
  omega

/-- The word behind 'there |= 1 << i'. -/
theorem bit_or (there : Int) (i : Nat) (hi : i < 64) (h0 : 0 ≤ there) (h1 : there < 18446744073709551616) :
    0 ≤ bits .or .u64 there (IntKind.u64.wrap (2 ^ i)) ∧ bits .or .u64 there (IntKind.u64.wrap (2 ^ i)) < 18446744073709551616 ∧
    ∀ k, (bits .or .u64 there (IntKind.u64.wrap (2 ^ i))).toNat.testBit k = (there.toNat.testBit k || decide (i = k)) := by
  have hp : (2 : Nat) ^ i < 2 ^ 64 := Nat.pow_lt_pow_right (by decide) hi
  have hn : there.toNat < 2 ^ 64 := by omega
  have hlt := Nat.or_lt_two_pow hn hp
  have ht : ∀ k, (2 ^ i).testBit k = decide (i = k) := fun k => Nat.testBit_two_pow
  rw [wrap_pow i hi]
  generalize 2 ^ i = q at *
  rw [u64_or _ _ h0 h1 (by omega) (by omega), Int.toNat_natCast]
  refine ⟨by omega, by omega, fun k => ?_⟩
  rw [Int.toNat_natCast, Nat.testBit_or, ht]

/-- The word behind 'there &^= 1 << i'. -/
theorem bit_clear (there : Int) (i : Nat) (hi : i < 64) (h0 : 0 ≤ there) (h1 : there < 18446744073709551616) :
    0 ≤ bits .andNot .u64 there (IntKind.u64.wrap (2 ^ i)) ∧ bits .andNot .u64 there (IntKind.u64.wrap (2 ^ i)) < 18446744073709551616 ∧
    ∀ k, k < 64 → (bits .andNot .u64 there (IntKind.u64.wrap (2 ^ i))).toNat.testBit k = (there.toNat.testBit k && !decide (i = k)) := by
  have hp : (2 : Nat) ^ i < 2 ^ 64 := Nat.pow_lt_pow_right (by decide) hi
  have hn : there.toNat < 2 ^ 64 := by omega
  have hle : there.toNat &&& (18446744073709551615 - 2 ^ i) ≤ there.toNat := Nat.and_le_left
  have ht : ∀ k, (2 ^ i).testBit k = decide (i = k) := fun k => Nat.testBit_two_pow
  rw [wrap_pow i hi]
  generalize 2 ^ i = q at *
  rw [u64_andNot _ _ h0 h1 (by omega) (by omega), Int.toNat_natCast]
  refine ⟨by omega, by omega, fun k hk => ?_⟩
  rw [Int.toNat_natCast, Nat.testBit_and]
  have : 18446744073709551615 - q = 2 ^ 64 - (q + 1) := by omega
  rw [this, Nat.testBit_two_pow_sub_succ hp, ht]
  simp [hk]

theorem bits_zero (there : Int) (h0 : 0 ≤ there) (h : (there == 0) = true) (k : Nat) : there.toNat.testBit k = false := by
  have : there = 0 := by simpa using h
  subst this; simp

def upd (val : Nat → Option (List Value)) (m : Nat) (x : Option (List Value)) : Nat → Option (List Value) := fun k => if k = m then x else val k

/-- A page behind 'l[i] = v; there |= 1 << i'. -/
theorem page_put {w' : World} {B i0 : Nat} {cs cs' : Array Value} {there : Int} {f : Nat → Option (List Value)} {xs : List Value}
    (h4 : 0 ≤ there) (h5 : there < 18446744073709551616)
    (h6 : ∀ i, i < 64 → there.toNat.testBit i = (f i).isSome ∧ ∀ xs, f i = some xs → xs.length = sz ∧ ∀ t, t < sz → cs[i*sz+t]? = xs[t]?)
    (hw' : w'.heap[B]? = some (.cells cs' PG (0,0))) (hs : cs'.size = 64*sz+1) (ht : cs'[64*sz]? = some (.int .u64 (bits .or .u64 there (IntKind.u64.wrap (2 ^ i0))))) (hi0 : i0 < 64)
    (hxs : xs.length = sz) (hnew : ∀ t, t < sz → cs'[i0*sz+t]? = xs[t]?) (hkeep : ∀ i, i < 64 → i ≠ i0 → ∀ t, t < sz → cs'[i*sz+t]? = cs[i*sz+t]?) :
    PageIn PG sz w' B (fun i => if i = i0 then some xs else f i) := by
  obtain ⟨b1, b2, b3⟩ := bit_or there i0 hi0 h4 h5
  refine ⟨cs', _, hw', hs, ht, b1, b2, fun i hi => ?_⟩
  rw [b3]
  by_cases hii : i = i0
  · subst hii
    simp only [decide_true, Bool.or_true, if_true, Option.isSome_some, true_and]
    intro ys hys
    simp only [Option.some.injEq] at hys
    subst hys
    exact ⟨hxs, hnew⟩
  · simp only [if_neg hii]
    rw [(h6 i hi).1]
    have : decide (i0 = i) = false := by simpa using fun e => hii e.symm
    rw [this, Bool.or_false]
    refine ⟨rfl, fun ys hys => ?_⟩
    obtain ⟨g1, g2⟩ := (h6 i hi).2 ys hys
    exact ⟨g1, fun t ht => (hkeep i hi hii t ht).trans (g2 t ht)⟩

/-- A page behind 'l[i] = none; there &^= 1 << i'. -/
theorem page_drop {w' : World} {B i0 : Nat} {cs cs' : Array Value} {there : Int} {f : Nat → Option (List Value)}
    (h4 : 0 ≤ there) (h5 : there < 18446744073709551616)
    (h6 : ∀ i, i < 64 → there.toNat.testBit i = (f i).isSome ∧ ∀ xs, f i = some xs → xs.length = sz ∧ ∀ t, t < sz → cs[i*sz+t]? = xs[t]?)
    (hw' : w'.heap[B]? = some (.cells cs' PG (0,0))) (hs : cs'.size = 64*sz+1) (ht : cs'[64*sz]? = some (.int .u64 (bits .andNot .u64 there (IntKind.u64.wrap (2 ^ i0))))) (hi0 : i0 < 64)
    (hkeep : ∀ i, i < 64 → i ≠ i0 → ∀ t, t < sz → cs'[i*sz+t]? = cs[i*sz+t]?) :
    PageIn PG sz w' B (fun i => if i = i0 then none else f i) := by
  obtain ⟨b1, b2, b3⟩ := bit_clear there i0 hi0 h4 h5
  refine ⟨cs', _, hw', hs, ht, b1, b2, fun i hi => ?_⟩
  rw [b3 i hi]
  by_cases hii : i = i0
  · subst hii
    simp
  · simp only [if_neg hii]
    rw [(h6 i hi).1]
    have : decide (i0 = i) = false := by simpa using fun e => hii e.symm
    rw [this, Bool.not_false, Bool.and_true]
    refine ⟨rfl, fun ys hys => ?_⟩
    obtain ⟨g1, g2⟩ := (h6 i hi).2 ys hys
    exact ⟨g1, fun t ht => (hkeep i hi hii t ht).trans (g2 t ht)⟩

/-- A page behind 'l[i] = v'. -/
theorem page_set {w' : World} {B i0 : Nat} {cs cs' : Array Value} {there : Int} {f : Nat → Option (List Value)} {xs : List Value}
    (h4 : 0 ≤ there) (h5 : there < 18446744073709551616)
    (h6 : ∀ i, i < 64 → there.toNat.testBit i = (f i).isSome ∧ ∀ xs, f i = some xs → xs.length = sz ∧ ∀ t, t < sz → cs[i*sz+t]? = xs[t]?)
    (hw' : w'.heap[B]? = some (.cells cs' PG (0,0))) (hs : cs'.size = 64*sz+1) (ht : cs'[64*sz]? = some (.int .u64 there)) (hi0 : i0 < 64) (hsome : (f i0).isSome = true)
    (hxs : xs.length = sz) (hnew : ∀ t, t < sz → cs'[i0*sz+t]? = xs[t]?) (hkeep : ∀ i, i < 64 → i ≠ i0 → ∀ t, t < sz → cs'[i*sz+t]? = cs[i*sz+t]?) :
    PageIn PG sz w' B (fun i => if i = i0 then some xs else f i) := by
  refine ⟨cs', _, hw', hs, ht, h4, h5, fun i hi => ?_⟩
  by_cases hii : i = i0
  · subst hii
    rw [(h6 i hi).1, hsome]
    simp only [if_true, Option.isSome_some, true_and]
    intro ys hys
    simp only [Option.some.injEq] at hys
    subst hys
    exact ⟨hxs, hnew⟩
  · simp only [if_neg hii]
    rw [(h6 i hi).1]
    refine ⟨rfl, fun ys hys => ?_⟩
    obtain ⟨g1, g2⟩ := (h6 i hi).2 ys hys
    exact ⟨g1, fun t ht => (hkeep i hi hii t ht).trans (g2 t ht)⟩

theorem upd_page (m : Nat) (x : Option (List Value)) (i : Nat) (hi : i < 64) : upd val m x (64*(m/64)+i) = if i = m % 64 then x else val (64*(m/64)+i) := by
  unfold upd
  have := split64 m
  by_cases h : i = m % 64
  · subst h; rw [this, if_pos rfl, if_pos rfl]
  · rw [if_neg h, if_neg (by omega)]
theorem upd_other (m : Nat) (x : Option (List Value)) (j i : Nat) (hj : j ≠ m / 64) (hi : i < 64) : upd val m x (64*j+i) = val (64*j+i) := by
  unfold upd
  rw [if_neg (by have := split64 m; omega)]
theorem PageIn.congr {PG sz B : Nat} {f g : Nat → Option (List Value)} (h : PageIn PG sz w B f) (hfg : ∀ i, i < 64 → g i = f i) : PageIn PG sz w B g := by
  obtain ⟨cs, there, e1, e2, e3, e4, e5, e6⟩ := h
  exact ⟨cs, there, e1, e2, e3, e4, e5, fun i hi => by rw [hfg i hi]; exact e6 i hi⟩

theorem ArIn.put (h : ArIn AT PT PG sz w base b last count val pv ps) {w' : World} {pv' : Value} {ps' : List (Option Nat)} {B : Nat} {xs : List Value}
    (hb' : w'.heap[b]? = some (.cells #[pv', .int .i64 ((last:Int)+1), .int .i64 (count+1)] AT (0,0)))
    (hrow : w'.ownsRow base PT 1 pv' ps'.length (ps'.map ptrOf))
    (hps : ∀ j : Nat, ps'[j]? = if j = last/64 then some (some B) else ps[j]?)
    (hB : base ≤ B) (hpage : PageIn PG sz w' B (fun i => if i = last % 64 then some xs else val (64*(last/64)+i)))
    (hold : ∀ j B' : Nat, j ≠ last/64 → ps[j]? = some (some B') → B' ≠ B ∧ w'.heap[B']? = w.heap[B']?) :
    ArIn AT PT PG sz w' base b (last+1) (count+1) (upd val last (some xs)) pv' ps' := by
  refine ⟨h.hb, by rw [hb']; rfl, hrow, ?_, ?_, ?_, ?_, ?_⟩
  · have hl := h.len
    have h1 := hps (last/64)
    rw [if_pos rfl] at h1
    have h2 := hps (last/64+1)
    rw [if_neg (by omega), List.getElem?_eq_none (l := ps) (by omega)] at h2
    have h3 : last/64 < ps'.length := (List.getElem?_eq_some_iff.1 h1).1
    have h4 := List.getElem?_eq_none_iff.1 h2
    omega
  · intro j B' hj
    rw [hps] at hj
    by_cases hjl : j = last/64
    · rw [if_pos hjl] at hj
      simp only [Option.some.injEq] at hj
      subst hj; subst hjl
      exact ⟨hB, hpage.congr fun i hi => upd_page last (some xs) i hi⟩
    · rw [if_neg hjl] at hj
      obtain ⟨g1, g2⟩ := h.page j B' hj
      exact ⟨g1, (g2.heap (hold j B' hjl hj).2).congr fun i hi => upd_other last (some xs) j i hjl hi⟩
  · intro j hj i hi
    rw [hps] at hj
    by_cases hjl : j = last/64
    · rw [if_pos hjl] at hj; simp at hj
    · rw [if_neg hjl] at hj
      rw [upd_other last (some xs) j i hjl hi]
      exact h.nopage j hj i hi
  · intro i j B' hi hj
    rw [hps] at hi hj
    by_cases hil : i = last/64 <;> by_cases hjl : j = last/64
    · omega
    · rw [if_pos hil] at hi; rw [if_neg hjl] at hj
      simp only [Option.some.injEq] at hi
      exact absurd hi.symm (hold j B' hjl hj).1
    · rw [if_neg hil] at hi; rw [if_pos hjl] at hj
      simp only [Option.some.injEq] at hj
      exact absurd hj.symm (hold i B' hil hi).1
    · rw [if_neg hil] at hi; rw [if_neg hjl] at hj
      exact h.uniq i j B' hi hj
  · intro m hm
    unfold upd
    rw [if_neg (by omega)]
    exact h.out m (by omega)

/-- One page turned, the row as it was: Set, and Drop where the page stays. -/
theorem ArIn.turn (h : ArIn AT PT PG sz w base b last count val pv ps) {w' : World} {count' : Int} {m B : Nat} {x : Option (List Value)} (hm : m < last) (hp : ps[m/64]? = some (some B))
    (hb' : w'.heap[b]? = some (.cells #[pv, .int .i64 (last:Int), .int .i64 count'] AT (0,0)))
    (hpage : PageIn PG sz w' B (fun i => if i = m % 64 then x else val (64*(m/64)+i)))
    (hold : ∀ k, k ≠ b → k ≠ B → ∀ o, w.heap[k]? = some o → w'.heap[k]? = some o) (hAT : AT ≠ PG) (hAP : AT ≠ PT) (hPG : PT ≠ PG) :
    ArIn AT PT PG sz w' base b last count' (upd val m x) pv ps := by
  obtain ⟨csB, thereB, hBblk, _⟩ := (h.page _ _ hp).2
  refine ⟨h.hb, by rw [hb'], ⟨h.row.1, ?_⟩, h.len, ?_, ?_, h.uniq, ?_⟩
  · rcases h.row.2 with hn | ⟨g, cap, cur, e1, e2, e3, e4⟩
    · exact .inl hn
    · refine .inr ⟨g, cap, cur, e1, e2, hold g ?_ ?_ _ e3, e4⟩
      · intro e; subst e; rw [h.blk] at e3; simp at e3; exact hAP e3.2
      · intro e; subst e; rw [hBblk] at e3; simp at e3; exact hPG e3.2.symm
  · intro j B' hj
    by_cases hjl : j = m/64
    · subst hjl
      rw [hp] at hj; simp only [Option.some.injEq] at hj; subst hj
      exact ⟨(h.page _ _ hp).1, hpage.congr fun i hi => upd_page m x i hi⟩
    · obtain ⟨g1, g2⟩ := h.page j B' hj
      have hne : B' ≠ B := fun e => hjl (h.uniq j (m/64) B (by rw [← e]; exact hj) hp)
      have hnb : B' ≠ b := by
        obtain ⟨cs, th, e1, _⟩ := g2
        intro e; subst e; rw [h.blk] at e1; simp at e1; exact hAT e1.2
      refine ⟨g1, (g2.heap ?_).congr fun i hi => upd_other m x j i hjl hi⟩
      obtain ⟨cs, th, e1, _⟩ := g2
      rw [e1, hold B' hnb hne _ e1]
  · intro j hj i hi
    by_cases hjl : j = m/64
    · subst hjl; rw [hp] at hj; simp at hj
    · rw [upd_other m x j i hjl hi]
      exact h.nopage j hj i hi
  · intro k hk
    unfold upd
    rw [if_neg (by omega)]
    exact h.out k hk

/-- The page gone: Drop of the last one on it. -/
theorem ArIn.gone (h : ArIn AT PT PG sz w base b last count val pv ps) {w' : World} {count' : Int} {m B : Nat} (_hm : m < last) (hp : ps[m/64]? = some (some B))
    (hb' : w'.heap[b]? = some (.cells #[pv, .int .i64 (last:Int), .int .i64 count'] AT (0,0)))
    (hrow : w'.ownsRow base PT 1 pv ps.length ((ps.map ptrOf).set (m/64) (.pointer none)))
    (hempty : ∀ i, i < 64 → i ≠ m % 64 → val (64*(m/64)+i) = none)
    (hold : ∀ j B' : Nat, j ≠ m/64 → ps[j]? = some (some B') → w'.heap[B']? = w.heap[B']?) :
    ArIn AT PT PG sz w' base b last count' (upd val m none) pv (ps.set (m/64) none) := by
  have hlt : m/64 < ps.length := (List.getElem?_eq_some_iff.1 hp).1
  refine ⟨h.hb, by rw [hb'], ?_, by simpa using h.len, ?_, ?_, ?_, ?_⟩
  · have e : (ps.set (m/64) none).map ptrOf = (ps.map ptrOf).set (m/64) (.pointer none) := by rw [List.map_set]; rfl
    rw [e, List.length_set]; exact hrow
  · intro j B' hj
    rw [List.getElem?_set] at hj
    by_cases hjl : m/64 = j
    · rw [if_pos hjl] at hj; simp at hj
    · rw [if_neg hjl] at hj
      obtain ⟨g1, g2⟩ := h.page j B' hj
      exact ⟨g1, (g2.heap (hold j B' (fun e => hjl e.symm) hj)).congr fun i hi => upd_other m none j i (fun e => hjl e.symm) hi⟩
  · intro j hj i hi
    rw [List.getElem?_set] at hj
    by_cases hjl : m/64 = j
    · subst hjl
      rw [upd_page m none i hi]
      by_cases hii : i = m % 64
      · rw [if_pos hii]
      · rw [if_neg hii]; exact hempty i hi hii
    · rw [if_neg hjl] at hj
      rw [upd_other m none j i (fun e => hjl e.symm) hi]
      exact h.nopage j hj i hi
  · intro i j B' hi hj
    rw [List.getElem?_set] at hi hj
    by_cases hil : m/64 = i
    · rw [if_pos hil] at hi; simp at hi
    · by_cases hjl : m/64 = j
      · rw [if_pos hjl] at hj; simp at hj
      · rw [if_neg hil] at hi; rw [if_neg hjl] at hj
        exact h.uniq i j B' hi hj
  · intro k hk
    unfold upd
    split
    · rfl
    · exact h.out k hk

end Go.Proofs.Ytkaldclkpdjalaa
