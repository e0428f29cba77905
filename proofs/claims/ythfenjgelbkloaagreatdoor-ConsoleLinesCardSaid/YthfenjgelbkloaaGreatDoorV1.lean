/- The evaluator, 1: Definitions: values, operations, regions, code. No conditions. -/
import Derived.WalkKit

namespace Go.Proofs.YthfenjgelbkloaaGreatDoor.Ev
open Go
noncomputable section

/-! ### Trees by number -/
inductive Pos where
  | h | o (p : Pos) | i (p : Pos)
deriving DecidableEq
def Pos.ofA : Nat → Nat → Pos
  | 0, _ => .h
  | f + 1, n => bif Nat.beq n 0 then .h else bif Nat.beq (n % 2) 1 then .i (Pos.ofA f (n / 2)) else .o (Pos.ofA f (n / 2 - 1))
def Pos.of (n : Nat) : Pos := Pos.ofA (n + 1) n
inductive T (α : Type) where
  | e | n (v : Option α) (l r : T α)
def T.get {α : Type} (t : T α) (p : Pos) : Option α :=
  Pos.rec (motive := fun _ => T α → Option α) (fun t => T.rec none (fun v _ _ _ _ => v) t) (fun _ ih t => T.rec none (fun _ l _ _ _ => ih l) t) (fun _ ih t => T.rec none (fun _ _ r _ _ => ih r) t) p t
def T.put {α : Type} (x : Option α) (p : Pos) (t : T α) : T α :=
  Pos.rec (motive := fun _ => T α → T α) (fun t => T.rec (.n x .e .e) (fun _ l r _ _ => .n x l r) t) (fun _ ih t => T.rec (.n none (ih .e) .e) (fun v l r _ _ => .n v (ih l) r) t) (fun _ ih t => T.rec (.n none .e (ih .e)) (fun v l r _ _ => .n v l (ih r)) t) p t

/-! ### Parting -/
def ob {β : Type} (b : Bool) (f t : β) : β := Bool.rec f t b
def oo {α β : Type} (x : Option α) (d : β) (k : α → β) : β := Option.rec d k x
def on {β : Type} (n : Nat) (z : β) (s : Nat → β) : β := Nat.rec z (fun m _ => s m) n
def oi {β : Type} (n : Int) (f g : Nat → β) : β := Int.rec f g n
/-- The same number, brought into sight. -/
def fN {β : Type} (n : Nat) (k : Nat → β) : β := on n (k 0) fun m => k (Nat.succ m)
def both (a b : Bool) : Bool := ob a false b

/-! ### Values -/
inductive AV where
  | bool (b : Bool) | int (k : IntKind) (n : Int)
  | str (n v : Nat)
  | ptr (b o : Nat) | nilp
  | sl (b o n lo : Nat) (ex : Bool) (s : Nat) | nils
  | slz  -- of length 0, not nil, somewhere
  | map (b : Nat) | nilm
  | fn (f : Nat) (a c : List AV) | nilf
  | yld (l : Nat)
  | ifc (t : Nat) (v : AV) | nili | opi
  | agg (l : List AV) | tup (l : List AV)
deriving Inhabited
/-- A text's bytes as one number. -/
def natOf (l : List UInt8) : Nat := l.foldl (fun a b => a * 256 + b.toNat) 0
def AV.ofV : Nat → Value → Option AV
  | _, .bool b => some (.bool b)
  | _, .int k n => some (.int k n)
  | _, .string s => some (.str s.size (natOf s.data.toList))
  | _, .pointer none => some .nilp
  | _, .slice none 0 0 => some .nils
  | _, .map none => some .nilm
  | _, .nilFunc => some .nilf
  | _, .nilIface => some .nili
  | f + 1, .func (.func g) a c => (a.toList.mapM (AV.ofV f)).bind fun a => (c.toList.mapM (AV.ofV f)).map fun c => .fn g a c
  | f + 1, .iface t v => (AV.ofV f v).map (.ifc t)
  | f + 1, .agg cs => (cs.toList.mapM (AV.ofV f)).map .agg
  | f + 1, .tuple cs => (cs.toList.mapM (AV.ofV f)).map .tup
  | _, _ => none
def AV.cells : AV → List AV
  | .agg l => l
  | v => [v]
/-- Keys that are known by their look. -/
def cellK : AV → Bool
  | .bool _ | .int _ _ | .str _ _ => true
  | _ => false
def simpleK : AV → Bool
  | .agg l => l.all cellK
  | v => cellK v
def AV.isCell : AV → Bool
  | .agg _ | .tup _ => false
  | _ => true
def kIx (k : IntKind) : Nat := (IntKind.rec (motive := fun _ => Nat) 0 1 2 3 4 5 6 7 (k))
def kEq (j k : IntKind) : Bool := Nat.beq (kIx j) (kIx k)
def iEq (a b : Int) : Bool := oi a (fun a => oi b (fun b => Nat.beq a b) fun _ => false) fun a => oi b (fun _ => false) fun b => Nat.beq a b
def iLt (a b : Int) : Bool := oi a (fun a => oi b (fun b => Nat.blt a b) fun _ => false) fun a => oi b (fun _ => true) fun b => Nat.blt b a
/-- The n-th of a list. -/
def nth {α : Type} (l : List α) (i : Nat) : Option α := l[i]?
mutual
def AV.beq : AV → AV → Bool
  | .bool a, .bool b => a == b
  | .int j a, .int k b => kEq j k && iEq a b
  | .str n v, .str m u => Nat.beq n m && Nat.beq v u
  | .ptr a b, .ptr c d => Nat.beq a c && Nat.beq b d
  | .nilp, .nilp | .nils, .nils | .nilm, .nilm | .nilf, .nilf | .nili, .nili | .opi, .opi | .slz, .slz => true
  | .sl b o n l e s, .sl b' o' n' l' e' s' => Nat.beq b b' && Nat.beq o o' && Nat.beq n n' && Nat.beq l l' && e == e' && Nat.beq s s'
  | .map a, .map b => Nat.beq a b
  | .fn f a c, .fn g b d => Nat.beq f g && AV.beqs a b && AV.beqs c d
  | .yld a, .yld b => Nat.beq a b
  | .ifc t v, .ifc u w => Nat.beq t u && AV.beq v w
  | .agg a, .agg b => AV.beqs a b
  | .tup a, .tup b => AV.beqs a b
  | _, _ => false
def AV.beqs : List AV → List AV → Bool
  | [], [] => true
  | a :: l, b :: m => AV.beq a b && AV.beqs l m
  | _, _ => false
end

/-! ### Parting values -/
def avBool {β : Type} (x : AV) (d : β) (k : Bool → β) : β :=
  @AV.rec (fun _ => β → (Bool → β) → β) (fun _ => Unit) (fun a _ k => k a) (fun _ _ d _ => d) (fun _ _ d _ => d) (fun _ _ d _ => d) (fun d _ => d) (fun _ _ _ _ _ _ d _ => d) (fun d _ => d) (fun d _ => d) (fun _ d _ => d) (fun d _ => d) (fun _ _ _ _ _ d _ => d) (fun d _ => d) (fun _ d _ => d) (fun _ _ _ d _ => d) (fun d _ => d) (fun d _ => d) (fun _ _ d _ => d) (fun _ _ d _ => d) () (fun _ _ _ _ => ()) x d k
theorem avBool_eq {β : Type} (a) (d : β) (k : Bool → β) : avBool (.bool a) d k = k a := rfl
theorem avBool_some {β : Type} {x : AV} {d : β} {k : Bool → β} {p : β → Prop} (h : p (avBool x d k)) (hd : ¬ p d) : ∃ a, x = .bool a ∧ p (k a) := by
  cases x <;> first | exact absurd h hd | exact ⟨_, rfl, h⟩
def avInt {β : Type} (x : AV) (d : β) (k : IntKind → Int → β) : β :=
  @AV.rec (fun _ => β → (IntKind → Int → β) → β) (fun _ => Unit) (fun _ d _ => d) (fun a b _ k => k a b) (fun _ _ d _ => d) (fun _ _ d _ => d) (fun d _ => d) (fun _ _ _ _ _ _ d _ => d) (fun d _ => d) (fun d _ => d) (fun _ d _ => d) (fun d _ => d) (fun _ _ _ _ _ d _ => d) (fun d _ => d) (fun _ d _ => d) (fun _ _ _ d _ => d) (fun d _ => d) (fun d _ => d) (fun _ _ d _ => d) (fun _ _ d _ => d) () (fun _ _ _ _ => ()) x d k
theorem avInt_eq {β : Type} (a b) (d : β) (k : IntKind → Int → β) : avInt (.int a b) d k = k a b := rfl
theorem avInt_some {β : Type} {x : AV} {d : β} {k : IntKind → Int → β} {p : β → Prop} (h : p (avInt x d k)) (hd : ¬ p d) : ∃ a b, x = .int a b ∧ p (k a b) := by
  cases x <;> first | exact absurd h hd | exact ⟨_, _, rfl, h⟩
def avStr {β : Type} (x : AV) (d : β) (k : Nat → Nat → β) : β :=
  @AV.rec (fun _ => β → (Nat → Nat → β) → β) (fun _ => Unit) (fun _ d _ => d) (fun _ _ d _ => d) (fun a b _ k => k a b) (fun _ _ d _ => d) (fun d _ => d) (fun _ _ _ _ _ _ d _ => d) (fun d _ => d) (fun d _ => d) (fun _ d _ => d) (fun d _ => d) (fun _ _ _ _ _ d _ => d) (fun d _ => d) (fun _ d _ => d) (fun _ _ _ d _ => d) (fun d _ => d) (fun d _ => d) (fun _ _ d _ => d) (fun _ _ d _ => d) () (fun _ _ _ _ => ()) x d k
theorem avStr_eq {β : Type} (a b) (d : β) (k : Nat → Nat → β) : avStr (.str a b) d k = k a b := rfl
theorem avStr_some {β : Type} {x : AV} {d : β} {k : Nat → Nat → β} {p : β → Prop} (h : p (avStr x d k)) (hd : ¬ p d) : ∃ a b, x = .str a b ∧ p (k a b) := by
  cases x <;> first | exact absurd h hd | exact ⟨_, _, rfl, h⟩
def avPtr {β : Type} (x : AV) (d : β) (k : Nat → Nat → β) : β :=
  @AV.rec (fun _ => β → (Nat → Nat → β) → β) (fun _ => Unit) (fun _ d _ => d) (fun _ _ d _ => d) (fun _ _ d _ => d) (fun a b _ k => k a b) (fun d _ => d) (fun _ _ _ _ _ _ d _ => d) (fun d _ => d) (fun d _ => d) (fun _ d _ => d) (fun d _ => d) (fun _ _ _ _ _ d _ => d) (fun d _ => d) (fun _ d _ => d) (fun _ _ _ d _ => d) (fun d _ => d) (fun d _ => d) (fun _ _ d _ => d) (fun _ _ d _ => d) () (fun _ _ _ _ => ()) x d k
theorem avPtr_eq {β : Type} (a b) (d : β) (k : Nat → Nat → β) : avPtr (.ptr a b) d k = k a b := rfl
theorem avPtr_some {β : Type} {x : AV} {d : β} {k : Nat → Nat → β} {p : β → Prop} (h : p (avPtr x d k)) (hd : ¬ p d) : ∃ a b, x = .ptr a b ∧ p (k a b) := by
  cases x <;> first | exact absurd h hd | exact ⟨_, _, rfl, h⟩
def avSl {β : Type} (x : AV) (d : β) (k : Nat → Nat → Nat → Nat → Bool → Nat → β) : β :=
  @AV.rec (fun _ => β → (Nat → Nat → Nat → Nat → Bool → Nat → β) → β) (fun _ => Unit) (fun _ d _ => d) (fun _ _ d _ => d) (fun _ _ d _ => d) (fun _ _ d _ => d) (fun d _ => d) (fun a b c e f g _ k => k a b c e f g) (fun d _ => d) (fun d _ => d) (fun _ d _ => d) (fun d _ => d) (fun _ _ _ _ _ d _ => d) (fun d _ => d) (fun _ d _ => d) (fun _ _ _ d _ => d) (fun d _ => d) (fun d _ => d) (fun _ _ d _ => d) (fun _ _ d _ => d) () (fun _ _ _ _ => ()) x d k
theorem avSl_eq {β : Type} (a b c e f g) (d : β) (k : Nat → Nat → Nat → Nat → Bool → Nat → β) : avSl (.sl a b c e f g) d k = k a b c e f g := rfl
theorem avSl_some {β : Type} {x : AV} {d : β} {k : Nat → Nat → Nat → Nat → Bool → Nat → β} {p : β → Prop} (h : p (avSl x d k)) (hd : ¬ p d) : ∃ a b c e f g, x = .sl a b c e f g ∧ p (k a b c e f g) := by
  cases x <;> first | exact absurd h hd | exact ⟨_, _, _, _, _, _, rfl, h⟩
def avMap {β : Type} (x : AV) (d : β) (k : Nat → β) : β :=
  @AV.rec (fun _ => β → (Nat → β) → β) (fun _ => Unit) (fun _ d _ => d) (fun _ _ d _ => d) (fun _ _ d _ => d) (fun _ _ d _ => d) (fun d _ => d) (fun _ _ _ _ _ _ d _ => d) (fun d _ => d) (fun d _ => d) (fun a _ k => k a) (fun d _ => d) (fun _ _ _ _ _ d _ => d) (fun d _ => d) (fun _ d _ => d) (fun _ _ _ d _ => d) (fun d _ => d) (fun d _ => d) (fun _ _ d _ => d) (fun _ _ d _ => d) () (fun _ _ _ _ => ()) x d k
theorem avMap_eq {β : Type} (a) (d : β) (k : Nat → β) : avMap (.map a) d k = k a := rfl
theorem avMap_some {β : Type} {x : AV} {d : β} {k : Nat → β} {p : β → Prop} (h : p (avMap x d k)) (hd : ¬ p d) : ∃ a, x = .map a ∧ p (k a) := by
  cases x <;> first | exact absurd h hd | exact ⟨_, rfl, h⟩
def avFn {β : Type} (x : AV) (d : β) (k : Nat → List AV → List AV → β) : β :=
  @AV.rec (fun _ => β → (Nat → List AV → List AV → β) → β) (fun _ => Unit) (fun _ d _ => d) (fun _ _ d _ => d) (fun _ _ d _ => d) (fun _ _ d _ => d) (fun d _ => d) (fun _ _ _ _ _ _ d _ => d) (fun d _ => d) (fun d _ => d) (fun _ d _ => d) (fun d _ => d) (fun a b c _ _ _ k => k a b c) (fun d _ => d) (fun _ d _ => d) (fun _ _ _ d _ => d) (fun d _ => d) (fun d _ => d) (fun _ _ d _ => d) (fun _ _ d _ => d) () (fun _ _ _ _ => ()) x d k
theorem avFn_eq {β : Type} (a b c) (d : β) (k : Nat → List AV → List AV → β) : avFn (.fn a b c) d k = k a b c := rfl
theorem avFn_some {β : Type} {x : AV} {d : β} {k : Nat → List AV → List AV → β} {p : β → Prop} (h : p (avFn x d k)) (hd : ¬ p d) : ∃ a b c, x = .fn a b c ∧ p (k a b c) := by
  cases x <;> first | exact absurd h hd | exact ⟨_, _, _, rfl, h⟩
def avIfc {β : Type} (x : AV) (d : β) (k : Nat → AV → β) : β :=
  @AV.rec (fun _ => β → (Nat → AV → β) → β) (fun _ => Unit) (fun _ d _ => d) (fun _ _ d _ => d) (fun _ _ d _ => d) (fun _ _ d _ => d) (fun d _ => d) (fun _ _ _ _ _ _ d _ => d) (fun d _ => d) (fun d _ => d) (fun _ d _ => d) (fun d _ => d) (fun _ _ _ _ _ d _ => d) (fun d _ => d) (fun _ d _ => d) (fun a b _ _ k => k a b) (fun d _ => d) (fun d _ => d) (fun _ _ d _ => d) (fun _ _ d _ => d) () (fun _ _ _ _ => ()) x d k
theorem avIfc_eq {β : Type} (a b) (d : β) (k : Nat → AV → β) : avIfc (.ifc a b) d k = k a b := rfl
theorem avIfc_some {β : Type} {x : AV} {d : β} {k : Nat → AV → β} {p : β → Prop} (h : p (avIfc x d k)) (hd : ¬ p d) : ∃ a b, x = .ifc a b ∧ p (k a b) := by
  cases x <;> first | exact absurd h hd | exact ⟨_, _, rfl, h⟩
def avAgg {β : Type} (x : AV) (d : β) (k : List AV → β) : β :=
  @AV.rec (fun _ => β → (List AV → β) → β) (fun _ => Unit) (fun _ d _ => d) (fun _ _ d _ => d) (fun _ _ d _ => d) (fun _ _ d _ => d) (fun d _ => d) (fun _ _ _ _ _ _ d _ => d) (fun d _ => d) (fun d _ => d) (fun _ d _ => d) (fun d _ => d) (fun _ _ _ _ _ d _ => d) (fun d _ => d) (fun _ d _ => d) (fun _ _ _ d _ => d) (fun d _ => d) (fun d _ => d) (fun a _ _ k => k a) (fun _ _ d _ => d) () (fun _ _ _ _ => ()) x d k
theorem avAgg_eq {β : Type} (a) (d : β) (k : List AV → β) : avAgg (.agg a) d k = k a := rfl
theorem avAgg_some {β : Type} {x : AV} {d : β} {k : List AV → β} {p : β → Prop} (h : p (avAgg x d k)) (hd : ¬ p d) : ∃ a, x = .agg a ∧ p (k a) := by
  cases x <;> first | exact absurd h hd | exact ⟨_, rfl, h⟩
def avTup {β : Type} (x : AV) (d : β) (k : List AV → β) : β :=
  @AV.rec (fun _ => β → (List AV → β) → β) (fun _ => Unit) (fun _ d _ => d) (fun _ _ d _ => d) (fun _ _ d _ => d) (fun _ _ d _ => d) (fun d _ => d) (fun _ _ _ _ _ _ d _ => d) (fun d _ => d) (fun d _ => d) (fun _ d _ => d) (fun d _ => d) (fun _ _ _ _ _ d _ => d) (fun d _ => d) (fun _ d _ => d) (fun _ _ _ d _ => d) (fun d _ => d) (fun d _ => d) (fun _ _ d _ => d) (fun a _ _ k => k a) () (fun _ _ _ _ => ()) x d k
theorem avTup_eq {β : Type} (a) (d : β) (k : List AV → β) : avTup (.tup a) d k = k a := rfl
theorem avTup_some {β : Type} {x : AV} {d : β} {k : List AV → β} {p : β → Prop} (h : p (avTup x d k)) (hd : ¬ p d) : ∃ a, x = .tup a ∧ p (k a) := by
  cases x <;> first | exact absurd h hd | exact ⟨_, rfl, h⟩

/-! ### Blocks, heap, state -/
inductive AD where
  | fn (f : Nat) (args : List AV) | coll (b : Nat)
inductive Blk where
  | cells (c : T AV) (d : Option AV) (n e lo hi : Nat) (w : Bool) (sib : List Nat)
  | map (es : List (AV × AV)) (clk : Nat)
  | loop (st : LoopState) (pend : Option Code) (r : T AV) (sz : Nat) (ps : List Nat) (asg body : Code) (df : Nat)
  | dfr (ds : Option (List AD))
  | siter (n v pos : Nat)
  | miter (m : Option Nat) (since : Nat) (vis : List AV)  -- the keys that were told, the last first
def bkCells {β : Type} (x : Blk) (d : β) (k : T AV → Option AV → Nat → Nat → Nat → Nat → Bool → List Nat → β) : β :=
  @Blk.rec (fun _ => β → (T AV → Option AV → Nat → Nat → Nat → Nat → Bool → List Nat → β) → β) (fun a b c e f g h i _ k => k a b c e f g h i) (fun _ _ d _ => d) (fun _ _ _ _ _ _ _ _ d _ => d) (fun _ d _ => d) (fun _ _ _ d _ => d) (fun _ _ _ d _ => d) x d k
theorem bkCells_eq {β : Type} (a b c e f g h i) (d : β) (k : T AV → Option AV → Nat → Nat → Nat → Nat → Bool → List Nat → β) : bkCells (.cells a b c e f g h i) d k = k a b c e f g h i := rfl
theorem bkCells_some {β : Type} {x : Blk} {d : β} {k : T AV → Option AV → Nat → Nat → Nat → Nat → Bool → List Nat → β} {p : β → Prop} (h : p (bkCells x d k)) (hd : ¬ p d) : ∃ a b c e f g h i, x = .cells a b c e f g h i ∧ p (k a b c e f g h i) := by
  cases x <;> first | exact absurd h hd | exact ⟨_, _, _, _, _, _, _, _, rfl, h⟩
def bkMap {β : Type} (x : Blk) (d : β) (k : List (AV × AV) → Nat → β) : β :=
  @Blk.rec (fun _ => β → (List (AV × AV) → Nat → β) → β) (fun _ _ _ _ _ _ _ _ d _ => d) (fun a b _ k => k a b) (fun _ _ _ _ _ _ _ _ d _ => d) (fun _ d _ => d) (fun _ _ _ d _ => d) (fun _ _ _ d _ => d) x d k
theorem bkMap_eq {β : Type} (a b) (d : β) (k : List (AV × AV) → Nat → β) : bkMap (.map a b) d k = k a b := rfl
theorem bkMap_some {β : Type} {x : Blk} {d : β} {k : List (AV × AV) → Nat → β} {p : β → Prop} (h : p (bkMap x d k)) (hd : ¬ p d) : ∃ a b, x = .map a b ∧ p (k a b) := by
  cases x <;> first | exact absurd h hd | exact ⟨_, _, rfl, h⟩

structure Hp where
  t : T Blk
  nx : Nat
def Hp.get (h : Hp) (b : Nat) : Option Blk := h.t.get (Pos.of b)
def Hp.set (h : Hp) (b : Nat) (x : Blk) : Hp := ⟨h.t.put (some x) (Pos.of b), h.nx⟩
def Hp.del (h : Hp) (b : Nat) : Hp := ⟨h.t.put none (Pos.of b), h.nx⟩
def Hp.new (h : Hp) (x : Blk) : Hp := ⟨h.t.put (some x) (Pos.of h.nx), h.nx + 1⟩
structure PE where
  v : AV
  rcd : Bool
inductive RC where
  | no | ret | pan (ch : List PE)
inductive X where
  | nrm | ext (id : Nat) | gto (l : Nat) | ret | pan (ch : List PE)
/-- What a frame holds besides its registers: the number of these; deferred calls; what it may recover; its round. -/
structure Q where
  sz : Nat
  df : List AD
  rc : RC
  rd : Option Nat
/-- What an operation comes to. -/
inductive OR where
  | bad (why : String)
  | val (v : AV) (h : Hp)
  | pan (v : AV) (h : Hp)
  | dfr (d : AD)
  | rcv
  | call (f : Nat) (args : List AV) (h : Hp)
  | rnd (l : Nat) (args : List AV) (h : Hp)
  | alts (l : List (AV × Hp))  -- one of them
/-- What a call comes to. -/
inductive CR where
  | bad (why : String)
  | ret (v : AV) (h : Hp)
  | pan (ch : List PE) (h : Hp)
def undA : AV := .tup []
def tick (r : CR) : CR := r

/-! ### Types -/
def tAgg (P : Program) (t : TypeId) : Option (Bool × Nat) :=
  match P.info? t, P.underlying t with
  | some i, some (.struct _) => some (true, i.size)
  | some i, some (.array _ _) => some (true, i.size)
  | some i, some _ => some (false, i.size)
  | _, _ => none
def zeroA (P : Program) (t : TypeId) : Option AV :=
  match P.info? t with
  | some i => i.zero.bind (AV.ofV 4)
  | none => none
/-- A zero value's cells, where none of them is several. -/
def zeroC (P : Program) (t : TypeId) : Option (List AV) :=
  match zeroA P t, tAgg P t with
  | some z, some (_, s) => bif z.cells.all AV.isCell && Nat.beq z.cells.length s then some z.cells else none
  | _, _ => none
def elemSl (P : Program) (t : TypeId) : Option TypeId :=
  match P.underlying t with
  | some (.slice e) => some e
  | _ => none

/-! ### Cells -/
def Blk.rd (k : Blk) (j : Nat) : Option AV := bkCells k none fun c d n _ _ _ _ _ => ob (Nat.blt j n) none (oo (c.get (Pos.of j)) d some)
def rdsS (k : Blk) (ih : Nat → Option (List AV)) (j : Nat) : Option (List AV) := oo (k.rd j) none fun v => oo (ih (Nat.succ j)) none fun l => some (v :: l)
def Blk.rdsN (k : Blk) (n : Nat) : Nat → Option (List AV) := Nat.rec (fun _ => some []) (fun _ ih => rdsS k ih) n
def Blk.rds (k : Blk) (j n : Nat) : Option (List AV) := Blk.rdsN k n j
/-- Cells, as far as they are known. -/
def Blk.rdo (b : Blk) : Nat → Nat → List (Option AV)
  | _, 0 => []
  | j, n + 1 => b.rd j :: b.rdo (j + 1) n
def kill (j : Nat) : List Nat → Hp → Hp
  | [], h => h
  | s :: l, h => kill j l (match h.get s with
    | some (.cells _ _ n _ _ _ _ _) => bif Nat.blt j n then h.del s else h
    | _ => h)
/-- Cells laid from place j on: none: not known any more. -/
def lays : Nat → List (Option AV) → T AV → T AV
  | _, [], c => c
  | j, v :: l, c => lays (j + 1) l (c.put v (Pos.of j))
def allCells : List (Option AV) → Bool
  | [] => true
  | some v :: l => v.isCell && allCells l
  | none :: l => allCells l
/-- A row of cells is written into block b. -/
def stores (h : Hp) (b j : Nat) (l : List (Option AV)) : Option Hp :=
  match l with
  | [] => some h
  | _ =>
  match h.get b with
  | some (.cells c none n e lo hi true sib) =>
    bif Nat.ble (j + l.length) n && (Nat.ble hi j || Nat.ble (j + l.length) lo || Nat.beq lo hi) && allCells l
    then some ((kill j sib h).set b (.cells (lays j l c) none n e lo hi true sib)) else none
  | some (.cells c (some d) n e lo hi true sib) =>
    bif Nat.ble (j + l.length) n && (Nat.ble hi j || Nat.ble (j + l.length) lo || Nat.beq lo hi) && allCells l && l.all Option.isSome
    then some ((kill j sib h).set b (.cells (lays j l c) (some d) n e lo hi true sib)) else none
  | _ => none
def row (e : Nat) (l : List (Option AV)) : Blk := .cells (lays 0 l .e) none l.length e 0 0 true []
def rowV (e : Nat) (l : List AV) : Blk := row e (l.map some)
def loadG (k : Blk) (o : Nat) (g : Bool × Nat) : Option AV := ob g.1 (k.rd o) (oo (k.rds o g.2) none fun l => some (.agg l))
def load (P : Program) (t : TypeId) (v : AV) (h : Hp) : Option AV := avPtr v none fun b o => oo (h.get b) none fun k => oo (tAgg P t) none (loadG k o)
def store (P : Program) (t : TypeId) (a v : AV) (h : Hp) : Option Hp :=
  avPtr a none fun b o => oo (tAgg P t) none fun g => ob (Nat.beq v.cells.length g.2) none (stores h b o (v.cells.map some))

/-! ### Arithmetic -/
def mkI (k : IntKind) (n : Int) (h : Hp) : OR := oi n (fun n => fN n fun n => .val (.int k (.ofNat n)) h) fun n => .val (.int k (.negSucc n)) h
def big63 : Nat := 9223372036854775808
def lim (k : IntKind) : Nat := (IntKind.rec (motive := fun _ => Nat) 128 32768 2147483648 big63 256 65536 4294967296 18446744073709551616 (k))
/-- A result, wrapped. -/
def wrapI (k : IntKind) (n : Int) (h : Hp) : OR :=
  oi n (fun m => ob (Nat.blt m (lim k)) (mkI k (k.wrap (.ofNat m)) h) (fN m fun m => .val (.int k (.ofNat m)) h)) fun m => mkI k (k.wrap (.negSucc m)) h
def addI (a b : Int) : Int := oi a (fun x => oi b (fun y => .ofNat (Nat.add x y)) fun _ => a + b) fun _ => a + b
def subI (a b : Int) : Int := oi a (fun x => oi b (fun y => ob (Nat.ble y x) (a - b) (.ofNat (Nat.sub x y))) fun _ => a - b) fun _ => a - b
abbrev IF := IntKind → Int → Int → Hp → OR
def iAdd : IF := fun k a b h => wrapI k (addI a b) h
def iSub : IF := fun k a b h => wrapI k (subI a b) h
def iMul : IF := fun k a b h => wrapI k (a * b) h
def iQuo : IF := fun k a b h => ob (iEq b 0) (wrapI k (Int.tdiv a b) h) (.bad "divide by zero")
def iRem : IF := fun k a b h => ob (iEq b 0) (mkI k (Int.tmod a b) h) (.bad "divide by zero")
def iAnd : IF := fun k a b h => mkI k (k.wrap (BitVec.ofInt k.bits a &&& BitVec.ofInt k.bits b).toNat) h
def iOr : IF := fun k a b h => mkI k (k.wrap (BitVec.ofInt k.bits a ||| BitVec.ofInt k.bits b).toNat) h
def iXor : IF := fun k a b h => mkI k (k.wrap (BitVec.ofInt k.bits a ^^^ BitVec.ofInt k.bits b).toNat) h
def iAndNot : IF := fun k a b h => mkI k (k.wrap (BitVec.ofInt k.bits a &&& ~~~BitVec.ofInt k.bits b).toNat) h
def iEql : IF := fun _ a b h => .val (.bool (iEq a b)) h
def iNeq : IF := fun _ a b h => .val (.bool (!iEq a b)) h
def iLss : IF := fun _ a b h => .val (.bool (iLt a b)) h
def iLeq : IF := fun _ a b h => .val (.bool (!iLt b a)) h
def iGtr : IF := fun _ a b h => .val (.bool (iLt b a)) h
def iGeq : IF := fun _ a b h => .val (.bool (!iLt a b)) h
def iBad : IF := fun _ _ _ _ => .bad "int operation"
def intOp (op : BinOp) : IF := (BinOp.rec (motive := fun _ => IF) iAdd iSub iMul iQuo iRem iAnd iOr iXor iBad iBad iAndNot iEql iNeq iLss iLeq iGtr iGeq (op))
def shiftOp (op : BinOp) (k : IntKind) (a b : Int) (h : Hp) : OR :=
  match b with
  | .negSucc _ => .bad "negative shift"
  | .ofNat m =>
    match op with
    | .shl => mkI k (k.wrap (a * 2 ^ (Nat.min m k.bits))) h
    | .shr => mkI k (Int.fdiv a (2 ^ (Nat.min m k.bits))) h
    | _ => .bad "shift"
def strLt (n v m u : Nat) : Bool :=
  bif Nat.ble n m then
    (let u' := u / 256 ^ (m - n)
     Nat.blt v u' || (Nat.beq v u' && Nat.blt n m))
  else
    (let v' := v / 256 ^ (n - m)
     Nat.blt v' u)
def strOp (op : BinOp) (n v m u : Nat) (h : Hp) : OR :=
  match op with
  | .add => bif Nat.blt (n + m) big63 then .val (.str (n + m) (v * 256 ^ m + u)) h else .bad "long text"
  | .eql => .val (.bool (Nat.beq n m && Nat.beq v u)) h
  | .neq => .val (.bool (!(Nat.beq n m && Nat.beq v u))) h
  | .lss => .val (.bool (strLt n v m u)) h
  | .leq => .val (.bool (!strLt m u n v)) h
  | .gtr => .val (.bool (strLt m u n v)) h
  | .geq => .val (.bool (!strLt n v m u)) h
  | _ => .bad "text operation"

/-! ### Equality -/
/-- A part of a struct's cells. -/
def partA (P : Program) (t : TypeId) (l : List AV) (off : Nat) : Option AV :=
  match tAgg P t with
  | some (true, s) => some (.agg ((l.drop off).take s))
  | some (false, _) => l[off]?
  | none => none
def andO (a : Option Bool) (b : Unit → Option Bool) : Option Bool :=
  match a with
  | some true => b ()
  | r => r
/-- The fields' places, one behind the other. -/
def eqF (eq : TypeId → AV → AV → Option Bool) (P : Program) (xs ys : List AV) : List Field → Option Bool
  | [] => some true
  | f :: fs =>
    bif f.name == "_" then eqF eq P xs ys fs else
    match partA P f.type xs f.offset, partA P f.type ys f.offset with
    | some x, some y => andO (eq f.type x y) fun _ => eqF eq P xs ys fs
    | _, _ => none
def eqA (P : Program) (h : Hp) : Nat → TypeId → AV → AV → Option Bool
  | 0, _, _, _ => none
  | d + 1, t, x, y =>
    match P.underlying t, x, y with
    | some .bool, .bool a, .bool b => some (a == b)
    | some (.int _), .int j a, .int k b => bif kEq j k then some (iEq a b) else none
    | some .string, .str n v, .str m u => some (Nat.beq n m && Nat.beq v u)
    | some (.pointer _), .nilp, .nilp => some true
    | some (.pointer _), .nilp, .ptr _ _ => some false
    | some (.pointer _), .ptr _ _, .nilp => some false
    | some (.pointer e), .ptr a i, .ptr b j =>
      match tAgg P e with
      | some (_, Nat.succ _) =>
        bif Nat.beq a b then some (Nat.beq i j) else
        match h.get a, h.get b with
        | some (.cells _ _ n _ lo hi true _), some (.cells _ _ m _ lo' hi' true _) => bif Nat.beq hi lo && Nat.beq hi' lo' && Nat.blt 0 n && Nat.blt 0 m then some false else none
        | _, _ => none
      | _ => none
    | some (.interface _), .nili, .nili => some true
    | some (.interface _), .nili, .ifc _ _ => some false
    | some (.interface _), .ifc _ _, .nili => some false
    | some (.interface _), .nili, .opi => some false
    | some (.interface _), .opi, .nili => some false
    | some (.interface _), .ifc t v, .ifc u w =>
      bif Nat.beq t u then
        match P.info? t with
        | some i => bif i.comparable then eqA P h d t v w else none
        | none => none
      else some false
    | some (.struct fs), .agg xs, .agg ys => bif P.stoodInHeld t then none else eqF (eqA P h d) P xs ys fs.toList
    | some (.slice _), .nils, .nils => some true
    | some (.slice _), .nils, .sl .. => some false
    | some (.slice _), .sl .., .nils => some false
    | some (.slice _), .nils, .slz => some false
    | some (.slice _), .slz, .nils => some false
    | some (.map _ _), .nilm, .nilm => some true
    | some (.map _ _), .nilm, .map _ => some false
    | some (.map _ _), .map _, .nilm => some false
    | some (.func _ _ _), .nilf, .nilf => some true
    | some (.func _ _ _), .nilf, .fn .. => some false
    | some (.func _ _ _), .fn .., .nilf => some false
    | _, _, _ => none
/-- What stands ahead of == and != on interface values and structs. -/
def guardA (P : Program) (op : BinOp) (t : TypeId) (x y : Operand) (a b : AV) : Bool :=
  match op with
  | .eql | .neq =>
    match a, b with
    | .nili, .nili => (match x with | .const _ => true | _ => false) || (match y with | .const _ => true | _ => false)
    | .agg _, .agg _ => !P.eqGuardType P.depth t
    | _, _ => true
  | _ => true
def eqOr (r : Option Bool) (n : Bool) (h : Hp) : OR := oo r (.bad "==") fun r => .val (.bool (ob n r (!r))) h
def binS (op : BinOp) (P : Program) (t : TypeId) (a b : AV) (h : Hp) : OR :=
  avStr a (match op with
    | .eql => eqOr (eqA P h 20 t a b) false h
    | .neq => eqOr (eqA P h 20 t a b) true h
    | _ => .bad "operator") fun n v => avStr b (.bad "text operator") fun m u => strOp op n v m u h
def isShift (op : BinOp) : Bool := (BinOp.rec (motive := fun _ => Bool) false false false false false false false false true true false false false false false false false (op))
def binA (P : Program) (op : BinOp) (t : TypeId) (a b : AV) (h : Hp) : OR :=
  avInt a (binS op P t a b h) fun k x => avInt b (.bad "operator") fun k' y => ob (isShift op) (ob (kEq k k') (.bad "kinds") (intOp op k x y h)) (shiftOp op k x y h)
def uNeg (a : AV) (h : Hp) : OR := avInt a (.bad "unary operator") fun k n => wrapI k (subI 0 n) h
def uNot (a : AV) (h : Hp) : OR := avBool a (.bad "unary operator") fun b => .val (.bool (ob b true false)) h
def uBad (_ : AV) (_ : Hp) : OR := .bad "unary operator"
def unA (op : UnOp) (a : AV) (h : Hp) : OR := (UnOp.rec (motive := fun _ => AV → Hp → OR) uNeg uBad uNot uBad (op)) a h

/-! ### Texts -/
def strAt (n v i : Nat) : Nat := v / 256 ^ (n - 1 - i) % 256
def strCut (n v l h : Nat) : AV := .str (h - l) (v / 256 ^ (n - h) % 256 ^ (h - l))
def strBytes (n v : Nat) : Nat → List Nat
  | 0 => []
  | k + 1 => strAt n v (n - (k + 1)) :: strBytes n v k
def byteA (b : Nat) : AV := .int .u8 (.ofNat b)
/-- A row of byte cells as a number. -/
def ofBytes : List AV → Nat → Option Nat
  | [], a => some a
  | .int .u8 (.ofNat b) :: l, a => bif Nat.blt b 256 then ofBytes l (a * 256 + b) else none
  | _, _ => none
/-- The first place of a byte; n: none. -/
def idxB (n v c : Nat) : Nat → Option Nat
  | 0 => none
  | k + 1 => bif Nat.beq (strAt n v (n - (k + 1))) c then some (n - (k + 1)) else idxB n v c k
def cntB (n v c : Nat) : Nat → Nat
  | 0 => 0
  | k + 1 => (bif Nat.beq (strAt n v (n - (k + 1))) c then 1 else 0) + cntB n v c k
def idxS (n v m u : Nat) : Nat → Nat → Option Nat
  | 0, _ => none
  | k + 1, i => bif Nat.beq (v / 256 ^ (n - (i + m)) % 256 ^ m) u then some i else idxS n v m u k (i + 1)

/-! ### Slices -/
def intN (v : AV) : Option Nat := avInt v none fun _ n => oi n some fun _ => none
def optN : Option AV → Nat → Option Nat
  | none, d => some d
  | some (.int _ (.ofNat n)), _ => some n
  | _, _ => none
/-- A cut of a slice whose capacity is at least lo. -/
def cutSl (b o n lo : Nat) (ex : Bool) (s : Nat) (l h m : Option AV) : Option AV :=
  match optN l 0, optN h n with
  | some l, some h =>
    match m with
    | none =>
      bif Nat.ble l h && Nat.ble h lo then
        bif Nat.beq l 0 then some (.sl b o h lo ex s)
        else bif Nat.blt l lo then some (.sl b (o + l * s) (h - l) (lo - l) ex s)
        else bif ex then some (.sl b o (h - l) (lo - l) ex s) else some .slz
      else none
    | some m =>
      match intN m with
      | some m =>
        bif Nat.ble l h && Nat.ble h m && Nat.ble m lo then
          bif Nat.beq l m then some (.sl b o (h - l) (m - l) true s) else some (.sl b (bif Nat.beq l 0 then o else o + l * s) (h - l) (m - l) true s)
        else none
      | none => none
  | _, _ => none
/-- A third bound stands behind a second one. -/
def okHM (h m : Option AV) : Bool :=
  match m, h with
  | some _, none => false
  | _, _ => true
/-- So many cells are there. -/
def fits (h : Hp) (b n : Nat) : Bool :=
  match h.get b with
  | some (.cells _ _ k _ _ _ _ _) => Nat.ble n k
  | _ => false
def sliceA (P : Program) (t : TypeId) (x : AV) (l h m : Option AV) (H : Hp) : Option AV :=
  ob (okHM h m) none <|
  match P.underlying t, x, m with
  | some .string, .str n v, none =>
    match optN l 0, optN h n with
    | some l, some h => bif Nat.ble l h && Nat.ble h n then some (strCut n v l h) else none
    | _, _ => none
  | some (.slice e), .sl b o n lo ex s, m => match tAgg P e with
    | some (_, s') => bif Nat.beq s s' then cutSl b o n lo ex s l h m else none
    | none => none
  | some (.slice e), .nils, m => match optN l 0, optN h 0, optN m 0, tAgg P e with
    | some 0, some 0, some 0, some _ => some .nils
    | _, _, _, _ => none
  | some (.slice e), .slz, none => match optN l 0, optN h 0, tAgg P e with
    | some 0, some 0, some _ => some .slz
    | _, _, _ => none
  | some (.array n e), .ptr b o, m => match tAgg P e with
    | some (_, s) => bif fits H b (o + n * s) && Nat.blt n big63 then cutSl b o n n true s l h m else none
    | none => none
  | some (.pointer a), .ptr b o, m => match P.underlying a with
    | some (.array n e) => match tAgg P e with
      | some (_, s) => bif fits H b (o + n * s) && Nat.blt n big63 then cutSl b o n n true s l h m else none
      | none => none
    | _ => none
  | _, _, _ => none
def addO (o n : Nat) : Nat := ob (Nat.beq n 0) (Nat.add o n) o
/-- What is walked over: a slice (true) or an array of so many, and the elements' size. -/
def seqT (P : Program) (t : TypeId) : Option (Bool × Nat × Nat) :=
  match P.underlying t with
  | some (.slice e) => match tAgg P e with
    | some (_, s) => some (true, 0, s)
    | none => none
  | some (.array n e) => match tAgg P e with
    | some (_, s) => some (false, n, s)
    | none => none
  | _ => none
def ptrAt (b o i n s : Nat) : Option AV := ob (Nat.blt i n) none (fN (addO o (Nat.mul i s)) fun o => some (.ptr b o))
def idxAddr (P : Program) (t : TypeId) (x ix : AV) : Option AV :=
  oo (seqT P t) none fun g => oo (intN ix) none fun i =>
    ob g.1 (avPtr x none fun b o => ptrAt b o i g.2.1 g.2.2) (avSl x none fun b o n _ _ s => ob (Nat.beq s g.2.2) none (ptrAt b o i n s))
def isStr (P : Program) (t : TypeId) : Bool :=
  match P.underlying t with
  | some .string => true
  | _ => false
def arrT (P : Program) (t : TypeId) : Option (Nat × TypeId × Nat) :=
  match P.underlying t with
  | some (.array n e) => match tAgg P e with
    | some (_, s) => some (n, e, s)
    | none => none
  | _ => none
def indexA (P : Program) (t : TypeId) (x ix : AV) : Option AV :=
  oo (intN ix) none fun i => ob (isStr P t)
    (oo (arrT P t) none fun g => avAgg x none fun l => ob (Nat.blt i g.1) none (partA P g.2.1 l (i * g.2.2)))
    (avStr x none fun n v => ob (Nat.blt i n) none (fN (strAt n v i) fun b => some (byteA b)))
def fieldOf (P : Program) (t : TypeId) (f : Nat) : Option Field :=
  match P.underlying t with
  | some (.struct fs) => fs[f]?
  | _ => none
/-- A field's place, where the field has a size. -/
def fOff (P : Program) (t : TypeId) (f : Nat) : Option Nat :=
  match fieldOf P t f with
  | some f => match tAgg P f.type with
    | some (_, Nat.succ _) => some f.offset
    | _ => none
  | none => none
def fieldAddrA (P : Program) (t : TypeId) (x : AV) (f : Nat) : Option AV := oo (fOff P t f) none fun n => avPtr x none fun b o => fN (addO o n) fun o => some (.ptr b o)

/-! ### Making -/
def setL : Nat → List AV → List AV → List AV
  | _, [], l => l
  | i, v :: vs, l => setL (i + 1) vs (l.set i v)
def fillA (pl : Nat → Option (Nat × Nat)) (l : List AV) : List (Nat × AV) → Option (List AV)
  | [] => some l
  | (i, v) :: ps =>
    match pl i with
    | some (off, s) => bif Nat.beq v.cells.length s && Nat.ble (off + s) l.length then fillA pl (setL off v.cells l) ps else none
    | none => none
def placesA (P : Program) (fs : Array Field) (i : Nat) : Option (Nat × Nat) :=
  match fs[i]? with
  | some f => match tAgg P f.type with
    | some (_, s) => some (f.offset, s)
    | none => none
  | none => none
/-- Each field's type is known. -/
def fieldsOk (P : Program) (t : TypeId) : Bool :=
  match P.underlying t with
  | some (.struct fs) => fs.toList.all fun f => (tAgg P f.type).isSome
  | _ => true
def buildA (P : Program) (t : TypeId) (ps : List (Nat × AV)) : Option AV :=
  ob (fieldsOk P t) none <|
  match P.underlying t, zeroA P t with
  | some (.struct fs), some z => (fillA (placesA P fs) z.cells ps).map .agg
  | some (.array _ e), some z => match tAgg P e with
    | some (_, s) => (fillA (fun i => some (i * s, s)) z.cells ps).map .agg
    | none => none
  | _, _ => none
def repl (l : List AV) : Nat → List AV
  | 0 => []
  | n + 1 => l ++ repl l n
/-- n elements, all zero: a row. -/
def zeros (e : TypeId) (n : Nat) (z : List AV) : Blk :=
  match z with
  | [v] => .cells .e (some v) n e 0 0 true []
  | z => rowV e (repl z n)

/-! ### Maps -/
/-- The value of a key; every key that is there can be compared with it, one alone is it. -/
def findK (eq : AV → AV → Option Bool) (k : AV) : List (AV × AV) → Option (Option AV)
  | [] => some none
  | (k', v) :: es =>
    match eq k k' with
    | some true => (match findK eq k es with
      | some none => some (some v)
      | _ => none)
    | some false => findK eq k es
    | none => none
/-- Keys that may be hashed: texts, numbers, bools, structs of these. -/
def keyOk (P : Program) : Nat → TypeId → AV → Bool
  | 0, _, _ => false
  | d + 1, t, k => match P.underlying t, k with
    | some .bool, _ => true
    | some (.int _), _ => true
    | some .string, _ => true
    | some (.struct fs), .agg l => fs.toList.all fun f => f.name == "_" || (match partA P f.type l f.offset with
      | some x => keyOk P d f.type x
      | none => false)
    | _, _ => false
/-- Another value for the key k, which is there. -/
def setK (k v : AV) : List (AV × AV) → Option (List (AV × AV))
  | [] => none
  | e :: es => bif AV.beq k e.1 then some ((k, v) :: es) else (setK k v es).map (e :: ·)
def dropK (k : AV) : List (AV × AV) → Option (List (AV × AV))
  | [] => none
  | e :: es => bif AV.beq k e.1 then some es else (dropK k es).map (e :: ·)
def mapKV (P : Program) (t : TypeId) : Option (TypeId × TypeId) :=
  match P.underlying t with
  | some (.map k v) => some (k, v)
  | _ => none
/-- The value of a key. -/
def findE (P : Program) (h : Hp) (kt : TypeId) (k : AV) (es : List (AV × AV)) : Option (Option AV) := ob (keyOk P 5 kt k) none (findK (eqA P h 20 kt) k es)
def lookupA (P : Program) (t : TypeId) (m k : AV) (ok : Bool) (h : Hp) : Option AV :=
  match mapKV P t with
  | some (kt, vt) =>
    match (match m with
      | .nilm => some []
      | .map b => match h.get b with
        | some (.map es _) => some es
        | _ => none
      | _ => none : Option (List (AV × AV))) with
    | some es =>
      match findE P h kt k es with
      | some (some v) => some (bif ok then .tup [v, .bool true] else v)
      | some none => match zeroA P vt with
        | some z => some (bif ok then .tup [z, .bool false] else z)
        | none => none
      | none => none
    | none => none
  | none => none
def mapUpd (P : Program) (t : TypeId) (m k v : AV) (h : Hp) : Option Hp :=
  match mapKV P t, m with
  | some (kt, _), .map b =>
    match h.get b with
    | some (.map es c) =>
      match findE P h kt k es with
      | some (some _) => (setK k v es).map fun es => h.set b (.map es c)
      | some none => bif simpleK k then fN (Nat.succ c) fun c => some (h.set b (.map ((k, v) :: es) c)) else none
      | none => none
    | _ => none
  | _, _ => none
def mapDel (P : Program) (t : TypeId) (m k : AV) (h : Hp) : Option Hp :=
  match mapKV P t, m with
  | some (kt, _), .nilm => bif keyOk P 5 kt k then some h else none
  | some (kt, _), .map b =>
    match h.get b with
    | some (.map es c) =>
      match findE P h kt k es with
      | some (some _) => (dropK k es).map fun es => h.set b (.map es c)
      | some none => some h
      | none => none
    | _ => none
  | _, _ => none

/-! ### append, copy -/
def maxNeed : Nat := 16777216
/-- The cells that are appended: some: of how many elements. -/
def appended (P : Program) (e : TypeId) (s : Nat) (mk : Bool) (x : AV) (h : Hp) : Option (Nat × List (Option AV)) :=
  bif mk then
    match x, zeroC P e with
    | .int _ (.ofNat n), some z => bif Nat.blt n maxNeed then some (n, (repl z n).map some) else none
    | _, _ => none
  else match x with
    | .nils => some (0, [])
    | .slz => some (0, [])
    | .sl b o n _ _ s' => bif Nat.beq s s' then
        match h.get b with
        | some (.cells c d k e' lo hi w sib) => some (n, (Blk.cells c d k e' lo hi w sib).rdo o (n * s))
        | _ => none
      else none
    | .str n v => bif Nat.beq s 1 then some (n, (strBytes n v n).map fun b => some (byteA b)) else none
    | _ => none
/-- Is a number of zero elements appended? -/
def appMk (P : Program) (ts : Array TypeId) : Option Bool :=
  match ts[1]? with
  | some xt => (match P.underlying xt with
    | some (.int _) => some true
    | some _ => some false
    | none => none)
  | none => some false
def dels : List Nat → Hp → Hp
  | [], h => h
  | s :: l, h => dels l (h.del s)
def appendA (P : Program) (ts : Array TypeId) (args : List AV) (h : Hp) : OR :=
  match ts[0]?, args with
  | some st, [s, x] =>
    match elemSl P st with
    | some e =>
      match tAgg P e, P.info? e with
      | some (_, sz), some inf =>
        match (match appMk P ts with | some mk => (bif mk && !Nat.blt inf.bytes 65536 then none else appended P e sz mk x h) | none => none) with
        | none => .bad "append: what"
        | some (k, new) =>
          match s with
          | .nils =>
            match k with
            | 0 => .val .nils h
            | _ => bif Nat.blt k maxNeed && Nat.blt inf.bytes 65536 && allCells new && (zeroC P e).isSome then .val (.sl h.nx 0 k k false sz) (h.new (row e new)) else .bad "append: size"
          | .sl b o n lo ex sz' =>
            bif !Nat.beq sz sz' then .bad "append: element" else
            bif Nat.ble (n + k) lo then
              match stores h b (o + n * sz) new with
              | some h' => .val (.sl b o (n + k) lo ex sz) h'
              | none => .bad "append: store"
            else bif !(Nat.blt (n + k) maxNeed && Nat.blt inf.bytes 65536 && allCells new && (zeroC P e).isSome) then .bad "append: size" else
            match h.get b with
            | some (.cells c d m e' flo fhi w sib) =>
              let old := (Blk.cells c d m e' flo fhi w sib).rdo o (n * sz)
              bif ex then .val (.sl h.nx 0 (n + k) (n + k) false sz) (h.new (row e (old ++ new)))
              else bif !(Nat.beq o 0 && w && Nat.beq e e' && (Nat.ble fhi (n * sz) || Nat.beq flo fhi)) then .bad "append: stale" else
              .val (.sl h.nx 0 (n + k) (n + k) false sz)
                ((((dels sib h).set b (.cells c d (bif Nat.ble m (n * sz) then m else n * sz) e' flo fhi false [])).new (.cells (lays 0 (old ++ new) .e) none ((n + k) * sz) e flo fhi true [b])))
            | _ => .bad "append: no row"
          | .slz => match k with
            | 0 => .val .slz h
            | _ => .bad "append: somewhere"
          | _ => .bad "append: slice"
      | _, _ => .bad "append: type"
    | none => .bad "append: type"
  | _, _ => .bad "append: arguments"
def copyA (P : Program) (ts : Array TypeId) (args : List AV) (h : Hp) : OR :=
  match ts[0]?, args with
  | some st, [d, x] =>
    match elemSl P st with
    | some e =>
      match tAgg P e with
      | some (_, sz) =>
        match d, appended P e sz false x h with
        | .nils, some _ => .val (.int .i64 0) h
        | .slz, some _ => .val (.int .i64 0) h
        | .sl b o n _ _ sz', some (k, new) =>
          bif Nat.beq sz sz' then
            let m := Nat.min k n
            match stores h b o (new.take (m * sz)) with
            | some h' => .val (.int .i64 (.ofNat m)) h'
            | none => .bad "copy: store"
          else .bad "copy"
        | _, _ => .bad "copy"
      | none => .bad "copy"
    | none => .bad "copy"
  | _, _ => .bad "copy"
end
end Go.Proofs.YthfenjgelbkloaaGreatDoor.Ev

namespace Go.Proofs.YthfenjgelbkloaaGreatDoor.Ev
open Go
noncomputable section

/-! ### Operands -/
def oTmp (t : Tmp) (r : T AV) : Option AV := r.get (Pos.of t)
def oConst (v : Value) (_ : T AV) : Option AV := AV.ofV 6 v
/-- How many package-level variables there are. -/
def gN : Nat := 8
def oGlob (g : Nat) (_ : T AV) : Option AV := ob (Nat.blt g gN) none (some (.ptr g 0))
def oFunc (f : FuncId) (_ : T AV) : Option AV := some (.fn f [] [])
def opnd (r : T AV) (x : Operand) : Option AV := (Operand.rec (motive := fun _ => T AV → Option AV) oTmp oConst oGlob oFunc (x)) r
def opndsS (x : Operand) (ih : T AV → Option (List AV)) (r : T AV) : Option (List AV) := oo (opnd r x) none fun v => oo (ih r) none fun l => some (v :: l)
def opndsL (l : List Operand) : T AV → Option (List AV) := List.rec (fun _ => some []) (fun x _ ih => opndsS x ih) l
def opnds (r : T AV) (l : List Operand) : Option (List AV) := opndsL l r
def partsA (r : T AV) : List (Nat × Operand) → Option (List (Nat × AV))
  | [] => some []
  | (i, x) :: l =>
    match opnd r x with
    | some v => (partsA r l).map ((i, v) :: ·)
    | none => none
def optA (r : T AV) : Option Operand → Option (Option AV)
  | none => some none
  | some x => (opnd r x).map some

/-! ### Functions without a body -/
def minN (a b : Nat) : Nat := bif Nat.ble a b then a else b
def ext (P : Program) (fn : Func) (args : List AV) (h : Hp) : OR :=
  bif fn.name == "internal/bytealg.IndexByteString" then
    match args with
    | [.str n v, .int .u8 (.ofNat c)] => match idxB n v (c % 256) n with
      | some i => .val (.int .i64 (.ofNat i)) h
      | none => .val (.int .i64 (-1)) h
    | _ => .bad "IndexByteString"
  else bif fn.name == "internal/bytealg.CountString" then
    match args with
    | [.str n v, .int .u8 (.ofNat c)] => .val (.int .i64 (.ofNat (cntB n v (c % 256) n))) h
    | _ => .bad "CountString"
  else bif fn.name == "internal/bytealg.abigen_runtime_cmpstring" then
    match args with
    | [.str n v, .str m u] => .val (.int .i64 (bif strLt n v m u then -1 else bif strLt m u n v then 1 else 0)) h
    | _ => .bad "cmpstring"
  else bif fn.name == "internal/abi.NoEscape" then
    match args with
    | [x] => .val x h
    | _ => .bad "NoEscape"
  else bif fn.name == "maps.clone" then
    match args with
    | [.ifc t (.map b)] => match h.get b with
      | some (.map es c) => .val (.ifc t (.map h.nx)) (h.new (.map es c))
      | _ => .bad "maps.clone"
    | _ => .bad "maps.clone"
  else bif fn.name == "math/bits.Add64" then
    match args with
    | [.int _ (.ofNat x), .int _ (.ofNat y), .int _ (.ofNat c)] =>
      bif Nat.ble c 1 then .val (.tup [.int .u64 (.ofNat ((x + y + c) % 18446744073709551616)), .int .u64 (.ofNat ((x + y + c) / 18446744073709551616))]) h else .bad "Add64"
    | _ => .bad "Add64"
  else bif fn.name == "internal/bytealg.MakeNoZero" then
    match args, fn.resultTypes[0]? with
    | [.int .i64 (.ofNat n)], some t =>
      match elemSl P t with
      | some e => bif Nat.blt n maxNeed then .val (.sl h.nx 0 n n false 1) (h.new (.cells .e none n e 0 0 true [])) else .bad "MakeNoZero"
      | none => .bad "MakeNoZero"
    | _, _ => .bad "MakeNoZero"
  else .bad ("no body: " ++ fn.name)

/-! ### Operations -/
def orV (h : Hp) (v : Option AV) : OR := oo v (.bad "operation") fun v => .val v h
def orB (w : String) : OR := .bad w
def callG (P : Program) (f : Nat) (args : List AV) (h : Hp) (fn : Func) : OR := oo fn.body (ext P fn args h) fun _ => ob (fn.name == "runtime.NumGoroutine") (.call f args h) (.bad "NumGoroutine")
def callA (P : Program) (f : Nat) (args : List AV) (h : Hp) : OR := oo P.funcs[f]? (.bad "no function") (callG P f args h)
/-- Along the fields of a struct that lies open. -/
def follA (P : Program) : List FieldStep → TypeId → AV → Option (TypeId × AV)
  | [], t, v => some (t, v)
  | s :: l, _, .agg cs => bif s.deref then none else
    match fieldOf P s.struct s.index with
    | some f => match partA P f.type cs f.offset with
      | some v => follA P l f.type v
      | none => none
    | none => none
  | _, _, _ => none
/-- The method of a dynamic type, and its receiver. -/
def methA (P : Program) (t : TypeId) (v : AV) (name : String) : Option (Nat × AV) :=
  match P.info? t with
  | some i =>
    match i.methods.find? (·.name == name) with
    | some m => match follA P m.path.toList t v, m.func with
      | some (xt, v), some (f, pr) => match P.underlying xt with
        | some (.pointer _) => bif pr then some (f, v) else none
        | some _ => bif pr then none else some (f, v)
        | none => none
      | _, _ => none
    | none => none
  | none => none
def lenO (P : Program) (t : TypeId) (x : AV) (h : Hp) : Option Nat :=
  match P.underlying t, x with
  | some (.array n _), _ => some n
  | some (.map _ _), .nilm => some 0
  | some (.map _ _), .map b => match h.get b with
    | some (.map es _) => some es.length
    | _ => none
  | some (.pointer a), .ptr _ _ => match P.underlying a with
    | some (.array n _) => some n
    | _ => none
  | _, _ => none
def lenZ (x : AV) : Option Nat :=
  match x with
  | .nils => some 0
  | .slz => some 0
  | _ => none
inductive LT where
  | str | sl | other
def lenT (P : Program) (t : TypeId) : LT :=
  match P.underlying t with
  | some .string => .str
  | some (.slice _) => .sl
  | _ => .other
def lenA (P : Program) (t : TypeId) (x : AV) (h : Hp) : Option Nat :=
  (LT.rec (motive := fun _ => Program → TypeId → AV → Hp → Option Nat) (fun _ _ x _ => avStr x none fun n _ => some n) (fun _ _ x _ => avSl x (lenZ x) fun _ _ n _ _ _ => some n) lenO (lenT P t)) P t x h
def minA (mx : Bool) : AV → List AV → Option AV
  | v, [] => some v
  | .int k a, .int _ b :: l => minA mx (.int k (bif (bif mx then iLt a b else iLt b a) then b else a)) l
  | _, _ => none
def isU8 (P : Program) (t : TypeId) : Bool :=
  match P.underlying t with
  | some (.int .u8) => true
  | _ => false
def isLen (b : Builtin) : Bool := match b with | .len => true | _ => false
def lenB (P : Program) (ts : Array TypeId) (args : List AV) (h : Hp) : OR := oo ts[0]? (.bad "len") fun t => oo (nth args 0) (.bad "len") fun x => oo (lenA P t x h) (.bad "len") fun n => fN n fun n => .val (.int .i64 (.ofNat n)) h
def builtinB (P : Program) (b : Builtin) (ts : Array TypeId) (args : List AV) (h : Hp) : OR :=
  match b with
  | .append => appendA P ts args h
  | .copy => copyA P ts args h
  | .len => lenB P ts args h
  | .cap =>
    match ts[0]?, args with
    | some t, .sl _ _ _ lo ex _ :: _ => match P.underlying t with
      | some (.slice _) => bif ex then .val (.int .i64 (.ofNat lo)) h else .bad "cap"
      | _ => .bad "cap"
    | some t, .nils :: _ => match P.underlying t with
      | some (.slice _) => .val (.int .i64 0) h
      | _ => .bad "cap"
    | _, _ => .bad "cap"
  | .clear =>
    match ts[0]?, args with
    | some t, x :: _ =>
      match x, P.underlying t with
      | .nilm, some (.map _ _) => .val undA h
      | .nils, some (.slice _) => .val undA h
      | .slz, some (.slice _) => .val undA h
      | .map b, some (.map _ _) => match h.get b with
        | some (.map _ c) => .val undA (h.set b (.map [] c))
        | _ => .bad "clear"
      | .sl b o n _ _ s, some (.slice e) =>
        match n with
        | 0 => .val undA h
        | _ => match zeroC P e, tAgg P e with
          | some z, some (_, s') => bif Nat.beq s s' then
              match stores h b o ((repl z n).map some) with
              | some h' => .val undA h'
              | none => .bad "clear"
            else .bad "clear"
          | _, _ => .bad "clear"
      | _, _ => .bad "clear"
    | _, _ => .bad "clear"
  | .delete =>
    match ts[0]?, args with
    | some t, [m, k] => match mapDel P t m k h with
      | some h' => .val undA h'
      | none => .bad "delete"
    | _, _ => .bad "delete"
  | .max =>
    match args with
    | x :: l => match minA true x l with
      | some v => .val v h
      | none => .bad "max"
    | _ => .bad "max"
  | .min =>
    match args with
    | x :: l => match minA false x l with
      | some v => .val v h
      | none => .bad "min"
    | _ => .bad "min"
  | .recover => .rcv
  | .unsafeSliceData =>
    match args with
    | [.nils] => .val .nilp h
    | [.sl b o _ lo _ _] => bif Nat.blt 0 lo then .val (.ptr b o) h else .bad "SliceData"
    | _ => .bad "SliceData"
  | .unsafeString =>
    match ts[0]?, args with
    | some _, [.nilp, .int _ (.ofNat 0)] => .val (.str 0 0) h
    | some t, [.ptr b o, .int _ (.ofNat n)] =>
      match n with
      | 0 => .val (.str 0 0) h
      | _ =>
        match P.underlying t, h.get b with
        | some (.pointer u), some (.cells c d k e lo hi true sib) =>
          bif isU8 P u && Nat.beq (P.underlyingId u) (P.underlyingId e) && Nat.beq (P.cellsOf e) 1 && Nat.ble (o + n) k && Nat.blt n big63 && Nat.ble lo hi then
            match (Blk.cells c d k e lo hi true sib).rds o n with
            | some l => match ofBytes l 0 with
              | some v =>
                let fz := bif Nat.beq lo hi then (o, o + n) else (minN lo o, bif Nat.ble hi (o + n) then o + n else hi)
                .val (.str n v) (h.set b (.cells c d k e fz.1 fz.2 true sib))
              | none => .bad "text of bytes"
            | none => .bad "text of bytes"
          else .bad "text of bytes"
        | _, _ => .bad "text of bytes"
    | _, _ => .bad "text of bytes"
  | _ => .bad "builtin"
def builtinA (P : Program) (b : Builtin) (ts : Array TypeId) (args : List AV) (h : Hp) : OR := ob (isLen b) (builtinB P b ts args h) (lenB P ts args h)
def convA (P : Program) (src dst : TypeId) (x : AV) (h : Hp) : OR :=
  match P.underlying src, P.underlying dst, x with
  | some _, some (.int k), .int _ n => wrapI k n h
  | some _, some .string, .str n v => .val (.str n v) h
  | some _, some (.slice e), .str n v =>
    match P.underlying e with
    | some (.int .u8) => bif Nat.blt n maxNeed then .val (.sl h.nx 0 n n false 1) (h.new (.cells (lays 0 ((strBytes n v n).map fun b => some (byteA b)) .e) none n e 1 0 true [])) else .bad "convert"
    | _ => .bad "convert"
  | some (.slice e), some .string, .nils => match P.underlying e with
    | some (.int .u8) => .val (.str 0 0) h
    | _ => .bad "convert"
  | some (.slice e), some .string, .slz => match P.underlying e with
    | some (.int .u8) => .val (.str 0 0) h
    | _ => .bad "convert"
  | some (.slice e), some .string, .sl b o n _ _ s =>
    match P.underlying e, h.get b with
    | some (.int .u8), some k => bif Nat.beq s 1 then
        match k.rds o n with
        | some l => match ofBytes l 0 with
          | some v => .val (.str n v) h
          | none => .bad "convert"
        | none => .bad "convert"
      else .bad "convert"
    | _, _ => .bad "convert"
  | some (.pointer t), some .unsafePointer, .ptr b o =>
    match tAgg P t, h.get b with
    | some (_, Nat.succ _), some (.cells _ _ n _ _ _ _ _) => bif Nat.blt o n then .val (.ptr b o) h else .bad "pointer seen otherwise"
    | _, _ => .bad "pointer seen otherwise"
  | some .unsafePointer, some (.pointer u), .ptr b o =>
    match h.get b with
    | some (.cells _ _ n e _ _ _ _) =>
      bif (tAgg P u).isSome && liesAt P P.depth e (n / P.cellsOf e) o u 1 then .val (.ptr b o) h else .bad "pointer seen otherwise"
    | _ => .bad "pointer seen otherwise"
  | _, _, _ => .bad "convert"
def opMove (x : Operand) (_P : Program) (r : T AV) (h : Hp) : OR := orV h (opnd r x)
def opAssign (x : Operand) (_P : Program) (r : T AV) (h : Hp) : OR := orV h (opnd r x)
def opPick (c a b : Operand) (_P : Program) (r : T AV) (h : Hp) : OR := oo (opnd r c) (orB "pick") fun c => avBool c (orB "pick") fun c => orV h (ob c (opnd r b) (opnd r a))
def opAlloc (e : TypeId) (P : Program) (_r : T AV) (h : Hp) : OR := oo (zeroC P e) (orB "alloc") fun z => fN h.nx fun b => .val (.ptr b 0) (h.new (rowV e z))
def opBox (e : TypeId) (x : Operand) (_P : Program) (r : T AV) (h : Hp) : OR := oo (opnd r x) (orB "box") fun v => ob (v.cells.all AV.isCell) (orB "box") (fN h.nx fun b => .val (.ptr b 0) (h.new (rowV e v.cells)))
def opBuild (t : TypeId) (ps : Array (Nat × Operand)) (P : Program) (r : T AV) (h : Hp) : OR :=
  match partsA r ps.toList with
    | some l => match buildA P t l with
      | some v => .val v h
      | none => .bad "build"
    | none => .bad "build"
def opBuildSlice (t : TypeId) (n : Nat) (ps : Array (Nat × Operand)) (P : Program) (r : T AV) (h : Hp) : OR :=
  oo (elemSl P t) (orB "buildSlice") fun e => oo (partsA r ps.toList) (orB "buildSlice") fun l => oo (tAgg P e) (orB "buildSlice") fun g => oo (zeroC P e) (orB "buildSlice") fun z =>
    ob (both (Nat.blt n maxNeed) (Nat.blt (n * g.2) maxNeed)) (orB "buildSlice") <| oo (fillA (fun i => some (i * g.2, g.2)) (repl z n) l) (orB "buildSlice") fun cs => ob (cs.all AV.isCell) (orB "buildSlice") (fN h.nx fun b => .val (.sl b 0 n n true g.2) (h.new (rowV e cs)))
def opLoad (t : TypeId) (a : Operand) (P : Program) (r : T AV) (h : Hp) : OR := oo (opnd r a) (orB "load") fun a => orV h (load P t a h)
def opStore (t : TypeId) (a x : Operand) (P : Program) (r : T AV) (h : Hp) : OR := oo (opnd r a) (orB "store") fun a => oo (opnd r x) (orB "store") fun v => oo (store P t a v h) (orB "store") fun h => .val undA h
def opNilCheck (x : Operand) (_P : Program) (r : T AV) (h : Hp) : OR := oo (opnd r x) (orB "nilCheck") fun x => avPtr x (avFn x (orB "nilCheck") fun f a c => .val (.fn f a c) h) fun b o => .val (.ptr b o) h
def opBinOp (op : BinOp) (t : TypeId) (x y : Operand) (_u : TypeId) (P : Program) (r : T AV) (h : Hp) : OR :=
  oo (opnd r x) (orB "binOp") fun a => oo (opnd r y) (orB "binOp") fun b => ob (guardA P op t x y a b) (orB "== guard") (binA P op t a b h)
def opUnOp (op : UnOp) (_t : TypeId) (x : Operand) (_P : Program) (r : T AV) (h : Hp) : OR := oo (opnd r x) (orB "unOp") fun a => unA op a h
def opConvert (s d : TypeId) (x : Operand) (P : Program) (r : T AV) (h : Hp) : OR :=
  match opnd r x with
    | some v => convA P s d v h
    | none => .bad "convert"
def opMakeInterface (t : TypeId) (x : Operand) (P : Program) (r : T AV) (h : Hp) : OR :=
  match opnd r x, P.underlying t with
    | some _, some (.interface _) => .bad "makeInterface"
    | some v, some _ => .val (.ifc t v) h
    | _, _ => .bad "makeInterface"
def opMakeFunc (f : Fn) (a c : Array Operand) (_P : Program) (r : T AV) (h : Hp) : OR :=
  match f, opnds r a.toList, opnds r c.toList with
    | .func g, some a, some c => .val (.fn g a c) h
    | _, _, _ => .bad "makeFunc"
def opMakeMap (t : TypeId) (x : Option Operand) (P : Program) (r : T AV) (h : Hp) : OR :=
  match P.underlying t, optA r x with
    | some (.map _ _), some none => .val (.map h.nx) (h.new (.map [] 0))
    | some (.map _ _), some (some (.int _ _)) => .val (.map h.nx) (h.new (.map [] 0))
    | _, _ => .bad "makeMap"
def opMakeSlice (t : TypeId) (l c : Operand) (P : Program) (r : T AV) (h : Hp) : OR :=
  match elemSl P t, opnd r l, opnd r c with
    | some e, some (.int _ (.ofNat l)), some (.int _ (.ofNat c)) => match tAgg P e, zeroC P e, P.info? e with
      | some (_, s), some z, some i => bif Nat.ble l c && Nat.blt c maxNeed && Nat.blt i.bytes 65536 && Nat.blt 0 s then .val (.sl h.nx 0 l c true s) (h.new (zeros e c z)) else .bad "makeSlice"
      | _, _, _ => .bad "makeSlice"
    | _, _, _ => .bad "makeSlice"
def opSlice (t : TypeId) (x : Operand) (lo hi mx : Option Operand) (P : Program) (r : T AV) (h : Hp) : OR :=
  match opnd r x, optA r lo, optA r hi, optA r mx with
    | some x, some lo, some hi, some mx => match sliceA P t x lo hi mx h with
      | some v => .val v h
      | none => .bad "slice"
    | _, _, _, _ => .bad "slice"
def opFieldAddr (t : TypeId) (x : Operand) (f : Nat) (P : Program) (r : T AV) (h : Hp) : OR := oo (opnd r x) (orB "fieldAddr") fun x => orV h (fieldAddrA P t x f)
def opField (t : TypeId) (x : Operand) (f : Nat) (P : Program) (r : T AV) (h : Hp) : OR :=
  match opnd r x, fieldOf P t f with
    | some (.agg l), some f => match partA P f.type l f.offset with
      | some v => .val v h
      | none => .bad "field"
    | _, _ => .bad "field"
def opIndexAddr (t : TypeId) (x i : Operand) (P : Program) (r : T AV) (h : Hp) : OR := oo (opnd r x) (orB "indexAddr") fun x => oo (opnd r i) (orB "indexAddr") fun i => orV h (idxAddr P t x i)
def opIndex (t : TypeId) (x i : Operand) (P : Program) (r : T AV) (h : Hp) : OR := oo (opnd r x) (orB "index") fun x => oo (opnd r i) (orB "index") fun i => orV h (indexA P t x i)
def opLookup (t : TypeId) (m k : Operand) (ok : Bool) (P : Program) (r : T AV) (h : Hp) : OR :=
  match opnd r m, opnd r k with
    | some m, some k => match lookupA P t m k ok h with
      | some v => .val v h
      | none => .bad "lookup"
    | _, _ => .bad "lookup"
def opMapUpdate (t : TypeId) (m k x : Operand) (P : Program) (r : T AV) (h : Hp) : OR :=
  match opnd r m, opnd r k, opnd r x with
    | some m, some k, some v => match mapUpd P t m k v h with
      | some h' => .val undA h'
      | none => .bad "mapUpdate"
    | _, _, _ => .bad "mapUpdate"
def opInsert (t : TypeId) (m k x : Operand) (P : Program) (r : T AV) (h : Hp) : OR :=
  match opnd r m, opnd r k, opnd r x with
    | some m, some k, some v => match mapUpd P t m k v h with
      | some h' => .val undA h'
      | none => .bad "insert"
    | _, _, _ => .bad "insert"
def opRange (t : TypeId) (x : Operand) (P : Program) (r : T AV) (h : Hp) : OR :=
  match P.underlying t, opnd r x with
    | some (.map _ _), some .nilm => .val (.ptr h.nx 0) (h.new (.miter none 0 []))
    | some (.map _ _), some (.map b) => match h.get b with
      | some (.map _ c) => .val (.ptr h.nx 0) (h.new (.miter (some b) c []))
      | _ => .bad "range"
    | _, _ => .bad "range"
def memK (k : AV) (vis : List AV) : Bool := vis.any (AV.beq k)
/-- An iterator's next step: whichever entry. -/
def nextA (i b since : Nat) (vis : List AV) (h : Hp) : List (AV × AV) → OR
  | [] => .val (.tup [.bool false]) h
  | [e] => .val (.tup [.bool true, e.1, e.2]) (h.set i (.miter (some b) since (e.1 :: vis)))
  | l => .alts (l.map fun e => (.tup [.bool true, e.1, e.2], h.set i (.miter (some b) since (e.1 :: vis))))
def opNext (it : Operand) (s : Bool) (_P : Program) (r : T AV) (h : Hp) : OR :=
  match opnd r it with
    | some (.ptr i 0) => match h.get i with
      | some (.miter none _ _) => bif s then .bad "next" else .val (.tup [.bool false]) h
      | some (.miter (some b) since vis) => match h.get b with
        | some (.map es c) => bif Nat.beq c since && !s then nextA i b since vis h (es.filter (fun e => !memK e.1 vis)) else .bad "next"
        | _ => .bad "next"
      | _ => .bad "next"
    | _ => .bad "next"
def opEntry (it : Operand) (_P : Program) (r : T AV) (h : Hp) : OR :=
  match opnd r it with
    | some (.ptr i 0) => match h.get i with
      | some (.miter (some b) since (k :: _)) => match h.get b with
        | some (.map es c) => bif Nat.beq c since then
            match es.find? (fun e => AV.beq k e.1) with
            | some e => .val (.tup [e.1, e.2]) h
            | none => .bad "entry"
          else .bad "entry"
        | _ => .bad "entry"
      | _ => .bad "entry"
    | _ => .bad "entry"
def opTypeAssert (x : Operand) (_t a : TypeId) (ok : Bool) (P : Program) (r : T AV) (h : Hp) : OR :=
  match opnd r x, P.underlying a with
    | some (.ifc _u _v), some (.interface _) => .bad "typeAssert"
    | some .nili, some (.interface _) => .bad "typeAssert"
    | some .nili, some _ => bif ok then
        match zeroA P a with
        | some z => .val (.tup [z, .bool false]) h
        | none => .bad "typeAssert"
      else .bad "typeAssert"
    | some (.ifc u v), some _ =>
      bif Nat.beq u a then .val (bif ok then .tup [v, .bool true] else v) h
      else bif ok then
        match zeroA P a with
        | some z => .val (.tup [z, .bool false]) h
        | none => .bad "typeAssert"
      else .bad "typeAssert"
    | _, _ => .bad "typeAssert"
def opExtract (x : Operand) (i : Nat) (_P : Program) (r : T AV) (h : Hp) : OR := oo (opnd r x) (orB "extract") fun x => avTup x (orB "extract") fun l => orV h (nth l i)
def callV (P : Program) (args : List AV) (h : Hp) (f : AV) : OR := avFn f (match f with | .yld l => .rnd l args h | _ => .bad "call: value") fun g a cp => callA P g (a ++ args ++ cp) h
def callI (P : Program) (args : List AV) (h : Hp) (name : String) (x : AV) : OR := avIfc x (.bad "call: interface") fun t v => oo (methA P t v name) (.bad "call: method") fun m => callA P m.1 (m.2 :: args) h
def cValue (f : Operand) (P : Program) (_ts : Array TypeId) (r : T AV) (h : Hp) (args : List AV) : OR := oo (opnd r f) (.bad "call") (callV P args h)
def cInvoke (x : Operand) (name : String) (P : Program) (_ts : Array TypeId) (r : T AV) (h : Hp) (args : List AV) : OR := oo (opnd r x) (.bad "call") (callI P args h name)
def cBuiltin (b : Builtin) (P : Program) (ts : Array TypeId) (_r : T AV) (h : Hp) (args : List AV) : OR := builtinA P b ts args h
def opCall (c : Call) (P : Program) (r : T AV) (h : Hp) : OR :=
  oo (opnds r c.args.toList) (.bad "call: arguments") ((Callee.rec (motive := fun _ => Program → Array TypeId → T AV → Hp → List AV → OR) cValue cInvoke cBuiltin (c.callee)) P c.argTypes r h)
def opDefer (c : Call) (P : Program) (r : T AV) (_h : Hp) : OR :=
  match c.callee, opnds r c.args.toList with
    | .value f, some args => match opnd r f with
      | some (.fn g a cp) => match P.funcs[g]? with
        | some fn => bif fn.body.isSome && !(fn.name == "runtime.NumGoroutine") then .dfr (.fn g (a ++ args ++ cp)) else .bad "defer"
        | none => .bad "defer"
      | _ => .bad "defer"
    | _, _ => .bad "defer"
def opPanic (x : Operand) (_P : Program) (r : T AV) (h : Hp) : OR :=
  match opnd r x with
    | some (.ifc t v) => .pan (.ifc t v) h
    | _ => .bad "panic"
def opNone (_P : Program) (_r : T AV) (_h : Hp) : OR := .bad "operation"
/-- An operation over the registers r and the heap h. -/
def opA (P : Program) (r : T AV) (o : Oper) (h : Hp) : OR :=
  (Op.rec (motive := fun _ => Program → T AV → Hp → OR) opMove opAssign opPick opAlloc opBox opBuild opBuildSlice opInsert opLoad opStore (fun _ => opNone) (fun _ => opNone) opNilCheck opBinOp opUnOp opConvert (fun _ _ => opNone) opMakeInterface opMakeFunc opMakeMap (fun _ _ => opNone) opMakeSlice opSlice opFieldAddr opField opIndexAddr opIndex opLookup opMapUpdate (fun _ _ _ => opNone) (fun _ _ _ _ => opNone) opRange opNext opEntry opTypeAssert opExtract opCall (fun _ => opNone) opDefer opPanic (fun _ _ => opNone) (fun _ _ _ => opNone) (fun _ _ => opNone) (o.op)) P r h

/-! ### One of several ways -/
def eqT (t : T AV) : T AV → Bool := T.rec (fun u => T.rec true (fun _ _ _ _ _ => false) u) (fun v _ _ ihl ihr u => T.rec false (fun v' l' r' _ _ => ob (oo v (oo v' true fun _ => false) fun a => oo v' false fun b => AV.beq a b) false (ob (ihl l') false (ihr r'))) u) t
def eqNs : List Nat → List Nat → Bool
  | [], [] => true
  | a :: l, b :: m => Nat.beq a b && eqNs l m
  | _, _ => false
def takeE (e : AV × AV) : List (AV × AV) → Option (List (AV × AV))
  | [] => none
  | e' :: l => bif AV.beq e.1 e'.1 && AV.beq e.2 e'.2 then some l else (takeE e l).map (e' :: ·)
def permE : List (AV × AV) → List (AV × AV) → Bool
  | [], [] => true
  | e :: l, m => (match takeE e m with
    | some m' => permE l m'
    | none => false)
  | _, _ => false
def optB (a b : Option AV) : Bool :=
  match a, b with
  | none, none => true
  | some a, some b => AV.beq a b
  | _, _ => false
/-- Two blocks of which the second is what the first is. -/
def eqBlk : Blk → Blk → Bool
  | .cells c d n e lo hi w s, .cells c' d' n' e' lo' hi' w' s' => Nat.beq n n' && Nat.beq e e' && Nat.beq lo lo' && Nat.beq hi hi' && (w == w') && eqNs s s' && optB d d' && eqT c c'
  | .map es c, .map es' c' => Nat.beq c c' && permE es es'
  | .miter (some m) s v, .miter (some m') s' v' => Nat.beq m m' && Nat.beq s s' && AV.beqs v v'
  | .dfr none, .dfr none => true
  | .dfr (some []), .dfr (some []) => true
  | _, _ => false
def tJoin (t : T Blk) : T Blk → T Blk := T.rec (fun _ => .e) (fun v _ _ ihl ihr u => T.rec .e (fun v' l' r' _ _ => .n (oo v none fun a => oo v' none fun b => ob (eqBlk a b) none (some a)) (ihl l') (ihr r')) u) t
def joinH (h h' : Hp) : Hp := ⟨tJoin h.t h'.t, bif Nat.ble h.nx h'.nx then h'.nx else h.nx⟩
def eqPE : List PE → List PE → Bool
  | [], [] => true
  | a :: l, b :: m => AV.beq a.v b.v && (a.rcd == b.rcd) && eqPE l m
  | _, _ => false
def joinC : CR → CR → CR
  | .ret v h, .ret v' h' => bif AV.beq v v' then .ret v (joinH h h') else .bad "orders: values"
  | .pan c h, .pan c' h' => bif eqPE c c' then .pan c (joinH h h') else .bad "orders: panics"
  | .bad w, _ => .bad w
  | _, .bad w => .bad w
  | _, _ => .bad "orders: outcomes"
def joinL : List CR → CR
  | [] => .bad "orders: none"
  | [c] => c
  | c :: l => joinC c (joinL l)

/-! ### Regions -/
abbrev CallF := Nat → List AV → Hp → CR
abbrev RndF := Nat → List AV → Hp → CR
abbrev XK := X → T AV → Hp → Q → CR
abbrev SF := T AV → Hp → Q → XK → CR
def putD (d : Option Nat) (v : AV) (r : T AV) : T AV := oo d r fun d => r.put (some v) (Pos.of d)
/-- What an operation's outcome leads to. -/
abbrev OF := CallF → RndF → Oper → SF → T AV → Hp → Q → XK → CR
def kBad (w : String) : OF := fun _ _ _ _ _ _ _ _ => .bad w
def kVal (v : AV) (h : Hp) : OF := fun _ _ o ih r _ q k => tick (ih (putD o.dst v r) h q k)
def kPan (v : AV) (h : Hp) : OF := fun _ _ _ _ r _ q k => k (.pan [⟨v, false⟩]) r h q
def kDfr (d : AD) : OF := fun _ _ o ih r h q k => oo q.rd (tick (ih (putD o.dst undA r) h ⟨q.sz, d :: q.df, q.rc, q.rd⟩ k)) fun _ => .bad "defer in a round"
def kRcv : OF := fun _ _ _ _ _ _ _ _ => .bad "recover"
/-- What a call's outcome leads to. -/
def cBad (w : String) : Oper → SF → T AV → Q → XK → CR := fun _ _ _ _ _ => .bad w
def cRet (v : AV) (h : Hp) : Oper → SF → T AV → Q → XK → CR := fun o ih r q k => tick (ih (putD o.dst v r) h q k)
def cPan (ch : List PE) (h : Hp) : Oper → SF → T AV → Q → XK → CR := fun _ _ r q k => k (.pan ch) r h q
def onCR (c : CR) : Oper → SF → T AV → Q → XK → CR := (CR.rec (motive := fun _ => Oper → SF → T AV → Q → XK → CR) cBad cRet cPan (c))
def kCall (f : Nat) (args : List AV) (h : Hp) : OF := fun cf _ o ih r _ q k => onCR (cf f args h) o ih r q k
def kRnd (l : Nat) (args : List AV) (h : Hp) : OF := fun _ rf o ih r _ q k => onCR (rf l args h) o ih r q k
def kAlts (l : List (AV × Hp)) : OF := fun _ _ o ih r _ q k => joinL (l.map fun p => tick (ih (putD o.dst p.1 r) p.2 q k))
def onOR (c : OR) : OF := (OR.rec (motive := fun _ => OF) kBad kVal kPan kDfr kRcv kCall kRnd kAlts (c))
def opS (P : Program) (cf : CallF) (rf : RndF) (o : Oper) (ih : SF) (r : T AV) (h : Hp) (q : Q) (k : XK) : CR := onOR (opA P r o h) cf rf o ih r h q k
/-- A guarded operation; its guard's register. -/
def grdD (ops : Array Oper) (g : Nat × Bool) : Option Nat :=
  match ops[g.1]? with
  | some q => q.dst
  | none => none
/-- Is a guarded operation asked? none: not known. -/
def grdA (ops : Array Oper) (r : T AV) (g : Nat × Bool) : Option Bool :=
  oo (grdD ops g) none fun d => oo (r.get (Pos.of d)) none fun v => avBool v (match v with | .tup [] => some false | _ => none) fun b => some (ob b (!g.2) g.2)
def wantA (ops : Array Oper) (r : T AV) (o : Oper) : Option Bool := oo o.guard (some true) (grdA ops r)
def opsG (P : Program) (cf : CallF) (rf : RndF) (ops : Array Oper) (o : Oper) (ih : SF) (g : Nat × Bool) (r : T AV) (h : Hp) (q : Q) (k : XK) : CR :=
  oo (grdA ops r g) (.bad "guard") fun b => ob b (tick (ih (putD o.dst undA r) h q k)) (opS P cf rf o ih r h q k)
def opsStep (P : Program) (cf : CallF) (rf : RndF) (ops : Array Oper) (o : Oper) (ih : SF) : SF := oo o.guard (opS P cf rf o ih) (opsG P cf rf ops o ih)
def opsEnd : SF := fun r h q k => tick (k .nrm r h q)
/-- A region's operations, as they stand. -/
def opsS (P : Program) (cf : CallF) (rf : RndF) (ops : Array Oper) (l : List Oper) : SF := List.rec opsEnd (fun o _ ih => opsStep P cf rf ops o ih) l

/-! ### Regions whose order is drawn -/
/-- What an operation comes to, calls and all. -/
inductive ER where
  | bad (why : String)
  | val (v : AV) (h : Hp)
  | pan (ch : List PE) (h : Hp)
  | dfr (d : AD)
  | rcv
def cER (c : CR) : ER := (CR.rec (motive := fun _ => ER) ER.bad ER.val ER.pan (c))
def opE (cf : CallF) (rf : RndF) (c : OR) : ER := (OR.rec (motive := fun _ => ER) ER.bad ER.val (fun v h => ER.pan [⟨v, false⟩] h) ER.dfr ER.rcv (fun f args h => cER (cf f args h)) (fun l args h => cER (rf l args h)) (fun _ => ER.bad "alternatives") (c))
/-- Is bit i set? -/
def tb (m i : Nat) : Bool := on (Nat.land 1 (Nat.shiftRight m i)) false fun _ => true
def isSlS (P : Program) (t : TypeId) : Bool :=
  match P.underlying t with
  | some .string => true
  | some (.slice _) => true
  | _ => false
/-- 0: its value is that of its operands alone; 1: it reads; 2: it makes a block; 3: the rest. -/
def clsC (c : Call) : Nat := match c.callee with
  | .builtin b => (match b with
    | .len | .cap | .min | .max => 1
    | _ => 3)
  | _ => 3
def cls (P : Program) (o : Op) : Nat :=
  (Op.rec (motive := fun _ => Nat) (fun _ => 0) (fun _ => 0) (fun _ _ _ => 0) (fun _ => 2) (fun _ _ => 2) (fun _ _ => 0) (fun _ _ _ => 2) (fun _ _ _ _ => 3) (fun _ _ => 1) (fun _ _ _ => 3) (fun _ => 3) (fun _ => 3) (fun _ => 0) (fun _ _ _ _ _ => 1) (fun _ _ _ => 0) (fun _ _ _ => 3) (fun _ _ => 3) (fun _ _ => 0) (fun _ _ _ => 0) (fun _ _ => 2) (fun _ _ => 3) (fun _ _ _ => 2) (fun t _ _ _ _ => ob (isSlS P t) 1 0) (fun _ _ _ => 0) (fun _ _ _ => 0) (fun _ _ _ => 0) (fun _ _ _ => 0) (fun _ _ _ _ => 1) (fun _ _ _ _ => 3) (fun _ _ _ => 3) (fun _ _ _ _ => 3) (fun _ _ => 3) (fun _ _ => 3) (fun _ => 3) (fun _ _ _ _ => 0) (fun _ _ => 0) clsC (fun _ => 3) (fun _ => 3) (fun _ => 3) (fun _ _ => 3) (fun _ _ _ => 3) (fun _ _ => 3) (o))
/-- A block that is made in the region, by the operation i. -/
structure Al where
  i : Nat
  b : Nat
  x : Blk
/-- A heap behind an effect e; what is ahead of the effects so far. -/
structure Stg where
  e : Option Nat
  cm : Nat
  h : Hp
structure Tk where
  i : Nat
  m : Nat
  o : Oper
  r : T AV
  v : AV
/-- A store in no order with others: the block behind it. -/
structure Gp where
  i : Nat
  m : Nat
  b : Nat
  x : Blk
structure DS where
  r : T AV
  s : Stg
  st : List Stg   -- the older ones, the last first
  als : List Al
  b : Nat
  pn : Option (List PE × Hp × Nat)
  tks : List Tk
  grp : List Gp
inductive DRes where
  | bad (why : String)
  | ok (s : DS)
def tickD (r : DRes) : DRes := r
def Blk.sibs : Blk → List Nat
  | .cells _ _ _ _ _ _ _ s => s
  | _ => []
/-- The heap with the blocks that are chosen. -/
def lay (sel : Nat → Bool) : List Al → Hp → Hp
  | [], h => h
  | a :: l, h => ob (sel a.i) (lay sel l h) ((lay sel l h).set a.b a.x)
def selM (m cm i : Nat) : Bool := ob (tb m i) false (ob (tb cm i) true false)
def selF (cm i : Nat) : Bool := ob (tb cm i) true false
abbrev DF := T AV → Stg → List Stg → List Al → Nat → Option (List PE × Hp × Nat) → List Tk → List Gp → DRes
def putS (o : Oper) (v : AV) : DF := fun r s st als b pn tks grp => .ok ⟨putD o.dst v r, s, st, als, b, pn, tks, grp⟩
def orD (c : OR) (k : AV → Hp → DRes) : DRes := (OR.rec (motive := fun _ => DRes) DRes.bad k (fun _ _ => .bad "region: panic") (fun _ => .bad "region: defer") (.bad "region: recover") (fun _ _ _ => .bad "region: call") (fun _ _ _ => .bad "region: round") (fun _ => .bad "region: alternatives") (c))
def dPure (P : Program) (_i _m : Nat) (o : Oper) : DF := fun r s st als b pn tks grp => orD (opA P r o s.h) fun v _ => putS o v r s st als b pn tks grp
def dRead (P : Program) (i m : Nat) (o : Oper) : DF := fun r s st als b pn tks grp =>
  orD (opA P r o (lay (selM m s.cm) als s.h)) fun v _ => .ok ⟨putD o.dst v r, s, st, als, b, pn, ⟨i, m, o, r, v⟩ :: tks, grp⟩
def dAlloc (P : Program) (i _m : Nat) (o : Oper) : DF := fun r s st als b pn tks grp =>
  orD (opA P r o ⟨.e, b⟩) fun v h => oo (h.get b) (.bad "region: block") fun x => fN (Nat.succ b) fun b' => .ok ⟨putD o.dst v r, s, st, ⟨i, b, x⟩ :: als, b', pn, tks, grp⟩
def inChain (m : Nat) (s : Stg) (pn : Option (List PE × Hp × Nat)) : Bool := both (oo s.e true (tb m)) (oo pn true fun _ => false)
def dEff (P : Program) (cf : CallF) (rf : RndF) (i m : Nat) (o : Oper) : DF := fun r s st als b pn tks grp =>
  ob (inChain m s pn) (.bad "effects out of a chain") <|
  (ER.rec (motive := fun _ => DRes) DRes.bad (fun v h => fN (Nat.lor s.cm m) fun cm => .ok ⟨putD o.dst v r, ⟨some i, cm, h⟩, s :: st, als, b, pn, tks, grp⟩)
    (fun ch h => .ok ⟨r, s, st, als, b, some (ch, h, i), tks, grp⟩) (fun _ => .bad "region: defer") (.bad "region: recover") (opE cf rf (opA P r o (lay (selM m s.cm) als s.h))))
/-- No block that shares is cut off by a store at j. -/
def noKill (j : Nat) (h : Hp) : List Nat → Bool
  | [] => true
  | s :: l => (match h.get s with
    | some (.cells _ _ n _ _ _ _ _) => Nat.ble n j
    | _ => true) && noKill j h l
def grpFree (b : Nat) (sib : List Nat) (l : List Gp) : Bool := l.all fun g => !Nat.beq g.b b && sib.all (fun s => !Nat.beq s g.b) && g.x.sibs.all fun s => !Nat.beq s b
def dFloatB (P : Program) (i m : Nat) (t : TypeId) (c j : Nat) (v : AV) (o : Oper) : DF := fun r s st als b pn tks grp =>
  oo (s.h.get c) (.bad "float: block") fun x => ob (both (noKill j s.h x.sibs) (grpFree c x.sibs grp)) (.bad "float: shared") <|
  oo (store P t (.ptr c j) v s.h) (.bad "float: store") fun h => oo (h.get c) (.bad "float: block") fun x => .ok ⟨putD o.dst undA r, s, st, als, b, pn, tks, ⟨i, m, c, x⟩ :: grp⟩
def dFloatS (P : Program) (i m : Nat) (t : TypeId) (a x : Operand) (o : Oper) : DF := fun r s st als b pn tks grp =>
  oo (opnd r a) (.bad "float") fun a => oo (opnd r x) (.bad "float") fun v => avPtr a (.bad "float") fun c j => dFloatB P i m t c j v o r s st als b pn tks grp
def dFloat (P : Program) (i m : Nat) (o : Oper) : DF := fun r s st als b pn tks grp =>
  ob (inChain m s pn) (.bad "float: out of a chain") <|
  match o.op with
  | .store t a x => dFloatS P i m t a x o r s st als b pn tks grp
  | _ => .bad "effects in no order"
/-- The first effect whose next one does not lean on it. -/
def grpAt (P : Program) (last : Option Nat) : List (Oper × Nat) → Nat → Nat
  | [], i => i
  | p :: l, i => ob (Nat.beq (cls P p.1.op) 3) (grpAt P last l (Nat.succ i)) (oo last (grpAt P (some i) l (Nat.succ i)) fun e => ob (tb p.2 e) e (grpAt P (some i) l (Nat.succ i)))
def dLoud (P : Program) (cf : CallF) (rf : RndF) (g i m : Nat) (o : Oper) : DF := ob (Nat.ble g i) (dEff P cf rf i m o) (dFloat P i m o)
def dOp (P : Program) (cf : CallF) (rf : RndF) (g i m : Nat) (o : Oper) (c : Nat) : DF := on c (dPure P i m o) fun c => on c (dRead P i m o) fun c => on c (dAlloc P i m o) fun _ => dLoud P cf rf g i m o
def behindPan (pn : Option (List PE × Hp × Nat)) (m : Nat) : Bool := oo pn false fun p => tb m p.2.2
def stepF (P : Program) (cf : CallF) (rf : RndF) (ops : Array Oper) (g i m : Nat) (o : Oper) : DF := fun r s st als b pn tks grp =>
  ob (behindPan pn m) (oo (wantA ops r o) (.bad "guard") fun w => ob w (putS o undA r s st als b pn tks grp) (dOp P cf rf g i m o (cls P o.op) r s st als b pn tks grp)) (.ok ⟨r, s, st, als, b, pn, tks, grp⟩)
def stepD (P : Program) (cf : CallF) (rf : RndF) (ops : Array Oper) (g i m : Nat) (o : Oper) (s : DS) : DRes := (DS.rec (motive := fun _ => DRes) (stepF P cf rf ops g i m o) (s))
def onDR (r : DRes) (k : DS → DRes) : DRes := (DRes.rec (motive := fun _ => DRes) DRes.bad k (r))
def opsD (P : Program) (cf : CallF) (rf : RndF) (ops : Array Oper) (g : Nat) (l : List (Oper × Nat)) : Nat → DS → DRes :=
  List.rec (fun _ s => .ok s) (fun p _ ih i s => onDR (stepD P cf rf ops g i p.2 p.1 s) fun s => tickD (ih (Nat.succ i) s)) l
/-- A read tells the same at each heap at which it may be made. -/
def tkAt (P : Program) (als : List Al) (t : Tk) (s : Stg) : Bool :=
  match opA P t.r t.o (lay (selM t.m s.cm) als s.h) with
  | .val v _ => AV.beq v t.v
  | _ => false
def tkOk (P : Program) (ms : Nat → Nat) (als : List Al) (t : Tk) (s : Stg) : List Stg → Bool
  | [] => tkAt P als t s
  | s' :: l => match s.e with
    | some e => (tb (ms e) t.i || tkAt P als t s) && (tb t.m e || tkOk P ms als t s' l)
    | none => false
def tksOk (P : Program) (ms : Nat → Nat) (d : DS) : Bool := d.tks.all fun t => tkOk P ms d.als t d.s d.st

/-! #### What is ahead of what -/
def mskO (ms : List Nat) (o : Oper) : Nat := o.after.toList.foldr (fun e m => bif Region.binds .any e then Nat.lor m (Nat.lor (Nat.shiftLeft 1 e.on) (ms.getD e.on 0)) else m) 0
def msks : List Oper → List Nat → List Nat
  | [], ms => ms
  | o :: l, ms => fN (mskO ms o) fun m => msks l (ms ++ [m])
def zipM : List Oper → List Nat → List (Oper × Nat)
  | o :: l, m :: ms => (o, m) :: zipM l ms
  | _, _ => []
def plan (ops : Array Oper) : List (Oper × Nat) := zipM ops.toList (msks ops.toList [])
def dsts : List Oper → List Nat
  | [] => []
  | o :: l => match o.dst with
    | some d => d :: dsts l
    | none => dsts l
def forget : List Nat → T AV → T AV
  | [], r => r
  | d :: l, r => forget l (r.put none (Pos.of d))
def nodup : List Nat → Bool
  | [] => true
  | a :: l => l.all (fun b => !Nat.beq a b) && nodup l
/-- Edges go backwards. -/
def backOk : List Oper → Nat → Bool
  | [], _ => true
  | o :: l, i => (o.after.toList.all fun e => !Region.binds .any e || Nat.blt e.on i) && backOk l (Nat.succ i)
/-- The name t, at which i looks, is written ahead of i or behind it. -/
def nameOk (i m t : Nat) : List (Oper × Nat) → Nat → Bool
  | [], _ => true
  | p :: l, j => (match p.1.dst with
    | some d => !Nat.beq d t || Nat.beq i j || tb m j || tb p.2 i
    | none => true) && nameOk i m t l (Nat.succ j)
def namesOk (ops : Array Oper) (pl : List (Oper × Nat)) : List (Oper × Nat) → Nat → Bool
  | [], _ => true
  | p :: l, i => ((p.1.looksAt ops).all fun t => nameOk i p.2 t pl 0) && (match p.1.guard with
    | some (j, _) => tb p.2 j
    | none => true) && namesOk ops pl l (Nat.succ i)
def rOk (ops : Array Oper) : Bool := nodup (dsts ops.toList) && backOk ops.toList 0 && namesOk ops (plan ops) (plan ops) 0
/-- Each effect is ahead of or behind each read. -/
def seqB (m : Nat) (l : List (Nat × Bool)) (eff : Bool) : Bool := l.all fun p => bif eff || p.2 then tb m p.1 else true
def seqOk (P : Program) : List (Oper × Nat) → Nat → List (Nat × Bool) → Bool
  | [], _, _ => true
  | p :: l, i, loud => on (cls P p.1.op) (seqOk P l (Nat.succ i) loud) fun c => on c (seqB p.2 loud false && seqOk P l (Nat.succ i) ((i, false) :: loud)) fun c =>
      on c (seqOk P l (Nat.succ i) loud) fun _ => seqB p.2 loud true && seqOk P l (Nat.succ i) ((i, true) :: loud)
def cntAl (P : Program) : List Oper → Nat
  | [] => 0
  | o :: l => on (cls P o.op) (cntAl P l) fun c => on c (cntAl P l) fun c => on c (Nat.succ (cntAl P l)) fun _ => cntAl P l
def layG : List Gp → Hp → Hp
  | [], h => h
  | g :: l, h => (layG l h).set g.b g.x
/-- Stores in no order: all reads are ahead of them; what shares with them is no block of the region. -/
def grpOk (d : DS) : Bool := d.grp.all fun g => (d.tks.all fun t => tb g.m t.i) && d.als.all fun a => g.x.sibs.all fun s => !Nat.beq s a.b
def endD (P : Program) (ops : Array Oper) (r : T AV) (q : Q) (k : XK) (d : DS) : CR :=
  ob (grpOk d) (.bad "stores in no order") <| ob (ob (seqOk P (plan ops) 0 []) (tksOk P (fun i => (msks ops.toList []).getD i 0) d) true) (.bad "a read among effects") <|
  oo d.pn (tick (k .nrm d.r (layG d.grp (lay (selF d.s.cm) d.als d.s.h)) q)) fun p => k (.pan p.1) (forget (dsts ops.toList) r) p.2.1 q
def onDC (r : DRes) (k : DS → CR) : CR := (DRes.rec (motive := fun _ => CR) CR.bad k (r))
def drawnK (P : Program) (cf : CallF) (rf : RndF) (ops : Array Oper) : SF := fun r h q k =>
  fN (Nat.add h.nx (cntAl P ops.toList)) fun n => onDC (opsD P cf rf ops (grpAt P none (plan ops) 0) (plan ops) 0 ⟨r, ⟨none, 0, ⟨h.t, n⟩⟩, [], [], h.nx, none, [], []⟩) (endD P ops r q k)
def drawnS (P : Program) (cf : CallF) (rf : RndF) (ops : Array Oper) : SF := ob (rOk ops) (fun _ _ _ _ => .bad "region") (drawnK P cf rf ops)
end
end Go.Proofs.YthfenjgelbkloaaGreatDoor.Ev

namespace Go.Proofs.YthfenjgelbkloaaGreatDoor.Ev
open Go
noncomputable section

/-! ### The end of a call -/
inductive Mode where
  | ret | pan (ch : List PE)
/-- What a deferred call's end makes of its caller's mode. -/
def settleA : RC → Mode
  | .pan (⟨_, true⟩ :: _) => .ret
  | .pan ch => .pan ch
  | _ => .ret
def raisedA (m : RC) (ch : List PE) : Mode :=
  match m with
  | .pan old => .pan (ch ++ old)
  | _ => .pan ch
def Mode.rc : Mode → RC
  | .ret => .ret
  | .pan ch => .pan ch
abbrev CodeF := Code → SF
def regsOf (l : List AV) : Nat → T AV → T AV := List.rec (fun _ r => r) (fun v _ ih i r => ih (Nat.succ i) (r.put (some v) (Pos.of i))) l
def maxN (a b : Nat) : Nat := bif Nat.ble a b then b else a
def frameQ (fn : Func) (rc : RC) : Q := ⟨fn.ntmps, [], rc, none⟩
/-- Each register that is written is one of n. -/
def dstOk (n : Nat) (ops : List Oper) : Bool := ops.all fun o => match o.dst with
  | some d => Nat.blt d n
  | none => true
def codeOk (n : Nat) : Code → Bool
  | .region _ ops _ => dstOk n ops.toList
  | .seq a b => codeOk n a && codeOk n b
  | .cond _ a b => codeOk n a && codeOk n b
  | .block _ b => codeOk n b
  | .loop b => codeOk n b
  | .scope b => codeOk n b
  | .rangeFunc _ ps a b => ps.toList.all (fun p => Nat.blt p n) && codeOk n a && codeOk n b
  | _ => true
def resA (P : Program) (r : T AV) (h : Hp) : List ResultVar → Option (List AV)
  | [] => some []
  | .tmp t :: l => match r.get (Pos.of t) with
    | some v => (resA P r h l).map (v :: ·)
    | none => none
  | .cell a t :: l => match r.get (Pos.of a) with
    | some p => match load P t p h with
      | some v => (resA P r h l).map (v :: ·)
      | none => none
    | none => none
def tupA (l : List AV) : AV := match l with
  | [v] => v
  | l => .tup l
/-- One result in a register. -/
def oneRes (fn : Func) : Option Nat :=
  match fn.results.toList with
  | [.tmp t] => some t
  | _ => none
def resF (P : Program) (fn : Func) (r : T AV) (h : Hp) : Option AV := oo (oneRes fn) (oo (resA P r h fn.results.toList) none fun l => some (tupA l)) fun t => r.get (Pos.of t)
/-! #### A deferred function's body -/
def isRcv (o : Oper) : Bool := match o.op with
  | .call { callee := .builtin .recover, .. } => true
  | _ => false
def opR (P : Program) (o : Oper) (ih : SF) : SF := fun r h q k =>
  (OR.rec (motive := fun _ => CR) CR.bad (fun v h => tick (ih (putD o.dst v r) h q k)) (fun v h => k (.pan [⟨v, false⟩]) r h q) (fun _ => .bad "deferred: defer")
    (match q.rc with
      | .no => .bad "recover"
      | .ret => tick (ih (putD o.dst .nili r) h q k)
      | .pan (⟨v, false⟩ :: older) => tick (ih (putD o.dst v r) h ⟨q.sz, q.df, .pan (⟨v, true⟩ :: older), q.rd⟩ k)
      | .pan _ => .bad "recover: again")
    (fun _ _ _ => .bad "deferred: call beside recover") (fun _ _ _ => .bad "deferred: round") (fun _ => .bad "deferred: alternatives") (opA P r o h))
def opsR (P : Program) (l : List Oper) : SF := List.rec opsEnd (fun o _ ih => oo o.guard (opR P o ih) fun _ _ _ _ _ => .bad "deferred: guard") l
def rcNo (ev : CodeF) (c : Code) : SF := fun r h q k => ev c r h ⟨q.sz, q.df, .no, q.rd⟩ fun x r h q' => k x r h ⟨q'.sz, q'.df, q.rc, q'.rd⟩
abbrev SKF := SF → XK → T AV → Hp → Q → CR
def sNrm : SKF := fun n k r h q => tick (n r h q k)
def sExt (i : Nat) : SKF := fun _ k r h q => k (.ext i) r h q
def sGto (l : Nat) : SKF := fun _ k r h q => k (.gto l) r h q
def sRet : SKF := fun _ k r h q => k .ret r h q
def sPan (ch : List PE) : SKF := fun _ k r h q => k (.pan ch) r h q
def seqK (ihb : SF) (k : XK) : XK := fun x r h q => (X.rec (motive := fun _ => SKF) sNrm sExt sGto sRet sPan (x)) ihb k r h q
def condS (c : Operand) (iha ihb : SF) : SF := fun r h q k => oo (opnd r c) (.bad "cond") fun v => avBool v (.bad "cond") fun b => tick (ob b ihb iha r h q k)
def regD (P : Program) (ev : CodeF) (id : Nat) (ops : Array Oper) (d : Bool) : SF := ob (ops.toList.any isRcv) (rcNo ev (.region id ops d)) (ob d (opsR P ops.toList) fun _ _ _ _ => .bad "deferred: recover in no order")
def codeD (P : Program) (ev : CodeF) (c : Code) : SF :=
  Code.rec (motive := fun _ => SF) (rcNo ev .skip) (regD P ev) (fun _ _ iha ihb r h q k => iha r h q (seqK ihb k)) (fun c _ _ iha ihb => condS c iha ihb) (fun id b _ => rcNo ev (.block id b)) (fun b _ => rcNo ev (.loop b))
    (fun f ps a b _ _ => rcNo ev (.rangeFunc f ps a b)) (fun id => rcNo ev (.exit id)) (fun b _ => rcNo ev (.scope b)) (fun l => rcNo ev (.label l)) (fun l => rcNo ev (.goto l)) (rcNo ev .ret) (fun w => rcNo ev (.refuse w)) c
/-- A frame that leaves: its deferred calls, its results. -/
def leaveA (P : Program) (ev : CodeF) (fn : Func) (r : T AV) : Nat → List AD → Mode → Hp → CR
  | 0, _, _, _ => .bad "defers"
  | _ + 1, [], .ret, h => oo (resF P fn r h) (.bad "results") fun v => .ret v h
  | _ + 1, [], .pan ch, h => .pan ch h
  | n + 1, .fn f args :: ds, m, h =>
    match P.funcs[f]? with
    | some fd => match fd.body with
      | some c => bif codeOk fd.ntmps c && Nat.ble args.length fd.ntmps && !(fd.name == "runtime.NumGoroutine") then codeD P ev c (regsOf args 0 .e) h (frameQ fd m.rc) fun x r' h q =>
        match q.df with
        | [] => match x with
          | .nrm => match resF P fd r' h with
            | some _ => leaveA P ev fn r n ds (settleA q.rc) h
            | none => .bad "results"
          | .ret => match resF P fd r' h with
            | some _ => leaveA P ev fn r n ds (settleA q.rc) h
            | none => .bad "results"
          | .pan ch => leaveA P ev fn r n ds (raisedA q.rc ch) h
          | _ => .bad "deferred: exit"
        | _ => .bad "defers of a deferred call" else .bad "deferred: registers"
      | none => .bad "deferred: no body"
    | none => .bad "deferred: no function"
  | n + 1, .coll b :: ds, m, h => match h.get b with
    | some (.dfr (some [])) => leaveA P ev fn r n ds m (h.set b (.dfr none))
    | _ => .bad "collected"
def told (_ : String) (r : CR) : CR := r
def leave0 (P : Program) (ev : CodeF) (fn : Func) (r : T AV) (h : Hp) (l : List AD) : CR := match l with
  | [] => oo (resF P fn r h) (.bad "results") fun v => .ret v h
  | l => leaveA P ev fn r 1000 l .ret h
abbrev LF := Program → CodeF → Func → T AV → Hp → Q → CR
def lRet : LF := fun P ev fn r h q => leave0 P ev fn r h q.df
def lBad : LF := fun _ _ _ _ _ _ => .bad "exit"
def lPan (ch : List PE) : LF := fun P ev fn r h q => leaveA P ev fn r 1000 q.df (.pan ch) h
def leaveX (P : Program) (ev : CodeF) (fn : Func) : XK := fun x r h q => (X.rec (motive := fun _ => LF) lRet (fun _ => lBad) (fun _ => lBad) lRet lPan (x)) P ev fn r h q
def callC (P : Program) (ev : CodeF) (args : List AV) (h : Hp) (fn : Func) : CR :=
  oo fn.body (.bad "no body") fun c => ob (both (codeOk fn.ntmps c) (Nat.ble args.length fn.ntmps)) (.bad "registers") (told fn.name (ev c (regsOf args 0 .e) h (frameQ fn .no) (leaveX P ev fn)))
def callB (P : Program) (ev : CodeF) (f : Nat) (args : List AV) (h : Hp) : CR := oo P.funcs[f]? (.bad "no function") (callC P ev args h)

/-! ### Facts: calls that are known already -/
structure Fact where
  f : Nat
  args : List AV
  hin : List (Nat × Blk)
  nx : Nat
  v : AV
  hout : List (Nat × Blk)
  nx' : Nat

/-! ### Rounds -/
def setP : List Nat → List AV → T AV → T AV
  | p :: ps, v :: vs, r => setP ps vs (r.put (some v) (Pos.of p))
  | _, _, r => r
def ltAll (n : Nat) (l : List Nat) : Bool := l.all fun p => Nat.blt p n
def endRnd (l : Nat) (x : X) (h : Hp) : CR :=
  match h.get l with
  | some (.loop _ _ r sz ps asg body df) =>
    match x with
    | .nrm => .ret (.bool true) (h.set l (.loop .ready none r sz ps asg body df))
    | .ret => .ret (.bool false) (h.set l (.loop .done (some .ret) r sz ps asg body df))
    | .ext id => .ret (.bool false) (h.set l (.loop .done (some (.exit id)) r sz ps asg body df))
    | .gto t => .ret (.bool false) (h.set l (.loop .done (some (.goto t)) r sz ps asg body df))
    | .pan _ => .bad "round: panic"
  | _ => .bad "round: no loop"
def rndB (ev : CodeF) (l : Nat) (args : List AV) (h : Hp) : CR :=
  match h.get l with
  | some (.loop _ _ r sz ps asg body _) =>
    bif Nat.beq args.length ps.length && ltAll sz ps && codeOk sz asg && codeOk sz body then
      ev asg (setP ps args r) h ⟨sz, [], .no, some l⟩ fun x r h q =>
        match x, q.df, h.get l with
        | .nrm, [], some (.loop .ready pd r' sz' ps' asg' body' df') =>
          ev body r (h.set l (.loop .busy pd r' sz' ps' asg' body' df')) ⟨sz, [], .no, some l⟩ fun x _ h q =>
            match q.df with
            | [] => endRnd l x h
            | _ => .bad "round: defers"
        | _, _, _ => .bad "round: assign"
    else .bad "round: arguments"
  | _ => .bad "round: no loop"

/-! ### Code -/
/-- An exit that is passed on. -/
abbrev PF := (T AV → Hp → Q → CR) → XK → T AV → Hp → Q → CR
def pNrm : PF := fun n _ r h q => tick (n r h q)
def pExt (i : Nat) : PF := fun _ k r h q => k (.ext i) r h q
def pGto (l : Nat) : PF := fun _ k r h q => k (.gto l) r h q
def pRet : PF := fun _ k r h q => k .ret r h q
def pPan (ch : List PE) : PF := fun _ k r h q => k (.pan ch) r h q
def loopK (k : XK) (ih : T AV → Hp → Q → CR) : XK := fun x r h q => (X.rec (motive := fun _ => PF) pNrm pExt pGto pRet pPan (x)) ih k r h q
def loopS (body : SF) (k : XK) (n : Nat) : T AV → Hp → Q → CR :=
  Nat.rec (fun _ _ _ => .bad "loop: too long") (fun _ ih r h q => body r h q (loopK k ih)) n
/-- A scope: jumps to its labels. -/
def scopeS (ev : CodeF) (body : Code) (k : XK) : Nat → Code → T AV → Hp → Q → CR
  | 0, _, _, _, _ => .bad "goto: too often"
  | n + 1, c, r, h, q => ev c r h q fun x r h q => match x with
    | .gto l => match findLabel body l with
      | some c' => tick (scopeS ev body k n c' r h q)
      | none => k (.gto l) r h q
    | x => k x r h q
def rangeGo (P : Program) (cf : CallF) (ev : CodeF) (f : Operand) (ps : List Tmp) (asg body : Code) (r : T AV) (h : Hp) (q : Q) (k : XK) (df : Nat) (mk : List AD) : CR :=
  match opnd r f with
  | some (.fn g a c) => match callA P g (a ++ [.yld h.nx] ++ c) (h.new (.loop .ready none r q.sz ps asg body df)) with
    | .call g args h1 => match cf g args h1 with
      | .ret _ h2 => match h2.get h.nx with
        | some (.loop .busy ..) => .bad "range: busy"
        | some (.loop _ pd r' sz ps asg body df) =>
          match pd with
          | none => k .nrm r (h2.set h.nx (.loop .exhausted pd r' sz ps asg body df)) ⟨q.sz, mk ++ q.df, q.rc, q.rd⟩
          | some c => bif codeOk q.sz c then ev c r (h2.set h.nx (.loop .exhausted pd r' sz ps asg body df)) ⟨q.sz, mk ++ q.df, q.rc, q.rd⟩ k else .bad "range: registers"
        | _ => .bad "range: no loop"
      | .pan ch h2 => k (.pan ch) r h2 ⟨q.sz, mk ++ q.df, q.rc, q.rd⟩
      | .bad w => .bad w
    | _ => .bad "range: call"
  | _ => .bad "range: function"
def rangeS (P : Program) (cf : CallF) (ev : CodeF) (f : Operand) (ps : Array Tmp) (asg body : Code) : SF := fun r h q k =>
  match q.rd with
  | none => rangeGo P cf ev f ps.toList asg body r (h.new (.dfr (some []))) q k h.nx [.coll h.nx]
  | some l => match h.get l with
    | some (.loop _ _ _ _ _ _ _ df) => rangeGo P cf ev f ps.toList asg body r h q k df []
    | _ => .bad "range: around"
abbrev BF := Nat → XK → T AV → Hp → Q → CR
def bNrm : BF := fun _ k r h q => k .nrm r h q
def bExt (i : Nat) : BF := fun id k r h q => ob (Nat.beq i id) (k (.ext i) r h q) (k .nrm r h q)
def bGto (l : Nat) : BF := fun _ k r h q => k (.gto l) r h q
def bRet : BF := fun _ k r h q => k .ret r h q
def bPan (ch : List PE) : BF := fun _ k r h q => k (.pan ch) r h q
def blockK (id : Nat) (k : XK) : XK := fun x r h q => (X.rec (motive := fun _ => BF) bNrm bExt bGto bRet bPan (x)) id k r h q
def regS (P : Program) (cf : CallF) (rf : RndF) (ops : Array Oper) (d : Bool) : SF := ob d (opsS P cf rf ops ops.toList) (drawnS P cf rf ops)
def sX (x : X) : SF := fun r h q k => k x r h q
def codeC (P : Program) (cf : CallF) (rf : RndF) (ev : CodeF) (c : Code) : SF :=
  Code.rec (motive := fun _ => SF) (sX .nrm) (fun _ ops d => regS P cf rf ops d) (fun _ _ iha ihb r h q k => iha r h q (seqK ihb k)) (fun c _ _ iha ihb => condS c iha ihb)
    (fun id _ ih r h q k => ih r h q (blockK id k)) (fun _ ih r h q k => loopS ih k 100000000 r h q) (fun f ps asg b _ _ => rangeS P cf ev f ps asg b) (fun id => sX (.ext id)) (fun b _ r h q k => scopeS ev b k 100000000 b r h q)
    (fun _ => sX .nrm) (fun l => sX (.gto l)) (sX .ret) (fun w _ _ _ _ => .bad w) c
def codeN (P : Program) (kn : CallF → CallF) (n : Nat) : CodeF :=
  Nat.rec (fun _ _ _ _ _ => .bad "fuel") (fun _ ih => codeC P (kn (callB P ih)) (rndB ih) ih) n
end
end Go.Proofs.YthfenjgelbkloaaGreatDoor.Ev
