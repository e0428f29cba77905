/- An evaluator of the model's code by abstract values. Definitions alone. -/
import Derived.WalkKit
namespace Go.Proofs.YtmoejaloachlkaaGreatDoor.Ev
open Go
noncomputable section

/-! ### Trees by number -/
inductive Pos where
  | h | o (p : Pos) | i (p : Pos)
deriving DecidableEq
def Pos.ofA : Nat → Nat → Pos
  | 0, _ => .h
  | f + 1, n => bif Nat.beq n 0 then .h else bif Nat.beq (n % 2) 1 then .i (Pos.ofA f (n / 2)) else .o (Pos.ofA f (n / 2 - 1))
def Pos.of (n : Nat) : Pos := Pos.ofA (n + 1) n
inductive T (α : Type) where
  | e | n (v : Option α) (l r : T α)
def T.get {α : Type} (t : T α) (p : Pos) : Option α :=
  Pos.rec (motive := fun _ => T α → Option α) (fun t => T.rec none (fun v _ _ _ _ => v) t) (fun _ ih t => T.rec none (fun _ l _ _ _ => ih l) t) (fun _ ih t => T.rec none (fun _ _ r _ _ => ih r) t) p t
def T.put {α : Type} (x : Option α) (p : Pos) (t : T α) : T α :=
  Pos.rec (motive := fun _ => T α → T α) (fun t => T.rec (.n x .e .e) (fun _ l r _ _ => .n x l r) t) (fun _ ih t => T.rec (.n none (ih .e) .e) (fun v l r _ _ => .n v (ih l) r) t) (fun _ ih t => T.rec (.n none .e (ih .e)) (fun v l r _ _ => .n v l (ih r)) t) p t

/-! ### Parting -/
def ob {β : Type} (b : Bool) (f t : β) : β := Bool.rec f t b
def oo {α β : Type} (x : Option α) (d : β) (k : α → β) : β := Option.rec d k x
def on {β : Type} (n : Nat) (z : β) (s : Nat → β) : β := Nat.rec z (fun m _ => s m) n
def oi {β : Type} (n : Int) (f g : Nat → β) : β := Int.rec f g n
/-- The same number, brought into sight. -/
def fN {β : Type} (n : Nat) (k : Nat → β) : β := on n (k 0) fun m => k (Nat.succ m)
def both (a b : Bool) : Bool := ob a false b

/-! ### Values -/
inductive AV where
  | bool (b : Bool) | int (k : IntKind) (n : Int)
  | str (n v : Nat)
  | ptr (b o : Nat) | nilp
  | sl (b o n lo : Nat) (ex : Bool) (s : Nat) | nils
  | slz  -- of length 0, not nil, somewhere
  | map (b : Nat) | nilm
  | fn (f : Nat) (a c : List AV) | nilf
  | yld (l : Nat)
  | ifc (t : Nat) (v : AV) | nili | opi
  | agg (l : List AV) | tup (l : List AV)
deriving Inhabited
/-- A text's bytes as one number. -/
def natOf (l : List UInt8) : Nat := l.foldl (fun a b => a * 256 + b.toNat) 0
def AV.ofV : Nat → Value → Option AV
  | _, .bool b => some (.bool b)
  | _, .int k n => some (.int k n)
  | _, .string s => some (.str s.size (natOf s.data.toList))
  | _, .pointer none => some .nilp
  | _, .slice none 0 0 => some .nils
  | _, .map none => some .nilm
  | _, .nilFunc => some .nilf
  | _, .nilIface => some .nili
  | f + 1, .func (.func g) a c => (a.toList.mapM (AV.ofV f)).bind fun a => (c.toList.mapM (AV.ofV f)).map fun c => .fn g a c
  | f + 1, .iface t v => (AV.ofV f v).map (.ifc t)
  | f + 1, .agg cs => (cs.toList.mapM (AV.ofV f)).map .agg
  | f + 1, .tuple cs => (cs.toList.mapM (AV.ofV f)).map .tup
  | _, _ => none
def AV.cells : AV → List AV
  | .agg l => l
  | v => [v]
/-- Keys that are known by their look. -/
def cellK : AV → Bool
  | .bool _ | .int _ _ | .str _ _ => true
  | _ => false
def simpleK : AV → Bool
  | .agg l => l.all cellK
  | v => cellK v
def AV.isCell : AV → Bool
  | .agg _ | .tup _ => false
  | _ => true
def kIx (k : IntKind) : Nat := (IntKind.rec (motive := fun _ => Nat) 0 1 2 3 4 5 6 7 (k))
def kEq (j k : IntKind) : Bool := Nat.beq (kIx j) (kIx k)
def iEq (a b : Int) : Bool := oi a (fun a => oi b (fun b => Nat.beq a b) fun _ => false) fun a => oi b (fun _ => false) fun b => Nat.beq a b
def iLt (a b : Int) : Bool := oi a (fun a => oi b (fun b => Nat.blt a b) fun _ => false) fun a => oi b (fun _ => true) fun b => Nat.blt b a
/-- The n-th of a list. -/
def nth {α : Type} (l : List α) (i : Nat) : Option α := l[i]?
mutual
def AV.beq : AV → AV → Bool
  | .bool a, .bool b => a == b
  | .int j a, .int k b => kEq j k && iEq a b
  | .str n v, .str m u => Nat.beq n m && Nat.beq v u
  | .ptr a b, .ptr c d => Nat.beq a c && Nat.beq b d
  | .nilp, .nilp | .nils, .nils | .nilm, .nilm | .nilf, .nilf | .nili, .nili | .opi, .opi | .slz, .slz => true
  | .sl b o n l e s, .sl b' o' n' l' e' s' => Nat.beq b b' && Nat.beq o o' && Nat.beq n n' && Nat.beq l l' && e == e' && Nat.beq s s'
  | .map a, .map b => Nat.beq a b
  | .fn f a c, .fn g b d => Nat.beq f g && AV.beqs a b && AV.beqs c d
  | .yld a, .yld b => Nat.beq a b
  | .ifc t v, .ifc u w => Nat.beq t u && AV.beq v w
  | .agg a, .agg b => AV.beqs a b
  | .tup a, .tup b => AV.beqs a b
  | _, _ => false
def AV.beqs : List AV → List AV → Bool
  | [], [] => true
  | a :: l, b :: m => AV.beq a b && AV.beqs l m
  | _, _ => false
end

/-! ### Parting values -/
def avBool {β : Type} (x : AV) (d : β) (k : Bool → β) : β :=
  @AV.rec (fun _ => β → (Bool → β) → β) (fun _ => Unit) (fun a _ k => k a) (fun _ _ d _ => d) (fun _ _ d _ => d) (fun _ _ d _ => d) (fun d _ => d) (fun _ _ _ _ _ _ d _ => d) (fun d _ => d) (fun d _ => d) (fun _ d _ => d) (fun d _ => d) (fun _ _ _ _ _ d _ => d) (fun d _ => d) (fun _ d _ => d) (fun _ _ _ d _ => d) (fun d _ => d) (fun d _ => d) (fun _ _ d _ => d) (fun _ _ d _ => d) () (fun _ _ _ _ => ()) x d k
theorem avBool_eq {β : Type} (a) (d : β) (k : Bool → β) : avBool (.bool a) d k = k a := rfl
theorem avBool_some {β : Type} {x : AV} {d : β} {k : Bool → β} {p : β → Prop} (h : p (avBool x d k)) (hd : ¬ p d) : ∃ a, x = .bool a ∧ p (k a) := by
  cases x <;> first | exact absurd h hd | exact ⟨_, rfl, h⟩
def avInt {β : Type} (x : AV) (d : β) (k : IntKind → Int → β) : β :=
  @AV.rec (fun _ => β → (IntKind → Int → β) → β) (fun _ => Unit) (fun _ d _ => d) (fun a b _ k => k a b) (fun _ _ d _ => d) (fun _ _ d _ => d) (fun d _ => d) (fun _ _ _ _ _ _ d _ => d) (fun d _ => d) (fun d _ => d) (fun _ d _ => d) (fun d _ => d) (fun _ _ _ _ _ d _ => d) (fun d _ => d) (fun _ d _ => d) (fun _ _ _ d _ => d) (fun d _ => d) (fun d _ => d) (fun _ _ d _ => d) (fun _ _ d _ => d) () (fun _ _ _ _ => ()) x d k
theorem avInt_eq {β : Type} (a b) (d : β) (k : IntKind → Int → β) : avInt (.int a b) d k = k a b := rfl
theorem avInt_some {β : Type} {x : AV} {d : β} {k : IntKind → Int → β} {p : β → Prop} (h : p (avInt x d k)) (hd : ¬ p d) : ∃ a b, x = .int a b ∧ p (k a b) := by
  cases x <;> first | exact absurd h hd | exact ⟨_, _, rfl, h⟩
def avStr {β : Type} (x : AV) (d : β) (k : Nat → Nat → β) : β :=
  @AV.rec (fun _ => β → (Nat → Nat → β) → β) (fun _ => Unit) (fun _ d _ => d) (fun _ _ d _ => d) (fun a b _ k => k a b) (fun _ _ d _ => d) (fun d _ => d) (fun _ _ _ _ _ _ d _ => d) (fun d _ => d) (fun d _ => d) (fun _ d _ => d) (fun d _ => d) (fun _ _ _ _ _ d _ => d) (fun d _ => d) (fun _ d _ => d) (fun _ _ _ d _ => d) (fun d _ => d) (fun d _ => d) (fun _ _ d _ => d) (fun _ _ d _ => d) () (fun _ _ _ _ => ()) x d k
theorem avStr_eq {β : Type} (a b) (d : β) (k : Nat → Nat → β) : avStr (.str a b) d k = k a b := rfl
theorem avStr_some {β : Type} {x : AV} {d : β} {k : Nat → Nat → β} {p : β → Prop} (h : p (avStr x d k)) (hd : ¬ p d) : ∃ a b, x = .str a b ∧ p (k a b) := by
  cases x <;> first | exact absurd h hd | exact ⟨_, _, rfl, h⟩
def avPtr {β : Type} (x : AV) (d : β) (k : Nat → Nat → β) : β :=
  @AV.rec (fun _ => β → (Nat → Nat → β) → β) (fun _ => Unit) (fun _ d _ => d) (fun _ _ d _ => d) (fun _ _ d _ => d) (fun a b _ k => k a b) (fun d _ => d) (fun _ _ _ _ _ _ d _ => d) (fun d _ => d) (fun d _ => d) (fun _ d _ => d) (fun d _ => d) (fun _ _ _ _ _ d _ => d) (fun d _ => d) (fun _ d _ => d) (fun _ _ _ d _ => d) (fun d _ => d) (fun d _ => d) (fun _ _ d _ => d) (fun _ _ d _ => d) () (fun _ _ _ _ => ()) x d k
theorem avPtr_eq {β : Type} (a b) (d : β) (k : Nat → Nat → β) : avPtr (.ptr a b) d k = k a b := rfl
theorem avPtr_some {β : Type} {x : AV} {d : β} {k : Nat → Nat → β} {p : β → Prop} (h : p (avPtr x d k)) (hd : ¬ p d) : ∃ a b, x = .ptr a b ∧ p (k a b) := by
  cases x <;> first | exact absurd h hd | exact ⟨_, _, rfl, h⟩
def avSl {β : Type} (x : AV) (d : β) (k : Nat → Nat → Nat → Nat → Bool → Nat → β) : β :=
  @AV.rec (fun _ => β → (Nat → Nat → Nat → Nat → Bool → Nat → β) → β) (fun _ => Unit) (fun _ d _ => d) (fun _ _ d _ => d) (fun _ _ d _ => d) (fun _ _ d _ => d) (fun d _ => d) (fun a b c e f g _ k => k a b c e f g) (fun d _ => d) (fun d _ => d) (fun _ d _ => d) (fun d _ => d) (fun _ _ _ _ _ d _ => d) (fun d _ => d) (fun _ d _ => d) (fun _ _ _ d _ => d) (fun d _ => d) (fun d _ => d) (fun _ _ d _ => d) (fun _ _ d _ => d) () (fun _ _ _ _ => ()) x d k
theorem avSl_eq {β : Type} (a b c e f g) (d : β) (k : Nat → Nat → Nat → Nat → Bool → Nat → β) : avSl (.sl a b c e f g) d k = k a b c e f g := rfl
theorem avSl_some {β : Type} {x : AV} {d : β} {k : Nat → Nat → Nat → Nat → Bool → Nat → β} {p : β → Prop} (h : p (avSl x d k)) (hd : ¬ p d) : ∃ a b c e f g, x = .sl a b c e f g ∧ p (k a b c e f g) := by
  cases x <;> first | exact absurd h hd | exact ⟨_, _, _, _, _, _, rfl, h⟩
def avMap {β : Type} (x : AV) (d : β) (k : Nat → β) : β :=
  @AV.rec (fun _ => β → (Nat → β) → β) (fun _ => Unit) (fun _ d _ => d) (fun _ _ d _ => d) (fun _ _ d _ => d) (fun _ _ d _ => d) (fun d _ => d) (fun _ _ _ _ _ _ d _ => d) (fun d _ => d) (fun d _ => d) (fun a _ k => k a) (fun d _ => d) (fun _ _ _ _ _ d _ => d) (fun d _ => d) (fun _ d _ => d) (fun _ _ _ d _ => d) (fun d _ => d) (fun d _ => d) (fun _ _ d _ => d) (fun _ _ d _ => d) () (fun _ _ _ _ => ()) x d k
theorem avMap_eq {β : Type} (a) (d : β) (k : Nat → β) : avMap (.map a) d k = k a := rfl
theorem avMap_some {β : Type} {x : AV} {d : β} {k : Nat → β} {p : β → Prop} (h : p (avMap x d k)) (hd : ¬ p d) : ∃ a, x = .map a ∧ p (k a) := by
  cases x <;> first | exact absurd h hd | exact ⟨_, rfl, h⟩
def avFn {β : Type} (x : AV) (d : β) (k : Nat → List AV → List AV → β) : β :=
  @AV.rec (fun _ => β → (Nat → List AV → List AV → β) → β) (fun _ => Unit) (fun _ d _ => d) (fun _ _ d _ => d) (fun _ _ d _ => d) (fun _ _ d _ => d) (fun d _ => d) (fun _ _ _ _ _ _ d _ => d) (fun d _ => d) (fun d _ => d) (fun _ d _ => d) (fun d _ => d) (fun a b c _ _ _ k => k a b c) (fun d _ => d) (fun _ d _ => d) (fun _ _ _ d _ => d) (fun d _ => d) (fun d _ => d) (fun _ _ d _ => d) (fun _ _ d _ => d) () (fun _ _ _ _ => ()) x d k
theorem avFn_eq {β : Type} (a b c) (d : β) (k : Nat → List AV → List AV → β) : avFn (.fn a b c) d k = k a b c := rfl
theorem avFn_some {β : Type} {x : AV} {d : β} {k : Nat → List AV → List AV → β} {p : β → Prop} (h : p (avFn x d k)) (hd : ¬ p d) : ∃ a b c, x = .fn a b c ∧ p (k a b c) := by
  cases x <;> first | exact absurd h hd | exact ⟨_, _, _, rfl, h⟩
def avIfc {β : Type} (x : AV) (d : β) (k : Nat → AV → β) : β :=
  @AV.rec (fun _ => β → (Nat → AV → β) → β) (fun _ => Unit) (fun _ d _ => d) (fun _ _ d _ => d) (fun _ _ d _ => d) (fun _ _ d _ => d) (fun d _ => d) (fun _ _ _ _ _ _ d _ => d) (fun d _ => d) (fun d _ => d) (fun _ d _ => d) (fun d _ => d) (fun _ _ _ _ _ d _ => d) (fun d _ => d) (fun _ d _ => d) (fun a b _ _ k => k a b) (fun d _ => d) (fun d _ => d) (fun _ _ d _ => d) (fun _ _ d _ => d) () (fun _ _ _ _ => ()) x d k
theorem avIfc_eq {β : Type} (a b) (d : β) (k : Nat → AV → β) : avIfc (.ifc a b) d k = k a b := rfl
theorem avIfc_some {β : Type} {x : AV} {d : β} {k : Nat → AV → β} {p : β → Prop} (h : p (avIfc x d k)) (hd : ¬ p d) : ∃ a b, x = .ifc a b ∧ p (k a b) := by
  cases x <;> first | exact absurd h hd | exact ⟨_, _, rfl, h⟩
def avAgg {β : Type} (x : AV) (d : β) (k : List AV → β) : β :=
  @AV.rec (fun _ => β → (List AV → β) → β) (fun _ => Unit) (fun _ d _ => d) (fun _ _ d _ => d) (fun _ _ d _ => d) (fun _ _ d _ => d) (fun d _ => d) (fun _ _ _ _ _ _ d _ => d) (fun d _ => d) (fun d _ => d) (fun _ d _ => d) (fun d _ => d) (fun _ _ _ _ _ d _ => d) (fun d _ => d) (fun _ d _ => d) (fun _ _ _ d _ => d) (fun d _ => d) (fun d _ => d) (fun a _ _ k => k a) (fun _ _ d _ => d) () (fun _ _ _ _ => ()) x d k
theorem avAgg_eq {β : Type} (a) (d : β) (k : List AV → β) : avAgg (.agg a) d k = k a := rfl
theorem avAgg_some {β : Type} {x : AV} {d : β} {k : List AV → β} {p : β → Prop} (h : p (avAgg x d k)) (hd : ¬ p d) : ∃ a, x = .agg a ∧ p (k a) := by
  cases x <;> first | exact absurd h hd | exact ⟨_, rfl, h⟩
def avTup {β : Type} (x : AV) (d : β) (k : List AV → β) : β :=
  @AV.rec (fun _ => β → (List AV → β) → β) (fun _ => Unit) (fun _ d _ => d) (fun _ _ d _ => d) (fun _ _ d _ => d) (fun _ _ d _ => d) (fun d _ => d) (fun _ _ _ _ _ _ d _ => d) (fun d _ => d) (fun d _ => d) (fun _ d _ => d) (fun d _ => d) (fun _ _ _ _ _ d _ => d) (fun d _ => d) (fun _ d _ => d) (fun _ _ _ d _ => d) (fun d _ => d) (fun d _ => d) (fun _ _ d _ => d) (fun a _ _ k => k a) () (fun _ _ _ _ => ()) x d k
theorem avTup_eq {β : Type} (a) (d : β) (k : List AV → β) : avTup (.tup a) d k = k a := rfl
theorem avTup_some {β : Type} {x : AV} {d : β} {k : List AV → β} {p : β → Prop} (h : p (avTup x d k)) (hd : ¬ p d) : ∃ a, x = .tup a ∧ p (k a) := by
  cases x <;> first | exact absurd h hd | exact ⟨_, rfl, h⟩

/-! ### Blocks, heap, state -/
inductive AD where
  | fn (f : Nat) (args : List AV) | coll (b : Nat)
inductive Blk where
  | cells (c : T AV) (d : Option AV) (n e lo hi : Nat) (w : Bool) (sib : List Nat)
  | map (es : List (AV × AV)) (clk : Nat)
  | loop (st : LoopState) (pend : Option Code) (r : T AV) (sz : Nat) (ps : List Nat) (asg body : Code) (df : Nat)
  | dfr (ds : Option (List AD))
  | siter (n v pos : Nat)
  | miter (m : Option Nat) (since : Nat) (vis : List AV)  -- the keys that were told, the last first
def bkCells {β : Type} (x : Blk) (d : β) (k : T AV → Option AV → Nat → Nat → Nat → Nat → Bool → List Nat → β) : β :=
  @Blk.rec (fun _ => β → (T AV → Option AV → Nat → Nat → Nat → Nat → Bool → List Nat → β) → β) (fun a b c e f g h i _ k => k a b c e f g h i) (fun _ _ d _ => d) (fun _ _ _ _ _ _ _ _ d _ => d) (fun _ d _ => d) (fun _ _ _ d _ => d) (fun _ _ _ d _ => d) x d k
theorem bkCells_eq {β : Type} (a b c e f g h i) (d : β) (k : T AV → Option AV → Nat → Nat → Nat → Nat → Bool → List Nat → β) : bkCells (.cells a b c e f g h i) d k = k a b c e f g h i := rfl
theorem bkCells_some {β : Type} {x : Blk} {d : β} {k : T AV → Option AV → Nat → Nat → Nat → Nat → Bool → List Nat → β} {p : β → Prop} (h : p (bkCells x d k)) (hd : ¬ p d) : ∃ a b c e f g h i, x = .cells a b c e f g h i ∧ p (k a b c e f g h i) := by
  cases x <;> first | exact absurd h hd | exact ⟨_, _, _, _, _, _, _, _, rfl, h⟩
def bkMap {β : Type} (x : Blk) (d : β) (k : List (AV × AV) → Nat → β) : β :=
  @Blk.rec (fun _ => β → (List (AV × AV) → Nat → β) → β) (fun _ _ _ _ _ _ _ _ d _ => d) (fun a b _ k => k a b) (fun _ _ _ _ _ _ _ _ d _ => d) (fun _ d _ => d) (fun _ _ _ d _ => d) (fun _ _ _ d _ => d) x d k
theorem bkMap_eq {β : Type} (a b) (d : β) (k : List (AV × AV) → Nat → β) : bkMap (.map a b) d k = k a b := rfl
theorem bkMap_some {β : Type} {x : Blk} {d : β} {k : List (AV × AV) → Nat → β} {p : β → Prop} (h : p (bkMap x d k)) (hd : ¬ p d) : ∃ a b, x = .map a b ∧ p (k a b) := by
  cases x <;> first | exact absurd h hd | exact ⟨_, _, rfl, h⟩

structure Hp where
  t : T Blk
  nx : Nat
def Hp.get (h : Hp) (b : Nat) : Option Blk := h.t.get (Pos.of b)
def Hp.set (h : Hp) (b : Nat) (x : Blk) : Hp := ⟨h.t.put (some x) (Pos.of b), h.nx⟩
def Hp.del (h : Hp) (b : Nat) : Hp := ⟨h.t.put none (Pos.of b), h.nx⟩
def Hp.new (h : Hp) (x : Blk) : Hp := ⟨h.t.put (some x) (Pos.of h.nx), h.nx + 1⟩
structure PE where
  v : AV
  rcd : Bool
inductive RC where
  | no | ret | pan (ch : List PE)
inductive X where
  | nrm | ext (id : Nat) | gto (l : Nat) | ret | pan (ch : List PE)
/-- What a frame holds besides its registers: the number of these; deferred calls; what it may recover; its round. -/
structure Q where
  sz : Nat
  df : List AD
  rc : RC
  rd : Option Nat
/-- What an operation comes to. -/
inductive OR where
  | bad (why : String)
  | val (v : AV) (h : Hp)
  | pan (v : AV) (h : Hp)
  | dfr (d : AD)
  | rcv
  | call (f : Nat) (args : List AV) (h : Hp)
  | rnd (l : Nat) (args : List AV) (h : Hp)
  | alts (l : List (AV × Hp))  -- one of them
/-- What a call comes to. -/
inductive CR where
  | bad (why : String)
  | ret (v : AV) (h : Hp)
  | pan (ch : List PE) (h : Hp)
def undA : AV := .tup []
def tick (r : CR) : CR := r

/-! ### Types -/
def tAgg (P : Program) (t : TypeId) : Option (Bool × Nat) :=
  match P.info? t, P.underlying t with
  | some i, some (.struct _) => some (true, i.size)
  | some i, some (.array _ _) => some (true, i.size)
  | some i, some _ => some (false, i.size)
  | _, _ => none
def zeroA (P : Program) (t : TypeId) : Option AV :=
  match P.info? t with
  | some i => i.zero.bind (AV.ofV 4)
  | none => none
/-- A zero value's cells, where none of them is several. -/
def zeroC (P : Program) (t : TypeId) : Option (List AV) :=
  match zeroA P t, tAgg P t with
  | some z, some (_, s) => bif z.cells.all AV.isCell && Nat.beq z.cells.length s then some z.cells else none
  | _, _ => none
def elemSl (P : Program) (t : TypeId) : Option TypeId :=
  match P.underlying t with
  | some (.slice e) => some e
  | _ => none

/-! ### Cells -/
def Blk.rd (k : Blk) (j : Nat) : Option AV := bkCells k none fun c d n _ _ _ _ _ => ob (Nat.blt j n) none (oo (c.get (Pos.of j)) d some)
def rdsS (k : Blk) (ih : Nat → Option (List AV)) (j : Nat) : Option (List AV) := oo (k.rd j) none fun v => oo (ih (Nat.succ j)) none fun l => some (v :: l)
def Blk.rdsN (k : Blk) (n : Nat) : Nat → Option (List AV) := Nat.rec (fun _ => some []) (fun _ ih => rdsS k ih) n
def Blk.rds (k : Blk) (j n : Nat) : Option (List AV) := Blk.rdsN k n j
/-- Cells, as far as they are known. -/
def Blk.rdo (b : Blk) : Nat → Nat → List (Option AV)
  | _, 0 => []
  | j, n + 1 => b.rd j :: b.rdo (j + 1) n
def kill (j : Nat) : List Nat → Hp → Hp
  | [], h => h
  | s :: l, h => kill j l (match h.get s with
    | some (.cells _ _ n _ _ _ _ _) => bif Nat.blt j n then h.del s else h
    | _ => h)
/-- Cells laid from place j on: none: not known any more. -/
def lays : Nat → List (Option AV) → T AV → T AV
  | _, [], c => c
  | j, v :: l, c => lays (j + 1) l (c.put v (Pos.of j))
def allCells : List (Option AV) → Bool
  | [] => true
  | some v :: l => v.isCell && allCells l
  | none :: l => allCells l
/-- A row of cells is written into block b. -/
def stores (h : Hp) (b j : Nat) (l : List (Option AV)) : Option Hp :=
  match l with
  | [] => some h
  | _ =>
  match h.get b with
  | some (.cells c none n e lo hi true sib) =>
    bif Nat.ble (j + l.length) n && (Nat.ble hi j || Nat.ble (j + l.length) lo || Nat.beq lo hi) && allCells l
    then some ((kill j sib h).set b (.cells (lays j l c) none n e lo hi true sib)) else none
  | some (.cells c (some d) n e lo hi true sib) =>
    bif Nat.ble (j + l.length) n && (Nat.ble hi j || Nat.ble (j + l.length) lo || Nat.beq lo hi) && allCells l && l.all Option.isSome
    then some ((kill j sib h).set b (.cells (lays j l c) (some d) n e lo hi true sib)) else none
  | _ => none
def row (e : Nat) (l : List (Option AV)) : Blk := .cells (lays 0 l .e) none l.length e 0 0 true []
def rowV (e : Nat) (l : List AV) : Blk := row e (l.map some)
def loadG (k : Blk) (o : Nat) (g : Bool × Nat) : Option AV := ob g.1 (k.rd o) (oo (k.rds o g.2) none fun l => some (.agg l))
def load (P : Program) (t : TypeId) (v : AV) (h : Hp) : Option AV := avPtr v none fun b o => oo (h.get b) none fun k => oo (tAgg P t) none (loadG k o)
def store (P : Program) (t : TypeId) (a v : AV) (h : Hp) : Option Hp :=
  avPtr a none fun b o => oo (tAgg P t) none fun g => ob (Nat.beq v.cells.length g.2) none (stores h b o (v.cells.map some))

/-! ### Arithmetic -/
def mkI (k : IntKind) (n : Int) (h : Hp) : OR := oi n (fun n => fN n fun n => .val (.int k (.ofNat n)) h) fun n => .val (.int k (.negSucc n)) h
def big63 : Nat := 9223372036854775808
def lim (k : IntKind) : Nat := (IntKind.rec (motive := fun _ => Nat) 128 32768 2147483648 big63 256 65536 4294967296 18446744073709551616 (k))
/-- A result, wrapped. -/
def wrapI (k : IntKind) (n : Int) (h : Hp) : OR :=
  oi n (fun m => ob (Nat.blt m (lim k)) (mkI k (k.wrap (.ofNat m)) h) (fN m fun m => .val (.int k (.ofNat m)) h)) fun m => mkI k (k.wrap (.negSucc m)) h
def addI (a b : Int) : Int := oi a (fun x => oi b (fun y => .ofNat (Nat.add x y)) fun _ => a + b) fun _ => a + b
def subI (a b : Int) : Int := oi a (fun x => oi b (fun y => ob (Nat.ble y x) (a - b) (.ofNat (Nat.sub x y))) fun _ => a - b) fun _ => a - b
abbrev IF := IntKind → Int → Int → Hp → OR
def iAdd : IF := fun k a b h => wrapI k (addI a b) h
def iSub : IF := fun k a b h => wrapI k (subI a b) h
def iMul : IF := fun k a b h => wrapI k (a * b) h
def iQuo : IF := fun k a b h => ob (iEq b 0) (wrapI k (Int.tdiv a b) h) (.bad "divide by zero")
def iRem : IF := fun k a b h => ob (iEq b 0) (mkI k (Int.tmod a b) h) (.bad "divide by zero")
def iAnd : IF := fun k a b h => mkI k (k.wrap (BitVec.ofInt k.bits a &&& BitVec.ofInt k.bits b).toNat) h
def iOr : IF := fun k a b h => mkI k (k.wrap (BitVec.ofInt k.bits a ||| BitVec.ofInt k.bits b).toNat) h
def iXor : IF := fun k a b h => mkI k (k.wrap (BitVec.ofInt k.bits a ^^^ BitVec.ofInt k.bits b).toNat) h
def iAndNot : IF := fun k a b h => mkI k (k.wrap (BitVec.ofInt k.bits a &&& ~~~BitVec.ofInt k.bits b).toNat) h
def iEql : IF := fun _ a b h => .val (.bool (iEq a b)) h
def iNeq : IF := fun _ a b h => .val (.bool (!iEq a b)) h
def iLss : IF := fun _ a b h => .val (.bool (iLt a b)) h
def iLeq : IF := fun _ a b h => .val (.bool (!iLt b a)) h
def iGtr : IF := fun _ a b h => .val (.bool (iLt b a)) h
def iGeq : IF := fun _ a b h => .val (.bool (!iLt a b)) h
def iBad : IF := fun _ _ _ _ => .bad "int operation"
def intOp (op : BinOp) : IF := (BinOp.rec (motive := fun _ => IF) iAdd iSub iMul iQuo iRem iAnd iOr iXor iBad iBad iAndNot iEql iNeq iLss iLeq iGtr iGeq (op))
def shiftOp (op : BinOp) (k : IntKind) (a b : Int) (h : Hp) : OR :=
  match b with
  | .negSucc _ => .bad "negative shift"
  | .ofNat m =>
    match op with
    | .shl => mkI k (k.wrap (a * 2 ^ (Nat.min m k.bits))) h
    | .shr => mkI k (Int.fdiv a (2 ^ (Nat.min m k.bits))) h
    | _ => .bad "shift"
def strLt (n v m u : Nat) : Bool :=
  bif Nat.ble n m then
    (let u' := u / 256 ^ (m - n)
     Nat.blt v u' || (Nat.beq v u' && Nat.blt n m))
  else
    (let v' := v / 256 ^ (n - m)
     Nat.blt v' u)
def strOp (op : BinOp) (n v m u : Nat) (h : Hp) : OR :=
  match op with
  | .add => bif Nat.blt (n + m) big63 then .val (.str (n + m) (v * 256 ^ m + u)) h else .bad "long text"
  | .eql => .val (.bool (Nat.beq n m && Nat.beq v u)) h
  | .neq => .val (.bool (!(Nat.beq n m && Nat.beq v u))) h
  | .lss => .val (.bool (strLt n v m u)) h
  | .leq => .val (.bool (!strLt m u n v)) h
  | .gtr => .val (.bool (strLt m u n v)) h
  | .geq => .val (.bool (!strLt n v m u)) h
  | _ => .bad "text operation"

/-! ### Equality -/
/-- A part of a struct's cells. -/
def partA (P : Program) (t : TypeId) (l : List AV) (off : Nat) : Option AV :=
  match tAgg P t with
  | some (true, s) => some (.agg ((l.drop off).take s))
  | some (false, _) => l[off]?
  | none => none
def andO (a : Option Bool) (b : Unit → Option Bool) : Option Bool :=
  match a with
  | some true => b ()
  | r => r
/-- The fields' places, one behind the other. -/
def eqF (eq : TypeId → AV → AV → Option Bool) (P : Program) (xs ys : List AV) : List Field → Option Bool
  | [] => some true
  | f :: fs =>
    bif f.name == "_" then eqF eq P xs ys fs else
    match partA P f.type xs f.offset, partA P f.type ys f.offset with
    | some x, some y => andO (eq f.type x y) fun _ => eqF eq P xs ys fs
    | _, _ => none
def eqA (P : Program) (h : Hp) : Nat → TypeId → AV → AV → Option Bool
  | 0, _, _, _ => none
  | d + 1, t, x, y =>
    match P.underlying t, x, y with
    | some .bool, .bool a, .bool b => some (a == b)
    | some (.int _), .int j a, .int k b => bif kEq j k then some (iEq a b) else none
    | some .string, .str n v, .str m u => some (Nat.beq n m && Nat.beq v u)
    | some (.pointer _), .nilp, .nilp => some true
    | some (.pointer _), .nilp, .ptr _ _ => some false
    | some (.pointer _), .ptr _ _, .nilp => some false
    | some (.pointer e), .ptr a i, .ptr b j =>
      match tAgg P e with
      | some (_, Nat.succ _) =>
        bif Nat.beq a b then some (Nat.beq i j) else
        match h.get a, h.get b with
        | some (.cells _ _ n _ lo hi true _), some (.cells _ _ m _ lo' hi' true _) => bif Nat.beq hi lo && Nat.beq hi' lo' && Nat.blt 0 n && Nat.blt 0 m then some false else none
        | _, _ => none
      | _ => none
    | some (.interface _), .nili, .nili => some true
    | some (.interface _), .nili, .ifc _ _ => some false
    | some (.interface _), .ifc _ _, .nili => some false
    | some (.interface _), .nili, .opi => some false
    | some (.interface _), .opi, .nili => some false
    | some (.interface _), .ifc t v, .ifc u w =>
      bif Nat.beq t u then
        match P.info? t with
        | some i => bif i.comparable then eqA P h d t v w else none
        | none => none
      else some false
    | some (.struct fs), .agg xs, .agg ys => bif P.stoodInHeld t then none else eqF (eqA P h d) P xs ys fs.toList
    | some (.slice _), .nils, .nils => some true
    | some (.slice _), .nils, .sl .. => some false
    | some (.slice _), .sl .., .nils => some false
    | some (.slice _), .nils, .slz => some false
    | some (.slice _), .slz, .nils => some false
    | some (.map _ _), .nilm, .nilm => some true
    | some (.map _ _), .nilm, .map _ => some false
    | some (.map _ _), .map _, .nilm => some false
    | some (.func _ _ _), .nilf, .nilf => some true
    | some (.func _ _ _), .nilf, .fn .. => some false
    | some (.func _ _ _), .fn .., .nilf => some false
    | _, _, _ => none
/-- What stands ahead of == and != on interface values and structs. -/
def guardA (P : Program) (op : BinOp) (t : TypeId) (x y : Operand) (a b : AV) : Bool :=
  match op with
  | .eql | .neq =>
    match a, b with
    | .nili, .nili => (match x with | .const _ => true | _ => false) || (match y with | .const _ => true | _ => false)
    | .agg _, .agg _ => !P.eqGuardType P.depth t
    | _, _ => true
  | _ => true
def eqOr (r : Option Bool) (n : Bool) (h : Hp) : OR := oo r (.bad "==") fun r => .val (.bool (ob n r (!r))) h
def binS (op : BinOp) (P : Program) (t : TypeId) (a b : AV) (h : Hp) : OR :=
  avStr a (match op with
    | .eql => eqOr (eqA P h 20 t a b) false h
    | .neq => eqOr (eqA P h 20 t a b) true h
    | _ => .bad "operator") fun n v => avStr b (.bad "text operator") fun m u => strOp op n v m u h
def isShift (op : BinOp) : Bool := (BinOp.rec (motive := fun _ => Bool) false false false false false false false false true true false false false false false false false (op))
def binA (P : Program) (op : BinOp) (t : TypeId) (a b : AV) (h : Hp) : OR :=
  avInt a (binS op P t a b h) fun k x => avInt b (.bad "operator") fun k' y => ob (isShift op) (ob (kEq k k') (.bad "kinds") (intOp op k x y h)) (shiftOp op k x y h)
def uNeg (a : AV) (h : Hp) : OR := avInt a (.bad "unary operator") fun k n => wrapI k (subI 0 n) h
def uNot (a : AV) (h : Hp) : OR := avBool a (.bad "unary operator") fun b => .val (.bool (ob b true false)) h
def uBad (_ : AV) (_ : Hp) : OR := .bad "unary operator"
def unA (op : UnOp) (a : AV) (h : Hp) : OR := (UnOp.rec (motive := fun _ => AV → Hp → OR) uNeg uBad uNot uBad (op)) a h

/-! ### Texts -/
def strAt (n v i : Nat) : Nat := v / 256 ^ (n - 1 - i) % 256
def strCut (n v l h : Nat) : AV := .str (h - l) (v / 256 ^ (n - h) % 256 ^ (h - l))
def strBytes (n v : Nat) : Nat → List Nat
  | 0 => []
  | k + 1 => strAt n v (n - (k + 1)) :: strBytes n v k
def byteA (b : Nat) : AV := .int .u8 (.ofNat b)
/-- A row of byte cells as a number. -/
def ofBytes : List AV → Nat → Option Nat
  | [], a => some a
  | .int .u8 (.ofNat b) :: l, a => bif Nat.blt b 256 then ofBytes l (a * 256 + b) else none
  | _, _ => none
/-- The first place of a byte; n: none. -/
def idxB (n v c : Nat) : Nat → Option Nat
  | 0 => none
  | k + 1 => bif Nat.beq (strAt n v (n - (k + 1))) c then some (n - (k + 1)) else idxB n v c k
def cntB (n v c : Nat) : Nat → Nat
  | 0 => 0
  | k + 1 => (bif Nat.beq (strAt n v (n - (k + 1))) c then 1 else 0) + cntB n v c k
def idxS (n v m u : Nat) : Nat → Nat → Option Nat
  | 0, _ => none
  | k + 1, i => bif Nat.beq (v / 256 ^ (n - (i + m)) % 256 ^ m) u then some i else idxS n v m u k (i + 1)

/-! ### Slices -/
def intN (v : AV) : Option Nat := avInt v none fun _ n => oi n some fun _ => none
def optN : Option AV → Nat → Option Nat
  | none, d => some d
  | some (.int _ (.ofNat n)), _ => some n
  | _, _ => none
/-- A cut of a slice whose capacity is at least lo. -/
def cutSl (b o n lo : Nat) (ex : Bool) (s : Nat) (l h m : Option AV) : Option AV :=
  match optN l 0, optN h n with
  | some l, some h =>
    match m with
    | none =>
      bif Nat.ble l h && Nat.ble h lo then
        bif Nat.beq l 0 then some (.sl b o h lo ex s)
        else bif Nat.blt l lo then some (.sl b (o + l * s) (h - l) (lo - l) ex s)
        else bif ex then some (.sl b o (h - l) (lo - l) ex s) else some .slz
      else none
    | some m =>
      match intN m with
      | some m =>
        bif Nat.ble l h && Nat.ble h m && Nat.ble m lo then
          bif Nat.beq l m then some (.sl b o (h - l) (m - l) true s) else some (.sl b (bif Nat.beq l 0 then o else o + l * s) (h - l) (m - l) true s)
        else none
      | none => none
  | _, _ => none
/-- A third bound stands behind a second one. -/
def okHM (h m : Option AV) : Bool :=
  match m, h with
  | some _, none => false
  | _, _ => true
/-- So many cells are there. -/
def fits (h : Hp) (b n : Nat) : Bool :=
  match h.get b with
  | some (.cells _ _ k _ _ _ _ _) => Nat.ble n k
  | _ => false
def sliceA (P : Program) (t : TypeId) (x : AV) (l h m : Option AV) (H : Hp) : Option AV :=
  ob (okHM h m) none <|
  match P.underlying t, x, m with
  | some .string, .str n v, none =>
    match optN l 0, optN h n with
    | some l, some h => bif Nat.ble l h && Nat.ble h n then some (strCut n v l h) else none
    | _, _ => none
  | some (.slice e), .sl b o n lo ex s, m => match tAgg P e with
    | some (_, s') => bif Nat.beq s s' then cutSl b o n lo ex s l h m else none
    | none => none
  | some (.slice e), .nils, m => match optN l 0, optN h 0, optN m 0, tAgg P e with
    | some 0, some 0, some 0, some _ => some .nils
    | _, _, _, _ => none
  | some (.slice e), .slz, none => match optN l 0, optN h 0, tAgg P e with
    | some 0, some 0, some _ => some .slz
    | _, _, _ => none
  | some (.array n e), .ptr b o, m => match tAgg P e with
    | some (_, s) => bif fits H b (o + n * s) && Nat.blt n big63 then cutSl b o n n true s l h m else none
    | none => none
  | some (.pointer a), .ptr b o, m => match P.underlying a with
    | some (.array n e) => match tAgg P e with
      | some (_, s) => bif fits H b (o + n * s) && Nat.blt n big63 then cutSl b o n n true s l h m else none
      | none => none
    | _ => none
  | _, _, _ => none
def addO (o n : Nat) : Nat := ob (Nat.beq n 0) (Nat.add o n) o
/-- What is walked over: a slice (true) or an array of so many, and the elements' size. -/
def seqT (P : Program) (t : TypeId) : Option (Bool × Nat × Nat) :=
  match P.underlying t with
  | some (.slice e) => match tAgg P e with
    | some (_, s) => some (true, 0, s)
    | none => none
  | some (.array n e) => match tAgg P e with
    | some (_, s) => some (false, n, s)
    | none => none
  | _ => none
def ptrAt (b o i n s : Nat) : Option AV := ob (Nat.blt i n) none (fN (addO o (Nat.mul i s)) fun o => some (.ptr b o))
def idxAddr (P : Program) (t : TypeId) (x ix : AV) : Option AV :=
  oo (seqT P t) none fun g => oo (intN ix) none fun i =>
    ob g.1 (avPtr x none fun b o => ptrAt b o i g.2.1 g.2.2) (avSl x none fun b o n _ _ s => ob (Nat.beq s g.2.2) none (ptrAt b o i n s))
def isStr (P : Program) (t : TypeId) : Bool :=
  match P.underlying t with
  | some .string => true
  | _ => false
def arrT (P : Program) (t : TypeId) : Option (Nat × TypeId × Nat) :=
  match P.underlying t with
  | some (.array n e) => match tAgg P e with
    | some (_, s) => some (n, e, s)
    | none => none
  | _ => none
def indexA (P : Program) (t : TypeId) (x ix : AV) : Option AV :=
  oo (intN ix) none fun i => ob (isStr P t)
    (oo (arrT P t) none fun g => avAgg x none fun l => ob (Nat.blt i g.1) none (partA P g.2.1 l (i * g.2.2)))
    (avStr x none fun n v => ob (Nat.blt i n) none (fN (strAt n v i) fun b => some (byteA b)))
def fieldOf (P : Program) (t : TypeId) (f : Nat) : Option Field :=
  match P.underlying t with
  | some (.struct fs) => fs[f]?
  | _ => none
/-- A field's place, where the field has a size. -/
def fOff (P : Program) (t : TypeId) (f : Nat) : Option Nat :=
  match fieldOf P t f with
  | some f => match tAgg P f.type with
    | some (_, Nat.succ _) => some f.offset
    | _ => none
  | none => none
def fieldAddrA (P : Program) (t : TypeId) (x : AV) (f : Nat) : Option AV := oo (fOff P t f) none fun n => avPtr x none fun b o => fN (addO o n) fun o => some (.ptr b o)

/-! ### Making -/
def setL : Nat → List AV → List AV → List AV
  | _, [], l => l
  | i, v :: vs, l => setL (i + 1) vs (l.set i v)
def fillA (pl : Nat → Option (Nat × Nat)) (l : List AV) : List (Nat × AV) → Option (List AV)
  | [] => some l
  | (i, v) :: ps =>
    match pl i with
    | some (off, s) => bif Nat.beq v.cells.length s && Nat.ble (off + s) l.length then fillA pl (setL off v.cells l) ps else none
    | none => none
def placesA (P : Program) (fs : Array Field) (i : Nat) : Option (Nat × Nat) :=
  match fs[i]? with
  | some f => match tAgg P f.type with
    | some (_, s) => some (f.offset, s)
    | none => none
  | none => none
/-- Each field's type is known. -/
def fieldsOk (P : Program) (t : TypeId) : Bool :=
  match P.underlying t with
  | some (.struct fs) => fs.toList.all fun f => (tAgg P f.type).isSome
  | _ => true
def buildA (P : Program) (t : TypeId) (ps : List (Nat × AV)) : Option AV :=
  ob (fieldsOk P t) none <|
  match P.underlying t, zeroA P t with
  | some (.struct fs), some z => (fillA (placesA P fs) z.cells ps).map .agg
  | some (.array _ e), some z => match tAgg P e with
    | some (_, s) => (fillA (fun i => some (i * s, s)) z.cells ps).map .agg
    | none => none
  | _, _ => none
def repl (l : List AV) : Nat → List AV
  | 0 => []
  | n + 1 => l ++ repl l n
/-- n elements, all zero: a row. -/
def zeros (e : TypeId) (n : Nat) (z : List AV) : Blk :=
  match z with
  | [v] => .cells .e (some v) n e 0 0 true []
  | z => rowV e (repl z n)

/-! ### Maps -/
/-- The value of a key; every key that is there can be compared with it, one alone is it. -/
def findK (eq : AV → AV → Option Bool) (k : AV) : List (AV × AV) → Option (Option AV)
  | [] => some none
  | (k', v) :: es =>
    match eq k k' with
    | some true => (match findK eq k es with
      | some none => some (some v)
      | _ => none)
    | some false => findK eq k es
    | none => none
/-- Keys that may be hashed: texts, numbers, bools, structs of these. -/
def keyOk (P : Program) : Nat → TypeId → AV → Bool
  | 0, _, _ => false
  | d + 1, t, k => match P.underlying t, k with
    | some .bool, _ => true
    | some (.int _), _ => true
    | some .string, _ => true
    | some (.struct fs), .agg l => fs.toList.all fun f => f.name == "_" || (match partA P f.type l f.offset with
      | some x => keyOk P d f.type x
      | none => false)
    | _, _ => false
/-- Another value for the key k, which is there. -/
def setK (k v : AV) : List (AV × AV) → Option (List (AV × AV))
  | [] => none
  | e :: es => bif AV.beq k e.1 then some ((k, v) :: es) else (setK k v es).map (e :: ·)
def dropK (k : AV) : List (AV × AV) → Option (List (AV × AV))
  | [] => none
  | e :: es => bif AV.beq k e.1 then some es else (dropK k es).map (e :: ·)
def mapKV (P : Program) (t : TypeId) : Option (TypeId × TypeId) :=
  match P.underlying t with
  | some (.map k v) => some (k, v)
  | _ => none
/-- The value of a key. -/
def findE (P : Program) (h : Hp) (kt : TypeId) (k : AV) (es : List (AV × AV)) : Option (Option AV) := ob (keyOk P 5 kt k) none (findK (eqA P h 20 kt) k es)
def lookupA (P : Program) (t : TypeId) (m k : AV) (ok : Bool) (h : Hp) : Option AV :=
  match mapKV P t with
  | some (kt, vt) =>
    match (match m with
      | .nilm => some []
      | .map b => match h.get b with
        | some (.map es _) => some es
        | _ => none
      | _ => none : Option (List (AV × AV))) with
    | some es =>
      match findE P h kt k es with
      | some (some v) => some (bif ok then .tup [v, .bool true] else v)
      | some none => match zeroA P vt with
        | some z => some (bif ok then .tup [z, .bool false] else z)
        | none => none
      | none => none
    | none => none
  | none => none
def mapUpd (P : Program) (t : TypeId) (m k v : AV) (h : Hp) : Option Hp :=
  match mapKV P t, m with
  | some (kt, _), .map b =>
    match h.get b with
    | some (.map es c) =>
      match findE P h kt k es with
      | some (some _) => (setK k v es).map fun es => h.set b (.map es c)
      | some none => bif simpleK k then fN (Nat.succ c) fun c => some (h.set b (.map ((k, v) :: es) c)) else none
      | none => none
    | _ => none
  | _, _ => none
def mapDel (P : Program) (t : TypeId) (m k : AV) (h : Hp) : Option Hp :=
  match mapKV P t, m with
  | some (kt, _), .nilm => bif keyOk P 5 kt k then some h else none
  | some (kt, _), .map b =>
    match h.get b with
    | some (.map es c) =>
      match findE P h kt k es with
      | some (some _) => (dropK k es).map fun es => h.set b (.map es c)
      | some none => some h
      | none => none
    | _ => none
  | _, _ => none

/-! ### append, copy -/
def maxNeed : Nat := 16777216
/-- The cells that are appended: some: of how many elements. -/
def appended (P : Program) (e : TypeId) (s : Nat) (mk : Bool) (x : AV) (h : Hp) : Option (Nat × List (Option AV)) :=
  bif mk then
    match x, zeroC P e with
    | .int _ (.ofNat n), some z => bif Nat.blt n maxNeed then some (n, (repl z n).map some) else none
    | _, _ => none
  else match x with
    | .nils => some (0, [])
    | .slz => some (0, [])
    | .sl b o n _ _ s' => bif Nat.beq s s' then
        match h.get b with
        | some (.cells c d k e' lo hi w sib) => some (n, (Blk.cells c d k e' lo hi w sib).rdo o (n * s))
        | _ => none
      else none
    | .str n v => bif Nat.beq s 1 then some (n, (strBytes n v n).map fun b => some (byteA b)) else none
    | _ => none
/-- Is a number of zero elements appended? -/
def appMk (P : Program) (ts : Array TypeId) : Option Bool :=
  match ts[1]? with
  | some xt => (match P.underlying xt with
    | some (.int _) => some true
    | some _ => some false
    | none => none)
  | none => some false
def dels : List Nat → Hp → Hp
  | [], h => h
  | s :: l, h => dels l (h.del s)
def appendA (P : Program) (ts : Array TypeId) (args : List AV) (h : Hp) : OR :=
  match ts[0]?, args with
  | some st, [s, x] =>
    match elemSl P st with
    | some e =>
      match tAgg P e, P.info? e with
      | some (_, sz), some inf =>
        match (match appMk P ts with | some mk => (bif mk && !Nat.blt inf.bytes 65536 then none else appended P e sz mk x h) | none => none) with
        | none => .bad "append: what"
        | some (k, new) =>
          match s with
          | .nils =>
            match k with
            | 0 => .val .nils h
            | _ => bif Nat.blt k maxNeed && Nat.blt inf.bytes 65536 && allCells new && (zeroC P e).isSome then .val (.sl h.nx 0 k k false sz) (h.new (row e new)) else .bad "append: size"
          | .sl b o n lo ex sz' =>
            bif !Nat.beq sz sz' then .bad "append: element" else
            bif Nat.ble (n + k) lo then
              match stores h b (o + n * sz) new with
              | some h' => .val (.sl b o (n + k) lo ex sz) h'
              | none => .bad "append: store"
            else bif !(Nat.blt (n + k) maxNeed && Nat.blt inf.bytes 65536 && allCells new && (zeroC P e).isSome) then .bad "append: size" else
            match h.get b with
            | some (.cells c d m e' flo fhi w sib) =>
              let old := (Blk.cells c d m e' flo fhi w sib).rdo o (n * sz)
              bif ex then .val (.sl h.nx 0 (n + k) (n + k) false sz) (h.new (row e (old ++ new)))
              else bif !(Nat.beq o 0 && w && Nat.beq e e' && (Nat.ble fhi (n * sz) || Nat.beq flo fhi)) then .bad "append: stale" else
              .val (.sl h.nx 0 (n + k) (n + k) false sz)
                ((((dels sib h).set b (.cells c d (bif Nat.ble m (n * sz) then m else n * sz) e' flo fhi false [])).new (.cells (lays 0 (old ++ new) .e) none ((n + k) * sz) e flo fhi true [b])))
            | _ => .bad "append: no row"
          | .slz => match k with
            | 0 => .val .slz h
            | _ => .bad "append: somewhere"
          | _ => .bad "append: slice"
      | _, _ => .bad "append: type"
    | none => .bad "append: type"
  | _, _ => .bad "append: arguments"
def copyA (P : Program) (ts : Array TypeId) (args : List AV) (h : Hp) : OR :=
  match ts[0]?, args with
  | some st, [d, x] =>
    match elemSl P st with
    | some e =>
      match tAgg P e with
      | some (_, sz) =>
        match d, appended P e sz false x h with
        | .nils, some _ => .val (.int .i64 0) h
        | .slz, some _ => .val (.int .i64 0) h
        | .sl b o n _ _ sz', some (k, new) =>
          bif Nat.beq sz sz' then
            let m := Nat.min k n
            match stores h b o (new.take (m * sz)) with
            | some h' => .val (.int .i64 (.ofNat m)) h'
            | none => .bad "copy: store"
          else .bad "copy"
        | _, _ => .bad "copy"
      | none => .bad "copy"
    | none => .bad "copy"
  | _, _ => .bad "copy"
end
end Go.Proofs.YtmoejaloachlkaaGreatDoor.Ev
