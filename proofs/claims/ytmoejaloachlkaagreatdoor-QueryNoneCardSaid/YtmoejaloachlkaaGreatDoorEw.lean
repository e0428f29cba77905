/- The evaluator: operations, regions, code, calls. Definitions alone. -/
import Derived.Test.YtmoejaloachlkaaGreatDoorEv
namespace Go.Proofs.YtmoejaloachlkaaGreatDoor.Ev
open Go
noncomputable section

/-! ### Operands -/
def oTmp (t : Tmp) (r : T AV) : Option AV := r.get (Pos.of t)
def oConst (v : Value) (_ : T AV) : Option AV := AV.ofV 6 v
/-- How many package-level variables there are. -/
def gN : Nat := 6
def oGlob (g : Nat) (_ : T AV) : Option AV := ob (Nat.blt g gN) none (some (.ptr g 0))
def oFunc (f : FuncId) (_ : T AV) : Option AV := some (.fn f [] [])
def opnd (r : T AV) (x : Operand) : Option AV := (Operand.rec (motive := fun _ => T AV → Option AV) oTmp oConst oGlob oFunc (x)) r
def opndsS (x : Operand) (ih : T AV → Option (List AV)) (r : T AV) : Option (List AV) := oo (opnd r x) none fun v => oo (ih r) none fun l => some (v :: l)
def opndsL (l : List Operand) : T AV → Option (List AV) := List.rec (fun _ => some []) (fun x _ ih => opndsS x ih) l
def opnds (r : T AV) (l : List Operand) : Option (List AV) := opndsL l r
def partsA (r : T AV) : List (Nat × Operand) → Option (List (Nat × AV))
  | [] => some []
  | (i, x) :: l =>
    match opnd r x with
    | some v => (partsA r l).map ((i, v) :: ·)
    | none => none
def optA (r : T AV) : Option Operand → Option (Option AV)
  | none => some none
  | some x => (opnd r x).map some

/-! ### Functions without a body -/
def minN (a b : Nat) : Nat := bif Nat.ble a b then a else b
def ext (P : Program) (fn : Func) (args : List AV) (h : Hp) : OR :=
  bif fn.name == "internal/bytealg.IndexByteString" then
    match args with
    | [.str n v, .int .u8 (.ofNat c)] => match idxB n v (c % 256) n with
      | some i => .val (.int .i64 (.ofNat i)) h
      | none => .val (.int .i64 (-1)) h
    | _ => .bad "IndexByteString"
  else bif fn.name == "internal/bytealg.CountString" then
    match args with
    | [.str n v, .int .u8 (.ofNat c)] => .val (.int .i64 (.ofNat (cntB n v (c % 256) n))) h
    | _ => .bad "CountString"
  else bif fn.name == "internal/bytealg.abigen_runtime_cmpstring" then
    match args with
    | [.str n v, .str m u] => .val (.int .i64 (bif strLt n v m u then -1 else bif strLt m u n v then 1 else 0)) h
    | _ => .bad "cmpstring"
  else bif fn.name == "internal/abi.NoEscape" then
    match args with
    | [x] => .val x h
    | _ => .bad "NoEscape"
  else bif fn.name == "maps.clone" then
    match args with
    | [.ifc t (.map b)] => match h.get b with
      | some (.map es c) => .val (.ifc t (.map h.nx)) (h.new (.map es c))
      | _ => .bad "maps.clone"
    | _ => .bad "maps.clone"
  else bif fn.name == "math/bits.Add64" then
    match args with
    | [.int _ (.ofNat x), .int _ (.ofNat y), .int _ (.ofNat c)] =>
      bif Nat.ble c 1 then .val (.tup [.int .u64 (.ofNat ((x + y + c) % 18446744073709551616)), .int .u64 (.ofNat ((x + y + c) / 18446744073709551616))]) h else .bad "Add64"
    | _ => .bad "Add64"
  else bif fn.name == "internal/bytealg.MakeNoZero" then
    match args, fn.resultTypes[0]? with
    | [.int .i64 (.ofNat n)], some t =>
      match elemSl P t with
      | some e => bif Nat.blt n maxNeed then .val (.sl h.nx 0 n n false 1) (h.new (.cells .e none n e 0 0 true [])) else .bad "MakeNoZero"
      | none => .bad "MakeNoZero"
    | _, _ => .bad "MakeNoZero"
  else .bad ("no body: " ++ fn.name)

/-! ### Operations -/
def orV (h : Hp) (v : Option AV) : OR := oo v (.bad "operation") fun v => .val v h
def orB (w : String) : OR := .bad w
def callG (P : Program) (f : Nat) (args : List AV) (h : Hp) (fn : Func) : OR := oo fn.body (ext P fn args h) fun _ => ob (fn.name == "runtime.NumGoroutine") (.call f args h) (.bad "NumGoroutine")
def callA (P : Program) (f : Nat) (args : List AV) (h : Hp) : OR := oo P.funcs[f]? (.bad "no function") (callG P f args h)
/-- Along the fields of a struct that lies open. -/
def follA (P : Program) : List FieldStep → TypeId → AV → Option (TypeId × AV)
  | [], t, v => some (t, v)
  | s :: l, _, .agg cs => bif s.deref then none else
    match fieldOf P s.struct s.index with
    | some f => match partA P f.type cs f.offset with
      | some v => follA P l f.type v
      | none => none
    | none => none
  | _, _, _ => none
/-- The method of a dynamic type, and its receiver. -/
def methA (P : Program) (t : TypeId) (v : AV) (name : String) : Option (Nat × AV) :=
  match P.info? t with
  | some i =>
    match i.methods.find? (·.name == name) with
    | some m => match follA P m.path.toList t v, m.func with
      | some (xt, v), some (f, pr) => match P.underlying xt with
        | some (.pointer _) => bif pr then some (f, v) else none
        | some _ => bif pr then none else some (f, v)
        | none => none
      | _, _ => none
    | none => none
  | none => none
def lenO (P : Program) (t : TypeId) (x : AV) (h : Hp) : Option Nat :=
  match P.underlying t, x with
  | some (.array n _), _ => some n
  | some (.map _ _), .nilm => some 0
  | some (.map _ _), .map b => match h.get b with
    | some (.map es _) => some es.length
    | _ => none
  | some (.pointer a), .ptr _ _ => match P.underlying a with
    | some (.array n _) => some n
    | _ => none
  | _, _ => none
def lenZ (x : AV) : Option Nat :=
  match x with
  | .nils => some 0
  | .slz => some 0
  | _ => none
inductive LT where
  | str | sl | other
def lenT (P : Program) (t : TypeId) : LT :=
  match P.underlying t with
  | some .string => .str
  | some (.slice _) => .sl
  | _ => .other
def lenA (P : Program) (t : TypeId) (x : AV) (h : Hp) : Option Nat :=
  (LT.rec (motive := fun _ => Program → TypeId → AV → Hp → Option Nat) (fun _ _ x _ => avStr x none fun n _ => some n) (fun _ _ x _ => avSl x (lenZ x) fun _ _ n _ _ _ => some n) lenO (lenT P t)) P t x h
def minA (mx : Bool) : AV → List AV → Option AV
  | v, [] => some v
  | .int k a, .int _ b :: l => minA mx (.int k (bif (bif mx then iLt a b else iLt b a) then b else a)) l
  | _, _ => none
def isU8 (P : Program) (t : TypeId) : Bool :=
  match P.underlying t with
  | some (.int .u8) => true
  | _ => false
def isLen (b : Builtin) : Bool := match b with | .len => true | _ => false
def lenB (P : Program) (ts : Array TypeId) (args : List AV) (h : Hp) : OR := oo ts[0]? (.bad "len") fun t => oo (nth args 0) (.bad "len") fun x => oo (lenA P t x h) (.bad "len") fun n => fN n fun n => .val (.int .i64 (.ofNat n)) h
def builtinB (P : Program) (b : Builtin) (ts : Array TypeId) (args : List AV) (h : Hp) : OR :=
  match b with
  | .append => appendA P ts args h
  | .copy => copyA P ts args h
  | .len => lenB P ts args h
  | .cap =>
    match ts[0]?, args with
    | some t, .sl _ _ _ lo ex _ :: _ => match P.underlying t with
      | some (.slice _) => bif ex then .val (.int .i64 (.ofNat lo)) h else .bad "cap"
      | _ => .bad "cap"
    | some t, .nils :: _ => match P.underlying t with
      | some (.slice _) => .val (.int .i64 0) h
      | _ => .bad "cap"
    | _, _ => .bad "cap"
  | .clear =>
    match ts[0]?, args with
    | some t, x :: _ =>
      match x, P.underlying t with
      | .nilm, some (.map _ _) => .val undA h
      | .nils, some (.slice _) => .val undA h
      | .slz, some (.slice _) => .val undA h
      | .map b, some (.map _ _) => match h.get b with
        | some (.map _ c) => .val undA (h.set b (.map [] c))
        | _ => .bad "clear"
      | .sl b o n _ _ s, some (.slice e) =>
        match n with
        | 0 => .val undA h
        | _ => match zeroC P e, tAgg P e with
          | some z, some (_, s') => bif Nat.beq s s' then
              match stores h b o ((repl z n).map some) with
              | some h' => .val undA h'
              | none => .bad "clear"
            else .bad "clear"
          | _, _ => .bad "clear"
      | _, _ => .bad "clear"
    | _, _ => .bad "clear"
  | .delete =>
    match ts[0]?, args with
    | some t, [m, k] => match mapDel P t m k h with
      | some h' => .val undA h'
      | none => .bad "delete"
    | _, _ => .bad "delete"
  | .max =>
    match args with
    | x :: l => match minA true x l with
      | some v => .val v h
      | none => .bad "max"
    | _ => .bad "max"
  | .min =>
    match args with
    | x :: l => match minA false x l with
      | some v => .val v h
      | none => .bad "min"
    | _ => .bad "min"
  | .recover => .rcv
  | .unsafeSliceData =>
    match args with
    | [.nils] => .val .nilp h
    | [.sl b o _ lo _ _] => bif Nat.blt 0 lo then .val (.ptr b o) h else .bad "SliceData"
    | _ => .bad "SliceData"
  | .unsafeString =>
    match ts[0]?, args with
    | some _, [.nilp, .int _ (.ofNat 0)] => .val (.str 0 0) h
    | some t, [.ptr b o, .int _ (.ofNat n)] =>
      match n with
      | 0 => .val (.str 0 0) h
      | _ =>
        match P.underlying t, h.get b with
        | some (.pointer u), some (.cells c d k e lo hi true sib) =>
          bif isU8 P u && Nat.beq (P.underlyingId u) (P.underlyingId e) && Nat.beq (P.cellsOf e) 1 && Nat.ble (o + n) k && Nat.blt n big63 && Nat.ble lo hi then
            match (Blk.cells c d k e lo hi true sib).rds o n with
            | some l => match ofBytes l 0 with
              | some v =>
                let fz := bif Nat.beq lo hi then (o, o + n) else (minN lo o, bif Nat.ble hi (o + n) then o + n else hi)
                .val (.str n v) (h.set b (.cells c d k e fz.1 fz.2 true sib))
              | none => .bad "text of bytes"
            | none => .bad "text of bytes"
          else .bad "text of bytes"
        | _, _ => .bad "text of bytes"
    | _, _ => .bad "text of bytes"
  | _ => .bad "builtin"
def builtinA (P : Program) (b : Builtin) (ts : Array TypeId) (args : List AV) (h : Hp) : OR := ob (isLen b) (builtinB P b ts args h) (lenB P ts args h)
def convA (P : Program) (src dst : TypeId) (x : AV) (h : Hp) : OR :=
  match P.underlying src, P.underlying dst, x with
  | some _, some (.int k), .int _ n => wrapI k n h
  | some _, some .string, .str n v => .val (.str n v) h
  | some _, some (.slice e), .str n v =>
    match P.underlying e with
    | some (.int .u8) => bif Nat.blt n maxNeed then .val (.sl h.nx 0 n n false 1) (h.new (.cells (lays 0 ((strBytes n v n).map fun b => some (byteA b)) .e) none n e 1 0 true [])) else .bad "convert"
    | _ => .bad "convert"
  | some (.slice e), some .string, .nils => match P.underlying e with
    | some (.int .u8) => .val (.str 0 0) h
    | _ => .bad "convert"
  | some (.slice e), some .string, .slz => match P.underlying e with
    | some (.int .u8) => .val (.str 0 0) h
    | _ => .bad "convert"
  | some (.slice e), some .string, .sl b o n _ _ s =>
    match P.underlying e, h.get b with
    | some (.int .u8), some k => bif Nat.beq s 1 then
        match k.rds o n with
        | some l => match ofBytes l 0 with
          | some v => .val (.str n v) h
          | none => .bad "convert"
        | none => .bad "convert"
      else .bad "convert"
    | _, _ => .bad "convert"
  | some (.pointer t), some .unsafePointer, .ptr b o =>
    match tAgg P t, h.get b with
    | some (_, Nat.succ _), some (.cells _ _ n _ _ _ _ _) => bif Nat.blt o n then .val (.ptr b o) h else .bad "pointer seen otherwise"
    | _, _ => .bad "pointer seen otherwise"
  | some .unsafePointer, some (.pointer u), .ptr b o =>
    match h.get b with
    | some (.cells _ _ n e _ _ _ _) =>
      bif (tAgg P u).isSome && liesAt P P.depth e (n / P.cellsOf e) o u 1 then .val (.ptr b o) h else .bad "pointer seen otherwise"
    | _ => .bad "pointer seen otherwise"
  | _, _, _ => .bad "convert"
def opMove (x : Operand) (P : Program) (r : T AV) (h : Hp) : OR := orV h (opnd r x)
def opAssign (x : Operand) (P : Program) (r : T AV) (h : Hp) : OR := orV h (opnd r x)
def opPick (c a b : Operand) (P : Program) (r : T AV) (h : Hp) : OR := oo (opnd r c) (orB "pick") fun c => avBool c (orB "pick") fun c => orV h (ob c (opnd r b) (opnd r a))
def opAlloc (e : TypeId) (P : Program) (_r : T AV) (h : Hp) : OR := oo (zeroC P e) (orB "alloc") fun z => fN h.nx fun b => .val (.ptr b 0) (h.new (rowV e z))
def opBox (e : TypeId) (x : Operand) (_P : Program) (r : T AV) (h : Hp) : OR := oo (opnd r x) (orB "box") fun v => ob (v.cells.all AV.isCell) (orB "box") (fN h.nx fun b => .val (.ptr b 0) (h.new (rowV e v.cells)))
def opBuild (t : TypeId) (ps : Array (Nat × Operand)) (P : Program) (r : T AV) (h : Hp) : OR :=
  match partsA r ps.toList with
    | some l => match buildA P t l with
      | some v => .val v h
      | none => .bad "build"
    | none => .bad "build"
def opBuildSlice (t : TypeId) (n : Nat) (ps : Array (Nat × Operand)) (P : Program) (r : T AV) (h : Hp) : OR :=
  oo (elemSl P t) (orB "buildSlice") fun e => oo (partsA r ps.toList) (orB "buildSlice") fun l => oo (tAgg P e) (orB "buildSlice") fun g => oo (zeroC P e) (orB "buildSlice") fun z =>
    ob (both (Nat.blt n maxNeed) (Nat.blt (n * g.2) maxNeed)) (orB "buildSlice") <| oo (fillA (fun i => some (i * g.2, g.2)) (repl z n) l) (orB "buildSlice") fun cs => ob (cs.all AV.isCell) (orB "buildSlice") (fN h.nx fun b => .val (.sl b 0 n n true g.2) (h.new (rowV e cs)))
def opLoad (t : TypeId) (a : Operand) (P : Program) (r : T AV) (h : Hp) : OR := oo (opnd r a) (orB "load") fun a => orV h (load P t a h)
def opStore (t : TypeId) (a x : Operand) (P : Program) (r : T AV) (h : Hp) : OR := oo (opnd r a) (orB "store") fun a => oo (opnd r x) (orB "store") fun v => oo (store P t a v h) (orB "store") fun h => .val undA h
def opNilCheck (x : Operand) (P : Program) (r : T AV) (h : Hp) : OR := oo (opnd r x) (orB "nilCheck") fun x => avPtr x (avFn x (orB "nilCheck") fun f a c => .val (.fn f a c) h) fun b o => .val (.ptr b o) h
def opBinOp (op : BinOp) (t : TypeId) (x y : Operand) (_u : TypeId) (P : Program) (r : T AV) (h : Hp) : OR :=
  oo (opnd r x) (orB "binOp") fun a => oo (opnd r y) (orB "binOp") fun b => ob (guardA P op t x y a b) (orB "== guard") (binA P op t a b h)
def opUnOp (op : UnOp) (_t : TypeId) (x : Operand) (P : Program) (r : T AV) (h : Hp) : OR := oo (opnd r x) (orB "unOp") fun a => unA op a h
def opConvert (s d : TypeId) (x : Operand) (P : Program) (r : T AV) (h : Hp) : OR :=
  match opnd r x with
    | some v => convA P s d v h
    | none => .bad "convert"
def opMakeInterface (t : TypeId) (x : Operand) (P : Program) (r : T AV) (h : Hp) : OR :=
  match opnd r x, P.underlying t with
    | some _, some (.interface _) => .bad "makeInterface"
    | some v, some _ => .val (.ifc t v) h
    | _, _ => .bad "makeInterface"
def opMakeFunc (f : Fn) (a c : Array Operand) (P : Program) (r : T AV) (h : Hp) : OR :=
  match f, opnds r a.toList, opnds r c.toList with
    | .func g, some a, some c => .val (.fn g a c) h
    | _, _, _ => .bad "makeFunc"
def opMakeMap (t : TypeId) (x : Option Operand) (P : Program) (r : T AV) (h : Hp) : OR :=
  match P.underlying t, optA r x with
    | some (.map _ _), some none => .val (.map h.nx) (h.new (.map [] 0))
    | some (.map _ _), some (some (.int _ _)) => .val (.map h.nx) (h.new (.map [] 0))
    | _, _ => .bad "makeMap"
def opMakeSlice (t : TypeId) (l c : Operand) (P : Program) (r : T AV) (h : Hp) : OR :=
  match elemSl P t, opnd r l, opnd r c with
    | some e, some (.int _ (.ofNat l)), some (.int _ (.ofNat c)) => match tAgg P e, zeroC P e, P.info? e with
      | some (_, s), some z, some i => bif Nat.ble l c && Nat.blt c maxNeed && Nat.blt i.bytes 65536 && Nat.blt 0 s then .val (.sl h.nx 0 l c true s) (h.new (zeros e c z)) else .bad "makeSlice"
      | _, _, _ => .bad "makeSlice"
    | _, _, _ => .bad "makeSlice"
def opSlice (t : TypeId) (x : Operand) (lo hi mx : Option Operand) (P : Program) (r : T AV) (h : Hp) : OR :=
  match opnd r x, optA r lo, optA r hi, optA r mx with
    | some x, some lo, some hi, some mx => match sliceA P t x lo hi mx h with
      | some v => .val v h
      | none => .bad "slice"
    | _, _, _, _ => .bad "slice"
def opFieldAddr (t : TypeId) (x : Operand) (f : Nat) (P : Program) (r : T AV) (h : Hp) : OR := oo (opnd r x) (orB "fieldAddr") fun x => orV h (fieldAddrA P t x f)
def opField (t : TypeId) (x : Operand) (f : Nat) (P : Program) (r : T AV) (h : Hp) : OR :=
  match opnd r x, fieldOf P t f with
    | some (.agg l), some f => match partA P f.type l f.offset with
      | some v => .val v h
      | none => .bad "field"
    | _, _ => .bad "field"
def opIndexAddr (t : TypeId) (x i : Operand) (P : Program) (r : T AV) (h : Hp) : OR := oo (opnd r x) (orB "indexAddr") fun x => oo (opnd r i) (orB "indexAddr") fun i => orV h (idxAddr P t x i)
def opIndex (t : TypeId) (x i : Operand) (P : Program) (r : T AV) (h : Hp) : OR := oo (opnd r x) (orB "index") fun x => oo (opnd r i) (orB "index") fun i => orV h (indexA P t x i)
def opLookup (t : TypeId) (m k : Operand) (ok : Bool) (P : Program) (r : T AV) (h : Hp) : OR :=
  match opnd r m, opnd r k with
    | some m, some k => match lookupA P t m k ok h with
      | some v => .val v h
      | none => .bad "lookup"
    | _, _ => .bad "lookup"
def opMapUpdate (t : TypeId) (m k x : Operand) (P : Program) (r : T AV) (h : Hp) : OR :=
  match opnd r m, opnd r k, opnd r x with
    | some m, some k, some v => match mapUpd P t m k v h with
      | some h' => .val undA h'
      | none => .bad "mapUpdate"
    | _, _, _ => .bad "mapUpdate"
def opInsert (t : TypeId) (m k x : Operand) (P : Program) (r : T AV) (h : Hp) : OR :=
  match opnd r m, opnd r k, opnd r x with
    | some m, some k, some v => match mapUpd P t m k v h with
      | some h' => .val undA h'
      | none => .bad "insert"
    | _, _, _ => .bad "insert"
def opRange (t : TypeId) (x : Operand) (P : Program) (r : T AV) (h : Hp) : OR :=
  match P.underlying t, opnd r x with
    | some (.map _ _), some .nilm => .val (.ptr h.nx 0) (h.new (.miter none 0 []))
    | some (.map _ _), some (.map b) => match h.get b with
      | some (.map _ c) => .val (.ptr h.nx 0) (h.new (.miter (some b) c []))
      | _ => .bad "range"
    | _, _ => .bad "range"
def memK (k : AV) (vis : List AV) : Bool := vis.any (AV.beq k)
/-- An iterator's next step: whichever entry. -/
def nextA (i b since : Nat) (vis : List AV) (h : Hp) : List (AV × AV) → OR
  | [] => .val (.tup [.bool false]) h
  | [e] => .val (.tup [.bool true, e.1, e.2]) (h.set i (.miter (some b) since (e.1 :: vis)))
  | l => .alts (l.map fun e => (.tup [.bool true, e.1, e.2], h.set i (.miter (some b) since (e.1 :: vis))))
def opNext (it : Operand) (s : Bool) (P : Program) (r : T AV) (h : Hp) : OR :=
  match opnd r it with
    | some (.ptr i 0) => match h.get i with
      | some (.miter none _ _) => bif s then .bad "next" else .val (.tup [.bool false]) h
      | some (.miter (some b) since vis) => match h.get b with
        | some (.map es c) => bif Nat.beq c since && !s then nextA i b since vis h (es.filter (fun e => !memK e.1 vis)) else .bad "next"
        | _ => .bad "next"
      | _ => .bad "next"
    | _ => .bad "next"
def opEntry (it : Operand) (P : Program) (r : T AV) (h : Hp) : OR :=
  match opnd r it with
    | some (.ptr i 0) => match h.get i with
      | some (.miter (some b) since (k :: _)) => match h.get b with
        | some (.map es c) => bif Nat.beq c since then
            match es.find? (fun e => AV.beq k e.1) with
            | some e => .val (.tup [e.1, e.2]) h
            | none => .bad "entry"
          else .bad "entry"
        | _ => .bad "entry"
      | _ => .bad "entry"
    | _ => .bad "entry"
def opTypeAssert (x : Operand) (_t a : TypeId) (ok : Bool) (P : Program) (r : T AV) (h : Hp) : OR :=
  match opnd r x, P.underlying a with
    | some (.ifc u v), some (.interface _) => .bad "typeAssert"
    | some .nili, some (.interface _) => .bad "typeAssert"
    | some .nili, some _ => bif ok then
        match zeroA P a with
        | some z => .val (.tup [z, .bool false]) h
        | none => .bad "typeAssert"
      else .bad "typeAssert"
    | some (.ifc u v), some _ =>
      bif Nat.beq u a then .val (bif ok then .tup [v, .bool true] else v) h
      else bif ok then
        match zeroA P a with
        | some z => .val (.tup [z, .bool false]) h
        | none => .bad "typeAssert"
      else .bad "typeAssert"
    | _, _ => .bad "typeAssert"
def opExtract (x : Operand) (i : Nat) (P : Program) (r : T AV) (h : Hp) : OR := oo (opnd r x) (orB "extract") fun x => avTup x (orB "extract") fun l => orV h (nth l i)
def callV (P : Program) (args : List AV) (h : Hp) (f : AV) : OR := avFn f (match f with | .yld l => .rnd l args h | _ => .bad "call: value") fun g a cp => callA P g (a ++ args ++ cp) h
def callI (P : Program) (args : List AV) (h : Hp) (name : String) (x : AV) : OR := avIfc x (.bad "call: interface") fun t v => oo (methA P t v name) (.bad "call: method") fun m => callA P m.1 (m.2 :: args) h
def cValue (f : Operand) (P : Program) (_ts : Array TypeId) (r : T AV) (h : Hp) (args : List AV) : OR := oo (opnd r f) (.bad "call") (callV P args h)
def cInvoke (x : Operand) (name : String) (P : Program) (_ts : Array TypeId) (r : T AV) (h : Hp) (args : List AV) : OR := oo (opnd r x) (.bad "call") (callI P args h name)
def cBuiltin (b : Builtin) (P : Program) (ts : Array TypeId) (_r : T AV) (h : Hp) (args : List AV) : OR := builtinA P b ts args h
def opCall (c : Call) (P : Program) (r : T AV) (h : Hp) : OR :=
  oo (opnds r c.args.toList) (.bad "call: arguments") ((Callee.rec (motive := fun _ => Program → Array TypeId → T AV → Hp → List AV → OR) cValue cInvoke cBuiltin (c.callee)) P c.argTypes r h)
def opDefer (c : Call) (P : Program) (r : T AV) (h : Hp) : OR :=
  match c.callee, opnds r c.args.toList with
    | .value f, some args => match opnd r f with
      | some (.fn g a cp) => match P.funcs[g]? with
        | some fn => bif fn.body.isSome && !(fn.name == "runtime.NumGoroutine") then .dfr (.fn g (a ++ args ++ cp)) else .bad "defer"
        | none => .bad "defer"
      | _ => .bad "defer"
    | _, _ => .bad "defer"
def opPanic (x : Operand) (P : Program) (r : T AV) (h : Hp) : OR :=
  match opnd r x with
    | some (.ifc t v) => .pan (.ifc t v) h
    | _ => .bad "panic"
def opNone (_P : Program) (_r : T AV) (_h : Hp) : OR := .bad "operation"
/-- An operation over the registers r and the heap h. -/
def opA (P : Program) (r : T AV) (o : Oper) (h : Hp) : OR :=
  (Op.rec (motive := fun _ => Program → T AV → Hp → OR) opMove opAssign opPick opAlloc opBox opBuild opBuildSlice opInsert opLoad opStore (fun _ => opNone) (fun _ => opNone) opNilCheck opBinOp opUnOp opConvert (fun _ _ => opNone) opMakeInterface opMakeFunc opMakeMap (fun _ _ => opNone) opMakeSlice opSlice opFieldAddr opField opIndexAddr opIndex opLookup opMapUpdate (fun _ _ _ => opNone) (fun _ _ _ _ => opNone) opRange opNext opEntry opTypeAssert opExtract opCall (fun _ => opNone) opDefer opPanic (fun _ _ => opNone) (fun _ _ _ => opNone) (fun _ _ => opNone) (o.op)) P r h

/-! ### One of several ways -/
def eqT (t : T AV) : T AV → Bool := T.rec (fun u => T.rec true (fun _ _ _ _ _ => false) u) (fun v _ _ ihl ihr u => T.rec false (fun v' l' r' _ _ => ob (oo v (oo v' true fun _ => false) fun a => oo v' false fun b => AV.beq a b) false (ob (ihl l') false (ihr r'))) u) t
def eqNs : List Nat → List Nat → Bool
  | [], [] => true
  | a :: l, b :: m => Nat.beq a b && eqNs l m
  | _, _ => false
def takeE (e : AV × AV) : List (AV × AV) → Option (List (AV × AV))
  | [] => none
  | e' :: l => bif AV.beq e.1 e'.1 && AV.beq e.2 e'.2 then some l else (takeE e l).map (e' :: ·)
def permE : List (AV × AV) → List (AV × AV) → Bool
  | [], [] => true
  | e :: l, m => (match takeE e m with
    | some m' => permE l m'
    | none => false)
  | _, _ => false
def optB (a b : Option AV) : Bool :=
  match a, b with
  | none, none => true
  | some a, some b => AV.beq a b
  | _, _ => false
/-- Two blocks of which the second is what the first is. -/
def eqBlk : Blk → Blk → Bool
  | .cells c d n e lo hi w s, .cells c' d' n' e' lo' hi' w' s' => Nat.beq n n' && Nat.beq e e' && Nat.beq lo lo' && Nat.beq hi hi' && (w == w') && eqNs s s' && optB d d' && eqT c c'
  | .map es c, .map es' c' => Nat.beq c c' && permE es es'
  | .miter (some m) s v, .miter (some m') s' v' => Nat.beq m m' && Nat.beq s s' && AV.beqs v v'
  | .dfr none, .dfr none => true
  | .dfr (some []), .dfr (some []) => true
  | _, _ => false
def tJoin (t : T Blk) : T Blk → T Blk := T.rec (fun _ => .e) (fun v _ _ ihl ihr u => T.rec .e (fun v' l' r' _ _ => .n (oo v none fun a => oo v' none fun b => ob (eqBlk a b) none (some a)) (ihl l') (ihr r')) u) t
def joinH (h h' : Hp) : Hp := ⟨tJoin h.t h'.t, bif Nat.ble h.nx h'.nx then h'.nx else h.nx⟩
def eqPE : List PE → List PE → Bool
  | [], [] => true
  | a :: l, b :: m => AV.beq a.v b.v && (a.rcd == b.rcd) && eqPE l m
  | _, _ => false
def joinC : CR → CR → CR
  | .ret v h, .ret v' h' => bif AV.beq v v' then .ret v (joinH h h') else .bad "orders: values"
  | .pan c h, .pan c' h' => bif eqPE c c' then .pan c (joinH h h') else .bad "orders: panics"
  | .bad w, _ => .bad w
  | _, .bad w => .bad w
  | _, _ => .bad "orders: outcomes"
def joinL : List CR → CR
  | [] => .bad "orders: none"
  | [c] => c
  | c :: l => joinC c (joinL l)

/-! ### Regions -/
abbrev CallF := Nat → List AV → Hp → CR
abbrev RndF := Nat → List AV → Hp → CR
abbrev XK := X → T AV → Hp → Q → CR
abbrev SF := T AV → Hp → Q → XK → CR
def putD (d : Option Nat) (v : AV) (r : T AV) : T AV := oo d r fun d => r.put (some v) (Pos.of d)
/-- What an operation's outcome leads to. -/
abbrev OF := CallF → RndF → Oper → SF → T AV → Hp → Q → XK → CR
def kBad (w : String) : OF := fun _ _ _ _ _ _ _ _ => .bad w
def kVal (v : AV) (h : Hp) : OF := fun _ _ o ih r _ q k => tick (ih (putD o.dst v r) h q k)
def kPan (v : AV) (h : Hp) : OF := fun _ _ _ _ r _ q k => k (.pan [⟨v, false⟩]) r h q
def kDfr (d : AD) : OF := fun _ _ o ih r h q k => oo q.rd (tick (ih (putD o.dst undA r) h ⟨q.sz, d :: q.df, q.rc, q.rd⟩ k)) fun _ => .bad "defer in a round"
def kRcv : OF := fun _ _ _ _ _ _ _ _ => .bad "recover"
/-- What a call's outcome leads to. -/
def cBad (w : String) : Oper → SF → T AV → Q → XK → CR := fun _ _ _ _ _ => .bad w
def cRet (v : AV) (h : Hp) : Oper → SF → T AV → Q → XK → CR := fun o ih r q k => tick (ih (putD o.dst v r) h q k)
def cPan (ch : List PE) (h : Hp) : Oper → SF → T AV → Q → XK → CR := fun _ _ r q k => k (.pan ch) r h q
def onCR (c : CR) : Oper → SF → T AV → Q → XK → CR := (CR.rec (motive := fun _ => Oper → SF → T AV → Q → XK → CR) cBad cRet cPan (c))
def kCall (f : Nat) (args : List AV) (h : Hp) : OF := fun cf _ o ih r _ q k => onCR (cf f args h) o ih r q k
def kRnd (l : Nat) (args : List AV) (h : Hp) : OF := fun _ rf o ih r _ q k => onCR (rf l args h) o ih r q k
def kAlts (l : List (AV × Hp)) : OF := fun _ _ o ih r _ q k => joinL (l.map fun p => tick (ih (putD o.dst p.1 r) p.2 q k))
def onOR (c : OR) : OF := (OR.rec (motive := fun _ => OF) kBad kVal kPan kDfr kRcv kCall kRnd kAlts (c))
def opS (P : Program) (cf : CallF) (rf : RndF) (o : Oper) (ih : SF) (r : T AV) (h : Hp) (q : Q) (k : XK) : CR := onOR (opA P r o h) cf rf o ih r h q k
/-- A guarded operation; its guard's register. -/
def grdD (ops : Array Oper) (g : Nat × Bool) : Option Nat :=
  match ops[g.1]? with
  | some q => q.dst
  | none => none
/-- Is a guarded operation asked? none: not known. -/
def grdA (ops : Array Oper) (r : T AV) (g : Nat × Bool) : Option Bool :=
  oo (grdD ops g) none fun d => oo (r.get (Pos.of d)) none fun v => avBool v (match v with | .tup [] => some false | _ => none) fun b => some (ob b (!g.2) g.2)
def wantA (ops : Array Oper) (r : T AV) (o : Oper) : Option Bool := oo o.guard (some true) (grdA ops r)
def opsG (P : Program) (cf : CallF) (rf : RndF) (ops : Array Oper) (o : Oper) (ih : SF) (g : Nat × Bool) (r : T AV) (h : Hp) (q : Q) (k : XK) : CR :=
  oo (grdA ops r g) (.bad "guard") fun b => ob b (tick (ih (putD o.dst undA r) h q k)) (opS P cf rf o ih r h q k)
def opsStep (P : Program) (cf : CallF) (rf : RndF) (ops : Array Oper) (o : Oper) (ih : SF) : SF := oo o.guard (opS P cf rf o ih) (opsG P cf rf ops o ih)
def opsEnd : SF := fun r h q k => tick (k .nrm r h q)
/-- A region's operations, as they stand. -/
def opsS (P : Program) (cf : CallF) (rf : RndF) (ops : Array Oper) (l : List Oper) : SF := List.rec opsEnd (fun o _ ih => opsStep P cf rf ops o ih) l

/-! ### Regions whose order is drawn -/
/-- What an operation comes to, calls and all. -/
inductive ER where
  | bad (why : String)
  | val (v : AV) (h : Hp)
  | pan (ch : List PE) (h : Hp)
  | dfr (d : AD)
  | rcv
def cER (c : CR) : ER := (CR.rec (motive := fun _ => ER) ER.bad ER.val ER.pan (c))
def opE (cf : CallF) (rf : RndF) (c : OR) : ER := (OR.rec (motive := fun _ => ER) ER.bad ER.val (fun v h => ER.pan [⟨v, false⟩] h) ER.dfr ER.rcv (fun f args h => cER (cf f args h)) (fun l args h => cER (rf l args h)) (fun _ => ER.bad "alternatives") (c))
/-- Is bit i set? -/
def tb (m i : Nat) : Bool := on (Nat.land 1 (Nat.shiftRight m i)) false fun _ => true
def isSlS (P : Program) (t : TypeId) : Bool :=
  match P.underlying t with
  | some .string => true
  | some (.slice _) => true
  | _ => false
/-- 0: its value is that of its operands alone; 1: it reads; 2: it makes a block; 3: the rest. -/
def clsC (c : Call) : Nat := match c.callee with
  | .builtin b => (match b with
    | .len | .cap | .min | .max => 1
    | _ => 3)
  | _ => 3
def cls (P : Program) (o : Op) : Nat :=
  (Op.rec (motive := fun _ => Nat) (fun _ => 0) (fun _ => 0) (fun _ _ _ => 0) (fun _ => 2) (fun _ _ => 2) (fun _ _ => 0) (fun _ _ _ => 2) (fun _ _ _ _ => 3) (fun _ _ => 1) (fun _ _ _ => 3) (fun _ => 3) (fun _ => 3) (fun _ => 0) (fun _ _ _ _ _ => 1) (fun _ _ _ => 0) (fun _ _ _ => 3) (fun _ _ => 3) (fun _ _ => 0) (fun _ _ _ => 0) (fun _ _ => 2) (fun _ _ => 3) (fun _ _ _ => 2) (fun t _ _ _ _ => ob (isSlS P t) 1 0) (fun _ _ _ => 0) (fun _ _ _ => 0) (fun _ _ _ => 0) (fun _ _ _ => 0) (fun _ _ _ _ => 1) (fun _ _ _ _ => 3) (fun _ _ _ => 3) (fun _ _ _ _ => 3) (fun _ _ => 3) (fun _ _ => 3) (fun _ => 3) (fun _ _ _ _ => 0) (fun _ _ => 0) clsC (fun _ => 3) (fun _ => 3) (fun _ => 3) (fun _ _ => 3) (fun _ _ _ => 3) (fun _ _ => 3) (o))
/-- A block that is made in the region, by the operation i. -/
structure Al where
  i : Nat
  b : Nat
  x : Blk
/-- A heap behind an effect e; what is ahead of the effects so far. -/
structure Stg where
  e : Option Nat
  cm : Nat
  h : Hp
structure Tk where
  i : Nat
  m : Nat
  o : Oper
  r : T AV
  v : AV
/-- A store in no order with others: the block behind it. -/
structure Gp where
  i : Nat
  m : Nat
  b : Nat
  x : Blk
structure DS where
  r : T AV
  s : Stg
  st : List Stg   -- the older ones, the last first
  als : List Al
  b : Nat
  pn : Option (List PE × Hp × Nat)
  tks : List Tk
  grp : List Gp
inductive DRes where
  | bad (why : String)
  | ok (s : DS)
def tickD (r : DRes) : DRes := r
def Blk.sibs : Blk → List Nat
  | .cells _ _ _ _ _ _ _ s => s
  | _ => []
/-- The heap with the blocks that are chosen. -/
def lay (sel : Nat → Bool) : List Al → Hp → Hp
  | [], h => h
  | a :: l, h => ob (sel a.i) (lay sel l h) ((lay sel l h).set a.b a.x)
def selM (m cm i : Nat) : Bool := ob (tb m i) false (ob (tb cm i) true false)
def selF (cm i : Nat) : Bool := ob (tb cm i) true false
abbrev DF := T AV → Stg → List Stg → List Al → Nat → Option (List PE × Hp × Nat) → List Tk → List Gp → DRes
def putS (o : Oper) (v : AV) : DF := fun r s st als b pn tks grp => .ok ⟨putD o.dst v r, s, st, als, b, pn, tks, grp⟩
def orD (c : OR) (k : AV → Hp → DRes) : DRes := (OR.rec (motive := fun _ => DRes) DRes.bad k (fun _ _ => .bad "region: panic") (fun _ => .bad "region: defer") (.bad "region: recover") (fun _ _ _ => .bad "region: call") (fun _ _ _ => .bad "region: round") (fun _ => .bad "region: alternatives") (c))
def dPure (P : Program) (_i _m : Nat) (o : Oper) : DF := fun r s st als b pn tks grp => orD (opA P r o s.h) fun v _ => putS o v r s st als b pn tks grp
def dRead (P : Program) (i m : Nat) (o : Oper) : DF := fun r s st als b pn tks grp =>
  orD (opA P r o (lay (selM m s.cm) als s.h)) fun v _ => .ok ⟨putD o.dst v r, s, st, als, b, pn, ⟨i, m, o, r, v⟩ :: tks, grp⟩
def dAlloc (P : Program) (i _m : Nat) (o : Oper) : DF := fun r s st als b pn tks grp =>
  orD (opA P r o ⟨.e, b⟩) fun v h => oo (h.get b) (.bad "region: block") fun x => fN (Nat.succ b) fun b' => .ok ⟨putD o.dst v r, s, st, ⟨i, b, x⟩ :: als, b', pn, tks, grp⟩
def inChain (m : Nat) (s : Stg) (pn : Option (List PE × Hp × Nat)) : Bool := both (oo s.e true (tb m)) (oo pn true fun _ => false)
def dEff (P : Program) (cf : CallF) (rf : RndF) (i m : Nat) (o : Oper) : DF := fun r s st als b pn tks grp =>
  ob (inChain m s pn) (.bad "effects out of a chain") <|
  (ER.rec (motive := fun _ => DRes) DRes.bad (fun v h => fN (Nat.lor s.cm m) fun cm => .ok ⟨putD o.dst v r, ⟨some i, cm, h⟩, s :: st, als, b, pn, tks, grp⟩)
    (fun ch h => .ok ⟨r, s, st, als, b, some (ch, h, i), tks, grp⟩) (fun _ => .bad "region: defer") (.bad "region: recover") (opE cf rf (opA P r o (lay (selM m s.cm) als s.h))))
/-- No block that shares is cut off by a store at j. -/
def noKill (j : Nat) (h : Hp) : List Nat → Bool
  | [] => true
  | s :: l => (match h.get s with
    | some (.cells _ _ n _ _ _ _ _) => Nat.ble n j
    | _ => true) && noKill j h l
def grpFree (b : Nat) (sib : List Nat) (l : List Gp) : Bool := l.all fun g => !Nat.beq g.b b && sib.all (fun s => !Nat.beq s g.b) && g.x.sibs.all fun s => !Nat.beq s b
def dFloatB (P : Program) (i m : Nat) (t : TypeId) (c j : Nat) (v : AV) (o : Oper) : DF := fun r s st als b pn tks grp =>
  oo (s.h.get c) (.bad "float: block") fun x => ob (both (noKill j s.h x.sibs) (grpFree c x.sibs grp)) (.bad "float: shared") <|
  oo (store P t (.ptr c j) v s.h) (.bad "float: store") fun h => oo (h.get c) (.bad "float: block") fun x => .ok ⟨putD o.dst undA r, s, st, als, b, pn, tks, ⟨i, m, c, x⟩ :: grp⟩
def dFloatS (P : Program) (i m : Nat) (t : TypeId) (a x : Operand) (o : Oper) : DF := fun r s st als b pn tks grp =>
  oo (opnd r a) (.bad "float") fun a => oo (opnd r x) (.bad "float") fun v => avPtr a (.bad "float") fun c j => dFloatB P i m t c j v o r s st als b pn tks grp
def dFloat (P : Program) (i m : Nat) (o : Oper) : DF := fun r s st als b pn tks grp =>
  ob (inChain m s pn) (.bad "float: out of a chain") <|
  match o.op with
  | .store t a x => dFloatS P i m t a x o r s st als b pn tks grp
  | _ => .bad "effects in no order"
/-- The first effect whose next one does not lean on it. -/
def grpAt (P : Program) (last : Option Nat) : List (Oper × Nat) → Nat → Nat
  | [], i => i
  | p :: l, i => ob (Nat.beq (cls P p.1.op) 3) (grpAt P last l (Nat.succ i)) (oo last (grpAt P (some i) l (Nat.succ i)) fun e => ob (tb p.2 e) e (grpAt P (some i) l (Nat.succ i)))
def dLoud (P : Program) (cf : CallF) (rf : RndF) (g i m : Nat) (o : Oper) : DF := ob (Nat.ble g i) (dEff P cf rf i m o) (dFloat P i m o)
def dOp (P : Program) (cf : CallF) (rf : RndF) (g i m : Nat) (o : Oper) (c : Nat) : DF := on c (dPure P i m o) fun c => on c (dRead P i m o) fun c => on c (dAlloc P i m o) fun _ => dLoud P cf rf g i m o
def behindPan (pn : Option (List PE × Hp × Nat)) (m : Nat) : Bool := oo pn false fun p => tb m p.2.2
def stepF (P : Program) (cf : CallF) (rf : RndF) (ops : Array Oper) (g i m : Nat) (o : Oper) : DF := fun r s st als b pn tks grp =>
  ob (behindPan pn m) (oo (wantA ops r o) (.bad "guard") fun w => ob w (putS o undA r s st als b pn tks grp) (dOp P cf rf g i m o (cls P o.op) r s st als b pn tks grp)) (.ok ⟨r, s, st, als, b, pn, tks, grp⟩)
def stepD (P : Program) (cf : CallF) (rf : RndF) (ops : Array Oper) (g i m : Nat) (o : Oper) (s : DS) : DRes := (DS.rec (motive := fun _ => DRes) (stepF P cf rf ops g i m o) (s))
def onDR (r : DRes) (k : DS → DRes) : DRes := (DRes.rec (motive := fun _ => DRes) DRes.bad k (r))
def opsD (P : Program) (cf : CallF) (rf : RndF) (ops : Array Oper) (g : Nat) (l : List (Oper × Nat)) : Nat → DS → DRes :=
  List.rec (fun _ s => .ok s) (fun p _ ih i s => onDR (stepD P cf rf ops g i p.2 p.1 s) fun s => tickD (ih (Nat.succ i) s)) l
/-- A read tells the same at each heap at which it may be made. -/
def tkAt (P : Program) (als : List Al) (t : Tk) (s : Stg) : Bool :=
  match opA P t.r t.o (lay (selM t.m s.cm) als s.h) with
  | .val v _ => AV.beq v t.v
  | _ => false
def tkOk (P : Program) (ms : Nat → Nat) (als : List Al) (t : Tk) (s : Stg) : List Stg → Bool
  | [] => tkAt P als t s
  | s' :: l => match s.e with
    | some e => (tb (ms e) t.i || tkAt P als t s) && (tb t.m e || tkOk P ms als t s' l)
    | none => false
def tksOk (P : Program) (ms : Nat → Nat) (d : DS) : Bool := d.tks.all fun t => tkOk P ms d.als t d.s d.st

/-! #### What is ahead of what -/
def mskO (ms : List Nat) (o : Oper) : Nat := o.after.toList.foldr (fun e m => bif Region.binds .any e then Nat.lor m (Nat.lor (Nat.shiftLeft 1 e.on) (ms.getD e.on 0)) else m) 0
def msks : List Oper → List Nat → List Nat
  | [], ms => ms
  | o :: l, ms => fN (mskO ms o) fun m => msks l (ms ++ [m])
def zipM : List Oper → List Nat → List (Oper × Nat)
  | o :: l, m :: ms => (o, m) :: zipM l ms
  | _, _ => []
def plan (ops : Array Oper) : List (Oper × Nat) := zipM ops.toList (msks ops.toList [])
def dsts : List Oper → List Nat
  | [] => []
  | o :: l => match o.dst with
    | some d => d :: dsts l
    | none => dsts l
def forget : List Nat → T AV → T AV
  | [], r => r
  | d :: l, r => forget l (r.put none (Pos.of d))
def nodup : List Nat → Bool
  | [] => true
  | a :: l => l.all (fun b => !Nat.beq a b) && nodup l
/-- Edges go backwards. -/
def backOk : List Oper → Nat → Bool
  | [], _ => true
  | o :: l, i => (o.after.toList.all fun e => !Region.binds .any e || Nat.blt e.on i) && backOk l (Nat.succ i)
/-- The name t, at which i looks, is written ahead of i or behind it. -/
def nameOk (i m t : Nat) : List (Oper × Nat) → Nat → Bool
  | [], _ => true
  | p :: l, j => (match p.1.dst with
    | some d => !Nat.beq d t || Nat.beq i j || tb m j || tb p.2 i
    | none => true) && nameOk i m t l (Nat.succ j)
def namesOk (ops : Array Oper) (pl : List (Oper × Nat)) : List (Oper × Nat) → Nat → Bool
  | [], _ => true
  | p :: l, i => ((p.1.looksAt ops).all fun t => nameOk i p.2 t pl 0) && (match p.1.guard with
    | some (j, _) => tb p.2 j
    | none => true) && namesOk ops pl l (Nat.succ i)
def rOk (ops : Array Oper) : Bool := nodup (dsts ops.toList) && backOk ops.toList 0 && namesOk ops (plan ops) (plan ops) 0
/-- Each effect is ahead of or behind each read. -/
def seqB (m : Nat) (l : List (Nat × Bool)) (eff : Bool) : Bool := l.all fun p => bif eff || p.2 then tb m p.1 else true
def seqOk (P : Program) : List (Oper × Nat) → Nat → List (Nat × Bool) → Bool
  | [], _, _ => true
  | p :: l, i, loud => on (cls P p.1.op) (seqOk P l (Nat.succ i) loud) fun c => on c (seqB p.2 loud false && seqOk P l (Nat.succ i) ((i, false) :: loud)) fun c =>
      on c (seqOk P l (Nat.succ i) loud) fun _ => seqB p.2 loud true && seqOk P l (Nat.succ i) ((i, true) :: loud)
def cntAl (P : Program) : List Oper → Nat
  | [] => 0
  | o :: l => on (cls P o.op) (cntAl P l) fun c => on c (cntAl P l) fun c => on c (Nat.succ (cntAl P l)) fun _ => cntAl P l
def layG : List Gp → Hp → Hp
  | [], h => h
  | g :: l, h => (layG l h).set g.b g.x
/-- Stores in no order: all reads are ahead of them; what shares with them is no block of the region. -/
def grpOk (d : DS) : Bool := d.grp.all fun g => (d.tks.all fun t => tb g.m t.i) && d.als.all fun a => g.x.sibs.all fun s => !Nat.beq s a.b
def endD (P : Program) (ops : Array Oper) (r : T AV) (q : Q) (k : XK) (d : DS) : CR :=
  ob (grpOk d) (.bad "stores in no order") <| ob (ob (seqOk P (plan ops) 0 []) (tksOk P (fun i => (msks ops.toList []).getD i 0) d) true) (.bad "a read among effects") <|
  oo d.pn (tick (k .nrm d.r (layG d.grp (lay (selF d.s.cm) d.als d.s.h)) q)) fun p => k (.pan p.1) (forget (dsts ops.toList) r) p.2.1 q
def onDC (r : DRes) (k : DS → CR) : CR := (DRes.rec (motive := fun _ => CR) CR.bad k (r))
def drawnK (P : Program) (cf : CallF) (rf : RndF) (ops : Array Oper) : SF := fun r h q k =>
  fN (Nat.add h.nx (cntAl P ops.toList)) fun n => onDC (opsD P cf rf ops (grpAt P none (plan ops) 0) (plan ops) 0 ⟨r, ⟨none, 0, ⟨h.t, n⟩⟩, [], [], h.nx, none, [], []⟩) (endD P ops r q k)
def drawnS (P : Program) (cf : CallF) (rf : RndF) (ops : Array Oper) : SF := ob (rOk ops) (fun _ _ _ _ => .bad "region") (drawnK P cf rf ops)
end
end Go.Proofs.YtmoejaloachlkaaGreatDoor.Ev
