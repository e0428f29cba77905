/- The evaluator: code, calls. Definitions alone. -/
import Derived.Test.YtmoejaloachlkaaGreatDoorEw
namespace Go.Proofs.YtmoejaloachlkaaGreatDoor.Ev
open Go
noncomputable section

/-! ### The end of a call -/
inductive Mode where
  | ret | pan (ch : List PE)
/-- What a deferred call's end makes of its caller's mode. -/
def settleA : RC → Mode
  | .pan (⟨_, true⟩ :: _) => .ret
  | .pan ch => .pan ch
  | _ => .ret
def raisedA (m : RC) (ch : List PE) : Mode :=
  match m with
  | .pan old => .pan (ch ++ old)
  | _ => .pan ch
def Mode.rc : Mode → RC
  | .ret => .ret
  | .pan ch => .pan ch
abbrev CodeF := Code → SF
def regsOf (l : List AV) : Nat → T AV → T AV := List.rec (fun _ r => r) (fun v _ ih i r => ih (Nat.succ i) (r.put (some v) (Pos.of i))) l
def maxN (a b : Nat) : Nat := bif Nat.ble a b then b else a
def frameQ (fn : Func) (rc : RC) : Q := ⟨fn.ntmps, [], rc, none⟩
/-- Each register that is written is one of n. -/
def dstOk (n : Nat) (ops : List Oper) : Bool := ops.all fun o => match o.dst with
  | some d => Nat.blt d n
  | none => true
def codeOk (n : Nat) : Code → Bool
  | .region _ ops _ => dstOk n ops.toList
  | .seq a b => codeOk n a && codeOk n b
  | .cond _ a b => codeOk n a && codeOk n b
  | .block _ b => codeOk n b
  | .loop b => codeOk n b
  | .scope b => codeOk n b
  | .rangeFunc _ ps a b => ps.toList.all (fun p => Nat.blt p n) && codeOk n a && codeOk n b
  | _ => true
def resA (P : Program) (r : T AV) (h : Hp) : List ResultVar → Option (List AV)
  | [] => some []
  | .tmp t :: l => match r.get (Pos.of t) with
    | some v => (resA P r h l).map (v :: ·)
    | none => none
  | .cell a t :: l => match r.get (Pos.of a) with
    | some p => match load P t p h with
      | some v => (resA P r h l).map (v :: ·)
      | none => none
    | none => none
def tupA (l : List AV) : AV := match l with
  | [v] => v
  | l => .tup l
/-- One result in a register. -/
def oneRes (fn : Func) : Option Nat :=
  match fn.results.toList with
  | [.tmp t] => some t
  | _ => none
def resF (P : Program) (fn : Func) (r : T AV) (h : Hp) : Option AV := oo (oneRes fn) (oo (resA P r h fn.results.toList) none fun l => some (tupA l)) fun t => r.get (Pos.of t)
/-! #### A deferred function's body -/
def isRcv (o : Oper) : Bool := match o.op with
  | .call { callee := .builtin .recover, .. } => true
  | _ => false
def opR (P : Program) (o : Oper) (ih : SF) : SF := fun r h q k =>
  (OR.rec (motive := fun _ => CR) CR.bad (fun v h => tick (ih (putD o.dst v r) h q k)) (fun v h => k (.pan [⟨v, false⟩]) r h q) (fun _ => .bad "deferred: defer")
    (match q.rc with
      | .no => .bad "recover"
      | .ret => tick (ih (putD o.dst .nili r) h q k)
      | .pan (⟨v, false⟩ :: older) => tick (ih (putD o.dst v r) h ⟨q.sz, q.df, .pan (⟨v, true⟩ :: older), q.rd⟩ k)
      | .pan _ => .bad "recover: again")
    (fun _ _ _ => .bad "deferred: call beside recover") (fun _ _ _ => .bad "deferred: round") (fun _ => .bad "deferred: alternatives") (opA P r o h))
def opsR (P : Program) (l : List Oper) : SF := List.rec opsEnd (fun o _ ih => oo o.guard (opR P o ih) fun _ _ _ _ _ => .bad "deferred: guard") l
def rcNo (ev : CodeF) (c : Code) : SF := fun r h q k => ev c r h ⟨q.sz, q.df, .no, q.rd⟩ fun x r h q' => k x r h ⟨q'.sz, q'.df, q.rc, q'.rd⟩
abbrev SKF := SF → XK → T AV → Hp → Q → CR
def sNrm : SKF := fun n k r h q => tick (n r h q k)
def sExt (i : Nat) : SKF := fun _ k r h q => k (.ext i) r h q
def sGto (l : Nat) : SKF := fun _ k r h q => k (.gto l) r h q
def sRet : SKF := fun _ k r h q => k .ret r h q
def sPan (ch : List PE) : SKF := fun _ k r h q => k (.pan ch) r h q
def seqK (ihb : SF) (k : XK) : XK := fun x r h q => (X.rec (motive := fun _ => SKF) sNrm sExt sGto sRet sPan (x)) ihb k r h q
def condS (c : Operand) (iha ihb : SF) : SF := fun r h q k => oo (opnd r c) (.bad "cond") fun v => avBool v (.bad "cond") fun b => tick (ob b ihb iha r h q k)
def regD (P : Program) (ev : CodeF) (id : Nat) (ops : Array Oper) (d : Bool) : SF := ob (ops.toList.any isRcv) (rcNo ev (.region id ops d)) (ob d (opsR P ops.toList) fun _ _ _ _ => .bad "deferred: recover in no order")
def codeD (P : Program) (ev : CodeF) (c : Code) : SF :=
  Code.rec (motive := fun _ => SF) (rcNo ev .skip) (regD P ev) (fun _ _ iha ihb r h q k => iha r h q (seqK ihb k)) (fun c _ _ iha ihb => condS c iha ihb) (fun id b _ => rcNo ev (.block id b)) (fun b _ => rcNo ev (.loop b))
    (fun f ps a b _ _ => rcNo ev (.rangeFunc f ps a b)) (fun id => rcNo ev (.exit id)) (fun b _ => rcNo ev (.scope b)) (fun l => rcNo ev (.label l)) (fun l => rcNo ev (.goto l)) (rcNo ev .ret) (fun w => rcNo ev (.refuse w)) c
/-- A frame that leaves: its deferred calls, its results. -/
def leaveA (P : Program) (ev : CodeF) (fn : Func) (r : T AV) : Nat → List AD → Mode → Hp → CR
  | 0, _, _, _ => .bad "defers"
  | _ + 1, [], .ret, h => oo (resF P fn r h) (.bad "results") fun v => .ret v h
  | _ + 1, [], .pan ch, h => .pan ch h
  | n + 1, .fn f args :: ds, m, h =>
    match P.funcs[f]? with
    | some fd => match fd.body with
      | some c => bif codeOk fd.ntmps c && Nat.ble args.length fd.ntmps && !(fd.name == "runtime.NumGoroutine") then codeD P ev c (regsOf args 0 .e) h (frameQ fd m.rc) fun x r' h q =>
        match q.df with
        | [] => match x with
          | .nrm => match resF P fd r' h with
            | some _ => leaveA P ev fn r n ds (settleA q.rc) h
            | none => .bad "results"
          | .ret => match resF P fd r' h with
            | some _ => leaveA P ev fn r n ds (settleA q.rc) h
            | none => .bad "results"
          | .pan ch => leaveA P ev fn r n ds (raisedA q.rc ch) h
          | _ => .bad "deferred: exit"
        | _ => .bad "defers of a deferred call" else .bad "deferred: registers"
      | none => .bad "deferred: no body"
    | none => .bad "deferred: no function"
  | n + 1, .coll b :: ds, m, h => match h.get b with
    | some (.dfr (some [])) => leaveA P ev fn r n ds m (h.set b (.dfr none))
    | _ => .bad "collected"
def told (_ : String) (r : CR) : CR := r
def leave0 (P : Program) (ev : CodeF) (fn : Func) (r : T AV) (h : Hp) (l : List AD) : CR := match l with
  | [] => oo (resF P fn r h) (.bad "results") fun v => .ret v h
  | l => leaveA P ev fn r 1000 l .ret h
abbrev LF := Program → CodeF → Func → T AV → Hp → Q → CR
def lRet : LF := fun P ev fn r h q => leave0 P ev fn r h q.df
def lBad : LF := fun _ _ _ _ _ _ => .bad "exit"
def lPan (ch : List PE) : LF := fun P ev fn r h q => leaveA P ev fn r 1000 q.df (.pan ch) h
def leaveX (P : Program) (ev : CodeF) (fn : Func) : XK := fun x r h q => (X.rec (motive := fun _ => LF) lRet (fun _ => lBad) (fun _ => lBad) lRet lPan (x)) P ev fn r h q
def callC (P : Program) (ev : CodeF) (args : List AV) (h : Hp) (fn : Func) : CR :=
  oo fn.body (.bad "no body") fun c => ob (both (codeOk fn.ntmps c) (Nat.ble args.length fn.ntmps)) (.bad "registers") (told fn.name (ev c (regsOf args 0 .e) h (frameQ fn .no) (leaveX P ev fn)))
def callB (P : Program) (ev : CodeF) (f : Nat) (args : List AV) (h : Hp) : CR := oo P.funcs[f]? (.bad "no function") (callC P ev args h)

/-! ### Facts: calls that are known already -/
structure Fact where
  f : Nat
  args : List AV
  hin : List (Nat × Blk)
  nx : Nat
  v : AV
  hout : List (Nat × Blk)
  nx' : Nat

/-! ### Rounds -/
def setP : List Nat → List AV → T AV → T AV
  | p :: ps, v :: vs, r => setP ps vs (r.put (some v) (Pos.of p))
  | _, _, r => r
def ltAll (n : Nat) (l : List Nat) : Bool := l.all fun p => Nat.blt p n
def endRnd (l : Nat) (x : X) (h : Hp) : CR :=
  match h.get l with
  | some (.loop _ _ r sz ps asg body df) =>
    match x with
    | .nrm => .ret (.bool true) (h.set l (.loop .ready none r sz ps asg body df))
    | .ret => .ret (.bool false) (h.set l (.loop .done (some .ret) r sz ps asg body df))
    | .ext id => .ret (.bool false) (h.set l (.loop .done (some (.exit id)) r sz ps asg body df))
    | .gto t => .ret (.bool false) (h.set l (.loop .done (some (.goto t)) r sz ps asg body df))
    | .pan _ => .bad "round: panic"
  | _ => .bad "round: no loop"
def rndB (ev : CodeF) (l : Nat) (args : List AV) (h : Hp) : CR :=
  match h.get l with
  | some (.loop _ _ r sz ps asg body _) =>
    bif Nat.beq args.length ps.length && ltAll sz ps && codeOk sz asg && codeOk sz body then
      ev asg (setP ps args r) h ⟨sz, [], .no, some l⟩ fun x r h q =>
        match x, q.df, h.get l with
        | .nrm, [], some (.loop .ready pd r' sz' ps' asg' body' df') =>
          ev body r (h.set l (.loop .busy pd r' sz' ps' asg' body' df')) ⟨sz, [], .no, some l⟩ fun x _ h q =>
            match q.df with
            | [] => endRnd l x h
            | _ => .bad "round: defers"
        | _, _, _ => .bad "round: assign"
    else .bad "round: arguments"
  | _ => .bad "round: no loop"

/-! ### Code -/
/-- An exit that is passed on. -/
abbrev PF := (T AV → Hp → Q → CR) → XK → T AV → Hp → Q → CR
def pNrm : PF := fun n _ r h q => tick (n r h q)
def pExt (i : Nat) : PF := fun _ k r h q => k (.ext i) r h q
def pGto (l : Nat) : PF := fun _ k r h q => k (.gto l) r h q
def pRet : PF := fun _ k r h q => k .ret r h q
def pPan (ch : List PE) : PF := fun _ k r h q => k (.pan ch) r h q
def loopK (k : XK) (ih : T AV → Hp → Q → CR) : XK := fun x r h q => (X.rec (motive := fun _ => PF) pNrm pExt pGto pRet pPan (x)) ih k r h q
def loopS (body : SF) (k : XK) (n : Nat) : T AV → Hp → Q → CR :=
  Nat.rec (fun _ _ _ => .bad "loop: too long") (fun _ ih r h q => body r h q (loopK k ih)) n
/-- A scope: jumps to its labels. -/
def scopeS (ev : CodeF) (body : Code) (k : XK) : Nat → Code → T AV → Hp → Q → CR
  | 0, _, _, _, _ => .bad "goto: too often"
  | n + 1, c, r, h, q => ev c r h q fun x r h q => match x with
    | .gto l => match findLabel body l with
      | some c' => tick (scopeS ev body k n c' r h q)
      | none => k (.gto l) r h q
    | x => k x r h q
def rangeGo (P : Program) (cf : CallF) (ev : CodeF) (f : Operand) (ps : List Tmp) (asg body : Code) (r : T AV) (h : Hp) (q : Q) (k : XK) (df : Nat) (mk : List AD) : CR :=
  match opnd r f with
  | some (.fn g a c) => match callA P g (a ++ [.yld h.nx] ++ c) (h.new (.loop .ready none r q.sz ps asg body df)) with
    | .call g args h1 => match cf g args h1 with
      | .ret _ h2 => match h2.get h.nx with
        | some (.loop .busy ..) => .bad "range: busy"
        | some (.loop _ pd r' sz ps asg body df) =>
          match pd with
          | none => k .nrm r (h2.set h.nx (.loop .exhausted pd r' sz ps asg body df)) ⟨q.sz, mk ++ q.df, q.rc, q.rd⟩
          | some c => bif codeOk q.sz c then ev c r (h2.set h.nx (.loop .exhausted pd r' sz ps asg body df)) ⟨q.sz, mk ++ q.df, q.rc, q.rd⟩ k else .bad "range: registers"
        | _ => .bad "range: no loop"
      | .pan ch h2 => k (.pan ch) r h2 ⟨q.sz, mk ++ q.df, q.rc, q.rd⟩
      | .bad w => .bad w
    | _ => .bad "range: call"
  | _ => .bad "range: function"
def rangeS (P : Program) (cf : CallF) (ev : CodeF) (f : Operand) (ps : Array Tmp) (asg body : Code) : SF := fun r h q k =>
  match q.rd with
  | none => rangeGo P cf ev f ps.toList asg body r (h.new (.dfr (some []))) q k h.nx [.coll h.nx]
  | some l => match h.get l with
    | some (.loop _ _ _ _ _ _ _ df) => rangeGo P cf ev f ps.toList asg body r h q k df []
    | _ => .bad "range: around"
abbrev BF := Nat → XK → T AV → Hp → Q → CR
def bNrm : BF := fun _ k r h q => k .nrm r h q
def bExt (i : Nat) : BF := fun id k r h q => ob (Nat.beq i id) (k (.ext i) r h q) (k .nrm r h q)
def bGto (l : Nat) : BF := fun _ k r h q => k (.gto l) r h q
def bRet : BF := fun _ k r h q => k .ret r h q
def bPan (ch : List PE) : BF := fun _ k r h q => k (.pan ch) r h q
def blockK (id : Nat) (k : XK) : XK := fun x r h q => (X.rec (motive := fun _ => BF) bNrm bExt bGto bRet bPan (x)) id k r h q
def regS (P : Program) (cf : CallF) (rf : RndF) (ops : Array Oper) (d : Bool) : SF := ob d (opsS P cf rf ops ops.toList) (drawnS P cf rf ops)
def sX (x : X) : SF := fun r h q k => k x r h q
def codeC (P : Program) (cf : CallF) (rf : RndF) (ev : CodeF) (c : Code) : SF :=
  Code.rec (motive := fun _ => SF) (sX .nrm) (fun _ ops d => regS P cf rf ops d) (fun _ _ iha ihb r h q k => iha r h q (seqK ihb k)) (fun c _ _ iha ihb => condS c iha ihb)
    (fun id _ ih r h q k => ih r h q (blockK id k)) (fun _ ih r h q k => loopS ih k 100000000 r h q) (fun f ps asg b _ _ => rangeS P cf ev f ps asg b) (fun id => sX (.ext id)) (fun b _ r h q k => scopeS ev b k 100000000 b r h q)
    (fun _ => sX .nrm) (fun l => sX (.gto l)) (sX .ret) (fun w _ _ _ _ => .bad w) c
def codeN (P : Program) (kn : CallF → CallF) (n : Nat) : CodeF :=
  Nat.rec (fun _ _ _ _ _ => .bad "fuel") (fun _ ih => codeC P (kn (callB P ih)) (rndB ih) ih) n
end
end Go.Proofs.YtmoejaloachlkaaGreatDoor.Ev
