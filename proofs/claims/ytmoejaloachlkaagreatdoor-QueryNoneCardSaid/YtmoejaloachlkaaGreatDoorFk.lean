/- The evaluator's soundness, 16: what an operation's outcome leans on. -/
import Derived.Test.YtmoejaloachlkaaGreatDoorFj
namespace Go.Proofs.YtmoejaloachlkaaGreatDoor.Ev
open Go Go.RowKit

/-! ### Names -/
section
variable {P : Program} {r r' : T AV} {h h1 h2 : Hp} {v : AV}
theorem opnd_congr {x : Operand} (hx : ∀ t, x = .tmp t → r.get (Pos.of t) = r'.get (Pos.of t)) : opnd r x = opnd r' x := by
  cases x with
  | tmp t => exact hx t rfl
  | _ => rfl
theorem opnds_congr : ∀ {l : List Operand}, (∀ x ∈ l, opnd r x = opnd r' x) → opnds r l = opnds r' l
  | [], _ => rfl
  | x :: l, hl => by
    unfold opnds at *
    rw [opndsL_cons, opndsL_cons]
    unfold opndsS
    have := opnds_congr (l := l) (fun y hy => hl y (by simp [hy]))
    unfold opnds at this
    rw [hl x (by simp), this]
theorem partsA_congr : ∀ {l : List (Nat × Operand)}, (∀ x ∈ l.map (·.2), opnd r x = opnd r' x) → partsA r l = partsA r' l
  | [], _ => rfl
  | (i, x) :: l, hl => by
    unfold partsA
    rw [hl x (by simp), partsA_congr (l := l) (fun y hy => hl y (by simp at hy ⊢; exact .inr hy))]
theorem optA_congr {x : Option Operand} (hx : ∀ y ∈ x, opnd r y = opnd r' y) : optA r x = optA r' x := by
  cases x with
  | none => rfl
  | some y => show Option.map some (opnd r y) = Option.map some (opnd r' y); rw [hx y rfl]
def OAgree (r r' : T AV) (o : Oper) : Prop := ∀ t, Operand.tmp t ∈ o.op.operands → r.get (Pos.of t) = r'.get (Pos.of t)
theorem opA_congr {o : Oper} (ha : OAgree r r' o) : opA P r o h = opA P r' o h := by
  have hx : ∀ x ∈ o.op.operands, opnd r x = opnd r' x := fun x hx => opnd_congr fun t ht => ha t (ht ▸ hx)
  unfold opA
  cases ho : o.op <;> rw [ho] at hx
  case move x => show opMove x P r h = opMove x P r' h; unfold opMove; rw [hx x (by simp [Op.operands])]
  case assign x => show opAssign x P r h = opAssign x P r' h; unfold opAssign; rw [hx x (by simp [Op.operands])]
  case pick c a b => show opPick c a b P r h = opPick c a b P r' h; unfold opPick; rw [hx a (by simp [Op.operands]), hx b (by simp [Op.operands]), hx c (by simp [Op.operands])]
  case alloc e => rfl
  case box e x => show opBox e x P r h = opBox e x P r' h; unfold opBox; rw [hx x (by simp [Op.operands])]
  case build t ps => show opBuild t ps P r h = opBuild t ps P r' h; unfold opBuild; rw [partsA_congr (l := ps.toList) (fun x hm => hx x (by simpa [Op.operands] using hm))]
  case buildSlice t n ps => show opBuildSlice t n ps P r h = opBuildSlice t n ps P r' h; unfold opBuildSlice; rw [partsA_congr (l := ps.toList) (fun x hm => hx x (by simpa [Op.operands] using hm))]
  case insert t m k x => show opInsert t m k x P r h = opInsert t m k x P r' h; unfold opInsert; rw [hx m (by simp [Op.operands]), hx k (by simp [Op.operands]), hx x (by simp [Op.operands])]
  case load t x => show opLoad t x P r h = opLoad t x P r' h; unfold opLoad; rw [hx x (by simp [Op.operands])]
  case store t x y => show opStore t x y P r h = opStore t x y P r' h; unfold opStore; rw [hx x (by simp [Op.operands]), hx y (by simp [Op.operands])]
  case ready g => rfl
  case waits g => rfl
  case nilCheck x => show opNilCheck x P r h = opNilCheck x P r' h; unfold opNilCheck; rw [hx x (by simp [Op.operands])]
  case binOp op t x y u => show opBinOp op t x y u P r h = opBinOp op t x y u P r' h; unfold opBinOp; rw [hx x (by simp [Op.operands]), hx y (by simp [Op.operands])]
  case unOp op t x => show opUnOp op t x P r h = opUnOp op t x P r' h; unfold opUnOp; rw [hx x (by simp [Op.operands])]
  case convert s d x => show opConvert s d x P r h = opConvert s d x P r' h; unfold opConvert; rw [hx x (by simp [Op.operands])]
  case sliceToArrayPointer => rfl
  case makeInterface t x => show opMakeInterface t x P r h = opMakeInterface t x P r' h; unfold opMakeInterface; rw [hx x (by simp [Op.operands])]
  case makeFunc f a c => show opMakeFunc f a c P r h = opMakeFunc f a c P r' h; unfold opMakeFunc; rw [opnds_congr (l := a.toList) (fun x hm => hx x (by simp [Op.operands]; exact .inl (by simpa using hm))), opnds_congr (l := c.toList) (fun x hm => hx x (by simp [Op.operands]; exact .inr (by simpa using hm)))]
  case makeMap t x => show opMakeMap t x P r h = opMakeMap t x P r' h; unfold opMakeMap; rw [optA_congr (x := x) (fun y hm => hx y (by simpa [Op.operands] using hm))]
  case makeChan => rfl
  case makeSlice t l c => show opMakeSlice t l c P r h = opMakeSlice t l c P r' h; unfold opMakeSlice; rw [hx l (by simp [Op.operands]), hx c (by simp [Op.operands])]
  case slice t x l hh m => show opSlice t x l hh m P r h = opSlice t x l hh m P r' h; unfold opSlice; rw [hx x (by simp [Op.operands]), optA_congr (x := l) (fun y hm => hx y (by simp [Op.operands]; simp at hm; simp [hm])), optA_congr (x := hh) (fun y hm => hx y (by simp [Op.operands]; simp at hm; simp [hm])), optA_congr (x := m) (fun y hm => hx y (by simp [Op.operands]; simp at hm; simp [hm]))]
  case fieldAddr t x f => show opFieldAddr t x f P r h = opFieldAddr t x f P r' h; unfold opFieldAddr; rw [hx x (by simp [Op.operands])]
  case field t x f => show opField t x f P r h = opField t x f P r' h; unfold opField; rw [hx x (by simp [Op.operands])]
  case indexAddr t x i => show opIndexAddr t x i P r h = opIndexAddr t x i P r' h; unfold opIndexAddr; rw [hx x (by simp [Op.operands]), hx i (by simp [Op.operands])]
  case index t x i => show opIndex t x i P r h = opIndex t x i P r' h; unfold opIndex; rw [hx x (by simp [Op.operands]), hx i (by simp [Op.operands])]
  case lookup t m k ok => show opLookup t m k ok P r h = opLookup t m k ok P r' h; unfold opLookup; rw [hx m (by simp [Op.operands]), hx k (by simp [Op.operands])]
  case mapUpdate t m k x => show opMapUpdate t m k x P r h = opMapUpdate t m k x P r' h; unfold opMapUpdate; rw [hx m (by simp [Op.operands]), hx k (by simp [Op.operands]), hx x (by simp [Op.operands])]
  case mapEntry => rfl
  case entryStore => rfl
  case range t x => show opRange t x P r h = opRange t x P r' h; unfold opRange; rw [hx x (by simp [Op.operands])]
  case next x s => show opNext x s P r h = opNext x s P r' h; unfold opNext; rw [hx x (by simp [Op.operands])]
  case entry x => show opEntry x P r h = opEntry x P r' h; unfold opEntry; rw [hx x (by simp [Op.operands])]
  case typeAssert x t a ok => show opTypeAssert x t a ok P r h = opTypeAssert x t a ok P r' h; unfold opTypeAssert; rw [hx x (by simp [Op.operands])]
  case extract x i => show opExtract x i P r h = opExtract x i P r' h; unfold opExtract; rw [hx x (by simp [Op.operands])]
  case call c =>
    show opCall c P r h = opCall c P r' h
    have h1 : opnds r c.args.toList = opnds r' c.args.toList := opnds_congr fun x hm => hx x (by simp only [Op.operands, Call.operands, Array.mem_append]; exact .inr (by simpa using hm))
    unfold opCall
    rw [h1]
    cases hc : c.callee with
    | builtin b => rfl
    | value f =>
      have h2 : opnd r f = opnd r' f := hx f (by simp [Op.operands, Call.operands, hc])
      show oo (opnds r' c.args.toList) _ (cValue f P c.argTypes r h) = oo (opnds r' c.args.toList) _ (cValue f P c.argTypes r' h)
      have : cValue f P c.argTypes r h = cValue f P c.argTypes r' h := by funext l; unfold cValue; rw [h2]
      rw [this]
    | invoke f n =>
      have h2 : opnd r f = opnd r' f := hx f (by simp [Op.operands, Call.operands, hc])
      show oo (opnds r' c.args.toList) _ (cInvoke f n P c.argTypes r h) = oo (opnds r' c.args.toList) _ (cInvoke f n P c.argTypes r' h)
      have : cInvoke f n P c.argTypes r h = cInvoke f n P c.argTypes r' h := by funext l; unfold cInvoke; rw [h2]
      rw [this]
  case go => rfl
  case defer c =>
    show opDefer c P r h = opDefer c P r' h
    have h1 : opnds r c.args.toList = opnds r' c.args.toList := opnds_congr fun x hm => hx x (by simp only [Op.operands, Call.operands, Array.mem_append]; exact .inr (by simpa using hm))
    unfold opDefer
    rw [h1]
    cases hc : c.callee with
    | builtin b => rfl
    | invoke f n => rfl
    | value f =>
      have h2 : opnd r f = opnd r' f := hx f (by simp [Op.operands, Call.operands, hc])
      cases opnds r' c.args.toList with
      | none => rfl
      | some l => simp only [h2]
  case panic x => show opPanic x P r h = opPanic x P r' h; unfold opPanic; rw [hx x (by simp [Op.operands])]
  case send => rfl
  case recv => rfl
  case select => rfl

/-! ### Outcomes that lean on their operands alone; on what is known of the heap -/
theorem mkI_eq (k : IntKind) (n : Int) (h : Hp) : mkI k n h = .val (.int k n) h := by
  unfold mkI
  cases n with
  | ofNat n => rw [oi_nat, fN_eq]
  | negSucc n => rfl
theorem wrapI_eq (k : IntKind) (n : Int) (h : Hp) : wrapI k n h = .val (.int k (k.wrap n)) h := by
  unfold wrapI
  cases n with
  | ofNat m =>
    show ob (Nat.blt m (lim k)) _ _ = _
    cases hb : Nat.blt m (lim k) with
    | false => rw [ob_false, mkI_eq]
    | true =>
      rw [ob_true, fN_eq]
      have := lim_wrap k m (by simpa [Nat.blt_eq] using hb)
      show OR.val (.int k (m : Int)) h = .val (.int k (k.wrap (m : Int))) h
      rw [this]
  | negSucc m => show mkI k (k.wrap (.negSucc m)) h = _; rw [mkI_eq]
/-- The heap is passed on; the outcome does not lean on it. -/
def Pure (f : Hp → OR) : Prop := ∀ h v h1, f h = .val v h1 → h1 = h ∧ ∀ h2, f h2 = .val v h2
theorem Pure.val (v : AV) : Pure (fun h => .val v h) := fun h u h1 e => by cases e; exact ⟨rfl, fun _ => rfl⟩
theorem Pure.bad (w : Hp → String) : Pure (fun h => .bad (w h)) := fun h u h1 e => by cases e
theorem Pure.orV (x : Option AV) : Pure (fun h => Ev.orV h x) := by
  cases x with
  | none => exact Pure.bad fun _ => _
  | some v => exact Pure.val v
theorem Pure.oo {α : Type} {x : Option α} {w : String} {k : α → Hp → OR} (hk : ∀ a, x = some a → Pure (k a)) : Pure (fun h => Ev.oo x (.bad w) fun a => k a h) := by
  cases x with
  | none => exact Pure.bad fun _ => _
  | some a => exact hk a rfl
theorem Pure.ob {b : Bool} {f g : Hp → OR} (hf : Pure f) (hg : Pure g) : Pure (fun h => Ev.ob b (f h) (g h)) := by
  cases b with
  | false => exact hf
  | true => exact hg
theorem Pure.mkI (k : IntKind) (n : Int) : Pure (fun h => Ev.mkI k n h) := by
  have : (fun h => Ev.mkI k n h) = fun h => OR.val (.int k n) h := by funext h; rw [mkI_eq]
  rw [this]; exact Pure.val _
theorem Pure.wrapI (k : IntKind) (n : Int) : Pure (fun h => Ev.wrapI k n h) := by
  have : (fun h => Ev.wrapI k n h) = fun h => OR.val (.int k (k.wrap n)) h := by funext h; rw [wrapI_eq]
  rw [this]; exact Pure.val _
theorem Pure.intOp (op : BinOp) (k : IntKind) (a b : Int) : Pure (fun h => Ev.intOp op k a b h) := by
  cases op
  case quo => exact Pure.ob (Pure.wrapI _ _) (Pure.bad fun _ => _)
  case rem => exact Pure.ob (Pure.mkI _ _) (Pure.bad fun _ => _)
  all_goals first | exact Pure.wrapI _ _ | exact Pure.mkI _ _ | exact Pure.val _ | exact Pure.bad fun _ => _
theorem Pure.shiftOp (op : BinOp) (k : IntKind) (a b : Int) : Pure (fun h => Ev.shiftOp op k a b h) := by
  cases b with
  | negSucc m => exact Pure.bad fun _ => _
  | ofNat m => cases op <;> first | exact Pure.mkI _ _ | exact Pure.bad fun _ => _
theorem Pure.strOp (op : BinOp) (n v m u : Nat) : Pure (fun h => Ev.strOp op n v m u h) := by
  cases op
  case add =>
    show Pure fun h => bif Nat.blt (n + m) big63 then OR.val (.str (n + m) (v * 256 ^ m + u)) h else .bad "long text"
    cases Nat.blt (n + m) big63
    · exact Pure.bad fun _ => _
    · exact Pure.val _
  all_goals first | exact Pure.val _ | exact Pure.bad fun _ => _
/-- The same, over what is known. -/
def Hle (h h2 : Hp) : Prop := ∀ b x, h.get b = some x → h2.get b = some x
def Mono (f : Hp → OR) : Prop := ∀ h v h1, f h = .val v h1 → h1 = h ∧ ∀ h2, Hle h h2 → f h2 = .val v h2
theorem Pure.mono {f : Hp → OR} (hf : Pure f) : Mono f := fun h v h1 e => ⟨(hf h v h1 e).1, fun h2 _ => (hf h v h1 e).2 h2⟩
theorem Mono.orV {x : Hp → Option AV} (hx : ∀ h h2 v, Hle h h2 → x h = some v → x h2 = some v) : Mono (fun h => Ev.orV h (x h)) := by
  intro h v h1 e
  have e : Ev.orV h (x h) = .val v h1 := e
  obtain ⟨e1, e2⟩ := orV_val e
  refine ⟨e2, fun h2 hl => ?_⟩
  show Ev.orV h2 (x h2) = _
  rw [hx h h2 v hl e1]; rfl
theorem Mono.oo {α : Type} {x : Option α} {w : String} {k : α → Hp → OR} (hk : ∀ a, x = some a → Mono (k a)) : Mono (fun h => Ev.oo x (.bad w) fun a => k a h) := by
  cases x with
  | none => exact (Pure.bad fun _ => _).mono
  | some a => exact hk a rfl
theorem Mono.ob {b : Bool} {f g : Hp → OR} (hf : Mono f) (hg : Mono g) : Mono (fun h => Ev.ob b (f h) (g h)) := by
  cases b with
  | false => exact hf
  | true => exact hg
variable {P : Program}
theorem load_mono {t : TypeId} {a : AV} (h h2 : Hp) (v : AV) (hl : Hle h h2) (e : load P t a h = some v) : load P t a h2 = some v := by
  unfold load at e ⊢
  obtain ⟨b, o, rfl, e⟩ := avPtr_eqO e
  obtain ⟨k, e1, e2⟩ := oo_eq e
  show oo (h2.get b) none _ = _
  rw [hl _ _ e1]; exact e2
theorem andO_some {a : Option Bool} {b : Unit → Option Bool} {r : Bool} (h : andO a b = some r) : (a = some false ∧ r = false) ∨ (a = some true ∧ b () = some r) := by
  unfold andO at h
  split at h
  · exact .inr ⟨rfl, h⟩
  · rename_i hne
    cases a with
    | none => cases h
    | some x => cases x with
      | true => exact absurd rfl hne
      | false => cases h; exact .inl ⟨rfl, rfl⟩
theorem eqF_mono {eq eq' : TypeId → AV → AV → Option Bool} (he : ∀ t x y r, eq t x y = some r → eq' t x y = some r) (xs ys : List AV) : ∀ (fs : List Field) (r : Bool), eqF eq P xs ys fs = some r → eqF eq' P xs ys fs = some r
  | [], r, h => h
  | f :: fs, r, h => by
    unfold eqF at h ⊢
    cases hn : f.name == "_" with
    | true => rw [hn, cond_true] at h; rw [cond_true]; exact eqF_mono he xs ys fs r h
    | false =>
      rw [hn, cond_false] at h; rw [cond_false]
      split at h
      · rename_i x y h1 h2
        show andO (eq' f.type x y) _ = _
        rcases andO_some h with ⟨a, rfl⟩ | ⟨a, b⟩
        · rw [he _ _ _ _ a]; rfl
        · rw [he _ _ _ _ a]; exact eqF_mono he xs ys fs r b
      · cases h
theorem eqA_mono {h h2 : Hp} (hl : Hle h h2) : ∀ (d : Nat) (t : TypeId) (x y : AV) (r : Bool), eqA P h d t x y = some r → eqA P h2 d t x y = some r
  | 0, t, x, y, r, e => by unfold eqA at e; cases e
  | d + 1, t, x, y, r, e => by
    unfold eqA at e ⊢
    split at e
    all_goals first | exact e | skip
    · -- two pointers
      rename_i ee a i b j hu
      split at e
      · rename_i g s ht
        cases hb : Nat.beq a b with
        | true => rw [hb, cond_true] at e; simp only [ht, hb, cond_true]; exact e
        | false =>
          rw [hb, cond_false] at e
          simp only [ht, hb, cond_false]
          split at e
          · rename_i n lo hi m lo' hi' h1 h2'
            rw [hl _ _ h1, hl _ _ h2']
            exact e
          · cases e
      · cases e
    · rename_i tt v u w hu
      cases hb : Nat.beq tt u with
      | false => rw [hb] at e; exact e
      | true =>
        rw [hb, cond_true] at e
        rw [cond_true]
        split at e
        · rename_i inf hi
          cases hc : inf.comparable with
          | false => rw [hc, cond_false] at e; cases e
          | true => rw [hc, cond_true] at e; rw [cond_true]; exact eqA_mono hl d _ _ _ _ e
        · cases e
    · rename_i fs xs ys hu
      cases hb : P.stoodInHeld t with
      | true => rw [hb, cond_true] at e; cases e
      | false => rw [hb, cond_false] at e; rw [cond_false]; exact eqF_mono (fun t x y r => eqA_mono hl d t x y r) xs ys _ _ e

theorem Pure.eqOr (x : Option Bool) (n : Bool) : Pure (fun h => Ev.eqOr x n h) := by
  cases x with
  | none => exact Pure.bad fun _ => _
  | some b => exact Pure.val _
theorem Mono.eqOr {x : Hp → Option Bool} (hx : ∀ h h2 r, Hle h h2 → x h = some r → x h2 = some r) (n : Bool) : Mono (fun h => Ev.eqOr (x h) n h) := by
  intro h v h1 e
  have e : Ev.eqOr (x h) n h = .val v h1 := e
  show h1 = h ∧ ∀ h2, Hle h h2 → Ev.eqOr (x h2) n h2 = .val v h2
  cases hxh : x h with
  | none => rw [hxh] at e; cases e
  | some r =>
    rw [hxh] at e
    cases e
    exact ⟨rfl, fun h2 hl => by rw [hx h h2 r hl hxh]; rfl⟩
theorem Mono.binA (op : BinOp) (t : TypeId) (a b : AV) : Mono (fun h => Ev.binA P op t a b h) := by
  have eqm : ∀ n, Mono (fun h => Ev.eqOr (eqA P h 20 t a b) n h) := fun n => Mono.eqOr (x := fun h => eqA P h 20 t a b) (fun h h2 r hl e => eqA_mono hl 20 t a b r e) n
  have hS : Mono (fun h => binS op P t a b h) := by
    cases a with
    | str n v =>
      show Mono fun h => avStr b (.bad "text operator") fun m u => strOp op n v m u h
      cases b with
      | str m u => exact (Pure.strOp op n v m u).mono
      | _ => exact (Pure.bad fun _ => _).mono
    | _ => cases op <;> first | exact eqm _ | exact (Pure.bad fun _ => _).mono
  cases a with
  | int k x =>
    show Mono fun h => avInt b (.bad "operator") fun k' y => Ev.ob (isShift op) (Ev.ob (kEq k k') (.bad "kinds") (intOp op k x y h)) (shiftOp op k x y h)
    cases b with
    | int k' y => exact (Pure.ob (Pure.ob (Pure.bad fun _ => _) (Pure.intOp op k x y)) (Pure.shiftOp op k x y)).mono
    | _ => exact (Pure.bad fun _ => _).mono
  | _ => exact hS
theorem fits_mono {h h2 : Hp} (hl : Hle h h2) {b n : Nat} (e : fits h b n = true) : fits h2 b n = true := by
  unfold fits at e ⊢
  split at e
  · rename_i k _ _ _ _ hb; rw [hl _ _ hb]; exact e
  · cases e
theorem sliceA_mono {h h2 : Hp} (hl : Hle h h2) {t : TypeId} {x : AV} {l hh m : Option AV} {v : AV} (e : sliceA P t x l hh m h = some v) : sliceA P t x l hh m h2 = some v := by
  unfold sliceA at e ⊢
  obtain ⟨e1, e2⟩ := ob_eq e
  rw [e1, ob_true]
  split at e2
  all_goals first | exact e2 | skip
  · rename_i hu
    split at e2
    · rename_i g s ht
      cases hb : fits h _ _ && Nat.blt _ big63 with
      | false => rw [hb] at e2; cases e2
      | true =>
        rw [hb] at e2
        rw [Bool.and_eq_true] at hb
        rw [fits_mono hl hb.1, hb.2]
        exact e2
    · cases e2
  · rename_i hu
    split at e2
    · rename_i hu2
      split at e2
      · rename_i g s ht
        cases hb : fits h _ _ && Nat.blt _ big63 with
        | false => rw [hb] at e2; cases e2
        | true =>
          rw [hb] at e2
          rw [Bool.and_eq_true] at hb
          rw [fits_mono hl hb.1, hb.2]
          exact e2
      · cases e2
    · cases e2
end
end Go.Proofs.YtmoejaloachlkaaGreatDoor.Ev
