/- The evaluator's soundness, 1: trees, texts as numbers, what abstract values and blocks stand for. -/
import Derived.Test.YtmoejaloachlkaaGreatDoorEx
namespace Go.Proofs.YtmoejaloachlkaaGreatDoor.Ev
open Go

/-! ### Trees -/
def Pos.num : Pos → Nat
  | .h => 0
  | .i p => 2 * p.num + 1
  | .o p => 2 * p.num + 2
theorem Pos.num_ofA (f : Nat) : ∀ (n : Nat), n < f → (Pos.ofA f n).num = n := by
  induction f with
  | zero => intro n hn; omega
  | succ f ih =>
    intro n hn
    unfold Pos.ofA
    by_cases h0 : n = 0
    · subst h0; rfl
    · have hb : Nat.beq n 0 = false := by cases n with | zero => exact absurd rfl h0 | succ n => rfl
      rw [hb, cond_false]
      by_cases h1 : n % 2 = 1
      · rw [h1]
        show (Pos.i _).num = n
        rw [Pos.num, ih (n / 2) (by omega)]; omega
      · have hm : n % 2 = 0 := by omega
        rw [hm]
        show (Pos.o _).num = n
        rw [Pos.num, ih (n / 2 - 1) (by omega)]; omega
theorem Pos.of_inj {a b : Nat} (h : Pos.of a = Pos.of b) : a = b := by
  have := congrArg Pos.num h
  rwa [Pos.of, Pos.of, Pos.num_ofA _ _ (by omega), Pos.num_ofA _ _ (by omega)] at this
section
variable {α : Type}
theorem T.get_e (p : Pos) : (T.e : T α).get p = none := by cases p <;> rfl
theorem T.get_nh (v : Option α) (l r : T α) : (T.n v l r).get .h = v := rfl
theorem T.get_no (v : Option α) (l r : T α) (p : Pos) : (T.n v l r).get (.o p) = l.get p := rfl
theorem T.get_ni (v : Option α) (l r : T α) (p : Pos) : (T.n v l r).get (.i p) = r.get p := rfl
theorem T.put_he (x : Option α) : (T.e : T α).put x .h = .n x .e .e := rfl
theorem T.put_hn (x v : Option α) (l r : T α) : (T.n v l r).put x .h = .n x l r := rfl
theorem T.put_oe (x : Option α) (p : Pos) : (T.e : T α).put x (.o p) = .n none ((T.e : T α).put x p) .e := rfl
theorem T.put_on (x v : Option α) (l r : T α) (p : Pos) : (T.n v l r).put x (.o p) = .n v (l.put x p) r := rfl
theorem T.put_ie (x : Option α) (p : Pos) : (T.e : T α).put x (.i p) = .n none .e ((T.e : T α).put x p) := rfl
theorem T.put_in (x v : Option α) (l r : T α) (p : Pos) : (T.n v l r).put x (.i p) = .n v l (r.put x p) := rfl
theorem T.get_put (x : Option α) (p : Pos) : ∀ (t : T α) (q : Pos), (t.put x p).get q = if q = p then x else t.get q := by
  induction p with
  | h =>
    intro t q
    cases t with
    | e => rw [T.put_he]; cases q <;> simp [T.get_nh, T.get_no, T.get_ni, T.get_e]
    | n v l r => rw [T.put_hn]; cases q <;> simp [T.get_nh, T.get_no, T.get_ni]
  | o p ih =>
    intro t q
    cases t with
    | e => rw [T.put_oe]; cases q <;> simp [T.get_nh, T.get_no, T.get_ni, T.get_e, ih]
    | n v l r => rw [T.put_on]; cases q <;> simp [T.get_nh, T.get_no, T.get_ni, ih]
  | i p ih =>
    intro t q
    cases t with
    | e => rw [T.put_ie]; cases q <;> simp [T.get_nh, T.get_no, T.get_ni, T.get_e, ih]
    | n v l r => rw [T.put_in]; cases q <;> simp [T.get_nh, T.get_no, T.get_ni, ih]
theorem T.get_putN (x : Option α) (t : T α) (a b : Nat) : (t.put x (Pos.of a)).get (Pos.of b) = if b = a then x else t.get (Pos.of b) := by
  rw [T.get_put]
  by_cases h : b = a
  · subst h; simp
  · rw [if_neg h, if_neg (fun e => h (Pos.of_inj e))]
end
theorem Hp.get_set (h : Hp) (b c : Nat) (x : Blk) : (h.set b x).get c = if c = b then some x else h.get c := T.get_putN _ _ _ _
theorem Hp.get_del (h : Hp) (b c : Nat) : (h.del b).get c = if c = b then none else h.get c := T.get_putN _ _ _ _
theorem Hp.get_new (h : Hp) (c : Nat) (x : Blk) : (h.new x).get c = if c = h.nx then some x else h.get c := T.get_putN _ _ _ _
@[simp] theorem Hp.nx_set (h : Hp) (b : Nat) (x : Blk) : (h.set b x).nx = h.nx := rfl
@[simp] theorem Hp.nx_del (h : Hp) (b : Nat) : (h.del b).nx = h.nx := rfl
@[simp] theorem Hp.nx_new (h : Hp) (x : Blk) : (h.new x).nx = h.nx + 1 := rfl

/-! ### Parting -/
theorem ob_true {β : Type} (f t : β) : ob true f t = t := rfl
theorem ob_false {β : Type} (f t : β) : ob false f t = f := rfl
theorem oo_none {α β : Type} (d : β) (k : α → β) : oo none d k = d := rfl
theorem oo_some {α β : Type} (a : α) (d : β) (k : α → β) : oo (some a) d k = k a := rfl
theorem oi_nat {β : Type} (n : Nat) (f g : Nat → β) : oi (.ofNat n) f g = f n := rfl
theorem oi_neg {β : Type} (n : Nat) (f g : Nat → β) : oi (.negSucc n) f g = g n := rfl
@[simp] theorem fN_eq {β : Type} (n : Nat) (k : Nat → β) : fN n k = k n := by cases n <;> rfl
@[simp] theorem both_eq (a b : Bool) : both a b = (a && b) := by cases a <;> rfl
theorem cond_some {α : Type} {b : Bool} {x y : α} (h : (bif b then some x else none) = some y) : b = true ∧ x = y := by
  cases b with
  | false => cases h
  | true => cases h; exact ⟨rfl, rfl⟩
theorem oo_inv {α β : Type} {x : Option α} {d : β} {k : α → β} {p : β → Prop} (h : p (oo x d k)) (hd : ¬ p d) : ∃ a, x = some a ∧ p (k a) := by
  cases x with
  | none => exact absurd h hd
  | some a => exact ⟨a, rfl, h⟩
theorem ob_inv {β : Type} {b : Bool} {f t : β} {p : β → Prop} (h : p (ob b f t)) (hd : ¬ p f) : b = true ∧ p t := by
  cases b with
  | false => exact absurd h hd
  | true => exact ⟨rfl, h⟩
theorem oo_eq {α β : Type} {x : Option α} {k : α → Option β} {r : β} (h : oo x none k = some r) : ∃ a, x = some a ∧ k a = some r := oo_inv (p := (· = some r)) h (by simp)
theorem ob_eq {β : Type} {b : Bool} {t : Option β} {r : β} (h : ob b none t = some r) : b = true ∧ t = some r := ob_inv (p := (· = some r)) h (by simp)
theorem kIx_inj {j k : IntKind} (h : kIx j = kIx k) : j = k := by cases j <;> cases k <;> first | rfl | (exact absurd h (by decide))
theorem kEq_eq {j k : IntKind} (h : kEq j k = true) : j = k := kIx_inj (Nat.eq_of_beq_eq_true h)
theorem kEq_refl (k : IntKind) : kEq k k = true := Nat.beq_refl _
theorem iEq_iff (a b : Int) : iEq a b = decide (a = b) := by
  cases a <;> cases b <;> simp only [iEq, oi] <;> rw [Bool.eq_iff_iff] <;> simp [Nat.beq_eq] <;> omega
theorem iLt_iff (a b : Int) : iLt a b = decide (a < b) := by
  cases a <;> cases b <;> simp only [iLt, oi] <;> rw [Bool.eq_iff_iff] <;> simp [Nat.blt_eq] <;> omega

/-! ### Texts as numbers -/
theorem natOf_foldl (l : List UInt8) (a : Nat) : l.foldl (fun a b => a * 256 + b.toNat) a = a * 256 ^ l.length + natOf l := by
  induction l generalizing a with
  | nil => simp [natOf]
  | cons c l ih =>
    rw [List.foldl_cons, ih]
    unfold natOf
    rw [List.foldl_cons, ih (0 * 256 + c.toNat), List.length_cons, Nat.pow_succ]
    have : natOf l = List.foldl (fun a b => a * 256 + b.toNat) 0 l := rfl
    rw [this]
    rw [Nat.add_mul, Nat.mul_assoc, Nat.mul_comm 256, Nat.zero_mul, Nat.zero_add]; omega
theorem natOf_cons (c : UInt8) (l : List UInt8) : natOf (c :: l) = c.toNat * 256 ^ l.length + natOf l := by
  conv => lhs; unfold natOf
  rw [List.foldl_cons, natOf_foldl]; simp
theorem natOf_append (l m : List UInt8) : natOf (l ++ m) = natOf l * 256 ^ m.length + natOf m := by
  conv => lhs; unfold natOf
  rw [List.foldl_append, natOf_foldl]; rfl
theorem natOf_lt (l : List UInt8) : natOf l < 256 ^ l.length := by
  induction l with
  | nil => simp [natOf]
  | cons c l ih =>
    rw [natOf_cons, List.length_cons, Nat.pow_succ]
    have hc : c.toNat ≤ 255 := by have := c.toNat_lt; omega
    have := Nat.mul_le_mul_right (256 ^ l.length) hc
    omega
theorem natOf_inj : ∀ {l m : List UInt8}, l.length = m.length → natOf l = natOf m → l = m
  | [], [], _, _ => rfl
  | [], _ :: _, h, _ => by simp at h
  | _ :: _, [], h, _ => by simp at h
  | c :: l, d :: m, hl, h => by
    simp at hl
    rw [natOf_cons, natOf_cons, hl] at h
    have h1 := natOf_lt l
    have h2 := natOf_lt m
    rw [hl] at h1
    have hp : 0 < 256 ^ m.length := Nat.pow_pos (by omega)
    have e1 : c.toNat = d.toNat := by
      have a1 := congrArg (· / 256 ^ m.length) h
      have a1 : (c.toNat * 256 ^ m.length + natOf l) / 256 ^ m.length = (d.toNat * 256 ^ m.length + natOf m) / 256 ^ m.length := a1
      rw [Nat.mul_comm, Nat.mul_add_div hp, Nat.div_eq_of_lt h1, Nat.mul_comm d.toNat, Nat.mul_add_div hp, Nat.div_eq_of_lt h2] at a1
      omega
    have e2 : natOf l = natOf m := by rw [e1] at h; omega
    rw [natOf_inj hl e2, UInt8.toNat_inj.1 e1]
theorem natOf_drop (l : List UInt8) (k : Nat) : natOf (l.drop k) = natOf l % 256 ^ (l.length - k) := by
  conv => rhs; rw [← List.take_append_drop k l, natOf_append]
  have h := natOf_lt (l.drop k)
  rw [List.length_drop] at h ⊢
  rw [Nat.add_comm, List.take_append_drop, Nat.add_mul_mod_self_right, Nat.mod_eq_of_lt h]
theorem natOf_take (l : List UInt8) (k : Nat) : natOf (l.take k) = natOf l / 256 ^ (l.length - k) := by
  conv => rhs; rw [← List.take_append_drop k l, natOf_append]
  have h := natOf_lt (l.drop k)
  rw [List.length_drop] at h ⊢
  have hp : 0 < 256 ^ (l.length - k) := Nat.pow_pos (by omega)
  rw [List.take_append_drop, Nat.mul_comm, Nat.mul_add_div hp, Nat.div_eq_of_lt h, Nat.add_zero]
theorem natOf_get (l : List UInt8) (i : Nat) (h : i < l.length) : l[i].toNat = natOf l / 256 ^ (l.length - 1 - i) % 256 := by
  have h1 : l.drop i = l[i] :: l.drop (i + 1) := List.drop_eq_getElem_cons h
  have h2 := natOf_drop l i
  rw [h1, natOf_cons, List.length_drop] at h2
  have h3 : l.length - i = (l.length - 1 - i) + 1 := by omega
  have hp : 0 < 256 ^ (l.length - 1 - i) := Nat.pow_pos (by omega)
  have h4 := natOf_lt (l.drop (i + 1))
  rw [List.length_drop] at h4
  have h5 : l.length - (i + 1) = l.length - 1 - i := by omega
  rw [h5] at h2 h4
  rw [h3, Nat.pow_succ] at h2
  have h6 : natOf l % (256 ^ (l.length - 1 - i) * 256) / 256 ^ (l.length - 1 - i) = natOf l / 256 ^ (l.length - 1 - i) % 256 := by
    rw [Nat.mod_mul_right_div_self]
  rw [← h6, ← h2, Nat.mul_comm, Nat.mul_add_div hp, Nat.div_eq_of_lt h4, Nat.add_zero]

/-! ### What a value stands for -/
/-- Where the blocks lie: number and size. -/
abbrev Pi := Nat → Option (Nat × Nat)
def PExt (π π' : Pi) : Prop := ∀ b p, π b = some p → π' b = some p
theorem PExt.refl (π : Pi) : PExt π π := fun _ _ h => h
theorem PExt.trans {a b c : Pi} (h : PExt a b) (k : PExt b c) : PExt a c := fun x p hp => k x p (h x p hp)
mutual
inductive VR (π : Pi) : AV → Value → Prop where
  | bool (b : Bool) : VR π (.bool b) (.bool b)
  | int (k : IntKind) (n : Int) : VR π (.int k n) (.int k n)
  | str (s : ByteArray) : VR π (.str s.size (natOf s.data.toList)) (.string s)
  | ptr (b o c z : Nat) (h : π b = some (c, z)) : VR π (.ptr b o) (.pointer (some ⟨c, o, none⟩))
  | nilp : VR π .nilp (.pointer none)
  | sl (b o n lo : Nat) (ex : Bool) (s c z cap : Nat) (h : π b = some (c, z)) (h1 : n ≤ lo) (h2 : lo ≤ cap) (h3 : ex = true → cap = lo) (h4 : o + cap * s ≤ z) (h5 : cap < big63) : VR π (.sl b o n lo ex s) (.slice (some ⟨c, o, none⟩) n cap)
  | nils : VR π .nils (.slice none 0 0)
  | slz (a : Addr) (cap : Nat) : VR π .slz (.slice (some a) 0 cap)
  | map (b c z : Nat) (h : π b = some (c, z)) : VR π (.map b) (.map (some c))
  | nilm : VR π .nilm (.map none)
  | fn (f : Nat) (a c : List AV) (a' c' : Array Value) (h : VRs π a a'.toList) (h' : VRs π c c'.toList) : VR π (.fn f a c) (.func (.func f) a' c')
  | nilf : VR π .nilf .nilFunc
  | yld (l c z : Nat) (h : π l = some (c, z)) : VR π (.yld l) (.func (.yield c) #[] #[])
  | ifc (t : Nat) (v : AV) (v' : Value) (h : VR π v v') : VR π (.ifc t v) (.iface t v')
  | nili : VR π .nili .nilIface
  | opi (t : Nat) (v : Value) : VR π .opi (.iface t v)
  | agg (l : List AV) (a : Array Value) (h : VRs π l a.toList) : VR π (.agg l) (.agg a)
  | tup (l : List AV) (a : Array Value) (h : VRs π l a.toList) : VR π (.tup l) (.tuple a)
inductive VRs (π : Pi) : List AV → List Value → Prop where
  | nil : VRs π [] []
  | cons (v : AV) (v' : Value) (l : List AV) (l' : List Value) (h : VR π v v') (h' : VRs π l l') : VRs π (v :: l) (v' :: l')
end
section
variable {π π' : Pi}
theorem VR.mono (hE : PExt π π') {a : AV} {v : Value} (h : VR π a v) : VR π' a v :=
  VR.rec (motive_1 := fun a v _ => VR π' a v) (motive_2 := fun a v _ => VRs π' a v)
    (fun b => .bool b) (fun k n => .int k n) (fun s => .str s) (fun b o c z h => .ptr b o c z (hE _ _ h)) .nilp (fun b o n lo ex s c z cap h h1 h2 h3 h4 h5 => .sl b o n lo ex s c z cap (hE _ _ h) h1 h2 h3 h4 h5)
    .nils (fun a cap => .slz a cap) (fun b c z h => .map b c z (hE _ _ h)) .nilm (fun f a c a' c' _ _ h h' => .fn f a c a' c' h h') .nilf (fun l c z h => .yld l c z (hE _ _ h)) (fun t v v' _ h => .ifc t v v' h) .nili (fun t v => .opi t v)
    (fun l a _ h => .agg l a h) (fun l a _ h => .tup l a h) .nil (fun v v' l l' _ _ h h' => .cons v v' l l' h h') h
theorem VRs.mono (hE : PExt π π') {a : List AV} {v : List Value} (h : VRs π a v) : VRs π' a v := by
  induction a generalizing v with
  | nil => cases h; exact .nil
  | cons x a ih => cases h with | cons _ v' _ l' h h' => exact .cons _ _ _ _ (h.mono hE) (ih h')
theorem VRs.length {a : List AV} {v : List Value} (h : VRs π a v) : a.length = v.length := by
  induction a generalizing v with
  | nil => cases h; rfl
  | cons x a ih => cases h with | cons _ v' _ l' h h' => simp [ih h']
theorem VRs.get {a : List AV} {v : List Value} (h : VRs π a v) {i : Nat} {x : AV} (hi : a[i]? = some x) : ∃ y, v[i]? = some y ∧ VR π x y := by
  induction a generalizing v i with
  | nil => simp at hi
  | cons z a ih =>
    cases h with
    | cons _ v' _ l' h h' =>
      cases i with
      | zero => simp at hi; subst hi; exact ⟨_, rfl, h⟩
      | succ i => simpa using ih h' (by simpa using hi)
theorem VRs.append {a b : List AV} {v w : List Value} (h : VRs π a v) (h' : VRs π b w) : VRs π (a ++ b) (v ++ w) := by
  induction a generalizing v with
  | nil => cases h; exact h'
  | cons x a ih => cases h with | cons _ v' _ l' k k' => exact .cons _ _ _ _ k (ih k')
theorem VRs.take {a : List AV} {v : List Value} (h : VRs π a v) (n : Nat) : VRs π (a.take n) (v.take n) := by
  induction a generalizing v n with
  | nil => cases h; simp; exact .nil
  | cons x a ih =>
    cases h with
    | cons _ v' _ l' k k' =>
      cases n with
      | zero => simp; exact .nil
      | succ n => exact .cons _ _ _ _ k (ih k' n)
theorem VRs.drop {a : List AV} {v : List Value} (h : VRs π a v) (n : Nat) : VRs π (a.drop n) (v.drop n) := by
  induction a generalizing v n with
  | nil => cases h; simp; exact .nil
  | cons x a ih =>
    cases h with
    | cons _ v' _ l' k k' =>
      cases n with
      | zero => exact .cons _ _ _ _ k k'
      | succ n => exact ih k' n
theorem VRs.set {a : List AV} {v : List Value} (h : VRs π a v) (i : Nat) {x : AV} {y : Value} (hx : VR π x y) : VRs π (a.set i x) (v.set i y) := by
  induction a generalizing v i with
  | nil => cases h; simp; exact .nil
  | cons z a ih =>
    cases h with
    | cons _ v' _ l' k k' =>
      cases i with
      | zero => exact .cons _ _ _ _ hx k'
      | succ i => exact .cons _ _ _ _ k (ih k' i)
theorem VR.one {a : AV} {v : Value} (h : VR π a v) (hc : a.isCell = true) : v.oneCell' = true := by
  cases h <;> first | rfl | simp [AV.isCell] at hc
theorem VR.cells {a : AV} {v : Value} (h : VR π a v) : VRs π a.cells v.cells.toList := by
  cases h with
  | agg l a h => exact h
  | _ => exact .cons _ _ _ _ (by constructor <;> assumption) .nil
end
end Go.Proofs.YtmoejaloachlkaaGreatDoor.Ev
