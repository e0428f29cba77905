/- The evaluator, 7: Plain operations, functions without a body, calls, conversions, builtins. No conditions. -/
import Derived.Test.YthfenjgelbkloaaGreatDoorV6
import Derived.Laws.StructEq
import Derived.Lib.Bytealg
import Derived.Lib.MakeNoZero
import Derived.Lib.UnsafeStr
import Derived.Laws.Append

namespace Go.Proofs.YthfenjgelbkloaaGreatDoor.Ev
open Go Go.RowKit

section
variable {P : Program} {B : Nat} {π : Pi} {H H' : Hp} {w : World} {r : T AV} {a : Act} {v : AV} {s : Sem Next} {c : OR}
/-- A value or nothing. -/
def OR.plain : OR → Prop
  | .bad _ => True
  | .val _ _ => True
  | _ => False
theorem ORun.plain (hp : c.plain) (h : ∀ v H', c = .val v H' → OVal P s B π H w v H') : ORun P B π H w s c := by
  cases c with
  | bad w => trivial
  | val v H' => exact h v H' rfl
  | _ => exact hp.elim
theorem plain_oo {α : Type} {x : Option α} {d : OR} {k : α → OR} (hd : d.plain) (h : ∀ a, x = some a → (k a).plain) : (oo x d k).plain := by
  cases x with
  | none => exact hd
  | some a => exact h a rfl
theorem plain_ob {b : Bool} {f t : OR} (hf : f.plain) (ht : t.plain) : (ob b f t).plain := by cases b <;> assumption
theorem plain_orV {h : Hp} {x : Option AV} : (orV h x).plain := by cases x <;> trivial
theorem plain_mkI (k : IntKind) (n : Int) (h : Hp) : (mkI k n h).plain := by rw [mkI_eq]; trivial
theorem plain_wrapI (k : IntKind) (n : Int) (h : Hp) : (wrapI k n h).plain := by rw [wrapI_eq]; trivial
theorem plain_intOp (op : BinOp) (k : IntKind) (a b : Int) (h : Hp) : (intOp op k a b h).plain := by
  cases op
  case quo => exact plain_ob (plain_wrapI _ _ _) trivial
  case rem => exact plain_ob (plain_mkI _ _ _) trivial
  all_goals first | exact plain_wrapI _ _ _ | exact plain_mkI _ _ _ | trivial
theorem plain_shiftOp (op : BinOp) (k : IntKind) (a b : Int) (h : Hp) : (shiftOp op k a b h).plain := by
  cases b with
  | negSucc m => trivial
  | ofNat m => cases op <;> first | exact plain_mkI _ _ _ | trivial
theorem plain_cond {b : Bool} {f t : OR} (hf : f.plain) (ht : t.plain) : (bif b then t else f).plain := by cases b <;> assumption
theorem plain_strOp (op : BinOp) (n v m u : Nat) (h : Hp) : (strOp op n v m u h).plain := by
  cases op
  case add => exact plain_cond trivial trivial
  all_goals trivial
theorem move_run (hH : HRel π B H w) (hR : RR π r a.tmps) {x : Operand} : ORun P B π H w (pure (.value (a.eval x))) (orV H (opnd r x)) := by
  refine ORun.plain plain_orV fun v H' e => ?_
  obtain ⟨e1, rfl⟩ := orV_val e
  exact OVal.value hH (opnd_sound hH hR e1)
theorem pick_run (hH : HRel π B H w) (hR : RR π r a.tmps) {x y z : Operand} : ORun P B π H w (do pure (.value (if ← asBool (a.eval x) then a.eval y else a.eval z))) (opPick x y z P r H) := by
  refine ORun.plain ?_ fun v H' e => ?_
  · refine plain_oo trivial fun c _ => ?_
    cases c with
    | bool b => exact plain_orV
    | _ => trivial
  · obtain ⟨c, h1, h2⟩ := oo_val e (by simp [orB])
    obtain ⟨b, rfl, h3⟩ := avBool_some (p := (· = OR.val v H')) h2 (by simp [orB])
    obtain ⟨h4, rfl⟩ := orV_val h3
    have hc := opnd_sound hH hR h1
    have hb : a.eval x = .bool b := by generalize a.eval x = cv at hc; cases hc; rfl
    rw [hb]
    cases b with
    | true => exact OVal.value hH (opnd_sound hH hR h4)
    | false => exact OVal.value hH (opnd_sound hH hR h4)
theorem alloc_run (hc : ∀ v H', c = .val v H' → ∃ x sm, H' = H.new x ∧ s = (do let y ← sm; pure (.value y)) ∧ AR P π w H.nx x v sm) (hH : HRel π B H w) (hp : c.plain) : ORun P B π H w s c := by
  refine ORun.plain hp fun v H' e => ?_
  obtain ⟨x, sm, rfl, rfl, h3⟩ := hc v H' e
  exact h3.oval hH
theorem build_run (hH : HRel π B H w) (hR : RR π r a.tmps) {t : TypeId} {ps : Array (Nat × Operand)} : ORun P B π H w (do let y ← Instr.build t (ps.map fun (i, x) => (i, a.eval x)); pure (.value y)) (opBuild t ps P r H) := by
  unfold opBuild
  cases hl : partsA r ps.toList with
  | none => trivial
  | some l =>
    simp only
    cases hb : buildA P t l with
    | none => trivial
    | some v =>
      have hps := partsA_sound hH hR hl
      obtain ⟨cv, h1, h2⟩ := build_sound (P := P) (w := w) (qs := ps.map fun (i, x) => (i, a.eval x)) (by simpa using hps) hb
      exact OVal.pure hH h1 h2
theorem load_run (hH : HRel π B H w) (hR : RR π r a.tmps) {t : TypeId} {x : Operand} : ORun P B π H w (do let y ← Instr.loadAt t (a.eval x); pure (.value y)) (opLoad t x P r H) := by
  refine ORun.plain (plain_oo trivial fun _ _ => plain_orV) fun v H' e => ?_
  obtain ⟨u, h1, h2⟩ := oo_val e (by simp [orB])
  obtain ⟨h3, rfl⟩ := orV_val h2
  obtain ⟨cu, k1, k2⟩ := load_sound (P := P) hH h3 (opnd_sound hH hR h1)
  exact OVal.pure hH k1 k2
theorem store_sound (hH : HRel π B H w) {t : TypeId} {x y : AV} {cx cy : Value} (hx : VR π x cx) (hy : VR π y cy) (h : store P t x y H = some H') : ∃ w', (Instr.storeAt t cx cy).run P w = .ok () w' ∧ Step B π H w π H' w' := by
  obtain ⟨b, o, rfl, h2⟩ := avPtr_some (p := (· = some H')) h (by simp)
  obtain ⟨g, h3, h4⟩ := oo_eq h2
  obtain ⟨h5, h6⟩ := ob_eq h4
  have hlen := Nat.eq_of_beq_eq_true h5
  cases hx with
  | ptr _ _ c z hp =>
    have hcells := hy.cells
    have hl : VOs π (y.cells.map some) cy.cells.toList := VOs.of hcells
    obtain ⟨g1, g2⟩ := g
    have hone : ∀ u ∈ cy.cells.toList, u.oneCell' = true := by
      have hac : allCells (y.cells.map some) = true ∨ y.cells = [] := by
        unfold stores at h6
        split at h6
        · rename_i he; right; simpa using he
        · split at h6
          · obtain ⟨hb, _⟩ := cond_some h6
            simp only [Bool.and_eq_true] at hb
            exact .inl hb.2
          · obtain ⟨hb, _⟩ := cond_some h6
            simp only [Bool.and_eq_true] at hb
            exact .inl hb.1.2
          · cases h6
      rcases hac with hac | hac
      · have : y.cells.all AV.isCell = true := by
          rw [List.all_eq_true]
          intro u hu
          obtain ⟨i, hi⟩ := List.mem_iff_getElem?.1 hu
          exact allCells_mem hac i u (by rw [List.getElem?_map, hi]; rfl)
        exact isCell_one hcells this
      · rw [hac] at hcells
        generalize cy.cells.toList = l at hcells
        cases hcells
        intro u hu; cases hu
    obtain ⟨w', k1, k2⟩ := stores_sound P hH hp h6 hl hone
    refine ⟨w', ?_, k2⟩
    unfold Instr.storeAt
    have hs : (Instr.sureAddr (.pointer (some ⟨c, o, none⟩))).run P w = .ok ⟨c, o, none⟩ w := rfl
    rw [Sem.run_bind, hs, Result.andThen_ok]
    unfold storeVar
    have hsz : cy.cells.size = g2 := by
      have h9 : y.cells.length = cy.cells.size := by rw [hcells.length]; exact Array.length_toList
      rw [← h9]; exact hlen
    simp only [Sem.run_bind, tAgg_size h3, Result.andThen_ok]
    rw [if_neg (by simpa using hsz)]
    exact k1
theorem store_run (hH : HRel π B H w) (hR : RR π r a.tmps) {t : TypeId} {x y : Operand} : ORun P B π H w (do Instr.storeAt t (a.eval x) (a.eval y); pure .skip) (opStore t x y P r H) := by
  refine ORun.plain (plain_oo trivial fun _ _ => plain_oo trivial fun _ _ => plain_oo trivial fun _ _ => trivial) fun v H' e => ?_
  obtain ⟨u, h1, e⟩ := oo_val e (by simp [orB])
  obtain ⟨u2, h2, e⟩ := oo_val e (by simp [orB])
  obtain ⟨h3, h4, e⟩ := oo_val e (by simp [orB])
  cases e
  obtain ⟨w', k1, k2⟩ := store_sound (P := P) hH (opnd_sound hH hR h1) (opnd_sound hH hR h2) h4
  exact OVal.unit k1 k2
theorem nilCheck_run (hH : HRel π B H w) (hR : RR π r a.tmps) {o : Oper} {x : Operand} (ho : o.op = .nilCheck x) : ORun P B π H w (execOp a.eval o) (opNilCheck x P r H) := by
  refine ORun.plain ?_ fun v H' e => ?_
  · refine plain_oo trivial fun c _ => ?_
    cases c <;> trivial
  · obtain ⟨c, h1, h2⟩ := oo_val e (by simp [orB])
    have hv := opnd_sound hH hR h1
    unfold execOp
    rw [ho]
    simp only
    generalize a.eval x = cx at hv
    cases c with
    | ptr b o =>
      have h2 : OR.val (.ptr b o) H = .val v H' := h2
      cases h2
      cases hv with
      | ptr _ _ c z hp => exact OVal.value hH (.ptr _ _ _ _ hp)
    | fn f a c =>
      have h2 : OR.val (.fn f a c) H = .val v H' := h2
      cases h2
      cases hv with
      | fn _ _ _ a' c' h h' => exact OVal.value hH (.fn _ _ _ _ _ h h')
    | _ => exact absurd (show orB "nilCheck" = .val v H' from h2) (by simp [orB])
theorem guard0 {t : TypeId} {ox oy : Operand} {c d : Value} (h1 : c ≠ .nilIface) (h2 : ∀ l, c ≠ .agg l) : (eqGuard .eql t ox oy c d).run P w = .ok () w := by
  cases c <;> first | exact absurd rfl h1 | exact absurd rfl (h2 _) | (cases d <;> rfl)
theorem guard1 {t : TypeId} {ox oy : Operand} {c : Value} (h : c ≠ .nilIface) : (eqGuard .eql t ox oy .nilIface c).run P w = .ok () w := by
  cases c <;> first | exact absurd rfl h | rfl
theorem guard2 {t : TypeId} {ox oy : Operand} {l : Array Value} {c : Value} (h : ∀ l, c ≠ .agg l) : (eqGuard .eql t ox oy (.agg l) c).run P w = .ok () w := by
  cases c <;> first | exact absurd rfl (h _) | rfl
theorem guard3 {t : TypeId} {oy : Operand} {v : Value} : (eqGuard .eql t (.const v) oy .nilIface .nilIface).run P w = .ok () w := rfl
theorem guard4 {t : TypeId} {oy : Operand} {v : Value} : (eqGuard .eql t oy (.const v) .nilIface .nilIface).run P w = .ok () w := by cases oy <;> rfl
theorem guard5 {t : TypeId} {ox oy : Operand} {l l' : Array Value} (h : (!P.eqGuardType P.depth t) = true) : (eqGuard .eql t ox oy (.agg l) (.agg l')).run P w = .ok () w :=
  run_eqGuard_agg w .eql t ox oy l l' (by simpa using h)
theorem guard_sound {x y : AV} {cx cy : Value} (hx : VR π x cx) (hy : VR π y cy) {op : BinOp} {t : TypeId} {ox oy : Operand} (h : guardA P op t ox oy x y = true) : (eqGuard op t ox oy cx cy).run P w = .ok () w := by
  have main : guardA P .eql t ox oy x y = true → (eqGuard .eql t ox oy cx cy).run P w = .ok () w := by
    intro h
    cases hx
    case nili =>
      cases hy
      case nili =>
        cases ox <;> first | exact guard3 | skip
        all_goals cases oy <;> first | exact guard4 | exact absurd (show (false : Bool) = true from h) Bool.false_ne_true
      all_goals exact guard1 (by simp)
    case agg =>
      cases hy
      case agg => exact guard5 h
      all_goals exact guard2 (by simp)
    all_goals exact guard0 (by simp) (by simp)
  cases op
  case eql => exact main h
  case neq => exact main h
  all_goals rfl
theorem binS_sound (hH : HRel π B H w) {op : BinOp} {t : TypeId} {x y : AV} {cx cy : Value} (hx : VR π x cx) (hy : VR π y cy) (hni : ∀ k n, x ≠ .int k n) (e : binS op P t x y H = .val v H') : H' = H ∧ ∃ cv, (binOp op t cx cy).run P w = .ok cv w ∧ VR π v cv := by
  have heq : ∀ n, (∀ m u, x ≠ .str m u) → eqOr (eqA P H 20 t x y) n H = .val v H' → (op = .eql ∧ n = false ∨ op = .neq ∧ n = true) → H' = H ∧ ∃ cv, (binOp op t cx cy).run P w = .ok cv w ∧ VR π v cv := by
    intro n hns he hop
    cases hq : eqA P H 20 t x y with
    | none => rw [hq] at he; cases he
    | some b =>
      rw [hq] at he
      have he : OR.val (.bool (ob n b (!b))) H = .val v H' := he
      cases he
      have hr := eqA_sound (P := P) 20 Op.maxDepth t x y b cx cy (by decide) hH hx hy hq
      have hr : (Op.equal t cx cy).run P w = .ok b w := hr
      refine ⟨rfl, ?_⟩
      rcases hop with ⟨rfl, rfl⟩ | ⟨rfl, rfl⟩
      · refine ⟨.bool b, ?_, .bool _⟩
        have : binOp .eql t cx cy = (do pure (.bool (← Op.equal t cx cy))) := by
          cases hx <;> first | rfl | exact absurd rfl (hni _ _) | exact absurd rfl (hns _ _)
        rw [this, Sem.run_bind, hr]; rfl
      · refine ⟨.bool (!b), ?_, .bool _⟩
        have : binOp .neq t cx cy = (do pure (.bool (!(← Op.equal t cx cy)))) := by
          cases hx <;> first | rfl | exact absurd rfl (hni _ _) | exact absurd rfl (hns _ _)
        rw [this, Sem.run_bind, hr]; rfl
  by_cases hs : ∃ n u, x = .str n u
  · obtain ⟨n, u, rfl⟩ := hs
    have e : avStr y (.bad "text operator") (fun m u' => strOp op n u m u' H) = .val v H' := e
    obtain ⟨m, u', rfl, e2⟩ := avStr_some (p := (· = OR.val v H')) e (by simp)
    cases hx
    cases hy
    obtain ⟨h1, cv, h2, h3⟩ := strOp_sound (P := P) (w := w) (t := t) e2
    exact ⟨h1, cv, h2, h3 π⟩
  · have hns : ∀ m u, x ≠ .str m u := fun m u e => hs ⟨m, u, e⟩
    have e : (match (generalizing := false) op with
      | .eql => eqOr (eqA P H 20 t x y) false H
      | .neq => eqOr (eqA P H 20 t x y) true H
      | _ => .bad "operator") = OR.val v H' := by
      cases x <;> first | exact e | exact absurd rfl (hns _ _)
    cases op <;> first | exact heq _ hns e (.inl ⟨rfl, rfl⟩) | exact heq _ hns e (.inr ⟨rfl, rfl⟩) | cases e
theorem plain_eqOr {x : Option Bool} {n : Bool} {h : Hp} : (eqOr x n h).plain := by cases x <;> trivial
theorem plain_binS {op : BinOp} {t : TypeId} {x y : AV} {h : Hp} : (binS op P t x y h).plain := by
  unfold binS
  cases x with
  | str n v =>
    show (avStr y (.bad "text operator") fun m u => strOp op n v m u h).plain
    cases y with
    | str m u => exact plain_strOp _ _ _ _ _ _
    | _ => trivial
  | _ => cases op <;> first | exact plain_eqOr | trivial
theorem binOp_run (hH : HRel π B H w) (hR : RR π r a.tmps) {op : BinOp} {t u : TypeId} {x y : Operand} : ORun P B π H w (do let z ← (do eqGuard op t x y (a.eval x) (a.eval y); binOp op t (a.eval x) (a.eval y) : Sem Value); pure (.value z)) (opBinOp op t x y u P r H) := by
  refine ORun.plain ?_ fun v H' e => ?_
  · refine plain_oo trivial fun c _ => plain_oo trivial fun c' _ => plain_ob trivial ?_
    unfold binA
    cases c with
    | int k n =>
      show (avInt c' (.bad "operator") fun k' y => ob (isShift op) (ob (kEq k k') (.bad "kinds") (intOp op k n y H)) (shiftOp op k n y H)).plain
      cases c' with
      | int k' n' => exact plain_ob (plain_ob trivial (plain_intOp _ _ _ _ _)) (plain_shiftOp _ _ _ _ _)
      | _ => trivial
    | _ => exact plain_binS
  · obtain ⟨c, h1, e⟩ := oo_val e (by simp [orB])
    obtain ⟨c', h2, e⟩ := oo_val e (by simp [orB])
    obtain ⟨hg, e⟩ := ob_val e (by simp [orB])
    have hx := opnd_sound hH hR h1
    have hy := opnd_sound hH hR h2
    have hgr := guard_sound (P := P) (w := w) hx hy hg
    have main : H' = H ∧ ∃ cv, (binOp op t (a.eval x) (a.eval y)).run P w = .ok cv w ∧ VR π v cv := by
      by_cases hi : ∃ k n, c = .int k n
      · obtain ⟨k, n, rfl⟩ := hi
        have e : avInt c' (.bad "operator") (fun k' y => ob (isShift op) (ob (kEq k k') (.bad "kinds") (intOp op k n y H)) (shiftOp op k n y H)) = .val v H' := e
        obtain ⟨k', n', rfl, e2⟩ := avInt_some (p := (· = OR.val v H')) e (by simp)
        rw [hx.int_inv, hy.int_inv]
        cases hsh : isShift op with
        | true =>
          rw [hsh] at e2
          obtain ⟨h3, cv, h4, h5⟩ := shiftOp_sound (P := P) (w := w) (t := t) (j := k') hsh e2
          exact ⟨h3, cv, h4, h5 π⟩
        | false =>
          rw [hsh, ob_false] at e2
          obtain ⟨hk, e3⟩ := ob_val e2 (by simp)
          rw [kEq_eq hk] at *
          obtain ⟨h3, cv, h4, h5⟩ := intOp_sound (P := P) (w := w) (t := t) hsh e3
          exact ⟨h3, cv, h4, h5 π⟩
      · have hni : ∀ k n, c ≠ .int k n := fun k n e => hi ⟨k, n, e⟩
        have e : binS op P t c c' H = .val v H' := by
          cases c <;> first | exact e | exact absurd rfl (hni _ _)
        exact binS_sound hH hx hy hni e
    obtain ⟨rfl, cv, h3, h4⟩ := main
    refine OVal.pure hH (cv := cv) ?_ h4
    rw [Sem.run_bind, hgr, Result.andThen_ok]; exact h3
theorem unOp_run (hH : HRel π B H w) (hR : RR π r a.tmps) {op : UnOp} {t : TypeId} {x : Operand} : ORun P B π H w (do let y ← Op.unary op (a.eval x); pure (.value y)) (opUnOp op t x P r H) := by
  refine ORun.plain ?_ fun v H' e => ?_
  · refine plain_oo trivial fun c _ => ?_
    cases op with
    | neg =>
      show (uNeg c H).plain
      cases c with
      | int k n => exact plain_wrapI _ _ _
      | _ => trivial
    | not =>
      show (uNot c H).plain
      cases c <;> trivial
    | _ => trivial
  · obtain ⟨c, h1, e⟩ := oo_val e (by simp [orB])
    have hx := opnd_sound hH hR h1
    cases op with
    | neg =>
      have e : uNeg c H = .val v H' := e
      obtain ⟨k, n, rfl, e2⟩ := avInt_some (p := (· = OR.val v H')) e (by simp)
      rw [subI_eq] at e2
      obtain ⟨rfl, rfl⟩ := wrapI_val e2
      rw [hx.int_inv]
      exact OVal.pure hH (cv := .int k (k.wrap (0 - n))) rfl (.int _ _)
    | not =>
      have e : uNot c H = .val v H' := e
      obtain ⟨b, rfl, e2⟩ := avBool_some (p := (· = OR.val v H')) e (by simp)
      cases e2
      have hb : a.eval x = .bool b := by generalize a.eval x = cv at hx; cases hx; rfl
      rw [hb]
      refine OVal.pure hH (cv := .bool (!b)) rfl ?_
      cases b <;> exact .bool _
    | _ => cases e
theorem makeInterface_run (hH : HRel π B H w) (hR : RR π r a.tmps) {t : TypeId} {x : Operand} : ORun P B π H w (do let y ← Instr.makeInterface t (a.eval x); pure (.value y)) (opMakeInterface t x P r H) := by
  unfold opMakeInterface
  cases hx : opnd r x with
  | none => trivial
  | some c =>
    cases hu : P.underlying t with
    | none => trivial
    | some u =>
      have main : ∀ (hni : ∀ m, u ≠ .interface m), OVal P (do let y ← Instr.makeInterface t (a.eval x); pure (.value y)) B π H w (.ifc t c) H := by
        intro hni
        refine OVal.pure hH (cv := .iface t (a.eval x)) ?_ (.ifc _ _ _ (opnd_sound hH hR hx))
        unfold Instr.makeInterface
        rw [Sem.run_bind, run_underlying hu, Result.andThen_ok]
        cases u <;> first | rfl | exact absurd rfl (hni _)
      cases u <;> first | trivial | exact main (by simp)
theorem makeFunc_run (hH : HRel π B H w) (hR : RR π r a.tmps) {f : Fn} {x y : Array Operand} : ORun P B π H w (do let z ← Instr.makeFunc f (x.map a.eval) (y.map a.eval); pure (.value z)) (opMakeFunc f x y P r H) := by
  unfold opMakeFunc
  cases f with
  | func g =>
    cases h1 : opnds r x.toList with
    | none => trivial
    | some l =>
      cases h2 : opnds r y.toList with
      | none => trivial
      | some l' =>
        have k1 := opnds_sound hH hR h1
        have k2 := opnds_sound hH hR h2
        exact OVal.pure hH (cv := .func (.func g) (x.map a.eval) (y.map a.eval)) rfl (.fn _ _ _ _ _ (by simpa using k1) (by simpa using k2))
  | _ => trivial
theorem slice_run (hH : HRel π B H w) (hR : RR π r a.tmps) {t : TypeId} {x : Operand} {l hh m : Option Operand} : ORun P B π H w (do let y ← Instr.sliceAt t (a.eval x) (l.map a.eval) (hh.map a.eval) (m.map a.eval); pure (.value y)) (opSlice t x l hh m P r H) := by
  unfold opSlice
  cases h1 : opnd r x with
  | none => trivial
  | some c =>
    cases h2 : optA r l with
    | none => trivial
    | some l' =>
      cases h3 : optA r hh with
      | none => trivial
      | some h' =>
        cases h4 : optA r m with
        | none => trivial
        | some m' =>
          simp only
          cases h5 : sliceA P t c l' h' m' H with
          | none => trivial
          | some v =>
            obtain ⟨cv, k1, k2⟩ := slice_sound (P := P) hH (opnd_sound hH hR h1) (optA_sound hH hR h2) (optA_sound hH hR h3) (optA_sound hH hR h4) h5
            exact OVal.pure hH k1 k2
theorem fieldAddr_run (hH : HRel π B H w) (hR : RR π r a.tmps) {t : TypeId} {x : Operand} {f : Nat} : ORun P B π H w (do let y ← Instr.fieldAt t (a.eval x) f; pure (.value y)) (opFieldAddr t x f P r H) := by
  refine ORun.plain (plain_oo trivial fun _ _ => plain_orV) fun v H' e => ?_
  obtain ⟨c, h1, e⟩ := oo_val e (by simp [orB])
  obtain ⟨h2, rfl⟩ := orV_val e
  obtain ⟨cv, k1, k2⟩ := fieldAddr_sound (P := P) (w := w) (opnd_sound hH hR h1) h2
  exact OVal.pure hH k1 k2
theorem field_run (hH : HRel π B H w) (hR : RR π r a.tmps) {t : TypeId} {x : Operand} {f : Nat} : ORun P B π H w (do let y ← Instr.field t (a.eval x) f; pure (.value y)) (opField t x f P r H) := by
  unfold opField
  cases h1 : opnd r x with
  | none => trivial
  | some c =>
    cases h2 : fieldOf P t f with
    | none => cases c <;> trivial
    | some fd =>
      cases c <;> first | trivial | skip
      rename_i l
      simp only
      cases h3 : partA P fd.type l fd.offset with
      | none => trivial
      | some v =>
        obtain ⟨cv, k1, k2⟩ := field_sound (P := P) (w := w) (opnd_sound hH hR h1) h2 h3
        exact OVal.pure hH k1 k2
theorem indexAddr_run (hH : HRel π B H w) (hR : RR π r a.tmps) {t : TypeId} {x i : Operand} : ORun P B π H w (do let y ← Instr.indexAt t (a.eval x) (a.eval i); pure (.value y)) (opIndexAddr t x i P r H) := by
  refine ORun.plain (plain_oo trivial fun _ _ => plain_oo trivial fun _ _ => plain_orV) fun v H' e => ?_
  obtain ⟨c, h1, e⟩ := oo_val e (by simp [orB])
  obtain ⟨c', h2, e⟩ := oo_val e (by simp [orB])
  obtain ⟨h3, rfl⟩ := orV_val e
  obtain ⟨cv, k1, k2⟩ := idxAddr_sound (P := P) (w := w) (opnd_sound hH hR h1) (opnd_sound hH hR h2) h3
  exact OVal.pure hH k1 k2
theorem index_run (hH : HRel π B H w) (hR : RR π r a.tmps) {t : TypeId} {x i : Operand} : ORun P B π H w (do let y ← Instr.index t (a.eval x) (a.eval i); pure (.value y)) (opIndex t x i P r H) := by
  refine ORun.plain (plain_oo trivial fun _ _ => plain_oo trivial fun _ _ => plain_orV) fun v H' e => ?_
  obtain ⟨c, h1, e⟩ := oo_val e (by simp [orB])
  obtain ⟨c', h2, e⟩ := oo_val e (by simp [orB])
  obtain ⟨h3, rfl⟩ := orV_val e
  obtain ⟨cv, k1, k2⟩ := index_sound (P := P) (w := w) (opnd_sound hH hR h1) (opnd_sound hH hR h2) h3
  exact OVal.pure hH k1 k2
theorem lookup_run (hH : HRel π B H w) (hR : RR π r a.tmps) {t : TypeId} {x i : Operand} {ok : Bool} : ORun P B π H w (do let y ← Instr.lookup t (a.eval x) (a.eval i) ok; pure (.value y)) (opLookup t x i ok P r H) := by
  unfold opLookup
  cases h1 : opnd r x with
  | none => trivial
  | some c =>
    cases h2 : opnd r i with
    | none => trivial
    | some c' =>
      simp only
      cases h3 : lookupA P t c c' ok H with
      | none => trivial
      | some v =>
        obtain ⟨cv, k1, k2⟩ := lookup_sound (P := P) hH (opnd_sound hH hR h1) (opnd_sound hH hR h2) h3
        exact OVal.pure hH k1 k2
theorem extract_run (hH : HRel π B H w) (hR : RR π r a.tmps) {x : Operand} {i : Nat} : ORun P B π H w (do let y ← Instr.extract (a.eval x) i; pure (.value y)) (opExtract x i P r H) := by
  refine ORun.plain ?_ fun v H' e => ?_
  · refine plain_oo trivial fun c _ => ?_
    cases c with
    | tup l => exact plain_orV
    | _ => trivial
  · obtain ⟨c, h1, e⟩ := oo_val e (by simp [orB])
    obtain ⟨l, rfl, e⟩ := avTup_some (p := (· = OR.val v H')) e (by simp [orB])
    obtain ⟨h2, rfl⟩ := orV_val e
    have hx := opnd_sound hH hR h1
    generalize a.eval x = cx at hx
    cases hx with
    | tup _ arr hl =>
      obtain ⟨cv, k1, k2⟩ := hl.get h2
      refine OVal.pure hH (cv := cv) ?_ k2
      have k3 : arr[i]? = some cv := by rw [← Array.getElem?_toList]; exact k1
      unfold Instr.extract
      simp only [k3, Sem.run_pure]
theorem typeAssert_run (hH : HRel π B H w) (hR : RR π r a.tmps) {x : Operand} {t u : TypeId} {ok : Bool} : ORun P B π H w (do let y ← Instr.typeAssert (a.eval x) t u ok; pure (.value y)) (opTypeAssert x t u ok P r H) := by
  unfold opTypeAssert
  cases h1 : opnd r x with
  | none => trivial
  | some c =>
    cases hu : P.underlying u with
    | none => cases c <;> trivial
    | some d =>
      have hx := opnd_sound hH hR h1
      have hz : ∀ z, zeroA P u = some z → (∀ m, d ≠ .interface m) → ok = true → (∀ (s1 : Sem Value), (∀ cz, (zeroValue u).run P w = .ok cz w → s1.run P w = .ok (.tuple #[cz, .bool false]) w) → OVal P (do let y ← s1; pure (.value y)) B π H w (.tup [z, .bool false]) H) := by
        intro z hz _ _ s1 hs1
        obtain ⟨cz, k1, k2⟩ := zeroA_run (P := P) (π := π) (w := w) hz
        exact OVal.pure hH (hs1 cz k1) (.tup _ _ (.cons _ _ _ _ k2 (.cons _ _ _ _ (.bool _) .nil)))
      have hnil : (∀ m, d ≠ .interface m) → c = .nili → ORun P B π H w (do let y ← Instr.typeAssert (a.eval x) t u ok; pure (.value y)) (bif ok then (match (generalizing := false) zeroA P u with | some z => OR.val (.tup [z, .bool false]) H | none => .bad "typeAssert") else .bad "typeAssert") := by
        intro hni hc
        subst hc
        cases ok with
        | false => trivial
        | true =>
          rw [cond_true]
          cases hzu : zeroA P u with
          | none => trivial
          | some z =>
            have hb : a.eval x = .nilIface := by generalize a.eval x = cv at hx; cases hx; rfl
            refine hz z hzu hni rfl _ fun cz k => ?_
            rw [hb]
            unfold Instr.typeAssert
            rw [Sem.run_bind, run_underlying hu, Result.andThen_ok]
            cases d <;> first | exact absurd rfl (hni _) | (simp only [if_true, Sem.run_bind, k, Result.andThen_ok, Sem.run_pure])
      have hifc : (∀ m, d ≠ .interface m) → ∀ tt vv, c = .ifc tt vv → ORun P B π H w (do let y ← Instr.typeAssert (a.eval x) t u ok; pure (.value y)) (bif Nat.beq tt u then OR.val (bif ok then .tup [vv, .bool true] else vv) H else bif ok then (match (generalizing := false) zeroA P u with | some z => OR.val (.tup [z, .bool false]) H | none => .bad "typeAssert") else .bad "typeAssert") := by
        intro hni tt vv hc
        subst hc
        generalize a.eval x = cx at hx
        cases hx with
        | ifc _ _ v' hv =>
          cases hb : Nat.beq tt u with
          | true =>
            have := Nat.eq_of_beq_eq_true hb
            subst this
            rw [cond_true]
            refine OVal.pure hH (cv := if ok then .tuple #[v', .bool true] else v') ?_ ?_
            · unfold Instr.typeAssert
              rw [Sem.run_bind, run_underlying hu, Result.andThen_ok]
              cases d <;> first | exact absurd rfl (hni _) | (simp only [if_true]; rfl)
            · cases ok with
              | true => exact .tup _ _ (.cons _ _ _ _ hv (.cons _ _ _ _ (.bool _) .nil))
              | false => exact hv
          | false =>
            rw [cond_false]
            have hne : tt ≠ u := by intro e; subst e; simp at hb
            cases ok with
            | false => trivial
            | true =>
              rw [cond_true]
              cases hzu : zeroA P u with
              | none => trivial
              | some z =>
                refine hz z hzu hni rfl _ fun cz k => ?_
                unfold Instr.typeAssert
                rw [Sem.run_bind, run_underlying hu, Result.andThen_ok]
                cases d <;> first | exact absurd rfl (hni _) | (simp only [if_neg hne, if_true, Sem.run_bind, k, Result.andThen_ok, Sem.run_pure])
      cases c <;> cases d <;> first | trivial | exact hnil (by simp) rfl | exact hifc (by simp) _ _ rfl
end
end Go.Proofs.YthfenjgelbkloaaGreatDoor.Ev

namespace Go.Proofs.YthfenjgelbkloaaGreatDoor.Ev
open Go Go.RowKit

section
variable {P : Program} {B : Nat} {π : Pi} {H H' : Hp} {w : World} {r : T AV} {a : Act} {v : AV}
theorem mapUpd_run (hH : HRel π B H w) (hR : RR π r a.tmps) {t : TypeId} {m k x : Operand} {c : OR}
    (hc : c = match opnd r m, opnd r k, opnd r x with
      | some m, some k, some v => (match mapUpd P t m k v H with
        | some h' => OR.val undA h'
        | none => .bad "mapUpdate")
      | _, _, _ => .bad "mapUpdate") : ORun P B π H w (do Instr.mapUpdate t (a.eval m) (a.eval k) (a.eval x); pure .skip) c := by
  subst hc
  cases h1 : opnd r m with
  | none => trivial
  | some m' =>
    cases h2 : opnd r k with
    | none => trivial
    | some k' =>
      cases h3 : opnd r x with
      | none => trivial
      | some x' =>
        simp only
        cases h4 : mapUpd P t m' k' x' H with
        | none => trivial
        | some H1 =>
          obtain ⟨w', k1, k2⟩ := mapUpd_sound (P := P) hH (opnd_sound hH hR h1) (opnd_sound hH hR h2) (opnd_sound hH hR h3) h4
          exact OVal.unit k1 k2
theorem insert_run (hH : HRel π B H w) (hR : RR π r a.tmps) {t : TypeId} {m k x : Operand} : ORun P B π H w (do Instr.mapUpdate t (a.eval m) (a.eval k) (a.eval x); pure .skip) (opInsert t m k x P r H) := by
  unfold opInsert
  cases h1 : opnd r m with
  | none => trivial
  | some m' =>
    cases h2 : opnd r k with
    | none => trivial
    | some k' =>
      cases h3 : opnd r x with
      | none => trivial
      | some x' =>
        simp only
        cases h4 : mapUpd P t m' k' x' H with
        | none => trivial
        | some H1 =>
          obtain ⟨w', k1, k2⟩ := mapUpd_sound (P := P) hH (opnd_sound hH hR h1) (opnd_sound hH hR h2) (opnd_sound hH hR h3) h4
          exact OVal.unit k1 k2
theorem range_run (hH : HRel π B H w) (hR : RR π r a.tmps) {t : TypeId} {x : Operand} : ORun P B π H w (do let y ← Instr.range t (a.eval x); pure (.value y)) (opRange t x P r H) := by
  refine ORun.plain ?_ fun v H' e => range_sound hH hR e
  unfold opRange
  split
  · trivial
  · split <;> trivial
  · trivial
theorem next_op_run (hH : HRel π B H w) (hR : RR π r a.tmps) {x : Operand} {s : Bool} {ty : TypeId} : ORun P B π H w (do let y ← Instr.next (a.eval x) s ty; pure (.value y)) (opNext x s P r H) := by
  obtain ⟨h1, h2, h3⟩ := next_sound (P := P) (s := s) (ty := ty) (x := x) hH hR
  rcases h3 _ rfl with ⟨ww, e⟩ | ⟨v, H', e⟩ | ⟨l, e⟩
  · rw [e]; trivial
  · rw [e]; exact h1 v H' e
  · rw [e]; exact h2 l e
theorem entry_run (hH : HRel π B H w) (hR : RR π r a.tmps) {x : Operand} : ORun P B π H w (do let y ← Instr.entry (a.eval x); pure (.value y)) (opEntry x P r H) := by
  refine ORun.plain ?_ fun v H' e => entry_sound hH hR e
  unfold opEntry
  split
  · split
    · split
      · rw [Bool.cond_eq_ite]
        split
        · split <;> trivial
        · trivial
      · trivial
    · trivial
  · trivial
/-! ### len, cap, min, max, clear -/
theorem run_builtinV {s : Sem Value} {cv : Value} (h : s.run P w = .ok cv w) : (do let y ← s; pure (.value y) : Sem Next).run P w = .ok (.value cv) w := by rw [Sem.run_bind, h]; rfl
theorem lenT_eq {t : TypeId} : (lenT P t = .str → P.underlying t = some .string) ∧ (lenT P t = .sl → ∃ e, P.underlying t = some (.slice e)) := by
  unfold lenT
  split
  · rename_i h; exact ⟨fun _ => h, fun h => (by cases h)⟩
  · rename_i e h; exact ⟨fun h => (by cases h), fun _ => ⟨e, h⟩⟩
  · exact ⟨fun h => (by cases h), fun h => (by cases h)⟩
theorem lenA_sound (hH : HRel π B H w) {t u : TypeId} {ts : Array TypeId} {x : AV} {cx : Value} {n : Nat} {args : Array Value} (ht : ts[0]? = some t) (hx : VR π x cx) (ha : args[0]? = some cx) (h : lenA P t x H = some n) : (Builtin.len_ ts u args).run P w = .ok (.int .i64 n) w := by
  unfold Builtin.len_
  simp only [ht, ha]
  unfold lenA at h
  cases hl : lenT P t with
  | str =>
    rw [hl] at h
    have h : avStr x none (fun n _ => some n) = some n := h
    obtain ⟨m, v, rfl, h2⟩ := avStr_eqO h
    cases h2
    rw [Sem.run_bind, run_underlying (lenT_eq.1 hl), Result.andThen_ok]
    cases hx; rfl
  | sl =>
    rw [hl] at h
    have h : avSl x (lenZ x) (fun _ _ n _ _ _ => some n) = some n := h
    obtain ⟨e, hu⟩ := lenT_eq.2 hl
    rw [Sem.run_bind, run_underlying hu, Result.andThen_ok]
    cases x <;> first | (cases h; cases hx; rfl) | (exfalso; cases h; done)
  | other =>
    rw [hl] at h
    replace h : lenO P t x H = some n := h
    unfold lenO at h
    split at h
    · rename_i m e hu
      cases h
      rw [Sem.run_bind, run_underlying hu, Result.andThen_ok]
      cases hx <;> rfl
    · rename_i kt vt hu
      cases h
      rw [Sem.run_bind, run_underlying hu, Result.andThen_ok]
      cases hx; rfl
    · rename_i kt vt b hu
      split at h
      · rename_i es c hb
        cases h
        rw [Sem.run_bind, run_underlying hu, Result.andThen_ok]
        obtain ⟨mm, z, l, es', a1, a2, a3, a4, _⟩ := hH.map hb
        cases hx with
        | map _ m' z' hp =>
          rw [hp] at a1; cases a1
          simp only [Sem.run_bind, run_getObj_map a2, Result.andThen_ok, Sem.run_pure]
          rw [a3.length_eq, a4.length]; rfl
      · cases h
    · rename_i e hu
      split at h
      · rename_i m e' hu2
        cases h
        rw [Sem.run_bind, run_underlying hu, Result.andThen_ok]
        cases hx
        simp only [Sem.run_bind, run_underlying hu2, Result.andThen_ok, Sem.run_pure]
        rfl
      · cases h
    · cases h
theorem minA_sound (mx : Bool) : ∀ {l : List AV} {vs : List Value} {x : AV} {cx : Value}, VR π x cx → VRs π l vs → minA mx x l = some v → ∃ cv, (vs.foldlM (if mx then Builtin.max2 else Builtin.min2) cx).run P w = .ok cv w ∧ VR π v cv
  | [], vs, x, cx, hx, hl, h => by
    cases hl
    unfold minA at h
    cases h
    exact ⟨cx, rfl, hx⟩
  | y :: l, vs, x, cx, hx, hl, h => by
    cases hl with
    | cons _ cy _ vs' hy hl' =>
      cases x <;> cases y <;> first | (unfold minA at h; cases h; done) | skip
      rename_i k n k' m
      unfold minA at h
      cases hx
      cases hy
      rw [List.foldlM_cons]
      cases mx with
      | true =>
        have e : (Builtin.max2 (.int k n) (.int k' m)).run P w = .ok (.int k (if m > n then m else n)) w := rfl
        obtain ⟨cv, h1, h2⟩ := minA_sound true (x := .int k (bif iLt n m then m else n)) (cx := .int k (if m > n then m else n)) (by
          rw [iLt_iff]
          by_cases hlt : n < m
          · rw [decide_eq_true hlt, cond_true, if_pos hlt]; exact .int _ _
          · rw [decide_eq_false hlt, cond_false, if_neg hlt]; exact .int _ _) hl' h
        refine ⟨cv, ?_, h2⟩
        rw [Sem.run_bind]
        show Result.andThen (Sem.run P (Builtin.max2 (.int k n) (.int k' m)) w) _ = _
        rw [e]; exact h1
      | false =>
        have e : (Builtin.min2 (.int k n) (.int k' m)).run P w = .ok (.int k (if m < n then m else n)) w := rfl
        obtain ⟨cv, h1, h2⟩ := minA_sound false (x := .int k (bif iLt m n then m else n)) (cx := .int k (if m < n then m else n)) (by
          rw [iLt_iff]
          by_cases hlt : m < n
          · rw [decide_eq_true hlt, cond_true, if_pos hlt]; exact .int _ _
          · rw [decide_eq_false hlt, cond_false, if_neg hlt]; exact .int _ _) hl' h
        refine ⟨cv, ?_, h2⟩
        rw [Sem.run_bind]
        show Result.andThen (Sem.run P (Builtin.min2 (.int k n) (.int k' m)) w) _ = _
        rw [e]; exact h1

/-! ### Functions without a body -/
def extName (n : String) : Bool := n == "internal/bytealg.IndexByteString" || n == "internal/bytealg.CountString" || n == "internal/bytealg.abigen_runtime_cmpstring" || n == "internal/abi.NoEscape" || n == "maps.clone" || n == "math/bits.Add64" || n == "internal/bytealg.MakeNoZero"
/-- The model's table of functions without a body has no other row for these. -/
def extOk (P : Program) : Bool := P.funcs.toList.all fun fn => fn.body.isSome || !extName fn.name || (Extern.findNext fn).isNone
theorem find_indexByte {fn : Func} (h : fn.name = "internal/bytealg.IndexByteString") : Extern.find fn = some Extern.BytealgIndexByte.indexByte := by
  unfold Extern.find; rw [h]; kernel_rfl
theorem find_count {fn : Func} (h : fn.name = "internal/bytealg.CountString") : Extern.find fn = some Extern.BytealgCount.count := by
  unfold Extern.find; rw [h]; kernel_rfl
theorem find_cmp {fn : Func} (h : fn.name = "internal/bytealg.abigen_runtime_cmpstring") : Extern.find fn = some Extern.BytealgCompare.compare := by
  unfold Extern.find; rw [h]; kernel_rfl
theorem find_noEscape {fn : Func} (h : fn.name = "internal/abi.NoEscape") : Extern.find fn = some Extern.AbiNoEscape.same := by
  unfold Extern.find; rw [h]; kernel_rfl
theorem find_clone {fn : Func} (h : fn.name = "maps.clone") : Extern.find fn = some Extern.MapsClone.clone := by
  unfold Extern.find; rw [h]; kernel_rfl
theorem find_makeNoZero {fn : Func} (h : fn.name = "internal/bytealg.MakeNoZero") : Extern.find fn = some (Extern.BytealgMakeNoZero.makeNoZero fn.params fn.resultTypes) := by
  unfold Extern.find; rw [h]; kernel_rfl
end
end Go.Proofs.YthfenjgelbkloaaGreatDoor.Ev

namespace Go.Proofs.YthfenjgelbkloaaGreatDoor.Ev
open Go Go.RowKit

section
variable {P : Program} {B : Nat} {π : Pi} {H H' : Hp} {w : World} {v : AV}
theorem extOk_next (hX : extOk P = true) {f : Nat} {fn : Func} (hf : P.funcs[f]? = some fn) (hb : fn.body = none) (hn : extName fn.name = true) : Extern.findNext fn = none := by
  have hm : fn ∈ P.funcs.toList := by
    rw [← Array.getElem?_toList] at hf
    exact List.mem_of_getElem? hf
  have := List.all_eq_true.1 hX fn hm
  rw [hb, hn] at this
  simpa using this
theorem run_ext (hX : extOk P = true) {f : Nat} {fn : Func} (hf : P.funcs[f]? = some fn) (hb : fn.body = none) (hn : extName fn.name = true) {e : Array Value → Sem Value} (he : Extern.find fn = some e) (args : Array Value) :
    (callFunc f args).run P w = ((e args).run P w).andThen fun v w' => .ok (.value v) w' := by
  refine run_callFunc_extern hf ?_ (by rw [hb]; rfl) (extOk_next hX hf hb hn) he args w
  unfold extName at hn
  simp only [Bool.or_eq_true, beq_iff_eq] at hn
  rcases hn with (((((h | h) | h) | h) | h) | h) | h <;> rw [h] <;> rfl
theorem toUInt8_nat (c : Nat) : ((c : Int).toNat.toUInt8).toNat = c % 256 := by simp
theorem beq_byte (b : UInt8) (c : Nat) : (b == (c : Int).toNat.toUInt8) = Nat.beq b.toNat (c % 256) := by
  rw [← toUInt8_nat c]
  rw [Bool.eq_iff_iff, Nat.beq_eq, beq_iff_eq, UInt8.toNat_inj]
theorem idxB_sound (l : List UInt8) (c : Nat) : ∀ k, k ≤ l.length → (match idxB l.length (natOf l) (c % 256) k with
    | some i => (i : Int)
    | none => -1) = (if Lib.indexByte (l.drop (l.length - k)) ((c : Int).toNat.toUInt8) = -1 then -1 else Lib.indexByte (l.drop (l.length - k)) ((c : Int).toNat.toUInt8) + ((l.length - k : Nat) : Int)) := by
  intro k
  induction k with
  | zero => intro _; rw [Nat.sub_zero, List.drop_length]; rfl
  | succ k ih =>
    intro hk
    have hlt : l.length - (k + 1) < l.length := by omega
    rw [List.drop_eq_getElem_cons hlt]
    unfold idxB Lib.indexByte
    have hb : strAt l.length (natOf l) (l.length - (k + 1)) = (l[l.length - (k + 1)]).toNat := by
      rw [natOf_get l _ hlt]; rfl
    rw [hb, beq_byte]
    have e1 : l.length - (k + 1) + 1 = l.length - k := by omega
    rw [e1]
    cases hq : Nat.beq (l[l.length - (k + 1)]).toNat (c % 256) with
    | true => rw [cond_true, if_pos rfl]; simp
    | false =>
      rw [cond_false]
      simp only [Bool.false_eq_true, if_false]
      rw [ih (by omega)]
      have hge := Lib.indexByte_ge (l.drop (l.length - k)) ((c : Int).toNat.toUInt8)
      generalize Lib.indexByte (l.drop (l.length - k)) ((c : Int).toNat.toUInt8) = X at hge ⊢
      by_cases hm : X = -1
      · subst hm; simp
      · have : (X == -1) = false := by simpa using hm
        rw [if_neg hm, this]
        simp only [Bool.false_eq_true, if_false]
        rw [if_neg (by omega)]
        omega
theorem cntB_sound (l : List UInt8) (c : Nat) : ∀ k, k ≤ l.length → cntB l.length (natOf l) (c % 256) k = Lib.countByte (l.drop (l.length - k)) ((c : Int).toNat.toUInt8) := by
  intro k
  induction k with
  | zero => intro _; rw [Nat.sub_zero, List.drop_length]; rfl
  | succ k ih =>
    intro hk
    have hlt : l.length - (k + 1) < l.length := by omega
    rw [List.drop_eq_getElem_cons hlt]
    unfold cntB Lib.countByte
    have hb : strAt l.length (natOf l) (l.length - (k + 1)) = (l[l.length - (k + 1)]).toNat := by
      rw [natOf_get l _ hlt]; rfl
    rw [hb, List.count_cons, beq_byte, show l.length - (k + 1) + 1 = l.length - k by omega, ih (by omega)]
    unfold Lib.countByte
    cases Nat.beq (l[l.length - (k + 1)]).toNat (c % 256) <;> simp <;> omega
theorem cmpB_sound : ∀ (l m : List UInt8), Lib.compareBytes l m = (bif Op.bytesLess l m then -1 else bif Op.bytesLess m l then 1 else 0)
  | [], [] => rfl
  | [], _ :: _ => rfl
  | _ :: _, [] => rfl
  | a :: l, b :: m => by
    have ih := cmpB_sound l m
    unfold Lib.compareBytes
    simp only [Op.bytesLess]
    by_cases h1 : a < b
    · simp [h1]
    · by_cases h2 : b < a
      · have hne : a ≠ b := by intro e; subst e; exact UInt8.lt_irrefl _ h2
        have hb1 : (a == b) = false := by simpa using hne
        have hb2 : (b == a) = false := by simpa using fun e => hne e.symm
        simp [h1, h2, hb1, hb2]
      · have : a = b := UInt8.le_antisymm (UInt8.not_lt.1 h2) (UInt8.not_lt.1 h1)
        subst this
        simp [h1, ih]
theorem digits_one : ∀ (n t : Nat) (acc : Array Value), (∀ v ∈ acc.toList, v.oneCell' = true) → ∀ v ∈ (Extern.BytealgMakeNoZero.digits n t acc).toList, v.oneCell' = true
  | 0, _, acc, h => h
  | n + 1, t, acc, h => by
    rw [Extern.BytealgMakeNoZero.digits]
    refine digits_one n _ _ ?_
    intro v hv
    rw [Array.toList_push] at hv
    rcases List.mem_append.1 hv with hv | hv
    · exact h v hv
    · simp at hv; subst hv; rfl
theorem run_clone {t : TypeId} {m c : Nat} {l : Array MapEntry} (h : w.heap[m]? = some (.map l c)) : (Extern.MapsClone.clone #[.iface t (.map (some m))]).run P w = .ok (.iface t (.map (some w.heap.size))) (w.alloc (.map l c)) := by
  have hdef : Extern.MapsClone.clone #[.iface t (.map (some m))] = (do
      let .map entries clock ← getObj m | stuck "maps.clone: a map expected"
      pure (.iface t (.map (some (← newObj (.map entries clock)))))) := rfl
  rw [hdef, Sem.run_bind, run_getObj_map h, Result.andThen_ok]
  rfl
theorem run_add64 (k1 k2 k3 : IntKind) (x y c : Nat) (hc : c ≤ 1) : (do
      let (x, y, c) ← Extern.MathBitsCarry.three "Add64" #[.int k1 (Int.ofNat x), .int k2 (Int.ofNat y), .int k3 (Int.ofNat c)]
      pure (Extern.MathBitsCarry.pair ((x + y + c) % Extern.MathBitsCarry.m64) ((x + y + c) / Extern.MathBitsCarry.m64)) : Sem Value).run P w = .ok (Extern.MathBitsCarry.pair ((x + y + c) % 18446744073709551616) ((x + y + c) / 18446744073709551616)) w := by
  have h3 : (Extern.MathBitsCarry.three "Add64" #[.int k1 (Int.ofNat x), .int k2 (Int.ofNat y), .int k3 (Int.ofNat c)]).run P w = .ok (x, y, c) w := by
    have hdef : Extern.MathBitsCarry.three "Add64" #[.int k1 (Int.ofNat x), .int k2 (Int.ofNat y), .int k3 (Int.ofNat c)] = (do
        let c := (← asInt (.int k3 (Int.ofNat c))).toNat
        if c > 1 then unsupported (.noEntry ("extern/math/bits." ++ "Add64" ++ ": a carry that is neither 0 nor 1"))
        pure ((← asInt (.int k1 (Int.ofNat x))).toNat, (← asInt (.int k2 (Int.ofNat y))).toNat, c)) := rfl
    have hi : ∀ k n, (asInt (.int k (Int.ofNat n))).run P w = .ok (Int.ofNat n) w := fun _ _ => rfl
    rw [hdef, Sem.run_bind, hi, Result.andThen_ok]
    have hc2 : ¬ (Int.ofNat c).toNat > 1 := by have : (Int.ofNat c).toNat = c := rfl; omega
    simp only [hc2, if_false, Sem.run_bind, hi, Result.andThen_ok, Sem.run_pure]
    rfl
  rw [Sem.run_bind, h3]
  rfl
theorem run_mnz {e t : TypeId} {n : Nat} (hnm : n < 16777216) {ps rs : Array TypeId} (ht : rs[0]? = some t) (he : elemSl P t = some e) : ∃ (cap : Nat) (w1 : World), w1.heap = w.heap ∧ (w1.os = w.os ∧ w1.tape = w.tape ∧ w1.output = w.output) ∧ n ≤ cap ∧ cap < big63 ∧ ∃ t', (Extern.BytealgMakeNoZero.makeNoZero ps rs #[.int .i64 (Int.ofNat n)]).run P w = .ok (.slice (some ⟨w.heap.size, 0, none⟩) n cap) (w1.alloc (.cells (Extern.BytealgMakeNoZero.digits cap t' #[]) e)) := by
  have hdef : ∀ ps rs, Extern.BytealgMakeNoZero.makeNoZero ps rs #[.int .i64 (Int.ofNat n)] = (do
      let some t := rs[0]? | stuck "bytealg.MakeNoZero: no result type"
      let .slice elem ← underlying t | stuck "bytealg.MakeNoZero: slice type expected"
      if (Int.ofNat n) < 0 || (Int.ofNat n) > 2 ^ 48 then runtimePanic (.error "makeslice: len out of range")
      let cap ← choose (.appendCap (Int.ofNat n).toNat 0 elem)
      askRoom cap
      let bytes ← choose (.extern "internal/bytealg.MakeNoZero.bytes" 0)
      let a ← newRow elem (Extern.BytealgMakeNoZero.digits cap bytes #[])
      pure (.slice (some a) (Int.ofNat n).toNat cap)) := fun _ _ => rfl
  have hroom : ∀ n w, (askRoom n).run P w = .ok () w := by intro n w; unfold askRoom; split <;> rfl
  refine ⟨n + w.tape w.drawn (.appendCap n 0 e) % (2 ^ 63 - n), { w with drawn := w.drawn + 1 + 1 }, rfl, ⟨rfl, rfl, rfl⟩, Nat.le_add_right _ _, ?_, w.tape (w.drawn + 1) (.extern "internal/bytealg.MakeNoZero.bytes" 0), ?_⟩
  · have h0 : 0 < 2 ^ 63 - n := by
      have : (16777216 : Nat) < 2 ^ 63 := by decide
      omega
    have h1 := Nat.mod_lt (w.tape w.drawn (.appendCap n 0 e)) h0
    have h2 : (2 : Nat) ^ 63 = 9223372036854775808 := rfl
    generalize hM : (2 : Nat) ^ 63 - n = M at *
    have h3 : M + n = 9223372036854775808 := by omega
    unfold big63
    omega
  · rw [hdef]
    have q1 : decide ((Int.ofNat n) < 0) = false := decide_eq_false (by simp)
    have hp48 : (2 : Int) ^ 48 = 281474976710656 := rfl
    have q2 : decide ((Int.ofNat n) > 2 ^ 48) = false := decide_eq_false (by rw [hp48]; simp; omega)
    simp only [ht, Sem.run_bind, run_underlying (elemSl_eq he), Result.andThen_ok, q1, q2, Bool.or_self, Bool.false_eq_true, if_false]
    have c1 : (choose (.appendCap (Int.ofNat n).toNat 0 e)).run P w = .ok (n + w.tape w.drawn (.appendCap n 0 e) % (2 ^ 63 - n)) { w with drawn := w.drawn + 1 } := by
      simp [choose, Sem.run, Question.forced, Question.cut]
    simp only [c1, Result.andThen_ok, hroom]
    have c2 : (choose (.extern "internal/bytealg.MakeNoZero.bytes" 0)).run P { w with drawn := w.drawn + 1 } = .ok (w.tape (w.drawn + 1) (.extern "internal/bytealg.MakeNoZero.bytes" 0)) { w with drawn := w.drawn + 1 + 1 } := by
      simp [choose, Sem.run, Question.forced, Question.cut]
      exact ⟨rfl, rfl, rfl⟩
    simp only [Sem.run_bind, c2, Result.andThen_ok, newRow, newObj, Sem.run, Sem.run_pure]
    rfl
theorem ext_run (hX : extOk P = true) {f : Nat} {fn : Func} (hf : P.funcs[f]? = some fn) (hb : fn.body = none) {args : List AV} {cargs : Array Value} (hH : HRel π B H w) (ha : VRs π args cargs.toList) : ORun P B π H w (callFunc f cargs) (ext P fn args H) := by
  unfold ext
  have val : ∀ {v : AV} {cv : Value} {e : Array Value → Sem Value}, extName fn.name = true → Extern.find fn = some e → (e cargs).run P w = .ok cv w → VR π v cv → ORun P B π H w (callFunc f cargs) (.val v H) := by
    intro v cv e hn he hr hv
    exact ⟨π, w, cv, .value cv, by rw [run_ext hX hf hb hn he, hr]; rfl, .inl rfl, hv, .refl hH⟩
  have arr1 : ∀ {x : Value}, cargs.toList = [x] → cargs = #[x] := fun h => by apply Array.ext'; rw [h]
  have arr2 : ∀ {x y : Value}, cargs.toList = [x, y] → cargs = #[x, y] := fun h => by apply Array.ext'; rw [h]
  by_cases h1 : fn.name = "internal/bytealg.IndexByteString"
  · have hn : extName fn.name = true := by rw [h1]; rfl
    rw [h1]
    show ORun P B π H w _ (match (generalizing := false) args with
      | [.str n v, .int .u8 (.ofNat c)] => (match (generalizing := false) idxB n v (c % 256) n with
        | some i => OR.val (.int .i64 (.ofNat i)) H
        | none => .val (.int .i64 (-1)) H)
      | _ => .bad "IndexByteString")
    split
    · rename_i n v c
      generalize hcl : cargs.toList = cl at ha
      cases ha with
      | cons _ c1 _ _ q1 q2 =>
        cases q2 with
        | cons _ c2 _ _ q2 q3 =>
          cases q3
          cases q1 with
          | str s =>
            cases q2
            have hca := arr2 hcl
            have hs := idxB_sound s.data.toList c s.data.toList.length (Nat.le_refl _)
            rw [Nat.sub_self, List.drop_zero] at hs
            have hlen : s.data.toList.length = s.size := by simp
            rw [hlen] at hs
            have hr : ∀ i : Int, (match idxB s.size (natOf s.data.toList) (c % 256) s.size with
                | some i => (i : Int)
                | none => -1) = i → (Extern.BytealgIndexByte.indexByte cargs).run P w = .ok (.int .i64 i) w := by
              intro i hi
              rw [hca]
              show (Extern.BytealgIndexByte.indexByte #[.string s, .int .u8 (c : Int)]).run P w = _
              rw [Lib.run_indexByteString, ← hi, hs]
              have hge := Lib.indexByte_ge s.data.toList ((c : Int).toNat.toUInt8)
              split
              · rename_i e; rw [e]
              · simp
            cases hi : idxB s.size (natOf s.data.toList) (c % 256) s.size with
            | none => rw [hi] at hr; exact val hn (find_indexByte h1) (hr (-1) rfl) (.int _ _)
            | some i => rw [hi] at hr; exact val hn (find_indexByte h1) (hr i rfl) (.int _ _)
    · trivial
  by_cases h2 : fn.name = "internal/bytealg.CountString"
  · have hn : extName fn.name = true := by rw [h2]; rfl
    rw [h2]
    show ORun P B π H w _ (match (generalizing := false) args with
      | [.str n v, .int .u8 (.ofNat c)] => OR.val (.int .i64 (.ofNat (cntB n v (c % 256) n))) H
      | _ => .bad "CountString")
    split
    · rename_i n v c
      generalize hcl : cargs.toList = cl at ha
      cases ha with
      | cons _ c1 _ _ q1 q2 =>
        cases q2 with
        | cons _ c2 _ _ q2 q3 =>
          cases q3
          cases q1 with
          | str s =>
            cases q2
            have hca := arr2 hcl
            have hs := cntB_sound s.data.toList c s.data.toList.length (Nat.le_refl _)
            rw [Nat.sub_self, List.drop_zero] at hs
            have hlen : s.data.toList.length = s.size := by simp
            rw [hlen] at hs
            refine val hn (find_count h2) (cv := .int .i64 (Lib.countByte s.data.toList ((c : Int).toNat.toUInt8))) ?_ ?_
            · rw [hca]; exact Lib.run_countString s (c : Int) w
            · rw [hs]; exact .int _ _
    · trivial
  by_cases h3 : fn.name = "internal/bytealg.abigen_runtime_cmpstring"
  · have hn : extName fn.name = true := by rw [h3]; rfl
    rw [h3]
    show ORun P B π H w _ (match (generalizing := false) args with
      | [.str n v, .str m u] => OR.val (.int .i64 (bif strLt n v m u then -1 else bif strLt m u n v then 1 else 0)) H
      | _ => .bad "cmpstring")
    split
    · rename_i n v m u
      generalize hcl : cargs.toList = cl at ha
      cases ha with
      | cons _ c1 _ _ q1 q2 =>
        cases q2 with
        | cons _ c2 _ _ q2 q3 =>
          cases q3
          cases q1 with
          | str s =>
            cases q2 with
            | str s' =>
              have hca := arr2 hcl
              refine val hn (find_cmp h3) (cv := .int .i64 (Lib.compareBytes s.data.toList s'.data.toList)) ?_ ?_
              · rw [hca]; exact Lib.run_compareString s s' w
              · rw [cmpB_sound, bytesLess_nat, bytesLess_nat]
                have e1 : s.data.toList.length = s.size := by simp
                have e2 : s'.data.toList.length = s'.size := by simp
                rw [e1, e2]; exact .int _ _
    · trivial
  by_cases h4 : fn.name = "internal/abi.NoEscape"
  · have hn : extName fn.name = true := by rw [h4]; rfl
    rw [h4]
    show ORun P B π H w _ (match (generalizing := false) args with
      | [x] => OR.val x H
      | _ => .bad "NoEscape")
    split
    · rename_i x
      generalize hcl : cargs.toList = cl at ha
      cases ha with
      | cons _ c1 _ _ q1 q2 =>
        cases q2
        exact val hn (find_noEscape h4) (cv := c1) (by rw [arr1 hcl]; rfl) q1
    · trivial
  by_cases h5 : fn.name = "maps.clone"
  · have hn : extName fn.name = true := by rw [h5]; rfl
    rw [h5]
    show ORun P B π H w _ (match (generalizing := false) args with
      | [.ifc t (.map b)] => (match (generalizing := false) H.get b with
        | some (.map es c) => OR.val (.ifc t (.map H.nx)) (H.new (.map es c))
        | _ => .bad "maps.clone")
      | _ => .bad "maps.clone")
    split
    · rename_i t b
      split
      · rename_i es c hmb
        generalize hcl : cargs.toList = cl at ha
        cases ha with
        | cons _ c1 _ _ q1 q2 =>
          cases q2
          cases q1 with
          | ifc _ _ v' q1 =>
            cases q1 with
            | map _ m z hp =>
              obtain ⟨mm, z', l, es', a1, a2, a3, a4, a5, a6, a7, a8⟩ := hH.map hmb
              rw [hp] at a1; cases a1
              have he := piNew_ext (H := H) (hH.fresh (Nat.le_refl _)) w.heap.size 0
              refine ⟨piNew π H.nx w.heap.size 0, w.alloc (.map l c), .iface t (.map (some w.heap.size)), .value (.iface t (.map (some w.heap.size))), ?_, .inl rfl, .ifc _ _ _ (.map _ _ 0 (by simp [piNew])), Step.alloc hH _ 0 _ ?_⟩
              · rw [run_ext hX hf hb hn (find_clone h5), arr1 hcl]
                rw [run_clone a2]
                rfl
              · exact BR_map a3 (a4.mono he) a5 a6 a7 a8 _
      · trivial
    · trivial
  by_cases h6 : fn.name = "math/bits.Add64"
  · have hn : extName fn.name = true := by rw [h6]; rfl
    rw [h6]
    show ORun P B π H w _ (match (generalizing := false) args with
      | [.int _ (.ofNat x), .int _ (.ofNat y), .int _ (.ofNat c)] =>
        bif Nat.ble c 1 then OR.val (.tup [.int .u64 (.ofNat ((x + y + c) % 18446744073709551616)), .int .u64 (.ofNat ((x + y + c) / 18446744073709551616))]) H else .bad "Add64"
      | _ => .bad "Add64")
    split
    · rename_i k1 x k2 y k3 c
      cases hc : Nat.ble c 1 with
      | false => trivial
      | true =>
        rw [cond_true]
        have hc1 := Nat.le_of_ble_eq_true hc
        generalize hcl : cargs.toList = cl at ha
        cases ha with
        | cons _ c1 _ _ q1 q2 =>
          cases q2 with
          | cons _ c2 _ _ q2 q3 =>
            cases q3 with
            | cons _ c3 _ _ q3 q4 =>
              cases q4
              cases q1; cases q2; cases q3
              have hca : cargs = #[.int k1 (Int.ofNat x), .int k2 (Int.ofNat y), .int k3 (Int.ofNat c)] := by apply Array.ext'; rw [hcl]
              have hfind : ∃ e, Extern.find fn = some e ∧ ∀ args, e args = (do
                  let (x, y, c) ← Extern.MathBitsCarry.three "Add64" args
                  pure (Extern.MathBitsCarry.pair ((x + y + c) % Extern.MathBitsCarry.m64) ((x + y + c) / Extern.MathBitsCarry.m64))) := by
                refine ⟨fun args => (do
                  let (x, y, c) ← Extern.MathBitsCarry.three "Add64" args
                  pure (Extern.MathBitsCarry.pair ((x + y + c) % Extern.MathBitsCarry.m64) ((x + y + c) / Extern.MathBitsCarry.m64))), ?_, fun _ => rfl⟩
                unfold Extern.find; rw [h6]; kernel_rfl
              obtain ⟨e, he1, he2⟩ := hfind
              refine val hn he1 (cv := Extern.MathBitsCarry.pair ((x + y + c) % 18446744073709551616) ((x + y + c) / 18446744073709551616)) ?_ ?_
              · rw [he2, hca]
                exact run_add64 k1 k2 k3 x y c hc1
              · exact .tup _ _ (.cons _ _ _ _ (.int _ _) (.cons _ _ _ _ (.int _ _) .nil))
    · trivial
  by_cases h7 : fn.name = "internal/bytealg.MakeNoZero"
  · have hn : extName fn.name = true := by rw [h7]; rfl
    rw [h7]
    show ORun P B π H w _ (match (generalizing := false) args, fn.resultTypes[0]? with
      | [.int .i64 (.ofNat n)], some t => (match (generalizing := false) elemSl P t with
        | some e => bif Nat.blt n maxNeed then OR.val (.sl H.nx 0 n n false 1) (H.new (.cells .e none n e 0 0 true [])) else .bad "MakeNoZero"
        | none => .bad "MakeNoZero")
      | _, _ => .bad "MakeNoZero")
    split
    · rename_i n t ht
      split
      · rename_i e he
        cases hnn : Nat.blt n maxNeed with
        | false => trivial
        | true =>
          rw [cond_true]
          have hnm : n < 16777216 := by simpa [Nat.blt_eq, maxNeed] using hnn
          generalize hcl : cargs.toList = cl at ha
          cases ha with
          | cons _ c1 _ _ q1 q2 =>
            cases q2
            cases q1
            have hca : cargs = #[.int .i64 (Int.ofNat n)] := arr1 hcl
            obtain ⟨cap, w1, g1, g2, g3, g4, t', g5⟩ := run_mnz (P := P) (w := w) (ps := fn.params) hnm ht he
            rw [← hca] at g5
            have he2 := piNew_ext (H := H) (hH.fresh (Nat.le_refl _)) w1.heap.size cap
            have hst := Step.alloc (hH.same g1) (.cells .e none n e 0 0 true []) cap (.cells (Extern.BytealgMakeNoZero.digits cap t' #[]) e) ⟨_, (0, 0), rfl, by rw [Lib.size_digits]; simp, g3, fun _ => ⟨Nat.le_refl _, fun j a b => by simp at b⟩, ?_, ?_⟩
            · refine ⟨_, _, .slice (some ⟨w.heap.size, 0, none⟩) n cap, _, ?_, .inl rfl, ?_, Step.trans hH (Step.same hH g1 g2) hst⟩
              · rw [run_ext hX hf hb hn (find_makeNoZero h7), g5]; rfl
              · exact .sl _ _ _ _ _ _ w.heap.size cap cap (by simp [piNew, g1]) (Nat.le_refl _) g3 (fun h => by cases h) (by simp) g4
            · intro j v hj
              exfalso
              obtain ⟨_, h8⟩ := ob_eq (b := Nat.blt j n) hj
              have h8 : oo ((T.e : T AV).get (Pos.of j)) none some = some v := h8
              rw [T.get_e] at h8; cases h8
            · intro j cv hj
              rw [← Array.getElem?_toList] at hj
              exact digits_one _ _ _ (fun v hv => by cases hv) cv (List.mem_of_getElem? hj)
      · trivial
    · trivial
  have no : ∀ s : String, fn.name ≠ s → (fn.name == s) = false := fun s h => by simpa using h
  rw [no _ h1, no _ h2, no _ h3, no _ h4, no _ h5, no _ h6, no _ h7]
  trivial
end
end Go.Proofs.YthfenjgelbkloaaGreatDoor.Ev

namespace Go.Proofs.YthfenjgelbkloaaGreatDoor.Ev
open Go Go.RowKit

section
variable {P : Program} {B : Nat} {π : Pi} {H H' : Hp} {w : World} {v : AV} {r : T AV} {a : Act}
theorem callA_run (hX : extOk P = true) (hH : HRel π B H w) {g : Nat} {args : List AV} {cargs : Array Value} (ha : VRs π args cargs.toList) : ORun P B π H w (callFunc g cargs) (callA P g args H) := by
  unfold callA
  cases hf : P.funcs[g]? with
  | none => trivial
  | some fn =>
    show ORun P B π H w (callFunc g cargs) (callG P g args H fn)
    unfold callG
    cases hb : fn.body with
    | none => exact ext_run hX hf hb hH ha
    | some c =>
      show ORun P B π H w (callFunc g cargs) (ob (fn.name == "runtime.NumGoroutine") (.call g args H) (.bad "NumGoroutine"))
      cases hn : (fn.name == "runtime.NumGoroutine") with
      | true => trivial
      | false =>
        refine ⟨π, cargs, w, ?_, ha, .refl hH⟩
        unfold callFunc
        have hp : (program).run P w = .ok P w := rfl
        simp only [Sem.run_bind, hp, Result.andThen_ok, hf, hn, Bool.false_eq_true, if_false, hb, Option.isNone_some, Sem.run_pure]
theorem ORun.congr {s s' : Sem Next} {c : OR} (h : s'.run P w = s.run P w) (ho : ORun P B π H w s c) : ORun P B π H w s' c := by
  cases c with
  | bad _ => trivial
  | val v H' => obtain ⟨π', w', cv, nx, h1, h2⟩ := ho; exact ⟨π', w', cv, nx, h.trans h1, h2⟩
  | pan v H' => obtain ⟨π', cv, w', h1, h2⟩ := ho; exact ⟨π', cv, w', h.trans h1, h2⟩
  | dfr d => obtain ⟨d', h1, h2⟩ := ho; exact ⟨d', h.trans h1, h2⟩
  | rcv => exact h.trans ho
  | call f args H' => obtain ⟨π', cargs, w', h1, h2⟩ := ho; exact ⟨π', cargs, w', h.trans h1, h2⟩
  | rnd l args H' => obtain ⟨e, c, z, cargs, h1, h2, h3⟩ := ho; exact ⟨e, c, z, cargs, h1, h.trans h2, h3⟩
  | alts l => obtain ⟨p, hp, π', w', cv, nx, h1, h2⟩ := ho; exact ⟨p, hp, π', w', cv, nx, h.trans h1, h2⟩
theorem call_value_run (hX : extOk P = true) (hH : HRel π B H w) (hR : RR π r a.tmps) {c : Call} {ty : TypeId} {f : Operand} (hc : c.callee = .value f) : ORun P B π H w (do let d ← resolve a.eval c ty; invoke d.target d.args) (opCall c P r H) := by
  unfold opCall
  rw [hc]
  cases h1 : opnds r c.args.toList with
  | none => trivial
  | some args =>
    show ORun P B π H w _ (cValue f P c.argTypes r H args)
    unfold cValue
    cases h2 : opnd r f with
    | none => trivial
    | some fv =>
      show ORun P B π H w _ (callV P args H fv)
      have k1 := opnds_sound hH hR h1
      have k2 := opnd_sound hH hR h2
      have hres : resolve a.eval c ty = Deferred.ofValue (a.eval f) (c.args.map a.eval) := by unfold resolve; rw [hc]
      have hargs : VRs π args (c.args.map a.eval).toList := by simpa using k1
      rw [hres]
      generalize a.eval f = cf at k2
      cases fv with
      | fn g fa cp =>
        show ORun P B π H w _ (callA P g (fa ++ args ++ cp) H)
        cases k2 with
        | fn _ _ _ fa' cp' hfa hcp =>
          have hv : VRs π (fa ++ args ++ cp) ((fa' ++ c.args.map a.eval) ++ cp').toList := by
            rw [Array.toList_append, Array.toList_append]
            exact (hfa.append hargs).append hcp
          exact ORun.congr rfl (callA_run hX hH hv)
      | yld l =>
        show ORun P B π H w _ (.rnd l args H)
        cases k2 with
        | yld _ c' z hp =>
          refine ⟨rfl, c', z, c.args.map a.eval, hp, ?_, hargs⟩
          show (Instr.yield c' (#[] ++ c.args.map a.eval)).run P w = _
          rw [Array.empty_append]
      | _ => trivial
theorem follA_sound : ∀ {l : List FieldStep} {t : TypeId} {x : AV} {cx : Value} {t' : TypeId} {y : AV}, VR π x cx → follA P l t x = some (t', y) → ∃ cy, (follow l t (.val cx)).run P w = .ok (t', .val cy) w ∧ VR π y cy
  | [], t, x, cx, t', y, hx, h => by
    have h : some (t, x) = some (t', y) := by cases x <;> exact h
    cases h
    exact ⟨cx, rfl, hx⟩
  | s :: l, t, x, cx, t', y, hx, h => by
    cases x <;> first | (cases h; done) | skip
    rename_i cs
    unfold follA at h
    cases hd : s.deref with
    | true => rw [hd] at h; cases h
    | false =>
      rw [hd, cond_false] at h
      cases hf : fieldOf P s.struct s.index with
      | none => rw [hf] at h; cases h
      | some f =>
        rw [hf] at h
        simp only at h
        cases hp : partA P f.type cs f.offset with
        | none => rw [hp] at h; cases h
        | some u =>
          rw [hp] at h
          simp only at h
          cases hx with
          | agg _ arr hl =>
            obtain ⟨fs, hu, hfs⟩ := fieldOf_eq hf
            obtain ⟨cu, k1, k2⟩ := partA_sound (P := P) (w := w) hl hp
            obtain ⟨cy, k3, k4⟩ := follA_sound k2 h
            refine ⟨cy, ?_, k4⟩
            unfold follow
            rw [Sem.run_bind, run_underlying hu, Result.andThen_ok]
            simp only [hfs, hd, Bool.false_eq_true, if_false, Sem.run_bind, k1, Result.andThen_ok]
            exact k3
theorem methA_sound {t : TypeId} {x : AV} {cx : Value} {name : String} {f : Nat} {y : AV} (hx : VR π x cx) (h : methA P t x name = some (f, y)) {k : Nat} : ∃ cy, (method (k + 1) t cx name).run P w = .ok (f, cy) w ∧ VR π y cy := by
  unfold methA at h
  cases hi : P.info? t with
  | none => rw [hi] at h; cases h
  | some i =>
    rw [hi] at h
    simp only at h
    cases hm : i.methods.find? (·.name == name) with
    | none => rw [hm] at h; cases h
    | some m =>
      rw [hm] at h
      simp only at h
      cases hf : follA P m.path.toList t x with
      | none => rw [hf] at h; cases h
      | some p =>
        obtain ⟨xt, u⟩ := p
        rw [hf] at h
        cases hmf : m.func with
        | none => rw [hmf] at h; cases h
        | some q =>
          obtain ⟨g, pr⟩ := q
          rw [hmf] at h
          simp only at h
          obtain ⟨cu, k1, k2⟩ := follA_sound (P := P) (w := w) hx hf
          have go : ∀ d, P.underlying xt = some d → ((∃ e, d = .pointer e) → pr = true) → ((∀ e, d ≠ .pointer e) → pr = false) → ∃ cy, (method (k + 1) t cx name).run P w = .ok (g, cy) w ∧ VR π u cy := by
            intro d hu h1 h2
            refine ⟨cu, ?_, k2⟩
            unfold method
            simp only [Sem.run_bind, run_typeInfo hi, Result.andThen_ok, hm, k1, hmf]
            have hrec : ∀ wr, (receiverAt xt (.val cu) pr wr).run P w = .ok cu w := by
              intro wr
              unfold receiverAt
              rw [Sem.run_bind, run_underlying hu, Result.andThen_ok]
              by_cases hptr : ∃ e, d = .pointer e
              · rw [h1 hptr]
                obtain ⟨e, rfl⟩ := hptr
                rfl
              · have hn : ∀ e, d ≠ .pointer e := fun e he => hptr ⟨e, he⟩
                rw [h2 hn]
                cases d <;> first | rfl | exact absurd rfl (hn _)
            rw [hrec]
            rfl
          cases hu : P.underlying xt with
          | none => rw [hu] at h; cases h
          | some d =>
            rw [hu] at h
            by_cases hptr : ∃ e, d = .pointer e
            · obtain ⟨e, rfl⟩ := hptr
              simp only at h
              obtain ⟨hpr, h2⟩ := cond_some h
              cases h2
              exact go _ hu (fun _ => hpr) (fun hn => absurd rfl (hn e))
            · have hn : ∀ e, d ≠ .pointer e := fun e he => hptr ⟨e, he⟩
              have h : (bif pr then none else some (g, u)) = some (f, y) := by cases d <;> first | exact h | exact absurd rfl (hn _)
              cases pr with
              | true => cases h
              | false => cases h; exact go _ hu (fun h => absurd h hptr) (fun _ => rfl)
theorem call_invoke_run (hX : extOk P = true) (hH : HRel π B H w) (hR : RR π r a.tmps) {c : Call} {ty : TypeId} {x : Operand} {name : String} (hc : c.callee = .invoke x name) : ORun P B π H w (do let d ← resolve a.eval c ty; invoke d.target d.args) (opCall c P r H) := by
  unfold opCall
  rw [hc]
  cases h1 : opnds r c.args.toList with
  | none => trivial
  | some args =>
    show ORun P B π H w _ (cInvoke x name P c.argTypes r H args)
    unfold cInvoke
    cases h2 : opnd r x with
    | none => trivial
    | some xv =>
      show ORun P B π H w _ (callI P args H name xv)
      have k1 := opnds_sound hH hR h1
      have k2 := opnd_sound hH hR h2
      have hargs : VRs π args (c.args.map a.eval).toList := by simpa using k1
      have hres : resolve a.eval c ty = pure { target := .fn (.method name) #[], args := #[a.eval x] ++ c.args.map a.eval } := by unfold resolve; rw [hc]
      rw [hres]
      generalize a.eval x = cx at k2
      cases xv with
      | ifc t v =>
        show ORun P B π H w _ (oo (methA P t v name) (.bad "call: method") fun m => callA P m.1 (m.2 :: args) H)
        cases hm : methA P t v name with
        | none => trivial
        | some p =>
          obtain ⟨f, y⟩ := p
          show ORun P B π H w _ (callA P f (y :: args) H)
          cases k2 with
          | ifc _ _ v' hv =>
            obtain ⟨cy, q1, q2⟩ := methA_sound (P := P) (w := w) (k := P.types.size + (Made.depth - 1)) hv hm
            have hfuel : P.types.size + Made.depth = P.types.size + (Made.depth - 1) + 1 := by
              have : 0 < Made.depth := by decide
              omega
            have hv2 : VRs π (y :: args) (#[cy] ++ c.args.map a.eval).toList := by
              rw [Array.toList_append]
              exact .cons _ _ _ _ q2 hargs
            refine ORun.congr ?_ (callA_run hX hH hv2)
            show Sem.run P (invoke (.fn (.method name) #[]) (#[.iface t v'] ++ c.args.map a.eval)) w = _
            unfold invoke
            have e0 : (#[Value.iface t v'] ++ c.args.map a.eval)[0]? = some (.iface t v') := by rw [← Array.getElem?_toList, Array.toList_append]; rfl
            have e1 : (#[Value.iface t v'] ++ c.args.map a.eval).extract 1 (#[Value.iface t v'] ++ c.args.map a.eval).size = c.args.map a.eval := by
              apply Array.ext'
              simp
              rw [List.take_of_length_le (by simp)]
            simp only [e0, e1]
            unfold callMethod
            have hp : (program).run P w = .ok P w := rfl
            simp only [Sem.run_bind, hp, Result.andThen_ok]
            rw [hfuel, q1]
            rfl
      | _ => trivial
theorem defer_run (hH : HRel π B H w) (hR : RR π r a.tmps) {c : Call} {ty : TypeId} : ORun P B π H w (do pure (.defer (← resolve a.eval c ty))) (opDefer c P r H) := by
  unfold opDefer
  cases hc : c.callee with
  | invoke x n => trivial
  | builtin b => trivial
  | value f =>
    cases h1 : opnds r c.args.toList with
    | none => trivial
    | some args =>
      simp only
      cases h2 : opnd r f with
      | none => trivial
      | some fv =>
        have k1 := opnds_sound hH hR h1
        have k2 := opnd_sound hH hR h2
        have hargs : VRs π args (c.args.map a.eval).toList := by simpa using k1
        have hres : resolve a.eval c ty = Deferred.ofValue (a.eval f) (c.args.map a.eval) := by unfold resolve; rw [hc]
        rw [hres]
        generalize a.eval f = cf at k2
        cases fv <;> first | trivial | skip
        rename_i g fa cp
        simp only
        cases hf : P.funcs[g]? with
        | none => trivial
        | some fn =>
          simp only
          rw [Bool.cond_eq_ite]
          split
          · cases k2 with
            | fn _ _ _ fa' cp' hfa hcp =>
              refine ⟨{ target := .fn (.func g) cp', args := fa' ++ c.args.map a.eval }, rfl, .fn _ _ _ _ ?_⟩
              rw [Array.toList_append, Array.toList_append]
              exact (hfa.append hargs).append hcp
          · trivial
theorem panic_run (hH : HRel π B H w) (hR : RR π r a.tmps) {x : Operand} : ORun P B π H w (do let y ← Instr.panic (a.eval x); pure (.value y)) (opPanic x P r H) := by
  unfold opPanic
  cases h1 : opnd r x with
  | none => trivial
  | some xv =>
    have k := opnd_sound hH hR h1
    generalize a.eval x = cx at k
    cases xv <;> first | trivial | skip
    cases k with
    | ifc t0 v0 v' hv => exact ⟨π, .iface _ v', w, rfl, .ifc _ _ _ hv, .refl hH⟩
end
end Go.Proofs.YthfenjgelbkloaaGreatDoor.Ev

namespace Go.Proofs.YthfenjgelbkloaaGreatDoor.Ev
open Go Go.RowKit

section
variable {P : Program} {B : Nat} {π : Pi} {H H' : Hp} {w : World} {v : AV} {as : List AV} {cargs : Array Value} {ts : Array TypeId} {u : TypeId}
theorem arr_cons {x : AV} {l : List AV} (ha : VRs π (x :: l) cargs.toList) : ∃ cx vs, cargs = (cx :: vs).toArray ∧ VR π x cx ∧ VRs π l vs := by
  generalize hc : cargs.toList = cl at ha
  cases ha with
  | cons _ cx _ vs h h' => exact ⟨cx, vs, by apply Array.ext'; rw [hc], h, h'⟩
theorem len_run (hH : HRel π B H w) (ha : VRs π as cargs.toList) : ORun P B π H w (do let y ← Builtin.len_ ts u cargs; pure (.value y)) (lenB P ts as H) := by
  unfold lenB
  cases ht : ts[0]? with
  | none => trivial
  | some t =>
    cases hx : nth as 0 with
    | none => trivial
    | some x =>
      show ORun P B π H w _ (oo (lenA P t x H) (.bad "len") fun n => fN n fun n => .val (.int .i64 (.ofNat n)) H)
      cases hl : lenA P t x H with
      | none => trivial
      | some n =>
        show ORun P B π H w _ (fN n fun n => .val (.int .i64 (.ofNat n)) H)
        rw [fN_eq]
        cases as with
        | nil => cases hx
        | cons y l =>
          have : y = x := by simpa [nth] using hx
          subst this
          obtain ⟨cx, vs, rfl, h1, _⟩ := arr_cons ha
          exact OVal.pure hH (lenA_sound hH ht h1 (by simp) hl) (.int _ _)
theorem cap_run (hH : HRel π B H w) (ha : VRs π as cargs.toList) : ORun P B π H w (do let y ← Builtin.cap_ ts u cargs; pure (.value y)) (builtinB P .cap ts as H) := by
  unfold builtinB
  simp only
  split
  · rename_i t b o n lo ex s l ht
    split
    · rename_i e hu
      rw [Bool.cond_eq_ite]
      split
      · rename_i hex
        obtain ⟨cx, vs, rfl, h1, _⟩ := arr_cons ha
        cases h1 with
        | sl _ _ _ _ _ _ c z cap hp k1 k2 k3 k4 k5 =>
          have := k3 hex
          subst this
          refine OVal.pure hH ?_ (.int _ _)
          unfold Builtin.cap_
          simp only [ht, List.getElem?_toArray, List.getElem?_cons_zero, Sem.run_bind, run_underlying hu, Result.andThen_ok]
          rfl
      · trivial
    · trivial
  · rename_i t l ht
    split
    · rename_i e hu
      obtain ⟨cx, vs, rfl, h1, _⟩ := arr_cons ha
      cases h1
      refine OVal.pure hH ?_ (.int _ _)
      unfold Builtin.cap_
      simp only [ht, List.getElem?_toArray, List.getElem?_cons_zero, Sem.run_bind, run_underlying hu, Result.andThen_ok]
      rfl
    · trivial
  · trivial
theorem max_run (hH : HRel π B H w) (ha : VRs π as cargs.toList) : ORun P B π H w (do let y ← Builtin.max_ ts u cargs; pure (.value y)) (builtinB P .max ts as H) := by
  unfold builtinB
  simp only
  split
  · rename_i x l
    split
    · rename_i y hy
      obtain ⟨cx, vs, rfl, h1, h2⟩ := arr_cons ha
      obtain ⟨cv, k1, k2⟩ := minA_sound (P := P) (w := w) true h1 h2 hy
      exact OVal.pure hH k1 k2
    · trivial
  · trivial
theorem min_run (hH : HRel π B H w) (ha : VRs π as cargs.toList) : ORun P B π H w (do let y ← Builtin.min_ ts u cargs; pure (.value y)) (builtinB P .min ts as H) := by
  unfold builtinB
  simp only
  split
  · rename_i x l
    split
    · rename_i y hy
      obtain ⟨cx, vs, rfl, h1, h2⟩ := arr_cons ha
      obtain ⟨cv, k1, k2⟩ := minA_sound (P := P) (w := w) false h1 h2 hy
      exact OVal.pure hH k1 k2
    · trivial
  · trivial
theorem sliceData_run (hH : HRel π B H w) (ha : VRs π as cargs.toList) : ORun P B π H w (do let y ← Builtin.unsafeSliceData_ ts u cargs; pure (.value y)) (builtinB P .unsafeSliceData ts as H) := by
  unfold builtinB
  simp only
  split
  · obtain ⟨cx, vs, rfl, h1, h2⟩ := arr_cons ha
    cases h2
    cases h1
    exact OVal.pure hH (Lib.run_unsafeSliceData_nil _ ts u 0 0) .nilp
  · rename_i b o n lo ex s
    obtain ⟨cx, vs, rfl, h1, h2⟩ := arr_cons ha
    cases h2
    rw [Bool.cond_eq_ite]
    split
    · rename_i hlo
      have hlo : 0 < lo := by simpa [Nat.blt_eq] using hlo
      cases h1 with
      | sl _ _ _ _ _ _ c z cap hp k1 k2 k3 k4 k5 => exact OVal.pure hH (Lib.run_unsafeSliceData_row _ ts u ⟨c, o, none⟩ n cap (by omega)) (.ptr _ _ _ _ hp)
    · trivial
  · trivial
theorem delete_run (hH : HRel π B H w) (ha : VRs π as cargs.toList) : ORun P B π H w (do let y ← Builtin.delete_ ts u cargs; pure (.value y)) (builtinB P .delete ts as H) := by
  unfold builtinB
  simp only
  split
  · rename_i t m k ht
    split
    · rename_i h' hd
      obtain ⟨cx, vs, rfl, h1, h2⟩ := arr_cons ha
      cases h2 with
      | cons _ ck _ vs' h2 h3 =>
        cases h3
        obtain ⟨w', k1, k2⟩ := mapDel_sound (P := P) (u := u) hH ht h1 h2 hd
        exact OVal.mk k1 (.tup _ _ .nil) k2
    · trivial
  · trivial
theorem zeroCells_VRs {e : TypeId} {z : List AV} (hz : zeroC P e = some z) (n : Nat) : ∃ cz s g, tAgg P e = some (g, s) ∧ (∀ w : World, (zeroValue e).run P w = .ok cz w) ∧ cz.cells.size = s ∧ VRs π (repl z n) (Builtin.zeroCells cz.cells n).toList ∧ (∀ m, ∀ x ∈ (Builtin.zeroCells cz.cells m).toList, x.oneCell' = true) ∧ ∀ m, (Builtin.zeroCells cz.cells m).size = m * s := by
  obtain ⟨za, cz, s, g, k1, k2, k3, k4, k5, k6, k7, k8⟩ := zeroC_run (P := P) (π := π) (w := (default : World)) hz
  have hrun : ∀ w : World, (zeroValue e).run P w = .ok cz w := by
    intro w
    obtain ⟨za', cz', s', g', j1, j2, j3, j4, j5, j6, j7, j8⟩ := zeroC_run (P := P) (π := π) (w := w) hz
    have : cz' = cz := by
      unfold zeroValue typeInfo at k6 j6
      revert k6 j6
      cases hp : P.info? e with
      | none => simp [hp]
      | some i =>
        cases hz0 : i.zero with
        | none => simp [hp, hz0]
        | some z0 => simp [hp, hz0]; intro a b; rw [← a, ← b]
    rw [← this]; exact j6
  have hcs : cz.cells.size = s := by rw [← k4, k8.length]; simp
  have hone := isCell_one k8 k5
  refine ⟨cz, s, g, k3, hrun, hcs, ?_, ?_, ?_⟩
  · unfold Builtin.zeroCells
    rw [Array.toList_map, Array.toList_range]
    rcases Nat.eq_zero_or_pos s with h0 | h0
    · have : z = [] := List.length_eq_zero_iff.1 (by rw [k4]; exact h0)
      subst this
      rw [repl_nil, hcs, h0, Nat.mul_zero]
      exact .nil
    · exact repl_range z cz.cells n k8 (by rw [k4]; exact h0)
  · intro m x hx
    unfold Builtin.zeroCells at hx
    rw [Array.toList_map, Array.toList_range] at hx
    obtain ⟨i, hi, rfl⟩ := List.mem_map.1 hx
    have hi : i < m * cz.cells.size := by simpa using hi
    have h0 : 0 < cz.cells.size := by
      rcases Nat.eq_zero_or_pos cz.cells.size with h | h
      · rw [h] at hi; omega
      · exact h
    have hlt : i % cz.cells.size < cz.cells.size := Nat.mod_lt _ h0
    refine hone _ ?_
    rw [getElem!_pos cz.cells _ hlt]
    simp
  · intro m
    unfold Builtin.zeroCells
    simp [hcs]
theorem clear_run (hH : HRel π B H w) (ha : VRs π as cargs.toList) : ORun P B π H w (do let y ← Builtin.clear_ ts u cargs; pure (.value y)) (builtinB P .clear ts as H) := by
  unfold builtinB
  simp only
  split
  · rename_i t x l ht
    obtain ⟨cx, vs, rfl, h1, h2⟩ := arr_cons ha
    split
    · rename_i kt vt hu
      cases h1
      refine ⟨π, w, undef, .value (.tuple #[]), ?_, .inl rfl, .tup _ _ .nil, .refl hH⟩
      unfold Builtin.clear_
      simp only [ht, List.getElem?_toArray, List.getElem?_cons_zero, Sem.run_bind, run_underlying hu, Result.andThen_ok]
      rfl
    · rename_i e hu
      cases h1
      refine ⟨π, w, undef, .value (.tuple #[]), ?_, .inl rfl, .tup _ _ .nil, .refl hH⟩
      unfold Builtin.clear_
      simp only [ht, List.getElem?_toArray, List.getElem?_cons_zero, Sem.run_bind, run_underlying hu, Result.andThen_ok]
      rfl
    · rename_i e hu
      cases h1
      refine ⟨π, w, undef, .value (.tuple #[]), ?_, .inl rfl, .tup _ _ .nil, .refl hH⟩
      unfold Builtin.clear_
      simp only [ht, List.getElem?_toArray, List.getElem?_cons_zero, Sem.run_bind, run_underlying hu, Result.andThen_ok]
      rfl
    · rename_i b kt vt hu
      split
      · rename_i es c hb
        obtain ⟨m, z, l, es', a1, a2, a3, a4, a5, a6, a7, a8⟩ := hH.map hb
        cases h1 with
        | map _ m' z' hp =>
          rw [hp] at a1; cases a1
          obtain ⟨q1, q2⟩ := objSet_step (P := P) (x' := .map [] c) (o' := .map #[] c) hH hb rfl rfl hp a2 (by simp) (by
            intro l' k' e
            cases e
            exact ⟨l, c, rfl, Nat.le_refl _, fun _ e' he' => by simp at he'⟩) ⟨#[], [], rfl, .refl _, .nil, by simp, by simp, by simp, by simp⟩
          refine ⟨π, _, undef, .value (.tuple #[]), ?_, .inl rfl, .tup _ _ .nil, q2⟩
          unfold Builtin.clear_
          simp only [ht, List.getElem?_toArray, List.getElem?_cons_zero, Sem.run_bind, run_underlying hu, Result.andThen_ok, run_getObj_map a2, q1]
          rfl
      · trivial
    · rename_i b o n lo ex s e hu
      cases n with
      | zero =>
        cases h1
        refine ⟨π, w, undef, .value (.tuple #[]), ?_, .inl rfl, .tup _ _ .nil, .refl hH⟩
        unfold Builtin.clear_
        simp only [ht, List.getElem?_toArray, List.getElem?_cons_zero, Sem.run_bind, run_underlying hu, Result.andThen_ok]
        rfl
      | succ n =>
        simp only
        split
        · rename_i z g s' hz hg
          rw [Bool.cond_eq_ite]
          split
          · split
            · rename_i h' hst
              obtain ⟨cz, s2, g2, k1, k2, k3, k4, k5, k6⟩ := zeroCells_VRs (P := P) (π := π) hz (n + 1)
              cases h1 with
              | sl _ _ _ _ _ _ c z' cap hp q1 q2 q3 q4 q5 =>
                obtain ⟨w', r1, r2⟩ := stores_sound P hH hp hst (VOs.of k4) (k5 (n + 1))
                refine ⟨π, w', undef, .value (.tuple #[]), ?_, .inl rfl, .tup _ _ .nil, r2⟩
                unfold Builtin.clear_
                simp only [ht, List.getElem?_toArray, List.getElem?_cons_zero, Sem.run_bind, run_underlying hu, Result.andThen_ok, k2, r1]
                rfl
            · trivial
          · trivial
        · trivial
    · trivial
  · trivial
end
end Go.Proofs.YthfenjgelbkloaaGreatDoor.Ev

namespace Go.Proofs.YthfenjgelbkloaaGreatDoor.Ev
open Go Go.RowKit

theorem dels_nx : ∀ (l : List Nat) (h : Hp), (dels l h).nx = h.nx
  | [], _h => rfl
  | s :: l, h => dels_nx l (h.del s)
theorem dels_get : ∀ {l : List Nat} {h : Hp} {b : Nat} {x : Blk}, (dels l h).get b = some x → h.get b = some x ∧ b ∉ l
  | [], h, b, x, e => ⟨e, by simp⟩
  | s :: l, h, b, x, e => by
    obtain ⟨h1, h2⟩ := dels_get (l := l) (h := h.del s) e
    rw [Hp.get_del] at h1
    split at h1
    · cases h1
    · rename_i hne
      exact ⟨h1, by simp [hne, h2]⟩
section
variable {P : Program} {B : Nat} {π : Pi} {H H' : Hp} {w : World}
theorem Step.alias (hH : HRel π B H w) {b c z : Nat} {tr : T AV} {d : Option AV} {m e flo fhi m' n : Nat} {sib : List Nat} (hb : H.get b = some (.cells tr d m e flo fhi true sib)) (hp : π b = some (c, z)) (hm : m' ≤ m) (hn : n ≤ z) {l : List (Option AV)}
    (hl : ∀ (j : Nat) (v : AV), j < n → l[j]? = some (some v) → (Blk.cells tr d m e flo fhi true sib).rd j = some v) :
    Step B π H w (piNew π H.nx c z) (((dels sib H).set b (.cells tr d m' e flo fhi false [])).new (.cells (lays 0 l .e) none n e flo fhi true [b])) w := by
  have hf := hH.fresh (Nat.le_refl H.nx)
  have he := piNew_ext (H := H) hf c z
  have hbn : b ≠ H.nx := by intro e; rw [e, hf] at hp; cases hp
  obtain ⟨c0, arr, fz, a1, a2, a3, a4, a5, a6, a7⟩ := hH.cells hb
  rw [hp] at a1; cases a1
  have hnx : ((dels sib H).set b (.cells tr d m' e flo fhi false [])).nx = H.nx := by rw [Hp.nx_set, dels_nx]
  have inv : ∀ i y, (((dels sib H).set b (.cells tr d m' e flo fhi false [])).new (.cells (lays 0 l .e) none n e flo fhi true [b])).get i = some y →
      (i = H.nx ∧ y = .cells (lays 0 l .e) none n e flo fhi true [b]) ∨ (i = b ∧ y = .cells tr d m' e flo fhi false []) ∨ (i ≠ H.nx ∧ i ≠ b ∧ H.get i = some y ∧ i ∉ sib) := by
    intro i y hy
    rw [Hp.get_new, hnx] at hy
    split at hy
    · rename_i e; cases hy; exact .inl ⟨e, rfl⟩
    · rename_i hi
      rw [Hp.get_set] at hy
      split at hy
      · rename_i e; cases hy; exact .inr (.inl ⟨e, rfl⟩)
      · rename_i hib
        obtain ⟨k1, k2⟩ := dels_get hy
        exact .inr (.inr ⟨hi, hib, k1, k2⟩)
  have hpi : ∀ i p, i ≠ H.nx → (piNew π H.nx c arr.size i = some p ↔ π i = some p) := by intro i p hi; unfold piNew; rw [if_neg hi]
  have hpn : ∀ p, piNew π H.nx c arr.size H.nx = some p → p = (c, arr.size) := by intro p h; unfold piNew at h; rw [if_pos rfl] at h; cases h; rfl
  have hcs : c < w.heap.size := (hH.dom _ _ hp).2
  have hdm : ∀ b p, π b = some p → p.1 < w.heap.size := fun b p hp => (hH.dom b p hp).2
  refine ⟨he, ⟨hH.low, fun g hg => let ⟨z, hz⟩ := hH.glob g hg; ⟨z, he _ _ hz⟩, ?_, ?_, ?_⟩, fun _ _ _ => rfl, Nat.le_refl _, by show H.nx ≤ _ + 1; rw [hnx]; omega, ?_, ?_, ⟨rfl, rfl, rfl⟩, fun _ _ => Evo.refl _⟩
  · intro i y hy
    rcases inv i y hy with ⟨rfl, rfl⟩ | ⟨rfl, rfl⟩ | ⟨h1, h2, h3, h4⟩
    · refine ⟨c, arr.size, .cells arr e fz, by simp [piNew], a2, ⟨arr, fz, rfl, rfl, hn, a4, ?_, a6⟩, fun _ => a7 rfl⟩
      intro j v hj
      obtain ⟨q1, q2⟩ := rd_row hj
      obtain ⟨cv, r1, r2⟩ := a5 j v (hl j v q1 q2)
      exact ⟨cv, r1, r2.mono he⟩
    · refine ⟨c, arr.size, .cells arr e fz, he _ _ hp, a2, ⟨arr, fz, rfl, rfl, by omega, fun h => (by cases h), ?_, a6⟩, fun h => (by cases h)⟩
      intro j v hj
      obtain ⟨q1, q2⟩ := ob_eq (b := Nat.blt j m') hj
      have q1 : j < m' := by simpa [Nat.blt_eq] using q1
      obtain ⟨cv, r1, r2⟩ := a5 j v (by
        show ob (Nat.blt j m) none _ = _
        have : Nat.blt j m = true := by rw [Nat.blt_eq]; omega
        rw [this]; exact q2)
      exact ⟨cv, r1, r2.mono he⟩
    · obtain ⟨c1, z1, o1, k1, k2, k3, k4⟩ := hH.blk i y h3
      exact ⟨c1, z1, o1, he _ _ k1, k2, k3.mono he hdm, k4⟩
  · intro i p hi
    show i < _ + 1 ∧ _
    rw [hnx]
    by_cases hin : i = H.nx
    · subst hin; have := hpn p hi; subst this; exact ⟨by omega, hcs⟩
    · have := hH.dom i p ((hpi i p hin).1 hi); exact ⟨by omega, this.2⟩
  · have others : ∀ i y z', i ≠ b → H.get i = some y → i ∉ sib → π i = some (c, z') → False := fun i y z' h1 h2 h3 h4 => h3 ((hH.sep b _ i y c _ z' hb h2 hp h4 (fun e => h1 e.symm)).2 rfl).1
    intro i x i' x' c1 z1 z2 hx hx' hpi1 hpi2 hne
    rcases inv i x hx with ⟨rfl, rfl⟩ | ⟨rfl, rfl⟩ | ⟨h1, h2, h3, h4⟩
    · have := hpn _ hpi1; cases this
      rcases inv i' x' hx' with ⟨rfl, rfl⟩ | ⟨rfl, rfl⟩ | ⟨h1', h2', h3', h4'⟩
      · exact absurd rfl hne
      · exact ⟨rfl, fun _ => ⟨by simp [Blk.sib], rfl⟩⟩
      · exact (others i' x' z2 h2' h3' h4' ((hpi _ _ h1').1 hpi2)).elim
    · exact ⟨rfl, fun h => by cases h⟩
    · have hq := (hpi _ _ h1).1 hpi1
      rcases inv i' x' hx' with ⟨rfl, rfl⟩ | ⟨rfl, rfl⟩ | ⟨h1', h2', h3', h4'⟩
      · have := hpn _ hpi2; cases this
        exact (others i x z1 h2 h3 h4 hq).elim
      · have := (hpi _ _ hbn).1 hpi2
        rw [hp] at this; cases this
        exact (others i x z1 h2 h3 h4 hq).elim
      · exact hH.sep i x i' x' c1 z1 z2 h3 h3' hq ((hpi _ _ h1').1 hpi2) hne
  · intro i p hi hn
    by_cases hin : i = H.nx
    · subst hin; have := hpn p hi; subst this
      exact ⟨Nat.le_refl _, .inr ⟨b, _, _, hb, rfl, hp⟩⟩
    · rw [(hpi i p hin).1 hi] at hn; cases hn
  · intro i y hy
    rcases inv i y hy with ⟨rfl, rfl⟩ | ⟨rfl, rfl⟩ | ⟨h1, h2, h3, h4⟩
    · exact .inr (Nat.le_refl _)
    · exact .inl ⟨_, hb, fun _ => rfl⟩
    · exact .inl ⟨y, h3, id⟩
end
/-! ### Cells in a row -/
theorem rdo_get (x : Blk) : ∀ (n j i : Nat), (x.rdo j n)[i]? = if i < n then some (x.rd (j + i)) else none
  | 0, j, i => by simp [Blk.rdo]
  | n + 1, j, i => by
    unfold Blk.rdo
    cases i with
    | zero => simp
    | succ i =>
      rw [List.getElem?_cons_succ, rdo_get x n (j + 1) i]
      by_cases h : i < n
      · rw [if_pos h, if_pos (by omega), show j + 1 + i = j + (i + 1) by omega]
      · rw [if_neg h, if_neg (by omega)]
theorem rdo_length (x : Blk) : ∀ (n j : Nat), (x.rdo j n).length = n
  | 0, _ => rfl
  | n + 1, j => by unfold Blk.rdo; rw [List.length_cons, rdo_length x n (j + 1)]
section
variable {P : Program} {B : Nat} {π : Pi} {H H' : Hp} {w : World}
/-- What is loaded in a row. -/
theorem rdo_sound (hH : HRel π B H w) {b c z o cnt : Nat} {tr : T AV} {d : Option AV} {m e flo fhi : Nat} {wr : Bool} {sib : List Nat} (hb : H.get b = some (.cells tr d m e flo fhi wr sib)) (hp : π b = some (c, z)) (hz : o + cnt ≤ z) :
    ∃ vs : List Value, vs.length = cnt ∧ (∀ w', w'.heap = w.heap → ∀ n, n ≤ cnt → (loadCells ⟨c, o, none⟩ n).run P w' = .ok (vs.take n).toArray w') ∧ VOs π ((Blk.cells tr d m e flo fhi wr sib).rdo o cnt) vs ∧ ∀ v ∈ vs, v.oneCell' = true := by
  obtain ⟨c0, arr, fz, a1, a2, a3, a4, a5, a6, a7⟩ := hH.cells hb
  rw [hp] at a1; cases a1
  have hget : ∀ i, ((arr.toList.drop o).take cnt)[i]? = if i < cnt then arr[o + i]? else none := by
    intro i
    rw [List.getElem?_take, List.getElem?_drop, Array.getElem?_toList]
  have hlen : ((arr.toList.drop o).take cnt).length = cnt := by simp; omega
  refine ⟨(arr.toList.drop o).take cnt, hlen, ?_, ⟨by rw [rdo_length, hlen], ?_⟩, ?_⟩
  · intro w' hw n hn
    have hl2 : (((arr.toList.drop o).take cnt).take n).length = n := by rw [List.length_take, hlen]; omega
    have := run_loadCells_list (P := P) w' ⟨c, o, none⟩ (((arr.toList.drop o).take cnt).take n) (by
      intro j v hj
      rw [List.getElem?_take] at hj
      split at hj
      · rw [hget] at hj
        split at hj
        · rw [Addr.add_lit']
          simp [World.cell?, hw, a2, hj]
        · cases hj
      · cases hj)
    rw [hl2] at this
    exact this
  · intro i v hi
    rw [rdo_get] at hi
    rw [hget]
    split at hi
    · rename_i hlt
      rw [if_pos hlt]
      exact a5 _ v (by simpa using hi)
    · cases hi
  · intro v hv
    obtain ⟨i, hi⟩ := List.mem_iff_getElem?.1 hv
    rw [hget] at hi
    split at hi
    · exact a6 _ _ hi
    · cases hi
theorem strBytes_get (l : List UInt8) : ∀ k, k ≤ l.length → (strBytes l.length (natOf l) k) = (l.drop (l.length - k)).map fun b => b.toNat := by
  intro k
  induction k with
  | zero => intro _; rw [Nat.sub_zero, List.drop_length]; rfl
  | succ k ih =>
    intro hk
    have hlt : l.length - (k + 1) < l.length := by omega
    rw [List.drop_eq_getElem_cons hlt]
    unfold strBytes
    have hb : strAt l.length (natOf l) (l.length - (k + 1)) = (l[l.length - (k + 1)]).toNat := by
      rw [natOf_get l _ hlt]; rfl
    rw [hb, show l.length - (k + 1) + 1 = l.length - k by omega, ih (by omega)]
    rfl
theorem str_cells (s : ByteArray) : VOs π ((strBytes s.size (natOf s.data.toList) s.size).map fun b => some (byteA b)) (s.data.map fun b => Value.int .u8 b.toNat).toList := by
  have h := strBytes_get s.data.toList s.data.toList.length (Nat.le_refl _)
  rw [Nat.sub_self, List.drop_zero] at h
  have hlen : s.data.toList.length = s.size := by simp
  rw [hlen] at h
  rw [h, Array.toList_map]
  refine ⟨by simp, fun i v hv => ?_⟩
  simp only [List.map_map, List.getElem?_map] at hv ⊢
  cases hg : s.data.toList[i]? with
  | none => rw [hg] at hv; cases hv
  | some b =>
    rw [hg] at hv
    have : byteA b.toNat = v := by simpa using hv
    subst this
    exact ⟨_, rfl, .int _ _⟩
end
end Go.Proofs.YthfenjgelbkloaaGreatDoor.Ev
