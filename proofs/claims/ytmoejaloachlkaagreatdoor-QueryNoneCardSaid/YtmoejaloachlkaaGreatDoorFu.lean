/- The evaluator's soundness, 26: operations, the plain ones. -/
import Derived.Test.YtmoejaloachlkaaGreatDoorFt
import Derived.Laws.StructEq
namespace Go.Proofs.YtmoejaloachlkaaGreatDoor.Ev
open Go Go.RowKit

section
variable {P : Program} {B : Nat} {π : Pi} {H H' : Hp} {w : World} {r : T AV} {a : Act} {v : AV} {s : Sem Next} {c : OR}
/-- A value or nothing. -/
def OR.plain : OR → Prop
  | .bad _ => True
  | .val _ _ => True
  | _ => False
theorem ORun.plain (hp : c.plain) (h : ∀ v H', c = .val v H' → OVal P s B π H w v H') : ORun P B π H w s c := by
  cases c with
  | bad w => trivial
  | val v H' => exact h v H' rfl
  | _ => exact hp.elim
theorem plain_oo {α : Type} {x : Option α} {d : OR} {k : α → OR} (hd : d.plain) (h : ∀ a, x = some a → (k a).plain) : (oo x d k).plain := by
  cases x with
  | none => exact hd
  | some a => exact h a rfl
theorem plain_ob {b : Bool} {f t : OR} (hf : f.plain) (ht : t.plain) : (ob b f t).plain := by cases b <;> assumption
theorem plain_orV {h : Hp} {x : Option AV} : (orV h x).plain := by cases x <;> trivial
theorem plain_mkI (k : IntKind) (n : Int) (h : Hp) : (mkI k n h).plain := by rw [mkI_eq]; trivial
theorem plain_wrapI (k : IntKind) (n : Int) (h : Hp) : (wrapI k n h).plain := by rw [wrapI_eq]; trivial
theorem plain_intOp (op : BinOp) (k : IntKind) (a b : Int) (h : Hp) : (intOp op k a b h).plain := by
  cases op
  case quo => exact plain_ob (plain_wrapI _ _ _) trivial
  case rem => exact plain_ob (plain_mkI _ _ _) trivial
  all_goals first | exact plain_wrapI _ _ _ | exact plain_mkI _ _ _ | trivial
theorem plain_shiftOp (op : BinOp) (k : IntKind) (a b : Int) (h : Hp) : (shiftOp op k a b h).plain := by
  cases b with
  | negSucc m => trivial
  | ofNat m => cases op <;> first | exact plain_mkI _ _ _ | trivial
theorem plain_cond {b : Bool} {f t : OR} (hf : f.plain) (ht : t.plain) : (bif b then t else f).plain := by cases b <;> assumption
theorem plain_strOp (op : BinOp) (n v m u : Nat) (h : Hp) : (strOp op n v m u h).plain := by
  cases op
  case add => exact plain_cond trivial trivial
  all_goals trivial
theorem move_run (hH : HRel π B H w) (hR : RR π r a.tmps) {x : Operand} : ORun P B π H w (pure (.value (a.eval x))) (orV H (opnd r x)) := by
  refine ORun.plain plain_orV fun v H' e => ?_
  obtain ⟨e1, rfl⟩ := orV_val e
  exact OVal.value hH (opnd_sound hH hR e1)
theorem pick_run (hH : HRel π B H w) (hR : RR π r a.tmps) {x y z : Operand} : ORun P B π H w (do pure (.value (if ← asBool (a.eval x) then a.eval y else a.eval z))) (opPick x y z P r H) := by
  refine ORun.plain ?_ fun v H' e => ?_
  · refine plain_oo trivial fun c _ => ?_
    cases c with
    | bool b => exact plain_orV
    | _ => trivial
  · obtain ⟨c, h1, h2⟩ := oo_val e (by simp [orB])
    obtain ⟨b, rfl, h3⟩ := avBool_some (p := (· = OR.val v H')) h2 (by simp [orB])
    obtain ⟨h4, rfl⟩ := orV_val h3
    have hc := opnd_sound hH hR h1
    have hb : a.eval x = .bool b := by generalize a.eval x = cv at hc; cases hc; rfl
    rw [hb]
    cases b with
    | true => exact OVal.value hH (opnd_sound hH hR h4)
    | false => exact OVal.value hH (opnd_sound hH hR h4)
theorem alloc_run (hc : ∀ v H', c = .val v H' → ∃ x sm, H' = H.new x ∧ s = (do let y ← sm; pure (.value y)) ∧ AR P π w H.nx x v sm) (hH : HRel π B H w) (hp : c.plain) : ORun P B π H w s c := by
  refine ORun.plain hp fun v H' e => ?_
  obtain ⟨x, sm, rfl, rfl, h3⟩ := hc v H' e
  exact h3.oval hH
theorem build_run (hH : HRel π B H w) (hR : RR π r a.tmps) {t : TypeId} {ps : Array (Nat × Operand)} : ORun P B π H w (do let y ← Instr.build t (ps.map fun (i, x) => (i, a.eval x)); pure (.value y)) (opBuild t ps P r H) := by
  unfold opBuild
  cases hl : partsA r ps.toList with
  | none => trivial
  | some l =>
    simp only
    cases hb : buildA P t l with
    | none => trivial
    | some v =>
      have hps := partsA_sound hH hR hl
      obtain ⟨cv, h1, h2⟩ := build_sound (P := P) (w := w) (qs := ps.map fun (i, x) => (i, a.eval x)) (by simpa using hps) hb
      exact OVal.pure hH h1 h2
theorem load_run (hH : HRel π B H w) (hR : RR π r a.tmps) {t : TypeId} {x : Operand} : ORun P B π H w (do let y ← Instr.loadAt t (a.eval x); pure (.value y)) (opLoad t x P r H) := by
  refine ORun.plain (plain_oo trivial fun _ _ => plain_orV) fun v H' e => ?_
  obtain ⟨u, h1, h2⟩ := oo_val e (by simp [orB])
  obtain ⟨h3, rfl⟩ := orV_val h2
  obtain ⟨cu, k1, k2⟩ := load_sound (P := P) hH h3 (opnd_sound hH hR h1)
  exact OVal.pure hH k1 k2
theorem store_sound (hH : HRel π B H w) {t : TypeId} {x y : AV} {cx cy : Value} (hx : VR π x cx) (hy : VR π y cy) (h : store P t x y H = some H') : ∃ w', (Instr.storeAt t cx cy).run P w = .ok () w' ∧ Step B π H w π H' w' := by
  obtain ⟨b, o, rfl, h2⟩ := avPtr_some (p := (· = some H')) h (by simp)
  obtain ⟨g, h3, h4⟩ := oo_eq h2
  obtain ⟨h5, h6⟩ := ob_eq h4
  have hlen := Nat.eq_of_beq_eq_true h5
  cases hx with
  | ptr _ _ c z hp =>
    have hcells := hy.cells
    have hl : VOs π (y.cells.map some) cy.cells.toList := VOs.of hcells
    obtain ⟨g1, g2⟩ := g
    have hone : ∀ u ∈ cy.cells.toList, u.oneCell' = true := by
      have hac : allCells (y.cells.map some) = true ∨ y.cells = [] := by
        unfold stores at h6
        split at h6
        · rename_i he; right; simpa using he
        · split at h6
          · obtain ⟨hb, _⟩ := cond_some h6
            simp only [Bool.and_eq_true] at hb
            exact .inl hb.2
          · obtain ⟨hb, _⟩ := cond_some h6
            simp only [Bool.and_eq_true] at hb
            exact .inl hb.1.2
          · cases h6
      rcases hac with hac | hac
      · have : y.cells.all AV.isCell = true := by
          rw [List.all_eq_true]
          intro u hu
          obtain ⟨i, hi⟩ := List.mem_iff_getElem?.1 hu
          exact allCells_mem hac i u (by rw [List.getElem?_map, hi]; rfl)
        exact isCell_one hcells this
      · rw [hac] at hcells
        generalize cy.cells.toList = l at hcells
        cases hcells
        intro u hu; cases hu
    obtain ⟨w', k1, k2⟩ := stores_sound P hH hp h6 hl hone
    refine ⟨w', ?_, k2⟩
    unfold Instr.storeAt
    have hs : (Instr.sureAddr (.pointer (some ⟨c, o, none⟩))).run P w = .ok ⟨c, o, none⟩ w := rfl
    rw [Sem.run_bind, hs, Result.andThen_ok]
    unfold storeVar
    have hsz : cy.cells.size = g2 := by
      have h9 : y.cells.length = cy.cells.size := by rw [hcells.length]; exact Array.length_toList
      rw [← h9]; exact hlen
    simp only [Sem.run_bind, tAgg_size h3, Result.andThen_ok]
    rw [if_neg (by simpa using hsz)]
    exact k1
theorem store_run (hH : HRel π B H w) (hR : RR π r a.tmps) {t : TypeId} {x y : Operand} : ORun P B π H w (do Instr.storeAt t (a.eval x) (a.eval y); pure .skip) (opStore t x y P r H) := by
  refine ORun.plain (plain_oo trivial fun _ _ => plain_oo trivial fun _ _ => plain_oo trivial fun _ _ => trivial) fun v H' e => ?_
  obtain ⟨u, h1, e⟩ := oo_val e (by simp [orB])
  obtain ⟨u2, h2, e⟩ := oo_val e (by simp [orB])
  obtain ⟨h3, h4, e⟩ := oo_val e (by simp [orB])
  cases e
  obtain ⟨w', k1, k2⟩ := store_sound (P := P) hH (opnd_sound hH hR h1) (opnd_sound hH hR h2) h4
  exact OVal.unit k1 k2
theorem nilCheck_run (hH : HRel π B H w) (hR : RR π r a.tmps) {o : Oper} {x : Operand} (ho : o.op = .nilCheck x) : ORun P B π H w (execOp a.eval o) (opNilCheck x P r H) := by
  refine ORun.plain ?_ fun v H' e => ?_
  · refine plain_oo trivial fun c _ => ?_
    cases c <;> trivial
  · obtain ⟨c, h1, h2⟩ := oo_val e (by simp [orB])
    have hv := opnd_sound hH hR h1
    unfold execOp
    rw [ho]
    simp only
    generalize a.eval x = cx at hv
    cases c with
    | ptr b o =>
      have h2 : OR.val (.ptr b o) H = .val v H' := h2
      cases h2
      cases hv with
      | ptr _ _ c z hp => exact OVal.value hH (.ptr _ _ _ _ hp)
    | fn f a c =>
      have h2 : OR.val (.fn f a c) H = .val v H' := h2
      cases h2
      cases hv with
      | fn _ _ _ a' c' h h' => exact OVal.value hH (.fn _ _ _ _ _ h h')
    | _ => exact absurd (show orB "nilCheck" = .val v H' from h2) (by simp [orB])
theorem guard0 {t : TypeId} {ox oy : Operand} {c d : Value} (h1 : c ≠ .nilIface) (h2 : ∀ l, c ≠ .agg l) : (eqGuard .eql t ox oy c d).run P w = .ok () w := by
  cases c <;> first | exact absurd rfl h1 | exact absurd rfl (h2 _) | (cases d <;> rfl)
theorem guard1 {t : TypeId} {ox oy : Operand} {c : Value} (h : c ≠ .nilIface) : (eqGuard .eql t ox oy .nilIface c).run P w = .ok () w := by
  cases c <;> first | exact absurd rfl h | rfl
theorem guard2 {t : TypeId} {ox oy : Operand} {l : Array Value} {c : Value} (h : ∀ l, c ≠ .agg l) : (eqGuard .eql t ox oy (.agg l) c).run P w = .ok () w := by
  cases c <;> first | exact absurd rfl (h _) | rfl
theorem guard3 {t : TypeId} {oy : Operand} {v : Value} : (eqGuard .eql t (.const v) oy .nilIface .nilIface).run P w = .ok () w := rfl
theorem guard4 {t : TypeId} {oy : Operand} {v : Value} : (eqGuard .eql t oy (.const v) .nilIface .nilIface).run P w = .ok () w := by cases oy <;> rfl
theorem guard5 {t : TypeId} {ox oy : Operand} {l l' : Array Value} (h : (!P.eqGuardType P.depth t) = true) : (eqGuard .eql t ox oy (.agg l) (.agg l')).run P w = .ok () w :=
  run_eqGuard_agg w .eql t ox oy l l' (by simpa using h)
theorem guard_sound {x y : AV} {cx cy : Value} (hx : VR π x cx) (hy : VR π y cy) {op : BinOp} {t : TypeId} {ox oy : Operand} (h : guardA P op t ox oy x y = true) : (eqGuard op t ox oy cx cy).run P w = .ok () w := by
  have main : guardA P .eql t ox oy x y = true → (eqGuard .eql t ox oy cx cy).run P w = .ok () w := by
    intro h
    cases hx
    case nili =>
      cases hy
      case nili =>
        cases ox <;> first | exact guard3 | skip
        all_goals cases oy <;> first | exact guard4 | exact absurd (show (false : Bool) = true from h) Bool.false_ne_true
      all_goals exact guard1 (by simp)
    case agg =>
      cases hy
      case agg => exact guard5 h
      all_goals exact guard2 (by simp)
    all_goals exact guard0 (by simp) (by simp)
  cases op
  case eql => exact main h
  case neq => exact main h
  all_goals rfl
theorem binS_sound (hH : HRel π B H w) {op : BinOp} {t : TypeId} {x y : AV} {cx cy : Value} (hx : VR π x cx) (hy : VR π y cy) (hni : ∀ k n, x ≠ .int k n) (e : binS op P t x y H = .val v H') : H' = H ∧ ∃ cv, (binOp op t cx cy).run P w = .ok cv w ∧ VR π v cv := by
  have heq : ∀ n, (∀ m u, x ≠ .str m u) → eqOr (eqA P H 20 t x y) n H = .val v H' → (op = .eql ∧ n = false ∨ op = .neq ∧ n = true) → H' = H ∧ ∃ cv, (binOp op t cx cy).run P w = .ok cv w ∧ VR π v cv := by
    intro n hns he hop
    cases hq : eqA P H 20 t x y with
    | none => rw [hq] at he; cases he
    | some b =>
      rw [hq] at he
      have he : OR.val (.bool (ob n b (!b))) H = .val v H' := he
      cases he
      have hr := eqA_sound (P := P) 20 Op.maxDepth t x y b cx cy (by decide) hH hx hy hq
      have hr : (Op.equal t cx cy).run P w = .ok b w := hr
      refine ⟨rfl, ?_⟩
      rcases hop with ⟨rfl, rfl⟩ | ⟨rfl, rfl⟩
      · refine ⟨.bool b, ?_, .bool _⟩
        have : binOp .eql t cx cy = (do pure (.bool (← Op.equal t cx cy))) := by
          cases hx <;> first | rfl | exact absurd rfl (hni _ _) | exact absurd rfl (hns _ _)
        rw [this, Sem.run_bind, hr]; rfl
      · refine ⟨.bool (!b), ?_, .bool _⟩
        have : binOp .neq t cx cy = (do pure (.bool (!(← Op.equal t cx cy)))) := by
          cases hx <;> first | rfl | exact absurd rfl (hni _ _) | exact absurd rfl (hns _ _)
        rw [this, Sem.run_bind, hr]; rfl
  by_cases hs : ∃ n u, x = .str n u
  · obtain ⟨n, u, rfl⟩ := hs
    have e : avStr y (.bad "text operator") (fun m u' => strOp op n u m u' H) = .val v H' := e
    obtain ⟨m, u', rfl, e2⟩ := avStr_some (p := (· = OR.val v H')) e (by simp)
    cases hx
    cases hy
    obtain ⟨h1, cv, h2, h3⟩ := strOp_sound (P := P) (w := w) (t := t) e2
    exact ⟨h1, cv, h2, h3 π⟩
  · have hns : ∀ m u, x ≠ .str m u := fun m u e => hs ⟨m, u, e⟩
    have e : (match (generalizing := false) op with
      | .eql => eqOr (eqA P H 20 t x y) false H
      | .neq => eqOr (eqA P H 20 t x y) true H
      | _ => .bad "operator") = OR.val v H' := by
      cases x <;> first | exact e | exact absurd rfl (hns _ _)
    cases op <;> first | exact heq _ hns e (.inl ⟨rfl, rfl⟩) | exact heq _ hns e (.inr ⟨rfl, rfl⟩) | cases e
theorem plain_eqOr {x : Option Bool} {n : Bool} {h : Hp} : (eqOr x n h).plain := by cases x <;> trivial
theorem plain_binS {op : BinOp} {t : TypeId} {x y : AV} {h : Hp} : (binS op P t x y h).plain := by
  unfold binS
  cases x with
  | str n v =>
    show (avStr y (.bad "text operator") fun m u => strOp op n v m u h).plain
    cases y with
    | str m u => exact plain_strOp _ _ _ _ _ _
    | _ => trivial
  | _ => cases op <;> first | exact plain_eqOr | trivial
theorem binOp_run (hH : HRel π B H w) (hR : RR π r a.tmps) {op : BinOp} {t u : TypeId} {x y : Operand} : ORun P B π H w (do let z ← (do eqGuard op t x y (a.eval x) (a.eval y); binOp op t (a.eval x) (a.eval y) : Sem Value); pure (.value z)) (opBinOp op t x y u P r H) := by
  refine ORun.plain ?_ fun v H' e => ?_
  · refine plain_oo trivial fun c _ => plain_oo trivial fun c' _ => plain_ob trivial ?_
    unfold binA
    cases c with
    | int k n =>
      show (avInt c' (.bad "operator") fun k' y => ob (isShift op) (ob (kEq k k') (.bad "kinds") (intOp op k n y H)) (shiftOp op k n y H)).plain
      cases c' with
      | int k' n' => exact plain_ob (plain_ob trivial (plain_intOp _ _ _ _ _)) (plain_shiftOp _ _ _ _ _)
      | _ => trivial
    | _ => exact plain_binS
  · obtain ⟨c, h1, e⟩ := oo_val e (by simp [orB])
    obtain ⟨c', h2, e⟩ := oo_val e (by simp [orB])
    obtain ⟨hg, e⟩ := ob_val e (by simp [orB])
    have hx := opnd_sound hH hR h1
    have hy := opnd_sound hH hR h2
    have hgr := guard_sound (P := P) (w := w) hx hy hg
    have main : H' = H ∧ ∃ cv, (binOp op t (a.eval x) (a.eval y)).run P w = .ok cv w ∧ VR π v cv := by
      by_cases hi : ∃ k n, c = .int k n
      · obtain ⟨k, n, rfl⟩ := hi
        have e : avInt c' (.bad "operator") (fun k' y => ob (isShift op) (ob (kEq k k') (.bad "kinds") (intOp op k n y H)) (shiftOp op k n y H)) = .val v H' := e
        obtain ⟨k', n', rfl, e2⟩ := avInt_some (p := (· = OR.val v H')) e (by simp)
        rw [hx.int_inv, hy.int_inv]
        cases hsh : isShift op with
        | true =>
          rw [hsh] at e2
          obtain ⟨h3, cv, h4, h5⟩ := shiftOp_sound (P := P) (w := w) (t := t) (j := k') hsh e2
          exact ⟨h3, cv, h4, h5 π⟩
        | false =>
          rw [hsh, ob_false] at e2
          obtain ⟨hk, e3⟩ := ob_val e2 (by simp)
          rw [kEq_eq hk] at *
          obtain ⟨h3, cv, h4, h5⟩ := intOp_sound (P := P) (w := w) (t := t) hsh e3
          exact ⟨h3, cv, h4, h5 π⟩
      · have hni : ∀ k n, c ≠ .int k n := fun k n e => hi ⟨k, n, e⟩
        have e : binS op P t c c' H = .val v H' := by
          cases c <;> first | exact e | exact absurd rfl (hni _ _)
        exact binS_sound hH hx hy hni e
    obtain ⟨rfl, cv, h3, h4⟩ := main
    refine OVal.pure hH (cv := cv) ?_ h4
    rw [Sem.run_bind, hgr, Result.andThen_ok]; exact h3
theorem unOp_run (hH : HRel π B H w) (hR : RR π r a.tmps) {op : UnOp} {t : TypeId} {x : Operand} : ORun P B π H w (do let y ← Op.unary op (a.eval x); pure (.value y)) (opUnOp op t x P r H) := by
  refine ORun.plain ?_ fun v H' e => ?_
  · refine plain_oo trivial fun c _ => ?_
    cases op with
    | neg =>
      show (uNeg c H).plain
      cases c with
      | int k n => exact plain_wrapI _ _ _
      | _ => trivial
    | not =>
      show (uNot c H).plain
      cases c <;> trivial
    | _ => trivial
  · obtain ⟨c, h1, e⟩ := oo_val e (by simp [orB])
    have hx := opnd_sound hH hR h1
    cases op with
    | neg =>
      have e : uNeg c H = .val v H' := e
      obtain ⟨k, n, rfl, e2⟩ := avInt_some (p := (· = OR.val v H')) e (by simp)
      rw [subI_eq] at e2
      obtain ⟨rfl, rfl⟩ := wrapI_val e2
      rw [hx.int_inv]
      exact OVal.pure hH (cv := .int k (k.wrap (0 - n))) rfl (.int _ _)
    | not =>
      have e : uNot c H = .val v H' := e
      obtain ⟨b, rfl, e2⟩ := avBool_some (p := (· = OR.val v H')) e (by simp)
      cases e2
      have hb : a.eval x = .bool b := by generalize a.eval x = cv at hx; cases hx; rfl
      rw [hb]
      refine OVal.pure hH (cv := .bool (!b)) rfl ?_
      cases b <;> exact .bool _
    | _ => cases e
theorem makeInterface_run (hH : HRel π B H w) (hR : RR π r a.tmps) {t : TypeId} {x : Operand} : ORun P B π H w (do let y ← Instr.makeInterface t (a.eval x); pure (.value y)) (opMakeInterface t x P r H) := by
  unfold opMakeInterface
  cases hx : opnd r x with
  | none => trivial
  | some c =>
    cases hu : P.underlying t with
    | none => trivial
    | some u =>
      have main : ∀ (hni : ∀ m, u ≠ .interface m), OVal P (do let y ← Instr.makeInterface t (a.eval x); pure (.value y)) B π H w (.ifc t c) H := by
        intro hni
        refine OVal.pure hH (cv := .iface t (a.eval x)) ?_ (.ifc _ _ _ (opnd_sound hH hR hx))
        unfold Instr.makeInterface
        rw [Sem.run_bind, run_underlying hu, Result.andThen_ok]
        cases u <;> first | rfl | exact absurd rfl (hni _)
      cases u <;> first | trivial | exact main (by simp)
theorem makeFunc_run (hH : HRel π B H w) (hR : RR π r a.tmps) {f : Fn} {x y : Array Operand} : ORun P B π H w (do let z ← Instr.makeFunc f (x.map a.eval) (y.map a.eval); pure (.value z)) (opMakeFunc f x y P r H) := by
  unfold opMakeFunc
  cases f with
  | func g =>
    cases h1 : opnds r x.toList with
    | none => trivial
    | some l =>
      cases h2 : opnds r y.toList with
      | none => trivial
      | some l' =>
        have k1 := opnds_sound hH hR h1
        have k2 := opnds_sound hH hR h2
        exact OVal.pure hH (cv := .func (.func g) (x.map a.eval) (y.map a.eval)) rfl (.fn _ _ _ _ _ (by simpa using k1) (by simpa using k2))
  | _ => trivial
theorem slice_run (hH : HRel π B H w) (hR : RR π r a.tmps) {t : TypeId} {x : Operand} {l hh m : Option Operand} : ORun P B π H w (do let y ← Instr.sliceAt t (a.eval x) (l.map a.eval) (hh.map a.eval) (m.map a.eval); pure (.value y)) (opSlice t x l hh m P r H) := by
  unfold opSlice
  cases h1 : opnd r x with
  | none => trivial
  | some c =>
    cases h2 : optA r l with
    | none => trivial
    | some l' =>
      cases h3 : optA r hh with
      | none => trivial
      | some h' =>
        cases h4 : optA r m with
        | none => trivial
        | some m' =>
          simp only
          cases h5 : sliceA P t c l' h' m' H with
          | none => trivial
          | some v =>
            obtain ⟨cv, k1, k2⟩ := slice_sound (P := P) hH (opnd_sound hH hR h1) (optA_sound hH hR h2) (optA_sound hH hR h3) (optA_sound hH hR h4) h5
            exact OVal.pure hH k1 k2
theorem fieldAddr_run (hH : HRel π B H w) (hR : RR π r a.tmps) {t : TypeId} {x : Operand} {f : Nat} : ORun P B π H w (do let y ← Instr.fieldAt t (a.eval x) f; pure (.value y)) (opFieldAddr t x f P r H) := by
  refine ORun.plain (plain_oo trivial fun _ _ => plain_orV) fun v H' e => ?_
  obtain ⟨c, h1, e⟩ := oo_val e (by simp [orB])
  obtain ⟨h2, rfl⟩ := orV_val e
  obtain ⟨cv, k1, k2⟩ := fieldAddr_sound (P := P) (w := w) (opnd_sound hH hR h1) h2
  exact OVal.pure hH k1 k2
theorem field_run (hH : HRel π B H w) (hR : RR π r a.tmps) {t : TypeId} {x : Operand} {f : Nat} : ORun P B π H w (do let y ← Instr.field t (a.eval x) f; pure (.value y)) (opField t x f P r H) := by
  unfold opField
  cases h1 : opnd r x with
  | none => trivial
  | some c =>
    cases h2 : fieldOf P t f with
    | none => cases c <;> trivial
    | some fd =>
      cases c <;> first | trivial | skip
      rename_i l
      simp only
      cases h3 : partA P fd.type l fd.offset with
      | none => trivial
      | some v =>
        obtain ⟨cv, k1, k2⟩ := field_sound (P := P) (w := w) (opnd_sound hH hR h1) h2 h3
        exact OVal.pure hH k1 k2
theorem indexAddr_run (hH : HRel π B H w) (hR : RR π r a.tmps) {t : TypeId} {x i : Operand} : ORun P B π H w (do let y ← Instr.indexAt t (a.eval x) (a.eval i); pure (.value y)) (opIndexAddr t x i P r H) := by
  refine ORun.plain (plain_oo trivial fun _ _ => plain_oo trivial fun _ _ => plain_orV) fun v H' e => ?_
  obtain ⟨c, h1, e⟩ := oo_val e (by simp [orB])
  obtain ⟨c', h2, e⟩ := oo_val e (by simp [orB])
  obtain ⟨h3, rfl⟩ := orV_val e
  obtain ⟨cv, k1, k2⟩ := idxAddr_sound (P := P) (w := w) (opnd_sound hH hR h1) (opnd_sound hH hR h2) h3
  exact OVal.pure hH k1 k2
theorem index_run (hH : HRel π B H w) (hR : RR π r a.tmps) {t : TypeId} {x i : Operand} : ORun P B π H w (do let y ← Instr.index t (a.eval x) (a.eval i); pure (.value y)) (opIndex t x i P r H) := by
  refine ORun.plain (plain_oo trivial fun _ _ => plain_oo trivial fun _ _ => plain_orV) fun v H' e => ?_
  obtain ⟨c, h1, e⟩ := oo_val e (by simp [orB])
  obtain ⟨c', h2, e⟩ := oo_val e (by simp [orB])
  obtain ⟨h3, rfl⟩ := orV_val e
  obtain ⟨cv, k1, k2⟩ := index_sound (P := P) (w := w) (opnd_sound hH hR h1) (opnd_sound hH hR h2) h3
  exact OVal.pure hH k1 k2
theorem lookup_run (hH : HRel π B H w) (hR : RR π r a.tmps) {t : TypeId} {x i : Operand} {ok : Bool} : ORun P B π H w (do let y ← Instr.lookup t (a.eval x) (a.eval i) ok; pure (.value y)) (opLookup t x i ok P r H) := by
  unfold opLookup
  cases h1 : opnd r x with
  | none => trivial
  | some c =>
    cases h2 : opnd r i with
    | none => trivial
    | some c' =>
      simp only
      cases h3 : lookupA P t c c' ok H with
      | none => trivial
      | some v =>
        obtain ⟨cv, k1, k2⟩ := lookup_sound (P := P) hH (opnd_sound hH hR h1) (opnd_sound hH hR h2) h3
        exact OVal.pure hH k1 k2
theorem extract_run (hH : HRel π B H w) (hR : RR π r a.tmps) {x : Operand} {i : Nat} : ORun P B π H w (do let y ← Instr.extract (a.eval x) i; pure (.value y)) (opExtract x i P r H) := by
  refine ORun.plain ?_ fun v H' e => ?_
  · refine plain_oo trivial fun c _ => ?_
    cases c with
    | tup l => exact plain_orV
    | _ => trivial
  · obtain ⟨c, h1, e⟩ := oo_val e (by simp [orB])
    obtain ⟨l, rfl, e⟩ := avTup_some (p := (· = OR.val v H')) e (by simp [orB])
    obtain ⟨h2, rfl⟩ := orV_val e
    have hx := opnd_sound hH hR h1
    generalize a.eval x = cx at hx
    cases hx with
    | tup _ arr hl =>
      obtain ⟨cv, k1, k2⟩ := hl.get h2
      refine OVal.pure hH (cv := cv) ?_ k2
      have k3 : arr[i]? = some cv := by rw [← Array.getElem?_toList]; exact k1
      unfold Instr.extract
      simp only [k3, Sem.run_pure]
theorem typeAssert_run (hH : HRel π B H w) (hR : RR π r a.tmps) {x : Operand} {t u : TypeId} {ok : Bool} : ORun P B π H w (do let y ← Instr.typeAssert (a.eval x) t u ok; pure (.value y)) (opTypeAssert x t u ok P r H) := by
  unfold opTypeAssert
  cases h1 : opnd r x with
  | none => trivial
  | some c =>
    cases hu : P.underlying u with
    | none => cases c <;> trivial
    | some d =>
      have hx := opnd_sound hH hR h1
      have hz : ∀ z, zeroA P u = some z → (∀ m, d ≠ .interface m) → ok = true → (∀ (s1 : Sem Value), (∀ cz, (zeroValue u).run P w = .ok cz w → s1.run P w = .ok (.tuple #[cz, .bool false]) w) → OVal P (do let y ← s1; pure (.value y)) B π H w (.tup [z, .bool false]) H) := by
        intro z hz _ _ s1 hs1
        obtain ⟨cz, k1, k2⟩ := zeroA_run (P := P) (π := π) (w := w) hz
        exact OVal.pure hH (hs1 cz k1) (.tup _ _ (.cons _ _ _ _ k2 (.cons _ _ _ _ (.bool _) .nil)))
      have hnil : (∀ m, d ≠ .interface m) → c = .nili → ORun P B π H w (do let y ← Instr.typeAssert (a.eval x) t u ok; pure (.value y)) (bif ok then (match (generalizing := false) zeroA P u with | some z => OR.val (.tup [z, .bool false]) H | none => .bad "typeAssert") else .bad "typeAssert") := by
        intro hni hc
        subst hc
        cases ok with
        | false => trivial
        | true =>
          rw [cond_true]
          cases hzu : zeroA P u with
          | none => trivial
          | some z =>
            have hb : a.eval x = .nilIface := by generalize a.eval x = cv at hx; cases hx; rfl
            refine hz z hzu hni rfl _ fun cz k => ?_
            rw [hb]
            unfold Instr.typeAssert
            rw [Sem.run_bind, run_underlying hu, Result.andThen_ok]
            cases d <;> first | exact absurd rfl (hni _) | (simp only [if_true, Sem.run_bind, k, Result.andThen_ok, Sem.run_pure])
      have hifc : (∀ m, d ≠ .interface m) → ∀ tt vv, c = .ifc tt vv → ORun P B π H w (do let y ← Instr.typeAssert (a.eval x) t u ok; pure (.value y)) (bif Nat.beq tt u then OR.val (bif ok then .tup [vv, .bool true] else vv) H else bif ok then (match (generalizing := false) zeroA P u with | some z => OR.val (.tup [z, .bool false]) H | none => .bad "typeAssert") else .bad "typeAssert") := by
        intro hni tt vv hc
        subst hc
        generalize a.eval x = cx at hx
        cases hx with
        | ifc _ _ v' hv =>
          cases hb : Nat.beq tt u with
          | true =>
            have := Nat.eq_of_beq_eq_true hb
            subst this
            rw [cond_true]
            refine OVal.pure hH (cv := if ok then .tuple #[v', .bool true] else v') ?_ ?_
            · unfold Instr.typeAssert
              rw [Sem.run_bind, run_underlying hu, Result.andThen_ok]
              cases d <;> first | exact absurd rfl (hni _) | (simp only [if_true]; rfl)
            · cases ok with
              | true => exact .tup _ _ (.cons _ _ _ _ hv (.cons _ _ _ _ (.bool _) .nil))
              | false => exact hv
          | false =>
            rw [cond_false]
            have hne : tt ≠ u := by intro e; subst e; simp at hb
            cases ok with
            | false => trivial
            | true =>
              rw [cond_true]
              cases hzu : zeroA P u with
              | none => trivial
              | some z =>
                refine hz z hzu hni rfl _ fun cz k => ?_
                unfold Instr.typeAssert
                rw [Sem.run_bind, run_underlying hu, Result.andThen_ok]
                cases d <;> first | exact absurd rfl (hni _) | (simp only [if_neg hne, if_true, Sem.run_bind, k, Result.andThen_ok, Sem.run_pure])
      cases c <;> cases d <;> first | trivial | exact hnil (by simp) rfl | exact hifc (by simp) _ _ rfl
end
end Go.Proofs.YtmoejaloachlkaaGreatDoor.Ev
