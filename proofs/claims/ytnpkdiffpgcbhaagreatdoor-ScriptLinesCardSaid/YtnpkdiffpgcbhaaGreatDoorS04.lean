/- The evaluator's soundness: calls, appends, closed runs. No conditions. -/
import Derived.Test.YtnpkdiffpgcbhaaGreatDoorS03
import Derived.Laws.StructEq
import Derived.Lib.Bytealg
import Derived.Lib.MakeNoZero
import Derived.Lib.UnsafeStr
import Derived.Laws.Append
import Derived.Laws.BytesString
import Derived.OpenShut
import Derived.ChangeArms
import GoSem.ClaimJoined
import Derived.Below
import GoSem.ClaimGoes
namespace Go.Proofs.YtnpkdiffpgcbhaaGreatDoor.Ev
open Go Go.RowKit
section
variable {P : Program} {B : Nat} {π : Pi} {H H' : Hp} {w : World} {r : T AV} {a : Act} {v : AV} {s : Sem Next} {c : OR}
def OR.plain : OR → Prop
 | .bad _ => True
 | .val _ _ => True
 | _ => False
theorem ORun.plain (hp : c.plain) (h : ∀ v H', c = .val v H' → OVal P s B π H w v H') : ORun P B π H w s c := by
 cases c with
 | bad w => trivial
 | val v H' => exact h v H' rfl
 | _ => exact hp.elim
theorem plain_oo {α : Type} {x : Option α} {d : OR} {k : α → OR} (hd : d.plain) (h : ∀ a, x = some a → (k a).plain) : (oo x d k).plain := by
 cases x with
 | none => exact hd
 | some a => exact h a rfl
theorem plain_ob {b : Bool} {f t : OR} (hf : f.plain) (ht : t.plain) : (ob b f t).plain := by cases b <;> assumption
theorem plain_orV {h : Hp} {x : Option AV} : (orV h x).plain := by cases x <;> trivial
theorem plain_mkI (k : IntKind) (n : Int) (h : Hp) : (mkI k n h).plain := by rw [mkI_eq]; trivial
theorem plain_wrapI (k : IntKind) (n : Int) (h : Hp) : (wrapI k n h).plain := by rw [wrapI_eq]; trivial
theorem plain_intOp (op : BinOp) (k : IntKind) (a b : Int) (h : Hp) : (intOp op k a b h).plain := by
 cases op
 case quo => exact plain_ob (plain_wrapI _ _ _) trivial
 case rem => exact plain_ob (plain_mkI _ _ _) trivial
 all_goals first | exact plain_wrapI _ _ _ | exact plain_mkI _ _ _ | trivial
theorem plain_shiftOp (op : BinOp) (k : IntKind) (a b : Int) (h : Hp) : (shiftOp op k a b h).plain := by
 cases b with
 | negSucc m => trivial
 | ofNat m => cases op <;> first | exact plain_mkI _ _ _ | trivial
theorem plain_cond {b : Bool} {f t : OR} (hf : f.plain) (ht : t.plain) : (bif b then t else f).plain := by cases b <;> assumption
theorem plain_strOp (op : BinOp) (n v m u : Nat) (h : Hp) : (strOp op n v m u h).plain := by
 cases op
 case add => exact plain_cond trivial trivial
 all_goals trivial
theorem move_run (hH : HRel π B H w) (hR : RR π r a.tmps) {x : Operand} : ORun P B π H w (pure (.value (a.eval x))) (orV H (opnd r x)) := by
 refine ORun.plain plain_orV fun v H' e => ?_
 obtain ⟨e1, rfl⟩ := orV_val e
 exact OVal.value hH (opnd_sound hH hR e1)
theorem pick_run (hH : HRel π B H w) (hR : RR π r a.tmps) {x y z : Operand} : ORun P B π H w (do pure (.value (if ← asBool (a.eval x) then a.eval y else a.eval z))) (opPick x y z P r H) := by
 refine ORun.plain ?_ fun v H' e => ?_
 ·refine plain_oo trivial fun c _ => ?_
  cases c with
  | bool b => exact plain_orV
  | _ => trivial
 ·obtain ⟨c, h1, h2⟩ := oo_val e (by simp [orB])
  obtain ⟨b, rfl, h3⟩ := avBool_some (p := (· = OR.val v H')) h2 (by simp [orB])
  obtain ⟨h4, rfl⟩ := orV_val h3
  have hc := opnd_sound hH hR h1
  have hb : a.eval x = .bool b := by generalize a.eval x = cv at hc; cases hc; rfl
  rw [hb]
  cases b with
  | true => exact OVal.value hH (opnd_sound hH hR h4)
  | false => exact OVal.value hH (opnd_sound hH hR h4)
theorem alloc_run (hc : ∀ v H', c = .val v H' → ∃ x sm, H' = H.new x ∧ s = (do let y ← sm; pure (.value y)) ∧ AR P π w H.nx x v sm) (hH : HRel π B H w) (hp : c.plain) : ORun P B π H w s c := by
 refine ORun.plain hp fun v H' e => ?_
 obtain ⟨x, sm, rfl, rfl, h3⟩ := hc v H' e
 exact h3.oval hH
theorem build_run (hH : HRel π B H w) (hR : RR π r a.tmps) {t : TypeId} {ps : Array (Nat × Operand)} : ORun P B π H w (do let y ← Instr.build t (ps.map fun (i, x) => (i, a.eval x)); pure (.value y)) (opBuild t ps P r H) := by
 unfold opBuild
 cases hl : partsA r ps.toList with
 | none => trivial
 | some l =>
  simp only
  cases hb : buildA P t l with
  | none => trivial
  | some v =>
   have hps := partsA_sound hH hR hl
   obtain ⟨cv, h1, h2⟩ := build_sound (P := P) (w := w) (qs := ps.map fun (i, x) => (i, a.eval x)) (by simpa using hps) hb
   exact OVal.pure hH h1 h2
theorem load_run (hH : HRel π B H w) (hR : RR π r a.tmps) {t : TypeId} {x : Operand} : ORun P B π H w (do let y ← Instr.loadAt t (a.eval x); pure (.value y)) (opLoad t x P r H) := by
 refine ORun.plain (plain_oo trivial fun _ _ => plain_orV) fun v H' e => ?_
 obtain ⟨u, h1, h2⟩ := oo_val e (by simp [orB])
 obtain ⟨h3, rfl⟩ := orV_val h2
 obtain ⟨cu, k1, k2⟩ := load_sound (P := P) hH h3 (opnd_sound hH hR h1)
 exact OVal.pure hH k1 k2
theorem store_sound (hH : HRel π B H w) {t : TypeId} {x y : AV} {cx cy : Value} (hx : VR π x cx) (hy : VR π y cy) (h : store P t x y H = some H') : ∃ w', (Instr.storeAt t cx cy).run P w = .ok () w' ∧ Step B π H w π H' w' := by
  obtain ⟨b, o, rfl, h2⟩ := avPtr_some (p := (· = some H')) h (by simp)
  obtain ⟨g, h3, h4⟩ := oo_eq h2
  obtain ⟨h5, h6⟩ := ob_eq h4
  have hlen := Nat.eq_of_beq_eq_true h5
  cases hx with
  | ptr _ _ c z hp =>
    have hcells := hy.cells
    have hl : VOs π (y.cells.map some) cy.cells.toList := VOs.of hcells
    obtain ⟨g1, g2⟩ := g
    have hone : ∀ u ∈ cy.cells.toList, u.oneCell' = true := by
      have hac : allCells (y.cells.map some) = true ∨ y.cells = [] := by
        unfold stores at h6
        split at h6
        · rename_i he; right; simpa using he
        · split at h6
          · obtain ⟨hb, _⟩ := cond_some h6
            simp only [Bool.and_eq_true] at hb
            exact .inl hb.2
          · obtain ⟨hb, _⟩ := cond_some h6
            simp only [Bool.and_eq_true] at hb
            exact .inl hb.1.2
          · cases h6
      rcases hac with hac | hac
      · have : y.cells.all AV.isCell = true := by
          rw [List.all_eq_true]
          intro u hu
          obtain ⟨i, hi⟩ := List.mem_iff_getElem?.1 hu
          exact allCells_mem hac i u (by rw [List.getElem?_map, hi]; rfl)
        exact isCell_one hcells this
      · rw [hac] at hcells
        generalize cy.cells.toList = l at hcells
        cases hcells
        intro u hu; cases hu
    obtain ⟨w', k1, k2⟩ := stores_sound P hH hp h6 hl hone
    refine ⟨w', ?_, k2⟩
    unfold Instr.storeAt
    have hs : (Instr.sureAddr (.pointer (some ⟨c, o, none⟩))).run P w = .ok ⟨c, o, none⟩ w := rfl
    rw [Sem.run_bind, hs, Result.andThen_ok]
    unfold storeVar
    have hsz : cy.cells.size = g2 := by
      have h9 : y.cells.length = cy.cells.size := by rw [hcells.length]; exact Array.length_toList
      rw [← h9]; exact hlen
    simp only [Sem.run_bind, tAgg_size h3, Result.andThen_ok]
    rw [if_neg (by simpa using hsz)]
    exact k1
theorem store_run (hH : HRel π B H w) (hR : RR π r a.tmps) {t : TypeId} {x y : Operand} : ORun P B π H w (do Instr.storeAt t (a.eval x) (a.eval y); pure .skip) (opStore t x y P r H) := by
 refine ORun.plain (plain_oo trivial fun _ _ => plain_oo trivial fun _ _ => plain_oo trivial fun _ _ => trivial) fun v H' e => ?_
 obtain ⟨u, h1, e⟩ := oo_val e (by simp [orB])
 obtain ⟨u2, h2, e⟩ := oo_val e (by simp [orB])
 obtain ⟨h3, h4, e⟩ := oo_val e (by simp [orB])
 cases e
 obtain ⟨w', k1, k2⟩ := store_sound (P := P) hH (opnd_sound hH hR h1) (opnd_sound hH hR h2) h4
 exact OVal.unit k1 k2
theorem nilCheck_run (hH : HRel π B H w) (hR : RR π r a.tmps) {o : Oper} {x : Operand} (ho : o.op = .nilCheck x) : ORun P B π H w (execOp a.eval o) (opNilCheck x P r H) := by
 refine ORun.plain ?_ fun v H' e => ?_
 ·refine plain_oo trivial fun c _ => ?_
  cases c <;> trivial
 ·obtain ⟨c, h1, h2⟩ := oo_val e (by simp [orB])
  have hv := opnd_sound hH hR h1
  unfold execOp
  rw [ho]
  simp only
  generalize a.eval x = cx at hv
  cases c with
  | ptr b o =>
   have h2 : OR.val (.ptr b o) H = .val v H' := h2
   cases h2
   cases hv with
   | ptr _ _ c z hp => exact OVal.value hH (.ptr _ _ _ _ hp)
  | fn f a c =>
   have h2 : OR.val (.fn f a c) H = .val v H' := h2
   cases h2
   cases hv with
   | fn _ _ _ a' c' h h' => exact OVal.value hH (.fn _ _ _ _ _ h h')
  | _ => exact absurd (show orB "nilCheck" = .val v H' from h2) (by simp [orB])
theorem guard0 {t : TypeId} {ox oy : Operand} {c d : Value} (h1 : c ≠ .nilIface) (h2 : ∀ l, c ≠ .agg l) : (eqGuard .eql t ox oy c d).run P w = .ok () w := by
 cases c <;> first | exact absurd rfl h1 | exact absurd rfl (h2 _) | (cases d <;> rfl)
theorem guard1 {t : TypeId} {ox oy : Operand} {c : Value} (h : c ≠ .nilIface) : (eqGuard .eql t ox oy .nilIface c).run P w = .ok () w := by
 cases c <;> first | exact absurd rfl h | rfl
theorem guard2 {t : TypeId} {ox oy : Operand} {l : Array Value} {c : Value} (h : ∀ l, c ≠ .agg l) : (eqGuard .eql t ox oy (.agg l) c).run P w = .ok () w := by
 cases c <;> first | exact absurd rfl (h _) | rfl
theorem guard3 {t : TypeId} {oy : Operand} {v : Value} : (eqGuard .eql t (.const v) oy .nilIface .nilIface).run P w = .ok () w := rfl
theorem guard4 {t : TypeId} {oy : Operand} {v : Value} : (eqGuard .eql t oy (.const v) .nilIface .nilIface).run P w = .ok () w := by cases oy <;> rfl
theorem guard5 {t : TypeId} {ox oy : Operand} {l l' : Array Value} (h : (!P.eqGuardType P.depth t) = true) : (eqGuard .eql t ox oy (.agg l) (.agg l')).run P w = .ok () w :=
 run_eqGuard_agg w .eql t ox oy l l' (by simpa using h)
theorem guard_sound {x y : AV} {cx cy : Value} (hx : VR π x cx) (hy : VR π y cy) {op : BinOp} {t : TypeId} {ox oy : Operand} (h : guardA P op t ox oy x y = true) : (eqGuard op t ox oy cx cy).run P w = .ok () w := by
 have main : guardA P .eql t ox oy x y = true → (eqGuard .eql t ox oy cx cy).run P w = .ok () w := by
  intro h
  cases hx
  case nili =>
   cases hy
   case nili =>
    cases ox <;> first | exact guard3 | skip
    all_goals cases oy <;> first | exact guard4 | exact absurd (show (false : Bool) = true from h) Bool.false_ne_true
   all_goals exact guard1 (by simp)
  case agg =>
   cases hy
   case agg => exact guard5 h
   all_goals exact guard2 (by simp)
  all_goals exact guard0 (by simp) (by simp)
 cases op
 case eql => exact main h
 case neq => exact main h
 all_goals rfl
theorem binS_sound (hH : HRel π B H w) {op : BinOp} {t : TypeId} {x y : AV} {cx cy : Value} (hx : VR π x cx) (hy : VR π y cy) (hni : ∀ k n, x ≠ .int k n) (e : binS op P t x y H = .val v H') : H' = H ∧ ∃ cv, (binOp op t cx cy).run P w = .ok cv w ∧ VR π v cv := by
 have heq : ∀ n, (∀ m u, x ≠ .str m u) → eqOr (eqA P H 20 t x y) n H = .val v H' → (op = .eql ∧ n = false ∨ op = .neq ∧ n = true) → H' = H ∧ ∃ cv, (binOp op t cx cy).run P w = .ok cv w ∧ VR π v cv := by
  intro n hns he hop
  cases hq : eqA P H 20 t x y with
  | none => rw [hq] at he; cases he
  | some b =>
   rw [hq] at he
   have he : OR.val (.bool (ob n b (!b))) H = .val v H' := he
   cases he
   have hr := eqA_sound (P := P) 20 Op.maxDepth t x y b cx cy (by decide) hH hx hy hq
   have hr : (Op.equal t cx cy).run P w = .ok b w := hr
   refine ⟨rfl, ?_⟩
   rcases hop with ⟨rfl, rfl⟩ | ⟨rfl, rfl⟩
   ·refine ⟨.bool b, ?_, .bool _⟩
    have : binOp .eql t cx cy = (do pure (.bool (← Op.equal t cx cy))) := by
     cases hx <;> first | rfl | exact absurd rfl (hni _ _) | exact absurd rfl (hns _ _)
    rw [this, Sem.run_bind, hr]; rfl
   ·refine ⟨.bool (!b), ?_, .bool _⟩
    have : binOp .neq t cx cy = (do pure (.bool (!(← Op.equal t cx cy)))) := by
     cases hx <;> first | rfl | exact absurd rfl (hni _ _) | exact absurd rfl (hns _ _)
    rw [this, Sem.run_bind, hr]; rfl
 by_cases hs : ∃ n u, x = .str n u
 ·obtain ⟨n, u, rfl⟩ := hs
  have e : avStr y (.bad "text operator") (fun m u' => strOp op n u m u' H) = .val v H' := e
  obtain ⟨m, u', rfl, e2⟩ := avStr_some (p := (· = OR.val v H')) e (by simp)
  cases hx
  cases hy
  obtain ⟨h1, cv, h2, h3⟩ := strOp_sound (P := P) (w := w) (t := t) e2
  exact ⟨h1, cv, h2, h3 π⟩
 ·have hns : ∀ m u, x ≠ .str m u := fun m u e => hs ⟨m, u, e⟩
  have e : (match (generalizing := false) op with
   | .eql => eqOr (eqA P H 20 t x y) false H
   | .neq => eqOr (eqA P H 20 t x y) true H
   | _ => .bad "operator") = OR.val v H' := by
   cases x <;> first | exact e | exact absurd rfl (hns _ _)
  cases op <;> first | exact heq _ hns e (.inl ⟨rfl, rfl⟩) | exact heq _ hns e (.inr ⟨rfl, rfl⟩) | cases e
theorem plain_eqOr {x : Option Bool} {n : Bool} {h : Hp} : (eqOr x n h).plain := by cases x <;> trivial
theorem plain_binS {op : BinOp} {t : TypeId} {x y : AV} {h : Hp} : (binS op P t x y h).plain := by
 unfold binS
 cases x with
 | str n v =>
  show (avStr y (.bad "text operator") fun m u => strOp op n v m u h).plain
  cases y with
  | str m u => exact plain_strOp _ _ _ _ _ _
  | _ => trivial
 | _ => cases op <;> first | exact plain_eqOr | trivial
theorem binOp_run (hH : HRel π B H w) (hR : RR π r a.tmps) {op : BinOp} {t u : TypeId} {x y : Operand} : ORun P B π H w (do let z ← (do eqGuard op t x y (a.eval x) (a.eval y); binOp op t (a.eval x) (a.eval y) : Sem Value); pure (.value z)) (opBinOp op t x y u P r H) := by
 refine ORun.plain ?_ fun v H' e => ?_
 ·refine plain_oo trivial fun c _ => plain_oo trivial fun c' _ => plain_ob trivial ?_
  unfold binA
  cases c with
  | int k n =>
   show (avInt c' (.bad "operator") fun k' y => ob (isShift op) (ob (kEq k k') (.bad "kinds") (intOp op k n y H)) (shiftOp op k n y H)).plain
   cases c' with
   | int k' n' => exact plain_ob (plain_ob trivial (plain_intOp _ _ _ _ _)) (plain_shiftOp _ _ _ _ _)
   | _ => trivial
  | _ => exact plain_binS
 ·obtain ⟨c, h1, e⟩ := oo_val e (by simp [orB])
  obtain ⟨c', h2, e⟩ := oo_val e (by simp [orB])
  obtain ⟨hg, e⟩ := ob_val e (by simp [orB])
  have hx := opnd_sound hH hR h1
  have hy := opnd_sound hH hR h2
  have hgr := guard_sound (P := P) (w := w) hx hy hg
  have main : H' = H ∧ ∃ cv, (binOp op t (a.eval x) (a.eval y)).run P w = .ok cv w ∧ VR π v cv := by
   by_cases hi : ∃ k n, c = .int k n
   ·obtain ⟨k, n, rfl⟩ := hi
    have e : avInt c' (.bad "operator") (fun k' y => ob (isShift op) (ob (kEq k k') (.bad "kinds") (intOp op k n y H)) (shiftOp op k n y H)) = .val v H' := e
    obtain ⟨k', n', rfl, e2⟩ := avInt_some (p := (· = OR.val v H')) e (by simp)
    rw [hx.int_inv, hy.int_inv]
    cases hsh : isShift op with
    | true =>
     rw [hsh] at e2
     obtain ⟨h3, cv, h4, h5⟩ := shiftOp_sound (P := P) (w := w) (t := t) (j := k') hsh e2
     exact ⟨h3, cv, h4, h5 π⟩
    | false =>
     rw [hsh, ob_false] at e2
     obtain ⟨hk, e3⟩ := ob_val e2 (by simp)
     rw [kEq_eq hk] at *
     obtain ⟨h3, cv, h4, h5⟩ := intOp_sound (P := P) (w := w) (t := t) hsh e3
     exact ⟨h3, cv, h4, h5 π⟩
   ·have hni : ∀ k n, c ≠ .int k n := fun k n e => hi ⟨k, n, e⟩
    have e : binS op P t c c' H = .val v H' := by
     cases c <;> first | exact e | exact absurd rfl (hni _ _)
    exact binS_sound hH hx hy hni e
  obtain ⟨rfl, cv, h3, h4⟩ := main
  refine OVal.pure hH (cv := cv) ?_ h4
  rw [Sem.run_bind, hgr, Result.andThen_ok]; exact h3
theorem unOp_run (hH : HRel π B H w) (hR : RR π r a.tmps) {op : UnOp} {t : TypeId} {x : Operand} : ORun P B π H w (do let y ← Op.unary op (a.eval x); pure (.value y)) (opUnOp op t x P r H) := by
 refine ORun.plain ?_ fun v H' e => ?_
 ·refine plain_oo trivial fun c _ => ?_
  cases op with
  | neg =>
   show (uNeg c H).plain
   cases c with
   | int k n => exact plain_wrapI _ _ _
   | _ => trivial
  | not =>
   show (uNot c H).plain
   cases c <;> trivial
  | _ => trivial
 ·obtain ⟨c, h1, e⟩ := oo_val e (by simp [orB])
  have hx := opnd_sound hH hR h1
  cases op with
  | neg =>
   have e : uNeg c H = .val v H' := e
   obtain ⟨k, n, rfl, e2⟩ := avInt_some (p := (· = OR.val v H')) e (by simp)
   rw [subI_eq] at e2
   obtain ⟨rfl, rfl⟩ := wrapI_val e2
   rw [hx.int_inv]
   exact OVal.pure hH (cv := .int k (k.wrap (0 - n))) rfl (.int _ _)
  | not =>
   have e : uNot c H = .val v H' := e
   obtain ⟨b, rfl, e2⟩ := avBool_some (p := (· = OR.val v H')) e (by simp)
   cases e2
   have hb : a.eval x = .bool b := by generalize a.eval x = cv at hx; cases hx; rfl
   rw [hb]
   refine OVal.pure hH (cv := .bool (!b)) rfl ?_
   cases b <;> exact .bool _
  | _ => cases e
theorem makeInterface_run (hH : HRel π B H w) (hR : RR π r a.tmps) {t : TypeId} {x : Operand} : ORun P B π H w (do let y ← Instr.makeInterface t (a.eval x); pure (.value y)) (opMakeInterface t x P r H) := by
 unfold opMakeInterface
 cases hx : opnd r x with
 | none => trivial
 | some c =>
  cases hu : P.underlying t with
  | none => trivial
  | some u =>
   have main : ∀ (hni : ∀ m, u ≠ .interface m), OVal P (do let y ← Instr.makeInterface t (a.eval x); pure (.value y)) B π H w (.ifc t c) H := by
    intro hni
    refine OVal.pure hH (cv := .iface t (a.eval x)) ?_ (.ifc _ _ _ (opnd_sound hH hR hx))
    unfold Instr.makeInterface
    rw [Sem.run_bind, run_underlying hu, Result.andThen_ok]
    cases u <;> first | rfl | exact absurd rfl (hni _)
   cases u <;> first | trivial | exact main (by simp)
theorem makeFunc_run (hH : HRel π B H w) (hR : RR π r a.tmps) {f : Fn} {x y : Array Operand} : ORun P B π H w (do let z ← Instr.makeFunc f (x.map a.eval) (y.map a.eval); pure (.value z)) (opMakeFunc f x y P r H) := by
 unfold opMakeFunc
 cases f with
 | func g =>
  cases h1 : opnds r x.toList with
  | none => trivial
  | some l =>
   cases h2 : opnds r y.toList with
   | none => trivial
   | some l' =>
    have k1 := opnds_sound hH hR h1
    have k2 := opnds_sound hH hR h2
    exact OVal.pure hH (cv := .func (.func g) (x.map a.eval) (y.map a.eval)) rfl (.fn _ _ _ _ _ (by simpa using k1) (by simpa using k2))
 | _ => trivial
theorem slice_run (hH : HRel π B H w) (hR : RR π r a.tmps) {t : TypeId} {x : Operand} {l hh m : Option Operand} : ORun P B π H w (do let y ← Instr.sliceAt t (a.eval x) (l.map a.eval) (hh.map a.eval) (m.map a.eval); pure (.value y)) (opSlice t x l hh m P r H) := by
 unfold opSlice
 cases h1 : opnd r x with
 | none => trivial
 | some c =>
  cases h2 : optA r l with
  | none => trivial
  | some l' =>
   cases h3 : optA r hh with
   | none => trivial
   | some h' =>
    cases h4 : optA r m with
    | none => trivial
    | some m' =>
     simp only
     cases h5 : sliceA P t c l' h' m' H with
     | none => trivial
     | some v =>
      obtain ⟨cv, k1, k2⟩ := slice_sound (P := P) hH (opnd_sound hH hR h1) (optA_sound hH hR h2) (optA_sound hH hR h3) (optA_sound hH hR h4) h5
      exact OVal.pure hH k1 k2
theorem fieldAddr_run (hH : HRel π B H w) (hR : RR π r a.tmps) {t : TypeId} {x : Operand} {f : Nat} : ORun P B π H w (do let y ← Instr.fieldAt t (a.eval x) f; pure (.value y)) (opFieldAddr t x f P r H) := by
 refine ORun.plain (plain_oo trivial fun _ _ => plain_orV) fun v H' e => ?_
 obtain ⟨c, h1, e⟩ := oo_val e (by simp [orB])
 obtain ⟨h2, rfl⟩ := orV_val e
 obtain ⟨cv, k1, k2⟩ := fieldAddr_sound (P := P) (w := w) (opnd_sound hH hR h1) h2
 exact OVal.pure hH k1 k2
theorem field_run (hH : HRel π B H w) (hR : RR π r a.tmps) {t : TypeId} {x : Operand} {f : Nat} : ORun P B π H w (do let y ← Instr.field t (a.eval x) f; pure (.value y)) (opField t x f P r H) := by
 unfold opField
 cases h1 : opnd r x with
 | none => trivial
 | some c =>
  cases h2 : fieldOf P t f with
  | none => cases c <;> trivial
  | some fd =>
   cases c <;> first | trivial | skip
   rename_i l
   simp only
   cases h3 : partA P fd.type l fd.offset with
   | none => trivial
   | some v =>
    obtain ⟨cv, k1, k2⟩ := field_sound (P := P) (w := w) (opnd_sound hH hR h1) h2 h3
    exact OVal.pure hH k1 k2
theorem indexAddr_run (hH : HRel π B H w) (hR : RR π r a.tmps) {t : TypeId} {x i : Operand} : ORun P B π H w (do let y ← Instr.indexAt t (a.eval x) (a.eval i); pure (.value y)) (opIndexAddr t x i P r H) := by
 refine ORun.plain (plain_oo trivial fun _ _ => plain_oo trivial fun _ _ => plain_orV) fun v H' e => ?_
 obtain ⟨c, h1, e⟩ := oo_val e (by simp [orB])
 obtain ⟨c', h2, e⟩ := oo_val e (by simp [orB])
 obtain ⟨h3, rfl⟩ := orV_val e
 obtain ⟨cv, k1, k2⟩ := idxAddr_sound (P := P) (w := w) (opnd_sound hH hR h1) (opnd_sound hH hR h2) h3
 exact OVal.pure hH k1 k2
theorem index_run (hH : HRel π B H w) (hR : RR π r a.tmps) {t : TypeId} {x i : Operand} : ORun P B π H w (do let y ← Instr.index t (a.eval x) (a.eval i); pure (.value y)) (opIndex t x i P r H) := by
 refine ORun.plain (plain_oo trivial fun _ _ => plain_oo trivial fun _ _ => plain_orV) fun v H' e => ?_
 obtain ⟨c, h1, e⟩ := oo_val e (by simp [orB])
 obtain ⟨c', h2, e⟩ := oo_val e (by simp [orB])
 obtain ⟨h3, rfl⟩ := orV_val e
 obtain ⟨cv, k1, k2⟩ := index_sound (P := P) (w := w) (opnd_sound hH hR h1) (opnd_sound hH hR h2) h3
 exact OVal.pure hH k1 k2
theorem lookup_run (hH : HRel π B H w) (hR : RR π r a.tmps) {t : TypeId} {x i : Operand} {ok : Bool} : ORun P B π H w (do let y ← Instr.lookup t (a.eval x) (a.eval i) ok; pure (.value y)) (opLookup t x i ok P r H) := by
 unfold opLookup
 cases h1 : opnd r x with
 | none => trivial
 | some c =>
  cases h2 : opnd r i with
  | none => trivial
  | some c' =>
   simp only
   cases h3 : lookupA P t c c' ok H with
   | none => trivial
   | some v =>
    obtain ⟨cv, k1, k2⟩ := lookup_sound (P := P) hH (opnd_sound hH hR h1) (opnd_sound hH hR h2) h3
    exact OVal.pure hH k1 k2
theorem extract_run (hH : HRel π B H w) (hR : RR π r a.tmps) {x : Operand} {i : Nat} : ORun P B π H w (do let y ← Instr.extract (a.eval x) i; pure (.value y)) (opExtract x i P r H) := by
 refine ORun.plain ?_ fun v H' e => ?_
 ·refine plain_oo trivial fun c _ => ?_
  cases c with
  | tup l => exact plain_orV
  | _ => trivial
 ·obtain ⟨c, h1, e⟩ := oo_val e (by simp [orB])
  obtain ⟨l, rfl, e⟩ := avTup_some (p := (· = OR.val v H')) e (by simp [orB])
  obtain ⟨h2, rfl⟩ := orV_val e
  have hx := opnd_sound hH hR h1
  generalize a.eval x = cx at hx
  cases hx with
  | tup _ arr hl =>
   obtain ⟨cv, k1, k2⟩ := hl.get h2
   refine OVal.pure hH (cv := cv) ?_ k2
   have k3 : arr[i]? = some cv := by rw [← Array.getElem?_toList]; exact k1
   unfold Instr.extract
   simp only [k3, Sem.run_pure]
theorem typeAssert_run (hH : HRel π B H w) (hR : RR π r a.tmps) {x : Operand} {t u : TypeId} {ok : Bool} : ORun P B π H w (do let y ← Instr.typeAssert (a.eval x) t u ok; pure (.value y)) (opTypeAssert x t u ok P r H) := by
 unfold opTypeAssert
 cases h1 : opnd r x with
 | none => trivial
 | some c =>
  cases hu : P.underlying u with
  | none => cases c <;> trivial
  | some d =>
   have hx := opnd_sound hH hR h1
   have hz : ∀ z, zeroA P u = some z → (∀ m, d ≠ .interface m) → ok = true → (∀ (s1 : Sem Value), (∀ cz, (zeroValue u).run P w = .ok cz w → s1.run P w = .ok (.tuple #[cz, .bool false]) w) → OVal P (do let y ← s1; pure (.value y)) B π H w (.tup [z, .bool false]) H) := by
    intro z hz _ _ s1 hs1
    obtain ⟨cz, k1, k2⟩ := zeroA_run (P := P) (π := π) (w := w) hz
    exact OVal.pure hH (hs1 cz k1) (.tup _ _ (.cons _ _ _ _ k2 (.cons _ _ _ _ (.bool _) .nil)))
   have hnil : (∀ m, d ≠ .interface m) → c = .nili → ORun P B π H w (do let y ← Instr.typeAssert (a.eval x) t u ok; pure (.value y)) (bif ok then (match (generalizing := false) zeroA P u with | some z => OR.val (.tup [z, .bool false]) H | none => .bad "typeAssert") else .bad "typeAssert") := by
    intro hni hc
    subst hc
    cases ok with
    | false => trivial
    | true =>
     rw [cond_true]
     cases hzu : zeroA P u with
     | none => trivial
     | some z =>
      have hb : a.eval x = .nilIface := by generalize a.eval x = cv at hx; cases hx; rfl
      refine hz z hzu hni rfl _ fun cz k => ?_
      rw [hb]
      unfold Instr.typeAssert
      rw [Sem.run_bind, run_underlying hu, Result.andThen_ok]
      cases d <;> first | exact absurd rfl (hni _) | (simp only [if_true, Sem.run_bind, k, Result.andThen_ok, Sem.run_pure])
   have hifc : (∀ m, d ≠ .interface m) → ∀ tt vv, c = .ifc tt vv → ORun P B π H w (do let y ← Instr.typeAssert (a.eval x) t u ok; pure (.value y)) (bif Nat.beq tt u then OR.val (bif ok then .tup [vv, .bool true] else vv) H else bif ok then (match (generalizing := false) zeroA P u with | some z => OR.val (.tup [z, .bool false]) H | none => .bad "typeAssert") else .bad "typeAssert") := by
    intro hni tt vv hc
    subst hc
    generalize a.eval x = cx at hx
    cases hx with
    | ifc _ _ v' hv =>
     cases hb : Nat.beq tt u with
     | true =>
      have := Nat.eq_of_beq_eq_true hb
      subst this
      rw [cond_true]
      refine OVal.pure hH (cv := if ok then .tuple #[v', .bool true] else v') ?_ ?_
      ·unfold Instr.typeAssert
       rw [Sem.run_bind, run_underlying hu, Result.andThen_ok]
       cases d <;> first | exact absurd rfl (hni _) | (simp only [if_true]; rfl)
      ·cases ok with
       | true => exact .tup _ _ (.cons _ _ _ _ hv (.cons _ _ _ _ (.bool _) .nil))
       | false => exact hv
     | false =>
      rw [cond_false]
      have hne : tt ≠ u := by intro e; subst e; simp at hb
      cases ok with
      | false => trivial
      | true =>
       rw [cond_true]
       cases hzu : zeroA P u with
       | none => trivial
       | some z =>
        refine hz z hzu hni rfl _ fun cz k => ?_
        unfold Instr.typeAssert
        rw [Sem.run_bind, run_underlying hu, Result.andThen_ok]
        cases d <;> first | exact absurd rfl (hni _) | (simp only [if_neg hne, if_true, Sem.run_bind, k, Result.andThen_ok, Sem.run_pure])
   cases c <;> cases d <;> first | trivial | exact hnil (by simp) rfl | exact hifc (by simp) _ _ rfl
end
end Go.Proofs.YtnpkdiffpgcbhaaGreatDoor.Ev
namespace Go.Proofs.YtnpkdiffpgcbhaaGreatDoor.Ev
open Go Go.RowKit
section
variable {P : Program} {B : Nat} {π : Pi} {H H' : Hp} {w : World} {r : T AV} {a : Act} {v : AV}
theorem mapUpd_run (hH : HRel π B H w) (hR : RR π r a.tmps) {t : TypeId} {m k x : Operand} {c : OR}
  (hc : c = match opnd r m, opnd r k, opnd r x with
   | some m, some k, some v => (match mapUpd P t m k v H with
    | some h' => OR.val undA h'
    | none => .bad "mapUpdate")
   | _, _, _ => .bad "mapUpdate") : ORun P B π H w (do Instr.mapUpdate t (a.eval m) (a.eval k) (a.eval x); pure .skip) c := by
 subst hc
 cases h1 : opnd r m with
 | none => trivial
 | some m' =>
  cases h2 : opnd r k with
  | none => trivial
  | some k' =>
   cases h3 : opnd r x with
   | none => trivial
   | some x' =>
    simp only
    cases h4 : mapUpd P t m' k' x' H with
    | none => trivial
    | some H1 =>
     obtain ⟨w', k1, k2⟩ := mapUpd_sound (P := P) hH (opnd_sound hH hR h1) (opnd_sound hH hR h2) (opnd_sound hH hR h3) h4
     exact OVal.unit k1 k2
theorem insert_run (hH : HRel π B H w) (hR : RR π r a.tmps) {t : TypeId} {m k x : Operand} : ORun P B π H w (do Instr.mapUpdate t (a.eval m) (a.eval k) (a.eval x); pure .skip) (opInsert t m k x P r H) := by
 unfold opInsert
 cases h1 : opnd r m with
 | none => trivial
 | some m' =>
  cases h2 : opnd r k with
  | none => trivial
  | some k' =>
   cases h3 : opnd r x with
   | none => trivial
   | some x' =>
    simp only
    cases h4 : mapUpd P t m' k' x' H with
    | none => trivial
    | some H1 =>
     obtain ⟨w', k1, k2⟩ := mapUpd_sound (P := P) hH (opnd_sound hH hR h1) (opnd_sound hH hR h2) (opnd_sound hH hR h3) h4
     exact OVal.unit k1 k2
theorem range_run (hH : HRel π B H w) (hR : RR π r a.tmps) {t : TypeId} {x : Operand} : ORun P B π H w (do let y ← Instr.range t (a.eval x); pure (.value y)) (opRange t x P r H) := by
 refine ORun.plain ?_ fun v H' e => range_sound hH hR e
 unfold opRange
 split
 ·trivial
 ·split <;> trivial
 ·trivial
theorem next_op_run (hH : HRel π B H w) (hR : RR π r a.tmps) {x : Operand} {s : Bool} {ty : TypeId} : ORun P B π H w (do let y ← Instr.next (a.eval x) s ty; pure (.value y)) (opNext x s P r H) := by
 obtain ⟨h1, h2, h3⟩ := next_sound (P := P) (s := s) (ty := ty) (x := x) hH hR
 rcases h3 _ rfl with ⟨ww, e⟩ | ⟨v, H', e⟩ | ⟨l, e⟩
 ·rw [e]; trivial
 ·rw [e]; exact h1 v H' e
 ·rw [e]; exact h2 l e
theorem entry_run (hH : HRel π B H w) (hR : RR π r a.tmps) {x : Operand} : ORun P B π H w (do let y ← Instr.entry (a.eval x); pure (.value y)) (opEntry x P r H) := by
 refine ORun.plain ?_ fun v H' e => entry_sound hH hR e
 unfold opEntry
 split
 ·split
  ·split
   ·rw [Bool.cond_eq_ite]
    split
    ·split <;> trivial
    ·trivial
   ·trivial
  ·trivial
 ·trivial
theorem lenT_eq {t : TypeId} : (lenT P t = .str → P.underlying t = some .string) ∧ (lenT P t = .sl → ∃ e, P.underlying t = some (.slice e)) := by
 unfold lenT
 split
 ·rename_i h; exact ⟨fun _ => h, fun h => (by cases h)⟩
 ·rename_i e h; exact ⟨fun h => (by cases h), fun _ => ⟨e, h⟩⟩
 ·exact ⟨fun h => (by cases h), fun h => (by cases h)⟩
theorem lenA_sound (hH : HRel π B H w) {t u : TypeId} {ts : Array TypeId} {x : AV} {cx : Value} {n : Nat} {args : Array Value} (ht : ts[0]? = some t) (hx : VR π x cx) (ha : args[0]? = some cx) (h : lenA P t x H = some n) : (Builtin.len_ ts u args).run P w = .ok (.int .i64 n) w := by
 unfold Builtin.len_
 simp only [ht, ha]
 unfold lenA at h
 cases hl : lenT P t with
 | str =>
  rw [hl] at h
  have h : avStr x none (fun n _ => some n) = some n := h
  obtain ⟨m, v, rfl, h2⟩ := avStr_eqO h
  cases h2
  rw [Sem.run_bind, run_underlying (lenT_eq.1 hl), Result.andThen_ok]
  cases hx; rfl
 | sl =>
  rw [hl] at h
  have h : avSl x (lenZ x) (fun _ _ n _ _ _ => some n) = some n := h
  obtain ⟨e, hu⟩ := lenT_eq.2 hl
  rw [Sem.run_bind, run_underlying hu, Result.andThen_ok]
  cases x <;> first | (cases h; cases hx; rfl) | (exfalso; cases h; done)
 | other =>
  rw [hl] at h
  replace h : lenO P t x H = some n := h
  unfold lenO at h
  split at h
  ·rename_i m e hu
   cases h
   rw [Sem.run_bind, run_underlying hu, Result.andThen_ok]
   cases hx <;> rfl
  ·rename_i kt vt hu
   cases h
   rw [Sem.run_bind, run_underlying hu, Result.andThen_ok]
   cases hx; rfl
  ·rename_i kt vt b hu
   split at h
   ·rename_i es c hb
    cases h
    rw [Sem.run_bind, run_underlying hu, Result.andThen_ok]
    obtain ⟨mm, z, l, es', a1, a2, a3, a4, _⟩ := hH.map hb
    cases hx with
    | map _ m' z' hp =>
     rw [hp] at a1; cases a1
     simp only [Sem.run_bind, run_getObj_map a2, Result.andThen_ok, Sem.run_pure]
     rw [a3.length_eq, a4.length]; rfl
   ·cases h
  ·rename_i e hu
   split at h
   ·rename_i m e' hu2
    cases h
    rw [Sem.run_bind, run_underlying hu, Result.andThen_ok]
    cases hx
    simp only [Sem.run_bind, run_underlying hu2, Result.andThen_ok, Sem.run_pure]
    rfl
   ·cases h
  ·cases h
theorem minA_sound (mx : Bool) : ∀ {l : List AV} {vs : List Value} {x : AV} {cx : Value}, VR π x cx → VRs π l vs → minA mx x l = some v → ∃ cv, (vs.foldlM (if mx then Builtin.max2 else Builtin.min2) cx).run P w = .ok cv w ∧ VR π v cv
 | [], vs, x, cx, hx, hl, h => by
  cases hl
  unfold minA at h
  cases h
  exact ⟨cx, rfl, hx⟩
 | y :: l, vs, x, cx, hx, hl, h => by
  cases hl with
  | cons _ cy _ vs' hy hl' =>
   cases x <;> cases y <;> first | (unfold minA at h; cases h; done) | skip
   rename_i k n k' m
   unfold minA at h
   cases hx
   cases hy
   rw [List.foldlM_cons]
   cases mx with
   | true =>
    have e : (Builtin.max2 (.int k n) (.int k' m)).run P w = .ok (.int k (if m > n then m else n)) w := rfl
    obtain ⟨cv, h1, h2⟩ := minA_sound true (x := .int k (bif iLt n m then m else n)) (cx := .int k (if m > n then m else n)) (by
     rw [iLt_iff]
     by_cases hlt : n < m
     ·rw [decide_eq_true hlt, cond_true, if_pos hlt]; exact .int _ _
     ·rw [decide_eq_false hlt, cond_false, if_neg hlt]; exact .int _ _) hl' h
    refine ⟨cv, ?_, h2⟩
    rw [Sem.run_bind]
    show Result.andThen (Sem.run P (Builtin.max2 (.int k n) (.int k' m)) w) _ = _
    rw [e]; exact h1
   | false =>
    have e : (Builtin.min2 (.int k n) (.int k' m)).run P w = .ok (.int k (if m < n then m else n)) w := rfl
    obtain ⟨cv, h1, h2⟩ := minA_sound false (x := .int k (bif iLt m n then m else n)) (cx := .int k (if m < n then m else n)) (by
     rw [iLt_iff]
     by_cases hlt : m < n
     ·rw [decide_eq_true hlt, cond_true, if_pos hlt]; exact .int _ _
     ·rw [decide_eq_false hlt, cond_false, if_neg hlt]; exact .int _ _) hl' h
    refine ⟨cv, ?_, h2⟩
    rw [Sem.run_bind]
    show Result.andThen (Sem.run P (Builtin.min2 (.int k n) (.int k' m)) w) _ = _
    rw [e]; exact h1
def extName (n : String) : Bool := n == "internal/bytealg.IndexByteString" || n == "internal/bytealg.CountString" || n == "internal/bytealg.abigen_runtime_cmpstring" || n == "internal/abi.NoEscape" || n == "maps.clone" || n == "math/bits.Add64" || n == "internal/bytealg.MakeNoZero"
def extOk (P : Program) : Bool := P.funcs.toList.all fun fn => fn.body.isSome || !extName fn.name || (Extern.findNext fn).isNone
theorem find_indexByte {fn : Func} (h : fn.name = "internal/bytealg.IndexByteString") : Extern.find fn = some Extern.BytealgIndexByte.indexByte := by
 unfold Extern.find; rw [h]; kernel_rfl
theorem find_count {fn : Func} (h : fn.name = "internal/bytealg.CountString") : Extern.find fn = some Extern.BytealgCount.count := by
 unfold Extern.find; rw [h]; kernel_rfl
theorem find_cmp {fn : Func} (h : fn.name = "internal/bytealg.abigen_runtime_cmpstring") : Extern.find fn = some Extern.BytealgCompare.compare := by
 unfold Extern.find; rw [h]; kernel_rfl
theorem find_noEscape {fn : Func} (h : fn.name = "internal/abi.NoEscape") : Extern.find fn = some Extern.AbiNoEscape.same := by
 unfold Extern.find; rw [h]; kernel_rfl
theorem find_clone {fn : Func} (h : fn.name = "maps.clone") : Extern.find fn = some Extern.MapsClone.clone := by
 unfold Extern.find; rw [h]; kernel_rfl
theorem find_makeNoZero {fn : Func} (h : fn.name = "internal/bytealg.MakeNoZero") : Extern.find fn = some (Extern.BytealgMakeNoZero.makeNoZero fn.params fn.resultTypes) := by
 unfold Extern.find; rw [h]; kernel_rfl
end
end Go.Proofs.YtnpkdiffpgcbhaaGreatDoor.Ev
namespace Go.Proofs.YtnpkdiffpgcbhaaGreatDoor.Ev
open Go Go.RowKit
section
variable {P : Program} {B : Nat} {π : Pi} {H H' : Hp} {w : World} {v : AV}
theorem extOk_next (hX : extOk P = true) {f : Nat} {fn : Func} (hf : P.funcs[f]? = some fn) (hb : fn.body = none) (hn : extName fn.name = true) : Extern.findNext fn = none := by
 have hm : fn ∈ P.funcs.toList := by
  rw [← Array.getElem?_toList] at hf
  exact List.mem_of_getElem? hf
 have := List.all_eq_true.1 hX fn hm
 rw [hb, hn] at this
 simpa using this
theorem run_ext (hX : extOk P = true) {f : Nat} {fn : Func} (hf : P.funcs[f]? = some fn) (hb : fn.body = none) (hn : extName fn.name = true) {e : Array Value → Sem Value} (he : Extern.find fn = some e) (args : Array Value) :
  (callFunc f args).run P w = ((e args).run P w).andThen fun v w' => .ok (.value v) w' := by
 refine run_callFunc_extern hf ?_ (by rw [hb]; rfl) (extOk_next hX hf hb hn) he args w
 unfold extName at hn
 simp only [Bool.or_eq_true, beq_iff_eq] at hn
 rcases hn with (((((h | h) | h) | h) | h) | h) | h <;> rw [h] <;> rfl
theorem toUInt8_nat (c : Nat) : ((c : Int).toNat.toUInt8).toNat = c % 256 := by simp
theorem beq_byte (b : UInt8) (c : Nat) : (b == (c : Int).toNat.toUInt8) = Nat.beq b.toNat (c % 256) := by
 rw [← toUInt8_nat c]
 rw [Bool.eq_iff_iff, Nat.beq_eq, beq_iff_eq, UInt8.toNat_inj]
theorem idxB_sound (l : List UInt8) (c : Nat) : ∀ k, k ≤ l.length → (match idxB l.length (natOf l) (c % 256) k with
  | some i => (i : Int)
  | none => -1) = (if Lib.indexByte (l.drop (l.length - k)) ((c : Int).toNat.toUInt8) = -1 then -1 else Lib.indexByte (l.drop (l.length - k)) ((c : Int).toNat.toUInt8) + ((l.length - k : Nat) : Int)) := by
 intro k
 induction k with
 | zero => intro _; rw [Nat.sub_zero, List.drop_length]; rfl
 | succ k ih =>
  intro hk
  have hlt : l.length - (k + 1) < l.length := by omega
  rw [List.drop_eq_getElem_cons hlt]
  unfold idxB Lib.indexByte
  have hb : strAt l.length (natOf l) (l.length - (k + 1)) = (l[l.length - (k + 1)]).toNat := by
   rw [natOf_get l _ hlt]; rfl
  rw [hb, beq_byte]
  have e1 : l.length - (k + 1) + 1 = l.length - k := by omega
  rw [e1]
  cases hq : Nat.beq (l[l.length - (k + 1)]).toNat (c % 256) with
  | true => rw [cond_true, if_pos rfl]; simp
  | false =>
   rw [cond_false]
   simp only [Bool.false_eq_true, if_false]
   rw [ih (by omega)]
   have hge := Lib.indexByte_ge (l.drop (l.length - k)) ((c : Int).toNat.toUInt8)
   generalize Lib.indexByte (l.drop (l.length - k)) ((c : Int).toNat.toUInt8) = X at hge ⊢
   by_cases hm : X = -1
   ·subst hm; simp
   ·have : (X == -1) = false := by simpa using hm
    rw [if_neg hm, this]
    simp only [Bool.false_eq_true, if_false]
    rw [if_neg (by omega)]
    omega
theorem cntB_sound (l : List UInt8) (c : Nat) : ∀ k, k ≤ l.length → cntB l.length (natOf l) (c % 256) k = Lib.countByte (l.drop (l.length - k)) ((c : Int).toNat.toUInt8) := by
 intro k
 induction k with
 | zero => intro _; rw [Nat.sub_zero, List.drop_length]; rfl
 | succ k ih =>
  intro hk
  have hlt : l.length - (k + 1) < l.length := by omega
  rw [List.drop_eq_getElem_cons hlt]
  unfold cntB Lib.countByte
  have hb : strAt l.length (natOf l) (l.length - (k + 1)) = (l[l.length - (k + 1)]).toNat := by
   rw [natOf_get l _ hlt]; rfl
  rw [hb, List.count_cons, beq_byte, show l.length - (k + 1) + 1 = l.length - k by omega, ih (by omega)]
  unfold Lib.countByte
  cases Nat.beq (l[l.length - (k + 1)]).toNat (c % 256) <;> simp <;> omega
theorem cmpB_sound : ∀ (l m : List UInt8), Lib.compareBytes l m = (bif Op.bytesLess l m then -1 else bif Op.bytesLess m l then 1 else 0)
 | [], [] => rfl
 | [], _ :: _ => rfl
 | _ :: _, [] => rfl
 | a :: l, b :: m => by
  have ih := cmpB_sound l m
  unfold Lib.compareBytes
  simp only [Op.bytesLess]
  by_cases h1 : a < b
  ·simp [h1]
  ·by_cases h2 : b < a
   ·have hne : a ≠ b := by intro e; subst e; exact UInt8.lt_irrefl _ h2
    have hb1 : (a == b) = false := by simpa using hne
    have hb2 : (b == a) = false := by simpa using fun e => hne e.symm
    simp [h1, h2, hb1, hb2]
   ·have : a = b := UInt8.le_antisymm (UInt8.not_lt.1 h2) (UInt8.not_lt.1 h1)
    subst this
    simp [h1, ih]
theorem digits_one : ∀ (n t : Nat) (acc : Array Value), (∀ v ∈ acc.toList, v.oneCell' = true) → ∀ v ∈ (Extern.BytealgMakeNoZero.digits n t acc).toList, v.oneCell' = true
 | 0, _, acc, h => h
 | n + 1, t, acc, h => by
  rw [Extern.BytealgMakeNoZero.digits]
  refine digits_one n _ _ ?_
  intro v hv
  rw [Array.toList_push] at hv
  rcases List.mem_append.1 hv with hv | hv
  ·exact h v hv
  ·simp at hv; subst hv; rfl
theorem run_clone {t : TypeId} {m c : Nat} {l : Array MapEntry} (h : w.heap[m]? = some (.map l c)) : (Extern.MapsClone.clone #[.iface t (.map (some m))]).run P w = .ok (.iface t (.map (some w.heap.size))) (w.alloc (.map l c)) := by
  have hdef : Extern.MapsClone.clone #[.iface t (.map (some m))] = (do
      let .map entries clock ← getObj m | stuck "maps.clone: a map expected"
      pure (.iface t (.map (some (← newObj (.map entries clock)))))) := rfl
  rw [hdef, Sem.run_bind, run_getObj_map h, Result.andThen_ok]
  rfl
theorem run_add64 (k1 k2 k3 : IntKind) (x y c : Nat) (hc : c ≤ 1) : (do
      let (x, y, c) ← Extern.MathBitsCarry.three "Add64" #[.int k1 (Int.ofNat x), .int k2 (Int.ofNat y), .int k3 (Int.ofNat c)]
      pure (Extern.MathBitsCarry.pair ((x + y + c) % Extern.MathBitsCarry.m64) ((x + y + c) / Extern.MathBitsCarry.m64)) : Sem Value).run P w = .ok (Extern.MathBitsCarry.pair ((x + y + c) % 18446744073709551616) ((x + y + c) / 18446744073709551616)) w := by
  have h3 : (Extern.MathBitsCarry.three "Add64" #[.int k1 (Int.ofNat x), .int k2 (Int.ofNat y), .int k3 (Int.ofNat c)]).run P w = .ok (x, y, c) w := by
    have hdef : Extern.MathBitsCarry.three "Add64" #[.int k1 (Int.ofNat x), .int k2 (Int.ofNat y), .int k3 (Int.ofNat c)] = (do
        let c := (← asInt (.int k3 (Int.ofNat c))).toNat
        if c > 1 then unsupported (.noEntry ("extern/math/bits." ++ "Add64" ++ ": a carry that is neither 0 nor 1"))
        pure ((← asInt (.int k1 (Int.ofNat x))).toNat, (← asInt (.int k2 (Int.ofNat y))).toNat, c)) := rfl
    have hi : ∀ k n, (asInt (.int k (Int.ofNat n))).run P w = .ok (Int.ofNat n) w := fun _ _ => rfl
    rw [hdef, Sem.run_bind, hi, Result.andThen_ok]
    have hc2 : ¬ (Int.ofNat c).toNat > 1 := by have : (Int.ofNat c).toNat = c := rfl; omega
    simp only [hc2, if_false, Sem.run_bind, hi, Result.andThen_ok, Sem.run_pure]
    rfl
  rw [Sem.run_bind, h3]
  rfl
theorem run_mnz {e t : TypeId} {n : Nat} (hnm : n < 16777216) {ps rs : Array TypeId} (ht : rs[0]? = some t) (he : elemSl P t = some e) : ∃ (cap : Nat) (w1 : World), w1.heap = w.heap ∧ (w1.os = w.os ∧ w1.tape = w.tape ∧ w1.output = w.output) ∧ n ≤ cap ∧ cap < big63 ∧ ∃ t', (Extern.BytealgMakeNoZero.makeNoZero ps rs #[.int .i64 (Int.ofNat n)]).run P w = .ok (.slice (some ⟨w.heap.size, 0, none⟩) n cap) (w1.alloc (.cells (Extern.BytealgMakeNoZero.digits cap t' #[]) e)) := by
  have hdef : ∀ ps rs, Extern.BytealgMakeNoZero.makeNoZero ps rs #[.int .i64 (Int.ofNat n)] = (do
      let some t := rs[0]? | stuck "bytealg.MakeNoZero: no result type"
      let .slice elem ← underlying t | stuck "bytealg.MakeNoZero: slice type expected"
      if (Int.ofNat n) < 0 || (Int.ofNat n) > 2 ^ 48 then runtimePanic (.error "makeslice: len out of range")
      let cap ← choose (.appendCap (Int.ofNat n).toNat 0 elem)
      askRoom cap
      let bytes ← choose (.extern "internal/bytealg.MakeNoZero.bytes" 0)
      let a ← newRow elem (Extern.BytealgMakeNoZero.digits cap bytes #[])
      pure (.slice (some a) (Int.ofNat n).toNat cap)) := fun _ _ => rfl
  have hroom : ∀ n w, (askRoom n).run P w = .ok () w := by intro n w; unfold askRoom; split <;> rfl
  refine ⟨n + w.tape w.drawn (.appendCap n 0 e) % (2 ^ 63 - n), { w with drawn := w.drawn + 1 + 1 }, rfl, ⟨rfl, rfl, rfl⟩, Nat.le_add_right _ _, ?_, w.tape (w.drawn + 1) (.extern "internal/bytealg.MakeNoZero.bytes" 0), ?_⟩
  · have h0 : 0 < 2 ^ 63 - n := by
      have : (16777216 : Nat) < 2 ^ 63 := by decide
      omega
    have h1 := Nat.mod_lt (w.tape w.drawn (.appendCap n 0 e)) h0
    have h2 : (2 : Nat) ^ 63 = 9223372036854775808 := rfl
    generalize hM : (2 : Nat) ^ 63 - n = M at *
    have h3 : M + n = 9223372036854775808 := by omega
    unfold big63
    omega
  · rw [hdef]
    have q1 : decide ((Int.ofNat n) < 0) = false := decide_eq_false (by simp)
    have hp48 : (2 : Int) ^ 48 = 281474976710656 := rfl
    have q2 : decide ((Int.ofNat n) > 2 ^ 48) = false := decide_eq_false (by rw [hp48]; simp; omega)
    simp only [ht, Sem.run_bind, run_underlying (elemSl_eq he), Result.andThen_ok, q1, q2, Bool.or_self, Bool.false_eq_true, if_false]
    have c1 : (choose (.appendCap (Int.ofNat n).toNat 0 e)).run P w = .ok (n + w.tape w.drawn (.appendCap n 0 e) % (2 ^ 63 - n)) { w with drawn := w.drawn + 1 } := by
      simp [choose, Sem.run, Question.forced, Question.cut]
    simp only [c1, Result.andThen_ok, hroom]
    have c2 : (choose (.extern "internal/bytealg.MakeNoZero.bytes" 0)).run P { w with drawn := w.drawn + 1 } = .ok (w.tape (w.drawn + 1) (.extern "internal/bytealg.MakeNoZero.bytes" 0)) { w with drawn := w.drawn + 1 + 1 } := by
      simp [choose, Sem.run, Question.forced, Question.cut]
      exact ⟨rfl, rfl, rfl⟩
    simp only [Sem.run_bind, c2, Result.andThen_ok, newRow, newObj, Sem.run, Sem.run_pure]
    rfl
theorem ext_run (hX : extOk P = true) {f : Nat} {fn : Func} (hf : P.funcs[f]? = some fn) (hb : fn.body = none) {args : List AV} {cargs : Array Value} (hH : HRel π B H w) (ha : VRs π args cargs.toList) : ORun P B π H w (callFunc f cargs) (ext P fn args H) := by
  unfold ext
  have val : ∀ {v : AV} {cv : Value} {e : Array Value → Sem Value}, extName fn.name = true → Extern.find fn = some e → (e cargs).run P w = .ok cv w → VR π v cv → ORun P B π H w (callFunc f cargs) (.val v H) := by
    intro v cv e hn he hr hv
    exact ⟨π, w, cv, .value cv, by rw [run_ext hX hf hb hn he, hr]; rfl, .inl rfl, hv, .refl hH⟩
  have arr1 : ∀ {x : Value}, cargs.toList = [x] → cargs = #[x] := fun h => by apply Array.ext'; rw [h]
  have arr2 : ∀ {x y : Value}, cargs.toList = [x, y] → cargs = #[x, y] := fun h => by apply Array.ext'; rw [h]
  by_cases h1 : fn.name = "internal/bytealg.IndexByteString"
  · have hn : extName fn.name = true := by rw [h1]; rfl
    rw [h1]
    show ORun P B π H w _ (match (generalizing := false) args with
      | [.str n v, .int .u8 (.ofNat c)] => (match (generalizing := false) idxB n v (c % 256) n with
        | some i => OR.val (.int .i64 (.ofNat i)) H
        | none => .val (.int .i64 (-1)) H)
      | _ => .bad "IndexByteString")
    split
    · rename_i n v c
      generalize hcl : cargs.toList = cl at ha
      cases ha with
      | cons _ c1 _ _ q1 q2 =>
        cases q2 with
        | cons _ c2 _ _ q2 q3 =>
          cases q3
          cases q1 with
          | str s =>
            cases q2
            have hca := arr2 hcl
            have hs := idxB_sound s.data.toList c s.data.toList.length (Nat.le_refl _)
            rw [Nat.sub_self, List.drop_zero] at hs
            have hlen : s.data.toList.length = s.size := by simp
            rw [hlen] at hs
            have hr : ∀ i : Int, (match idxB s.size (natOf s.data.toList) (c % 256) s.size with
                | some i => (i : Int)
                | none => -1) = i → (Extern.BytealgIndexByte.indexByte cargs).run P w = .ok (.int .i64 i) w := by
              intro i hi
              rw [hca]
              show (Extern.BytealgIndexByte.indexByte #[.string s, .int .u8 (c : Int)]).run P w = _
              rw [Lib.run_indexByteString, ← hi, hs]
              have hge := Lib.indexByte_ge s.data.toList ((c : Int).toNat.toUInt8)
              split
              · rename_i e; rw [e]
              · simp
            cases hi : idxB s.size (natOf s.data.toList) (c % 256) s.size with
            | none => rw [hi] at hr; exact val hn (find_indexByte h1) (hr (-1) rfl) (.int _ _)
            | some i => rw [hi] at hr; exact val hn (find_indexByte h1) (hr i rfl) (.int _ _)
    · trivial
  by_cases h2 : fn.name = "internal/bytealg.CountString"
  · have hn : extName fn.name = true := by rw [h2]; rfl
    rw [h2]
    show ORun P B π H w _ (match (generalizing := false) args with
      | [.str n v, .int .u8 (.ofNat c)] => OR.val (.int .i64 (.ofNat (cntB n v (c % 256) n))) H
      | _ => .bad "CountString")
    split
    · rename_i n v c
      generalize hcl : cargs.toList = cl at ha
      cases ha with
      | cons _ c1 _ _ q1 q2 =>
        cases q2 with
        | cons _ c2 _ _ q2 q3 =>
          cases q3
          cases q1 with
          | str s =>
            cases q2
            have hca := arr2 hcl
            have hs := cntB_sound s.data.toList c s.data.toList.length (Nat.le_refl _)
            rw [Nat.sub_self, List.drop_zero] at hs
            have hlen : s.data.toList.length = s.size := by simp
            rw [hlen] at hs
            refine val hn (find_count h2) (cv := .int .i64 (Lib.countByte s.data.toList ((c : Int).toNat.toUInt8))) ?_ ?_
            · rw [hca]; exact Lib.run_countString s (c : Int) w
            · rw [hs]; exact .int _ _
    · trivial
  by_cases h3 : fn.name = "internal/bytealg.abigen_runtime_cmpstring"
  · have hn : extName fn.name = true := by rw [h3]; rfl
    rw [h3]
    show ORun P B π H w _ (match (generalizing := false) args with
      | [.str n v, .str m u] => OR.val (.int .i64 (bif strLt n v m u then -1 else bif strLt m u n v then 1 else 0)) H
      | _ => .bad "cmpstring")
    split
    · rename_i n v m u
      generalize hcl : cargs.toList = cl at ha
      cases ha with
      | cons _ c1 _ _ q1 q2 =>
        cases q2 with
        | cons _ c2 _ _ q2 q3 =>
          cases q3
          cases q1 with
          | str s =>
            cases q2 with
            | str s' =>
              have hca := arr2 hcl
              refine val hn (find_cmp h3) (cv := .int .i64 (Lib.compareBytes s.data.toList s'.data.toList)) ?_ ?_
              · rw [hca]; exact Lib.run_compareString s s' w
              · rw [cmpB_sound, bytesLess_nat, bytesLess_nat]
                have e1 : s.data.toList.length = s.size := by simp
                have e2 : s'.data.toList.length = s'.size := by simp
                rw [e1, e2]; exact .int _ _
    · trivial
  by_cases h4 : fn.name = "internal/abi.NoEscape"
  · have hn : extName fn.name = true := by rw [h4]; rfl
    rw [h4]
    show ORun P B π H w _ (match (generalizing := false) args with
      | [x] => OR.val x H
      | _ => .bad "NoEscape")
    split
    · rename_i x
      generalize hcl : cargs.toList = cl at ha
      cases ha with
      | cons _ c1 _ _ q1 q2 =>
        cases q2
        exact val hn (find_noEscape h4) (cv := c1) (by rw [arr1 hcl]; rfl) q1
    · trivial
  by_cases h5 : fn.name = "maps.clone"
  · have hn : extName fn.name = true := by rw [h5]; rfl
    rw [h5]
    show ORun P B π H w _ (match (generalizing := false) args with
      | [.ifc t (.map b)] => (match (generalizing := false) H.get b with
        | some (.map es c) => OR.val (.ifc t (.map H.nx)) (H.new (.map es c))
        | _ => .bad "maps.clone")
      | _ => .bad "maps.clone")
    split
    · rename_i t b
      split
      · rename_i es c hmb
        generalize hcl : cargs.toList = cl at ha
        cases ha with
        | cons _ c1 _ _ q1 q2 =>
          cases q2
          cases q1 with
          | ifc _ _ v' q1 =>
            cases q1 with
            | map _ m z hp =>
              obtain ⟨mm, z', l, es', a1, a2, a3, a4, a5, a6, a7, a8⟩ := hH.map hmb
              rw [hp] at a1; cases a1
              have he := piNew_ext (H := H) (hH.fresh (Nat.le_refl _)) w.heap.size 0
              refine ⟨piNew π H.nx w.heap.size 0, w.alloc (.map l c), .iface t (.map (some w.heap.size)), .value (.iface t (.map (some w.heap.size))), ?_, .inl rfl, .ifc _ _ _ (.map _ _ 0 (by simp [piNew])), Step.alloc hH _ 0 _ ?_⟩
              · rw [run_ext hX hf hb hn (find_clone h5), arr1 hcl]
                rw [run_clone a2]
                rfl
              · exact BR_map a3 (a4.mono he) a5 a6 a7 a8 _
      · trivial
    · trivial
  by_cases h6 : fn.name = "math/bits.Add64"
  · have hn : extName fn.name = true := by rw [h6]; rfl
    rw [h6]
    show ORun P B π H w _ (match (generalizing := false) args with
      | [.int _ (.ofNat x), .int _ (.ofNat y), .int _ (.ofNat c)] =>
        bif Nat.ble c 1 then OR.val (.tup [.int .u64 (.ofNat ((x + y + c) % 18446744073709551616)), .int .u64 (.ofNat ((x + y + c) / 18446744073709551616))]) H else .bad "Add64"
      | _ => .bad "Add64")
    split
    · rename_i k1 x k2 y k3 c
      cases hc : Nat.ble c 1 with
      | false => trivial
      | true =>
        rw [cond_true]
        have hc1 := Nat.le_of_ble_eq_true hc
        generalize hcl : cargs.toList = cl at ha
        cases ha with
        | cons _ c1 _ _ q1 q2 =>
          cases q2 with
          | cons _ c2 _ _ q2 q3 =>
            cases q3 with
            | cons _ c3 _ _ q3 q4 =>
              cases q4
              cases q1; cases q2; cases q3
              have hca : cargs = #[.int k1 (Int.ofNat x), .int k2 (Int.ofNat y), .int k3 (Int.ofNat c)] := by apply Array.ext'; rw [hcl]
              have hfind : ∃ e, Extern.find fn = some e ∧ ∀ args, e args = (do
                  let (x, y, c) ← Extern.MathBitsCarry.three "Add64" args
                  pure (Extern.MathBitsCarry.pair ((x + y + c) % Extern.MathBitsCarry.m64) ((x + y + c) / Extern.MathBitsCarry.m64))) := by
                refine ⟨fun args => (do
                  let (x, y, c) ← Extern.MathBitsCarry.three "Add64" args
                  pure (Extern.MathBitsCarry.pair ((x + y + c) % Extern.MathBitsCarry.m64) ((x + y + c) / Extern.MathBitsCarry.m64))), ?_, fun _ => rfl⟩
                unfold Extern.find; rw [h6]; kernel_rfl
              obtain ⟨e, he1, he2⟩ := hfind
              refine val hn he1 (cv := Extern.MathBitsCarry.pair ((x + y + c) % 18446744073709551616) ((x + y + c) / 18446744073709551616)) ?_ ?_
              · rw [he2, hca]
                exact run_add64 k1 k2 k3 x y c hc1
              · exact .tup _ _ (.cons _ _ _ _ (.int _ _) (.cons _ _ _ _ (.int _ _) .nil))
    · trivial
  by_cases h7 : fn.name = "internal/bytealg.MakeNoZero"
  · have hn : extName fn.name = true := by rw [h7]; rfl
    rw [h7]
    show ORun P B π H w _ (match (generalizing := false) args, fn.resultTypes[0]? with
      | [.int .i64 (.ofNat n)], some t => (match (generalizing := false) elemSl P t with
        | some e => bif Nat.blt n maxNeed then OR.val (.sl H.nx 0 n n false 1) (H.new (.cells .e none n e 0 0 true [])) else .bad "MakeNoZero"
        | none => .bad "MakeNoZero")
      | _, _ => .bad "MakeNoZero")
    split
    · rename_i n t ht
      split
      · rename_i e he
        cases hnn : Nat.blt n maxNeed with
        | false => trivial
        | true =>
          rw [cond_true]
          have hnm : n < 16777216 := by simpa [Nat.blt_eq, maxNeed] using hnn
          generalize hcl : cargs.toList = cl at ha
          cases ha with
          | cons _ c1 _ _ q1 q2 =>
            cases q2
            cases q1
            have hca : cargs = #[.int .i64 (Int.ofNat n)] := arr1 hcl
            obtain ⟨cap, w1, g1, g2, g3, g4, t', g5⟩ := run_mnz (P := P) (w := w) (ps := fn.params) hnm ht he
            rw [← hca] at g5
            have he2 := piNew_ext (H := H) (hH.fresh (Nat.le_refl _)) w1.heap.size cap
            have hst := Step.alloc (hH.same g1) (.cells .e none n e 0 0 true []) cap (.cells (Extern.BytealgMakeNoZero.digits cap t' #[]) e) ⟨_, (0, 0), rfl, by rw [Lib.size_digits]; simp, g3, fun _ => ⟨Nat.le_refl _, fun j a b => by simp at b⟩, ?_, ?_⟩
            · refine ⟨_, _, .slice (some ⟨w.heap.size, 0, none⟩) n cap, _, ?_, .inl rfl, ?_, Step.trans hH (Step.same hH g1 g2) hst⟩
              · rw [run_ext hX hf hb hn (find_makeNoZero h7), g5]; rfl
              · exact .sl _ _ _ _ _ _ w.heap.size cap cap (by simp [piNew, g1]) (Nat.le_refl _) g3 (fun h => by cases h) (by simp) g4
            · intro j v hj
              exfalso
              obtain ⟨_, h8⟩ := ob_eq (b := Nat.blt j n) hj
              have h8 : oo ((T.e : T AV).get (Pos.of j)) none some = some v := h8
              rw [T.get_e] at h8; cases h8
            · intro j cv hj
              rw [← Array.getElem?_toList] at hj
              exact digits_one _ _ _ (fun v hv => by cases hv) cv (List.mem_of_getElem? hj)
      · trivial
    · trivial
  have no : ∀ s : String, fn.name ≠ s → (fn.name == s) = false := fun s h => by simpa using h
  rw [no _ h1, no _ h2, no _ h3, no _ h4, no _ h5, no _ h6, no _ h7]
  trivial
end
end Go.Proofs.YtnpkdiffpgcbhaaGreatDoor.Ev
namespace Go.Proofs.YtnpkdiffpgcbhaaGreatDoor.Ev
open Go Go.RowKit
section
variable {P : Program} {B : Nat} {π : Pi} {H H' : Hp} {w : World} {v : AV} {r : T AV} {a : Act}
theorem callA_run (hX : extOk P = true) (hH : HRel π B H w) {g : Nat} {args : List AV} {cargs : Array Value} (ha : VRs π args cargs.toList) : ORun P B π H w (callFunc g cargs) (callA P g args H) := by
 unfold callA
 cases hf : P.funcs[g]? with
 | none => trivial
 | some fn =>
  show ORun P B π H w (callFunc g cargs) (callG P g args H fn)
  unfold callG
  cases hb : fn.body with
  | none => exact ext_run hX hf hb hH ha
  | some c =>
   show ORun P B π H w (callFunc g cargs) (ob (fn.name == "runtime.NumGoroutine") (.call g args H) (.bad "NumGoroutine"))
   cases hn : (fn.name == "runtime.NumGoroutine") with
   | true => trivial
   | false =>
    refine ⟨π, cargs, w, ?_, ha, .refl hH⟩
    unfold callFunc
    have hp : (program).run P w = .ok P w := rfl
    simp only [Sem.run_bind, hp, Result.andThen_ok, hf, hn, Bool.false_eq_true, if_false, hb, Option.isNone_some, Sem.run_pure]
theorem ORun.congr {s s' : Sem Next} {c : OR} (h : s'.run P w = s.run P w) (ho : ORun P B π H w s c) : ORun P B π H w s' c := by
 cases c with
 | bad _ => trivial
 | val v H' => obtain ⟨π', w', cv, nx, h1, h2⟩ := ho; exact ⟨π', w', cv, nx, h.trans h1, h2⟩
 | pan v H' => obtain ⟨π', cv, w', h1, h2⟩ := ho; exact ⟨π', cv, w', h.trans h1, h2⟩
 | dfr d => obtain ⟨d', h1, h2⟩ := ho; exact ⟨d', h.trans h1, h2⟩
 | rcv => exact h.trans ho
 | call f args H' => obtain ⟨π', cargs, w', h1, h2⟩ := ho; exact ⟨π', cargs, w', h.trans h1, h2⟩
 | rnd l args H' => obtain ⟨e, c, z, cargs, h1, h2, h3⟩ := ho; exact ⟨e, c, z, cargs, h1, h.trans h2, h3⟩
 | alts l => obtain ⟨p, hp, π', w', cv, nx, h1, h2⟩ := ho; exact ⟨p, hp, π', w', cv, nx, h.trans h1, h2⟩
theorem call_value_run (hX : extOk P = true) (hH : HRel π B H w) (hR : RR π r a.tmps) {c : Call} {ty : TypeId} {f : Operand} (hc : c.callee = .value f) : ORun P B π H w (do let d ← resolve a.eval c ty; invoke d.target d.args) (opCall c P r H) := by
 unfold opCall
 rw [hc]
 cases h1 : opnds r c.args.toList with
 | none => trivial
 | some args =>
  show ORun P B π H w _ (cValue f P c.argTypes r H args)
  unfold cValue
  cases h2 : opnd r f with
  | none => trivial
  | some fv =>
   show ORun P B π H w _ (callV P args H fv)
   have k1 := opnds_sound hH hR h1
   have k2 := opnd_sound hH hR h2
   have hres : resolve a.eval c ty = Deferred.ofValue (a.eval f) (c.args.map a.eval) := by unfold resolve; rw [hc]
   have hargs : VRs π args (c.args.map a.eval).toList := by simpa using k1
   rw [hres]
   generalize a.eval f = cf at k2
   cases fv with
   | fn g fa cp =>
    show ORun P B π H w _ (callA P g (fa ++ args ++ cp) H)
    cases k2 with
    | fn _ _ _ fa' cp' hfa hcp =>
     have hv : VRs π (fa ++ args ++ cp) ((fa' ++ c.args.map a.eval) ++ cp').toList := by
      rw [Array.toList_append, Array.toList_append]
      exact (hfa.append hargs).append hcp
     exact ORun.congr rfl (callA_run hX hH hv)
   | yld l =>
    show ORun P B π H w _ (.rnd l args H)
    cases k2 with
    | yld _ c' z hp =>
     refine ⟨rfl, c', z, c.args.map a.eval, hp, ?_, hargs⟩
     show (Instr.yield c' (#[] ++ c.args.map a.eval)).run P w = _
     rw [Array.empty_append]
   | _ => trivial
theorem follA_sound : ∀ {l : List FieldStep} {t : TypeId} {x : AV} {cx : Value} {t' : TypeId} {y : AV}, VR π x cx → follA P l t x = some (t', y) → ∃ cy, (follow l t (.val cx)).run P w = .ok (t', .val cy) w ∧ VR π y cy
 | [], t, x, cx, t', y, hx, h => by
  have h : some (t, x) = some (t', y) := by cases x <;> exact h
  cases h
  exact ⟨cx, rfl, hx⟩
 | s :: l, t, x, cx, t', y, hx, h => by
  cases x <;> first | (cases h; done) | skip
  rename_i cs
  unfold follA at h
  cases hd : s.deref with
  | true => rw [hd] at h; cases h
  | false =>
   rw [hd, cond_false] at h
   cases hf : fieldOf P s.struct s.index with
   | none => rw [hf] at h; cases h
   | some f =>
    rw [hf] at h
    simp only at h
    cases hp : partA P f.type cs f.offset with
    | none => rw [hp] at h; cases h
    | some u =>
     rw [hp] at h
     simp only at h
     cases hx with
     | agg _ arr hl =>
      obtain ⟨fs, hu, hfs⟩ := fieldOf_eq hf
      obtain ⟨cu, k1, k2⟩ := partA_sound (P := P) (w := w) hl hp
      obtain ⟨cy, k3, k4⟩ := follA_sound k2 h
      refine ⟨cy, ?_, k4⟩
      unfold follow
      rw [Sem.run_bind, run_underlying hu, Result.andThen_ok]
      simp only [hfs, hd, Bool.false_eq_true, if_false, Sem.run_bind, k1, Result.andThen_ok]
      exact k3
theorem methA_sound {t : TypeId} {x : AV} {cx : Value} {name : String} {f : Nat} {y : AV} (hx : VR π x cx) (h : methA P t x name = some (f, y)) {k : Nat} : ∃ cy, (method (k + 1) t cx name).run P w = .ok (f, cy) w ∧ VR π y cy := by
 unfold methA at h
 cases hi : P.info? t with
 | none => rw [hi] at h; cases h
 | some i =>
  rw [hi] at h
  simp only at h
  cases hm : i.methods.find? (·.name == name) with
  | none => rw [hm] at h; cases h
  | some m =>
   rw [hm] at h
   simp only at h
   cases hf : follA P m.path.toList t x with
   | none => rw [hf] at h; cases h
   | some p =>
    obtain ⟨xt, u⟩ := p
    rw [hf] at h
    cases hmf : m.func with
    | none => rw [hmf] at h; cases h
    | some q =>
     obtain ⟨g, pr⟩ := q
     rw [hmf] at h
     simp only at h
     obtain ⟨cu, k1, k2⟩ := follA_sound (P := P) (w := w) hx hf
     have go : ∀ d, P.underlying xt = some d → ((∃ e, d = .pointer e) → pr = true) → ((∀ e, d ≠ .pointer e) → pr = false) → ∃ cy, (method (k + 1) t cx name).run P w = .ok (g, cy) w ∧ VR π u cy := by
      intro d hu h1 h2
      refine ⟨cu, ?_, k2⟩
      unfold method
      simp only [Sem.run_bind, run_typeInfo hi, Result.andThen_ok, hm, k1, hmf]
      have hrec : ∀ wr, (receiverAt xt (.val cu) pr wr).run P w = .ok cu w := by
       intro wr
       unfold receiverAt
       rw [Sem.run_bind, run_underlying hu, Result.andThen_ok]
       by_cases hptr : ∃ e, d = .pointer e
       ·rw [h1 hptr]
        obtain ⟨e, rfl⟩ := hptr
        rfl
       ·have hn : ∀ e, d ≠ .pointer e := fun e he => hptr ⟨e, he⟩
        rw [h2 hn]
        cases d <;> first | rfl | exact absurd rfl (hn _)
      rw [hrec]
      rfl
     cases hu : P.underlying xt with
     | none => rw [hu] at h; cases h
     | some d =>
      rw [hu] at h
      by_cases hptr : ∃ e, d = .pointer e
      ·obtain ⟨e, rfl⟩ := hptr
       simp only at h
       obtain ⟨hpr, h2⟩ := cond_some h
       cases h2
       exact go _ hu (fun _ => hpr) (fun hn => absurd rfl (hn e))
      ·have hn : ∀ e, d ≠ .pointer e := fun e he => hptr ⟨e, he⟩
       have h : (bif pr then none else some (g, u)) = some (f, y) := by cases d <;> first | exact h | exact absurd rfl (hn _)
       cases pr with
       | true => cases h
       | false => cases h; exact go _ hu (fun h => absurd h hptr) (fun _ => rfl)
theorem call_invoke_run (hX : extOk P = true) (hH : HRel π B H w) (hR : RR π r a.tmps) {c : Call} {ty : TypeId} {x : Operand} {name : String} (hc : c.callee = .invoke x name) : ORun P B π H w (do let d ← resolve a.eval c ty; invoke d.target d.args) (opCall c P r H) := by
 unfold opCall
 rw [hc]
 cases h1 : opnds r c.args.toList with
 | none => trivial
 | some args =>
  show ORun P B π H w _ (cInvoke x name P c.argTypes r H args)
  unfold cInvoke
  cases h2 : opnd r x with
  | none => trivial
  | some xv =>
   show ORun P B π H w _ (callI P args H name xv)
   have k1 := opnds_sound hH hR h1
   have k2 := opnd_sound hH hR h2
   have hargs : VRs π args (c.args.map a.eval).toList := by simpa using k1
   have hres : resolve a.eval c ty = pure { target := .fn (.method name) #[], args := #[a.eval x] ++ c.args.map a.eval } := by unfold resolve; rw [hc]
   rw [hres]
   generalize a.eval x = cx at k2
   cases xv with
   | ifc t v =>
    show ORun P B π H w _ (oo (methA P t v name) (.bad "call: method") fun m => callA P m.1 (m.2 :: args) H)
    cases hm : methA P t v name with
    | none => trivial
    | some p =>
     obtain ⟨f, y⟩ := p
     show ORun P B π H w _ (callA P f (y :: args) H)
     cases k2 with
     | ifc _ _ v' hv =>
      obtain ⟨cy, q1, q2⟩ := methA_sound (P := P) (w := w) (k := P.types.size + (Made.depth - 1)) hv hm
      have hfuel : P.types.size + Made.depth = P.types.size + (Made.depth - 1) + 1 := by
       have : 0 < Made.depth := by decide
       omega
      have hv2 : VRs π (y :: args) (#[cy] ++ c.args.map a.eval).toList := by
       rw [Array.toList_append]
       exact .cons _ _ _ _ q2 hargs
      refine ORun.congr ?_ (callA_run hX hH hv2)
      show Sem.run P (invoke (.fn (.method name) #[]) (#[.iface t v'] ++ c.args.map a.eval)) w = _
      unfold invoke
      have e0 : (#[Value.iface t v'] ++ c.args.map a.eval)[0]? = some (.iface t v') := by rw [← Array.getElem?_toList, Array.toList_append]; rfl
      have e1 : (#[Value.iface t v'] ++ c.args.map a.eval).extract 1 (#[Value.iface t v'] ++ c.args.map a.eval).size = c.args.map a.eval := by
       apply Array.ext'
       simp
       rw [List.take_of_length_le (by simp)]
      simp only [e0, e1]
      unfold callMethod
      have hp : (program).run P w = .ok P w := rfl
      simp only [Sem.run_bind, hp, Result.andThen_ok]
      rw [hfuel, q1]
      rfl
   | _ => trivial
theorem defer_run (hH : HRel π B H w) (hR : RR π r a.tmps) {c : Call} {ty : TypeId} : ORun P B π H w (do pure (.defer (← resolve a.eval c ty))) (opDefer c P r H) := by
 unfold opDefer
 cases hc : c.callee with
 | invoke x n => trivial
 | builtin b => trivial
 | value f =>
  cases h1 : opnds r c.args.toList with
  | none => trivial
  | some args =>
   simp only
   cases h2 : opnd r f with
   | none => trivial
   | some fv =>
    have k1 := opnds_sound hH hR h1
    have k2 := opnd_sound hH hR h2
    have hargs : VRs π args (c.args.map a.eval).toList := by simpa using k1
    have hres : resolve a.eval c ty = Deferred.ofValue (a.eval f) (c.args.map a.eval) := by unfold resolve; rw [hc]
    rw [hres]
    generalize a.eval f = cf at k2
    cases fv <;> first | trivial | skip
    rename_i g fa cp
    simp only
    cases hf : P.funcs[g]? with
    | none => trivial
    | some fn =>
     simp only
     rw [Bool.cond_eq_ite]
     split
     ·cases k2 with
      | fn _ _ _ fa' cp' hfa hcp =>
       refine ⟨{ target := .fn (.func g) cp', args := fa' ++ c.args.map a.eval }, rfl, .fn _ _ _ _ ?_⟩
       rw [Array.toList_append, Array.toList_append]
       exact (hfa.append hargs).append hcp
     ·trivial
theorem panic_run (hH : HRel π B H w) (hR : RR π r a.tmps) {x : Operand} : ORun P B π H w (do let y ← Instr.panic (a.eval x); pure (.value y)) (opPanic x P r H) := by
 unfold opPanic
 cases h1 : opnd r x with
 | none => trivial
 | some xv =>
  have k := opnd_sound hH hR h1
  generalize a.eval x = cx at k
  cases xv <;> first | trivial | skip
  cases k with
  | ifc t0 v0 v' hv => exact ⟨π, .iface _ v', w, rfl, .ifc _ _ _ hv, .refl hH⟩
end
end Go.Proofs.YtnpkdiffpgcbhaaGreatDoor.Ev
namespace Go.Proofs.YtnpkdiffpgcbhaaGreatDoor.Ev
open Go Go.RowKit
section
variable {P : Program} {B : Nat} {π : Pi} {H H' : Hp} {w : World} {v : AV} {as : List AV} {cargs : Array Value} {ts : Array TypeId} {u : TypeId}
theorem arr_cons {x : AV} {l : List AV} (ha : VRs π (x :: l) cargs.toList) : ∃ cx vs, cargs = (cx :: vs).toArray ∧ VR π x cx ∧ VRs π l vs := by
 generalize hc : cargs.toList = cl at ha
 cases ha with
 | cons _ cx _ vs h h' => exact ⟨cx, vs, by apply Array.ext'; rw [hc], h, h'⟩
theorem len_run (hH : HRel π B H w) (ha : VRs π as cargs.toList) : ORun P B π H w (do let y ← Builtin.len_ ts u cargs; pure (.value y)) (lenB P ts as H) := by
 unfold lenB
 cases ht : ts[0]? with
 | none => trivial
 | some t =>
  cases hx : nth as 0 with
  | none => trivial
  | some x =>
   show ORun P B π H w _ (oo (lenA P t x H) (.bad "len") fun n => fN n fun n => .val (.int .i64 (.ofNat n)) H)
   cases hl : lenA P t x H with
   | none => trivial
   | some n =>
    show ORun P B π H w _ (fN n fun n => .val (.int .i64 (.ofNat n)) H)
    rw [fN_eq]
    cases as with
    | nil => cases hx
    | cons y l =>
     have : y = x := by simpa [nth] using hx
     subst this
     obtain ⟨cx, vs, rfl, h1, _⟩ := arr_cons ha
     exact OVal.pure hH (lenA_sound hH ht h1 (by simp) hl) (.int _ _)
theorem cap_run (hH : HRel π B H w) (ha : VRs π as cargs.toList) : ORun P B π H w (do let y ← Builtin.cap_ ts u cargs; pure (.value y)) (builtinB P .cap ts as H) := by
 unfold builtinB
 simp only
 split
 ·rename_i t b o n lo ex s l ht
  split
  ·rename_i e hu
   rw [Bool.cond_eq_ite]
   split
   ·rename_i hex
    obtain ⟨cx, vs, rfl, h1, _⟩ := arr_cons ha
    cases h1 with
    | sl _ _ _ _ _ _ c z cap hp k1 k2 k3 k4 k5 =>
     have := k3 hex
     subst this
     refine OVal.pure hH ?_ (.int _ _)
     unfold Builtin.cap_
     simp only [ht, List.getElem?_toArray, List.getElem?_cons_zero, Sem.run_bind, run_underlying hu, Result.andThen_ok]
     rfl
   ·trivial
  ·trivial
 ·rename_i t l ht
  split
  ·rename_i e hu
   obtain ⟨cx, vs, rfl, h1, _⟩ := arr_cons ha
   cases h1
   refine OVal.pure hH ?_ (.int _ _)
   unfold Builtin.cap_
   simp only [ht, List.getElem?_toArray, List.getElem?_cons_zero, Sem.run_bind, run_underlying hu, Result.andThen_ok]
   rfl
  ·trivial
 ·trivial
theorem max_run (hH : HRel π B H w) (ha : VRs π as cargs.toList) : ORun P B π H w (do let y ← Builtin.max_ ts u cargs; pure (.value y)) (builtinB P .max ts as H) := by
 unfold builtinB
 simp only
 split
 ·rename_i x l
  split
  ·rename_i y hy
   obtain ⟨cx, vs, rfl, h1, h2⟩ := arr_cons ha
   obtain ⟨cv, k1, k2⟩ := minA_sound (P := P) (w := w) true h1 h2 hy
   exact OVal.pure hH k1 k2
  ·trivial
 ·trivial
theorem min_run (hH : HRel π B H w) (ha : VRs π as cargs.toList) : ORun P B π H w (do let y ← Builtin.min_ ts u cargs; pure (.value y)) (builtinB P .min ts as H) := by
 unfold builtinB
 simp only
 split
 ·rename_i x l
  split
  ·rename_i y hy
   obtain ⟨cx, vs, rfl, h1, h2⟩ := arr_cons ha
   obtain ⟨cv, k1, k2⟩ := minA_sound (P := P) (w := w) false h1 h2 hy
   exact OVal.pure hH k1 k2
  ·trivial
 ·trivial
theorem sliceData_run (hH : HRel π B H w) (ha : VRs π as cargs.toList) : ORun P B π H w (do let y ← Builtin.unsafeSliceData_ ts u cargs; pure (.value y)) (builtinB P .unsafeSliceData ts as H) := by
 unfold builtinB
 simp only
 split
 ·obtain ⟨cx, vs, rfl, h1, h2⟩ := arr_cons ha
  cases h2
  cases h1
  exact OVal.pure hH (Lib.run_unsafeSliceData_nil _ ts u 0 0) .nilp
 ·rename_i b o n lo ex s
  obtain ⟨cx, vs, rfl, h1, h2⟩ := arr_cons ha
  cases h2
  rw [Bool.cond_eq_ite]
  split
  ·rename_i hlo
   have hlo : 0 < lo := by simpa [Nat.blt_eq] using hlo
   cases h1 with
   | sl _ _ _ _ _ _ c z cap hp k1 k2 k3 k4 k5 => exact OVal.pure hH (Lib.run_unsafeSliceData_row _ ts u ⟨c, o, none⟩ n cap (by omega)) (.ptr _ _ _ _ hp)
  ·trivial
 ·trivial
theorem delete_run (hH : HRel π B H w) (ha : VRs π as cargs.toList) : ORun P B π H w (do let y ← Builtin.delete_ ts u cargs; pure (.value y)) (builtinB P .delete ts as H) := by
 unfold builtinB
 simp only
 split
 ·rename_i t m k ht
  split
  ·rename_i h' hd
   obtain ⟨cx, vs, rfl, h1, h2⟩ := arr_cons ha
   cases h2 with
   | cons _ ck _ vs' h2 h3 =>
    cases h3
    obtain ⟨w', k1, k2⟩ := mapDel_sound (P := P) (u := u) hH ht h1 h2 hd
    exact OVal.mk k1 (.tup _ _ .nil) k2
  ·trivial
 ·trivial
theorem zeroCells_VRs {e : TypeId} {z : List AV} (hz : zeroC P e = some z) (n : Nat) : ∃ cz s g, tAgg P e = some (g, s) ∧ (∀ w : World, (zeroValue e).run P w = .ok cz w) ∧ cz.cells.size = s ∧ VRs π (repl z n) (Builtin.zeroCells cz.cells n).toList ∧ (∀ m, ∀ x ∈ (Builtin.zeroCells cz.cells m).toList, x.oneCell' = true) ∧ ∀ m, (Builtin.zeroCells cz.cells m).size = m * s := by
 obtain ⟨za, cz, s, g, k1, k2, k3, k4, k5, k6, k7, k8⟩ := zeroC_run (P := P) (π := π) (w := (default : World)) hz
 have hrun : ∀ w : World, (zeroValue e).run P w = .ok cz w := by
  intro w
  obtain ⟨za', cz', s', g', j1, j2, j3, j4, j5, j6, j7, j8⟩ := zeroC_run (P := P) (π := π) (w := w) hz
  have : cz' = cz := by
   unfold zeroValue typeInfo at k6 j6
   revert k6 j6
   cases hp : P.info? e with
   | none => simp [hp]
   | some i =>
    cases hz0 : i.zero with
    | none => simp [hp, hz0]
    | some z0 => simp [hp, hz0]; intro a b; rw [← a, ← b]
  rw [← this]; exact j6
 have hcs : cz.cells.size = s := by rw [← k4, k8.length]; simp
 have hone := isCell_one k8 k5
 refine ⟨cz, s, g, k3, hrun, hcs, ?_, ?_, ?_⟩
 ·unfold Builtin.zeroCells
  rw [Array.toList_map, Array.toList_range]
  rcases Nat.eq_zero_or_pos s with h0 | h0
  ·have : z = [] := List.length_eq_zero_iff.1 (by rw [k4]; exact h0)
   subst this
   rw [repl_nil, hcs, h0, Nat.mul_zero]
   exact .nil
  ·exact repl_range z cz.cells n k8 (by rw [k4]; exact h0)
 ·intro m x hx
  unfold Builtin.zeroCells at hx
  rw [Array.toList_map, Array.toList_range] at hx
  obtain ⟨i, hi, rfl⟩ := List.mem_map.1 hx
  have hi : i < m * cz.cells.size := by simpa using hi
  have h0 : 0 < cz.cells.size := by
   rcases Nat.eq_zero_or_pos cz.cells.size with h | h
   ·rw [h] at hi; omega
   ·exact h
  have hlt : i % cz.cells.size < cz.cells.size := Nat.mod_lt _ h0
  refine hone _ ?_
  rw [getElem!_pos cz.cells _ hlt]
  simp
 ·intro m
  unfold Builtin.zeroCells
  simp [hcs]
theorem clear_run (hH : HRel π B H w) (ha : VRs π as cargs.toList) : ORun P B π H w (do let y ← Builtin.clear_ ts u cargs; pure (.value y)) (builtinB P .clear ts as H) := by
 unfold builtinB
 simp only
 split
 ·rename_i t x l ht
  obtain ⟨cx, vs, rfl, h1, h2⟩ := arr_cons ha
  split
  ·rename_i kt vt hu
   cases h1
   refine ⟨π, w, undef, .value (.tuple #[]), ?_, .inl rfl, .tup _ _ .nil, .refl hH⟩
   unfold Builtin.clear_
   simp only [ht, List.getElem?_toArray, List.getElem?_cons_zero, Sem.run_bind, run_underlying hu, Result.andThen_ok]
   rfl
  ·rename_i e hu
   cases h1
   refine ⟨π, w, undef, .value (.tuple #[]), ?_, .inl rfl, .tup _ _ .nil, .refl hH⟩
   unfold Builtin.clear_
   simp only [ht, List.getElem?_toArray, List.getElem?_cons_zero, Sem.run_bind, run_underlying hu, Result.andThen_ok]
   rfl
  ·rename_i e hu
   cases h1
   refine ⟨π, w, undef, .value (.tuple #[]), ?_, .inl rfl, .tup _ _ .nil, .refl hH⟩
   unfold Builtin.clear_
   simp only [ht, List.getElem?_toArray, List.getElem?_cons_zero, Sem.run_bind, run_underlying hu, Result.andThen_ok]
   rfl
  ·rename_i b kt vt hu
   split
   ·rename_i es c hb
    obtain ⟨m, z, l, es', a1, a2, a3, a4, a5, a6, a7, a8⟩ := hH.map hb
    cases h1 with
    | map _ m' z' hp =>
     rw [hp] at a1; cases a1
     obtain ⟨q1, q2⟩ := objSet_step (P := P) (x' := .map [] c) (o' := .map #[] c) hH hb rfl rfl hp a2 (by simp) (by
      intro l' k' e
      cases e
      exact ⟨l, c, rfl, Nat.le_refl _, fun _ e' he' => by simp at he'⟩) ⟨#[], [], rfl, .refl _, .nil, by simp, by simp, by simp, by simp⟩
     refine ⟨π, _, undef, .value (.tuple #[]), ?_, .inl rfl, .tup _ _ .nil, q2⟩
     unfold Builtin.clear_
     simp only [ht, List.getElem?_toArray, List.getElem?_cons_zero, Sem.run_bind, run_underlying hu, Result.andThen_ok, run_getObj_map a2, q1]
     rfl
   ·trivial
  ·rename_i b o n lo ex s e hu
   cases n with
   | zero =>
    cases h1
    refine ⟨π, w, undef, .value (.tuple #[]), ?_, .inl rfl, .tup _ _ .nil, .refl hH⟩
    unfold Builtin.clear_
    simp only [ht, List.getElem?_toArray, List.getElem?_cons_zero, Sem.run_bind, run_underlying hu, Result.andThen_ok]
    rfl
   | succ n =>
    simp only
    split
    ·rename_i z g s' hz hg
     rw [Bool.cond_eq_ite]
     split
     ·split
      ·rename_i h' hst
       obtain ⟨cz, s2, g2, k1, k2, k3, k4, k5, k6⟩ := zeroCells_VRs (P := P) (π := π) hz (n + 1)
       cases h1 with
       | sl _ _ _ _ _ _ c z' cap hp q1 q2 q3 q4 q5 =>
        obtain ⟨w', r1, r2⟩ := stores_sound P hH hp hst (VOs.of k4) (k5 (n + 1))
        refine ⟨π, w', undef, .value (.tuple #[]), ?_, .inl rfl, .tup _ _ .nil, r2⟩
        unfold Builtin.clear_
        simp only [ht, List.getElem?_toArray, List.getElem?_cons_zero, Sem.run_bind, run_underlying hu, Result.andThen_ok, k2, r1]
        rfl
      ·trivial
     ·trivial
    ·trivial
  ·trivial
 ·trivial
end
end Go.Proofs.YtnpkdiffpgcbhaaGreatDoor.Ev
namespace Go.Proofs.YtnpkdiffpgcbhaaGreatDoor.Ev
open Go Go.RowKit
theorem dels_nx : ∀ (l : List Nat) (h : Hp), (dels l h).nx = h.nx
 | [], _h => rfl
 | s :: l, h => dels_nx l (h.del s)
theorem dels_get : ∀ {l : List Nat} {h : Hp} {b : Nat} {x : Blk}, (dels l h).get b = some x → h.get b = some x ∧ b ∉ l
 | [], h, b, x, e => ⟨e, by simp⟩
 | s :: l, h, b, x, e => by
  obtain ⟨h1, h2⟩ := dels_get (l := l) (h := h.del s) e
  rw [Hp.get_del] at h1
  split at h1
  ·cases h1
  ·rename_i hne
   exact ⟨h1, by simp [hne, h2]⟩
section
variable {P : Program} {B : Nat} {π : Pi} {H H' : Hp} {w : World}
theorem Step.alias (hH : HRel π B H w) {b c z : Nat} {tr : T AV} {d : Option AV} {m e flo fhi m' n : Nat} {sib : List Nat} (hb : H.get b = some (.cells tr d m e flo fhi true sib)) (hp : π b = some (c, z)) (hm : m' ≤ m) (hn : n ≤ z) {l : List (Option AV)}
    (hl : ∀ (j : Nat) (v : AV), j < n → l[j]? = some (some v) → (Blk.cells tr d m e flo fhi true sib).rd j = some v) :
    Step B π H w (piNew π H.nx c z) (((dels sib H).set b (.cells tr d m' e flo fhi false [])).new (.cells (lays 0 l .e) none n e flo fhi true [b])) w := by
  have hf := hH.fresh (Nat.le_refl H.nx)
  have he := piNew_ext (H := H) hf c z
  have hbn : b ≠ H.nx := by intro e; rw [e, hf] at hp; cases hp
  obtain ⟨c0, arr, fz, a1, a2, a3, a4, a5, a6, a7⟩ := hH.cells hb
  rw [hp] at a1; cases a1
  have hnx : ((dels sib H).set b (.cells tr d m' e flo fhi false [])).nx = H.nx := by rw [Hp.nx_set, dels_nx]
  have inv : ∀ i y, (((dels sib H).set b (.cells tr d m' e flo fhi false [])).new (.cells (lays 0 l .e) none n e flo fhi true [b])).get i = some y →
      (i = H.nx ∧ y = .cells (lays 0 l .e) none n e flo fhi true [b]) ∨ (i = b ∧ y = .cells tr d m' e flo fhi false []) ∨ (i ≠ H.nx ∧ i ≠ b ∧ H.get i = some y ∧ i ∉ sib) := by
    intro i y hy
    rw [Hp.get_new, hnx] at hy
    split at hy
    · rename_i e; cases hy; exact .inl ⟨e, rfl⟩
    · rename_i hi
      rw [Hp.get_set] at hy
      split at hy
      · rename_i e; cases hy; exact .inr (.inl ⟨e, rfl⟩)
      · rename_i hib
        obtain ⟨k1, k2⟩ := dels_get hy
        exact .inr (.inr ⟨hi, hib, k1, k2⟩)
  have hpi : ∀ i p, i ≠ H.nx → (piNew π H.nx c arr.size i = some p ↔ π i = some p) := by intro i p hi; unfold piNew; rw [if_neg hi]
  have hpn : ∀ p, piNew π H.nx c arr.size H.nx = some p → p = (c, arr.size) := by intro p h; unfold piNew at h; rw [if_pos rfl] at h; cases h; rfl
  have hcs : c < w.heap.size := (hH.dom _ _ hp).2
  have hdm : ∀ b p, π b = some p → p.1 < w.heap.size := fun b p hp => (hH.dom b p hp).2
  refine ⟨he, ⟨hH.low, fun g hg => let ⟨z, hz⟩ := hH.glob g hg; ⟨z, he _ _ hz⟩, ?_, ?_, ?_⟩, fun _ _ _ => rfl, Nat.le_refl _, by show H.nx ≤ _ + 1; rw [hnx]; omega, ?_, ?_, ⟨rfl, rfl, rfl⟩, fun _ _ => Evo.refl _⟩
  · intro i y hy
    rcases inv i y hy with ⟨rfl, rfl⟩ | ⟨rfl, rfl⟩ | ⟨h1, h2, h3, h4⟩
    · refine ⟨c, arr.size, .cells arr e fz, by simp [piNew], a2, ⟨arr, fz, rfl, rfl, hn, a4, ?_, a6⟩, fun _ => a7 rfl⟩
      intro j v hj
      obtain ⟨q1, q2⟩ := rd_row hj
      obtain ⟨cv, r1, r2⟩ := a5 j v (hl j v q1 q2)
      exact ⟨cv, r1, r2.mono he⟩
    · refine ⟨c, arr.size, .cells arr e fz, he _ _ hp, a2, ⟨arr, fz, rfl, rfl, by omega, fun h => (by cases h), ?_, a6⟩, fun h => (by cases h)⟩
      intro j v hj
      obtain ⟨q1, q2⟩ := ob_eq (b := Nat.blt j m') hj
      have q1 : j < m' := by simpa [Nat.blt_eq] using q1
      obtain ⟨cv, r1, r2⟩ := a5 j v (by
        show ob (Nat.blt j m) none _ = _
        have : Nat.blt j m = true := by rw [Nat.blt_eq]; omega
        rw [this]; exact q2)
      exact ⟨cv, r1, r2.mono he⟩
    · obtain ⟨c1, z1, o1, k1, k2, k3, k4⟩ := hH.blk i y h3
      exact ⟨c1, z1, o1, he _ _ k1, k2, k3.mono he hdm, k4⟩
  · intro i p hi
    show i < _ + 1 ∧ _
    rw [hnx]
    by_cases hin : i = H.nx
    · subst hin; have := hpn p hi; subst this; exact ⟨by omega, hcs⟩
    · have := hH.dom i p ((hpi i p hin).1 hi); exact ⟨by omega, this.2⟩
  · have others : ∀ i y z', i ≠ b → H.get i = some y → i ∉ sib → π i = some (c, z') → False := fun i y z' h1 h2 h3 h4 => h3 ((hH.sep b _ i y c _ z' hb h2 hp h4 (fun e => h1 e.symm)).2 rfl).1
    intro i x i' x' c1 z1 z2 hx hx' hpi1 hpi2 hne
    rcases inv i x hx with ⟨rfl, rfl⟩ | ⟨rfl, rfl⟩ | ⟨h1, h2, h3, h4⟩
    · have := hpn _ hpi1; cases this
      rcases inv i' x' hx' with ⟨rfl, rfl⟩ | ⟨rfl, rfl⟩ | ⟨h1', h2', h3', h4'⟩
      · exact absurd rfl hne
      · exact ⟨rfl, fun _ => ⟨by simp [Blk.sib], rfl⟩⟩
      · exact (others i' x' z2 h2' h3' h4' ((hpi _ _ h1').1 hpi2)).elim
    · exact ⟨rfl, fun h => by cases h⟩
    · have hq := (hpi _ _ h1).1 hpi1
      rcases inv i' x' hx' with ⟨rfl, rfl⟩ | ⟨rfl, rfl⟩ | ⟨h1', h2', h3', h4'⟩
      · have := hpn _ hpi2; cases this
        exact (others i x z1 h2 h3 h4 hq).elim
      · have := (hpi _ _ hbn).1 hpi2
        rw [hp] at this; cases this
        exact (others i x z1 h2 h3 h4 hq).elim
      · exact hH.sep i x i' x' c1 z1 z2 h3 h3' hq ((hpi _ _ h1').1 hpi2) hne
  · intro i p hi hn
    by_cases hin : i = H.nx
    · subst hin; have := hpn p hi; subst this
      exact ⟨Nat.le_refl _, .inr ⟨b, _, _, hb, rfl, hp⟩⟩
    · rw [(hpi i p hin).1 hi] at hn; cases hn
  · intro i y hy
    rcases inv i y hy with ⟨rfl, rfl⟩ | ⟨rfl, rfl⟩ | ⟨h1, h2, h3, h4⟩
    · exact .inr (Nat.le_refl _)
    · exact .inl ⟨_, hb, fun _ => rfl⟩
    · exact .inl ⟨y, h3, id⟩
end
theorem rdo_get (x : Blk) : ∀ (n j i : Nat), (x.rdo j n)[i]? = if i < n then some (x.rd (j + i)) else none
 | 0, j, i => by simp [Blk.rdo]
 | n + 1, j, i => by
  unfold Blk.rdo
  cases i with
  | zero => simp
  | succ i =>
   rw [List.getElem?_cons_succ, rdo_get x n (j + 1) i]
   by_cases h : i < n
   ·rw [if_pos h, if_pos (by omega), show j + 1 + i = j + (i + 1) by omega]
   ·rw [if_neg h, if_neg (by omega)]
theorem rdo_length (x : Blk) : ∀ (n j : Nat), (x.rdo j n).length = n
 | 0, _ => rfl
 | n + 1, j => by unfold Blk.rdo; rw [List.length_cons, rdo_length x n (j + 1)]
section
variable {P : Program} {B : Nat} {π : Pi} {H H' : Hp} {w : World}
theorem rdo_sound (hH : HRel π B H w) {b c z o cnt : Nat} {tr : T AV} {d : Option AV} {m e flo fhi : Nat} {wr : Bool} {sib : List Nat} (hb : H.get b = some (.cells tr d m e flo fhi wr sib)) (hp : π b = some (c, z)) (hz : o + cnt ≤ z) :
  ∃ vs : List Value, vs.length = cnt ∧ (∀ w', w'.heap = w.heap → ∀ n, n ≤ cnt → (loadCells ⟨c, o, none⟩ n).run P w' = .ok (vs.take n).toArray w') ∧ VOs π ((Blk.cells tr d m e flo fhi wr sib).rdo o cnt) vs ∧ ∀ v ∈ vs, v.oneCell' = true := by
 obtain ⟨c0, arr, fz, a1, a2, a3, a4, a5, a6, a7⟩ := hH.cells hb
 rw [hp] at a1; cases a1
 have hget : ∀ i, ((arr.toList.drop o).take cnt)[i]? = if i < cnt then arr[o + i]? else none := by
  intro i
  rw [List.getElem?_take, List.getElem?_drop, Array.getElem?_toList]
 have hlen : ((arr.toList.drop o).take cnt).length = cnt := by simp; omega
 refine ⟨(arr.toList.drop o).take cnt, hlen, ?_, ⟨by rw [rdo_length, hlen], ?_⟩, ?_⟩
 ·intro w' hw n hn
  have hl2 : (((arr.toList.drop o).take cnt).take n).length = n := by rw [List.length_take, hlen]; omega
  have := run_loadCells_list (P := P) w' ⟨c, o, none⟩ (((arr.toList.drop o).take cnt).take n) (by
   intro j v hj
   rw [List.getElem?_take] at hj
   split at hj
   ·rw [hget] at hj
    split at hj
    ·rw [Addr.add_lit']
     simp [World.cell?, hw, a2, hj]
    ·cases hj
   ·cases hj)
  rw [hl2] at this
  exact this
 ·intro i v hi
  rw [rdo_get] at hi
  rw [hget]
  split at hi
  ·rename_i hlt
   rw [if_pos hlt]
   exact a5 _ v (by simpa using hi)
  ·cases hi
 ·intro v hv
  obtain ⟨i, hi⟩ := List.mem_iff_getElem?.1 hv
  rw [hget] at hi
  split at hi
  ·exact a6 _ _ hi
  ·cases hi
theorem strBytes_get (l : List UInt8) : ∀ k, k ≤ l.length → (strBytes l.length (natOf l) k) = (l.drop (l.length - k)).map fun b => b.toNat := by
 intro k
 induction k with
 | zero => intro _; rw [Nat.sub_zero, List.drop_length]; rfl
 | succ k ih =>
  intro hk
  have hlt : l.length - (k + 1) < l.length := by omega
  rw [List.drop_eq_getElem_cons hlt]
  unfold strBytes
  have hb : strAt l.length (natOf l) (l.length - (k + 1)) = (l[l.length - (k + 1)]).toNat := by
   rw [natOf_get l _ hlt]; rfl
  rw [hb, show l.length - (k + 1) + 1 = l.length - k by omega, ih (by omega)]
  rfl
theorem str_cells (s : ByteArray) : VOs π ((strBytes s.size (natOf s.data.toList) s.size).map fun b => some (byteA b)) (s.data.map fun b => Value.int .u8 b.toNat).toList := by
 have h := strBytes_get s.data.toList s.data.toList.length (Nat.le_refl _)
 rw [Nat.sub_self, List.drop_zero] at h
 have hlen : s.data.toList.length = s.size := by simp
 rw [hlen] at h
 rw [h, Array.toList_map]
 refine ⟨by simp, fun i v hv => ?_⟩
 simp only [List.map_map, List.getElem?_map] at hv ⊢
 cases hg : s.data.toList[i]? with
 | none => rw [hg] at hv; cases hv
 | some b =>
  rw [hg] at hv
  have : byteA b.toNat = v := by simpa using hv
  subst this
  exact ⟨_, rfl, .int _ _⟩
end
end Go.Proofs.YtnpkdiffpgcbhaaGreatDoor.Ev
namespace Go.Proofs.YtnpkdiffpgcbhaaGreatDoor.Ev
open Go Go.RowKit
section
variable {P : Program} {B : Nat} {π : Pi} {H H' : Hp} {w : World} {v : AV} {as : List AV} {cargs : Array Value} {ts : Array TypeId} {u : TypeId}
theorem appended_sound (hH : HRel π B H w) {x : AV} {cx : Value} {e s k : Nat} {l : List (Option AV)} (hx : VR π x cx) (h : appended P e s false x H = some (k, l)) :
  ∃ vs : List Value, vs.length = k * s ∧ VOs π l vs ∧ (∀ v ∈ vs, v.oneCell' = true) ∧ (∀ w' : World, (Builtin.lenOf cx).run P w' = .ok k w') ∧ ∀ m, m ≤ k → ∀ w' : World, w'.heap = w.heap → (Builtin.firstCells s m cx).run P w' = .ok (vs.take (m * s)).toArray w' := by
 unfold appended at h
 rw [cond_false] at h
 cases x <;> first | (cases h; done) | skip
 case nils =>
  cases h
  cases hx
  exact ⟨[], by simp, ⟨rfl, by simp⟩, by simp, fun _ => rfl, fun m hm w' _ => by simp [Builtin.firstCells]⟩
 case slz =>
  cases h
  cases hx with
  | slz a cap =>
   refine ⟨[], by simp, ⟨rfl, by simp⟩, by simp, fun _ => rfl, fun m hm w' _ => ?_⟩
   have : m = 0 := by omega
   subst this
   rw [Builtin.firstCells, Nat.zero_mul]
   rfl
 case sl b o n lo ex s' =>
  simp only at h
  rw [Bool.cond_eq_ite] at h
  split at h
  case isFalse => cases h
  rename_i h1
  have h2 := h
  clear h
  have h1 : s = s' := Nat.eq_of_beq_eq_true h1
  subst h1
  cases hb : H.get b with
  | none => rw [hb] at h2; cases h2
  | some blk =>
   rw [hb] at h2
   cases blk <;> first | (cases h2; done) | skip
   rename_i tr d m e' flo fhi wr sib
   cases h2
   cases hx with
   | sl _ _ _ _ _ _ c z cap hp k1 k2 k3 k4 k5 =>
    have hle : k * s ≤ cap * s := Nat.mul_le_mul_right s (Nat.le_trans k1 k2)
    obtain ⟨vs, q1, q2, q3, q4⟩ := rdo_sound (P := P) (o := o) (cnt := k * s) hH hb hp (by omega)
    exact ⟨vs, q1, q3, q4, fun _ => rfl, fun m hm w' hw => q2 w' hw (m * s) (Nat.mul_le_mul_right s hm)⟩
 case str n v =>
  simp only at h
  obtain ⟨h1, h2⟩ := cond_some h
  have h1 : s = 1 := Nat.eq_of_beq_eq_true h1
  subst h1
  cases h2
  cases hx with
  | str st =>
   refine ⟨(st.data.map fun b => Value.int .u8 b.toNat).toList, by simp, str_cells st, ?_, fun _ => rfl, fun m hm w' _ => ?_⟩
   ·intro v hv
    rw [Array.toList_map] at hv
    obtain ⟨b, _, rfl⟩ := List.mem_map.1 hv
    rfl
   ·rw [Builtin.firstCells, Sem.run_pure]
    congr 1
    apply Array.ext'
    simp
theorem copy_run (hH : HRel π B H w) (ha : VRs π as cargs.toList) : ORun P B π H w (do let y ← Builtin.copy_ ts u cargs; pure (.value y)) (copyA P ts as H) := by
  unfold copyA
  split
  · rename_i st d x ht
    obtain ⟨cd, vs0, rfl, h1, h2⟩ := arr_cons ha
    cases h2 with
    | cons _ cx _ vs1 h2 h3 =>
    cases h3
    split
    · rename_i e he
      have hu := elemSl_eq he
      split
      · rename_i g sz hg
        have base : ∀ {k : Nat} {new : List (Option AV)}, appended P e sz false x H = some (k, new) → ∃ vs : List Value, vs.length = k * sz ∧ VOs π new vs ∧ (∀ v ∈ vs, v.oneCell' = true) ∧ ∀ bs n cap, cd = .slice bs n cap → (Builtin.copy_ ts u [cd, cx].toArray).run P w = ((match (generalizing := false) bs with
            | some a => storeCells a (vs.take (Nat.min k n * sz))
            | none => pure ()).run P w).andThen fun _ w => .ok (.int .i64 (Nat.min k n)) w := by
          intro k new hap
          obtain ⟨vs, q1, q2, q3, q4, q5⟩ := appended_sound hH h2 hap
          refine ⟨vs, q1, q2, q3, fun bs n cap hcd => ?_⟩
          subst hcd
          unfold Builtin.copy_
          simp only [ht, List.getElem?_toArray, List.getElem?_cons_zero, List.getElem?_cons_succ, Sem.run_bind, run_underlying hu, Result.andThen_ok, q4 w, tAgg_size hg, q5 _ (Nat.min_le_left k n) w rfl]
          cases bs with
          | none => rfl
          | some a => simp only [Sem.run_bind]; rfl
        split
        · rename_i q hap
          obtain ⟨k, new⟩ := q
          obtain ⟨vs, _, _, _, q5⟩ := base hap
          cases h1
          refine OVal.pure hH ?_ (.int _ _)
          rw [q5 none 0 0 rfl]
          rw [show Nat.min k 0 = 0 from Nat.min_zero k]
          rfl
        · rename_i q hap
          obtain ⟨k, new⟩ := q
          obtain ⟨vs, _, _, _, q5⟩ := base hap
          cases h1 with
          | slz a cap =>
            refine OVal.pure hH ?_ (.int _ _)
            rw [q5 (some a) 0 cap rfl]
            rw [show Nat.min k 0 = 0 from Nat.min_zero k, Nat.zero_mul]
            rfl
        · rename_i b o n lo ex sz' k new hap
          obtain ⟨vs, q1, q2, q3, q5⟩ := base hap
          rw [Bool.cond_eq_ite]
          split
          · simp only
            split
            · rename_i h' hst
              cases h1 with
              | sl _ _ _ _ _ _ c z cap hp k1 k2 k3 k4 k5 =>
                obtain ⟨w', r1, r2⟩ := stores_sound (vs := vs.take (Nat.min k n * sz)) P hH hp hst (q2.take _) (fun v hv => q3 v (List.mem_of_mem_take hv))
                refine OVal.mk (cv := .int .i64 (Nat.min k n)) ?_ (.int _ _) r2
                rw [q5 _ n cap rfl]
                simp only [r1, Result.andThen_ok]
            · trivial
          · trivial
        · trivial
      · trivial
    · trivial
  · trivial
end
end Go.Proofs.YtnpkdiffpgcbhaaGreatDoor.Ev
namespace Go.Proofs.YtnpkdiffpgcbhaaGreatDoor.Ev
open Go Go.RowKit
section
variable {P : Program} {B : Nat} {π : Pi} {H H' : Hp} {w : World} {v : AV} {as : List AV} {cargs : Array Value} {ts : Array TypeId} {u : TypeId}
def ApOk (P : Program) (ts : Array TypeId) (e s : Nat) (cx : Value) (k : Nat) (vs : List Value) (w : World) : Prop :=
 vs.length = k * s ∧ ((appMk P ts = some false ∧ (∀ w' : World, (Builtin.lenOf cx).run P w' = .ok k w') ∧ ∀ w' : World, w'.heap = w.heap → (Builtin.firstCells s k cx).run P w' = .ok vs.toArray w') ∨
  (appMk P ts = some true ∧ (∃ j, cx = .int j (k : Int)) ∧ k < 16777216 ∧ (∀ i, P.info? e = some i → i.bytes < 65536) ∧ ∃ cz, (∀ w : World, (zeroValue e).run P w = .ok cz w) ∧ cz.cells.size = s ∧ vs = (Builtin.zeroCells cz.cells k).toList))
theorem appMk_false (h : appMk P ts = some false) : ts[1]? = none ∨ ∃ t d, ts[1]? = some t ∧ P.underlying t = some d ∧ ∀ k, d ≠ .int k := by
 unfold appMk at h
 split at h
 ·rename_i t ht
  split at h
  ·cases h
  ·rename_i d hd hn
   exact .inr ⟨t, d, ht, hn, fun k e => by subst e; exact hd k rfl⟩
  ·cases h
 ·rename_i ht; exact .inl ht
theorem appMk_true (h : appMk P ts = some true) : ∃ t k, ts[1]? = some t ∧ P.underlying t = some (.int k) := by
 unfold appMk at h
 split at h
 ·rename_i t ht
  split at h
  ·rename_i k hk; exact ⟨t, k, ht, hk⟩
  ·cases h
  ·cases h
 ·cases h
theorem run_append_in {st e s k n cap : Nat} {g' : Bool} {bs : Option Addr} {cx : Value} {vs : List Value} {i : TypeInfo} (ht : ts[0]? = some st) (hu : P.underlying st = some (.slice e)) (hg : tAgg P e = some (g', s)) (hi : P.info? e = some i) (hA : ApOk P ts e s cx k vs w) (hle : n + k ≤ cap) :
  (Builtin.append_ ts u [.slice bs n cap, cx].toArray).run P w = ((match (generalizing := false) bs with
   | some a => storeCells (a.add (n * s)) vs
   | none => pure ()).run P w).andThen fun _ w => .ok (.slice bs (n + k) cap) w := by
 obtain ⟨hl, ⟨h1, h2, h3⟩ | ⟨h1, ⟨j, rfl⟩, h3, h4, cz, h5, h6, h7⟩⟩ := hA
 ·rcases appMk_false h1 with h1 | ⟨t, d, h1, hd, hn⟩
  ·unfold Builtin.append_
   simp only [ht, h1, List.getElem?_toArray, List.getElem?_cons_zero, List.getElem?_cons_succ, Sem.run_bind, run_underlying hu, Result.andThen_ok, tAgg_size hg, Sem.run_pure, Bool.false_eq_true, if_false, h2 w, hle, if_true, Bool.not_false, h3 w rfl]
   cases bs <;> simp
  ·unfold Builtin.append_
   have hm : (match d with | .int _ => true | _ => false) = false := by cases d <;> first | rfl | exact absurd rfl (hn _)
   simp only [ht, h1, List.getElem?_toArray, List.getElem?_cons_zero, List.getElem?_cons_succ, Sem.run_bind, run_underlying hu, run_underlying hd, Result.andThen_ok, tAgg_size hg, Sem.run_pure, Bool.false_eq_true, if_false, h2 w, hle, if_true, Bool.not_false, h3 w rfl]
   cases bs <;> simp
 ·obtain ⟨t, kk, h1, hk⟩ := appMk_true h1
  have hw : IntKind.i64.wrap (k : Int) = (k : Int) := lim_wrap .i64 k (by show k < big63; unfold big63; omega)
  have hb := h4 i hi
  have hmul : k * i.bytes ≤ 16777216 * 65536 := Nat.mul_le_mul (by omega) (by omega)
  have c1 : ¬ (k : Int) < 0 := by omega
  have h48 : (2 : Int) ^ 48 = 281474976710656 := rfl
  have c2 : ¬ (k : Int) * (i.bytes : Int) > 2 ^ 48 := by
   rw [h48]
   have : ((k * i.bytes : Nat) : Int) = (k : Int) * (i.bytes : Int) := by simp
   rw [← this]
   omega
  have ha : ∀ w : World, (asInt (.int j (k : Int))).run P w = .ok (k : Int) w := fun _ => rfl
  unfold Builtin.append_
  simp only [ht, h1, List.getElem?_toArray, List.getElem?_cons_zero, List.getElem?_cons_succ, Sem.run_bind, run_underlying hu, run_underlying hk, Result.andThen_ok, tAgg_size hg, Sem.run_pure, if_true, ha, hw, c1, if_false, run_typeInfo hi, c2, Int.toNat_natCast, hle, Bool.not_true, Bool.false_eq_true]
  by_cases h0 : k * s = 0
  ·have hv : vs = [] := List.length_eq_zero_iff.1 (by rw [hl, h0])
   simp only [h0, if_true, Sem.run_pure, Result.andThen_ok, hv]
   cases bs <;> simp
  ·simp only [h0, if_false, Sem.run_bind, h5, Result.andThen_ok, Sem.run_pure, h7]
   cases bs <;> simp
theorem run_append_more {st e s k n cap : Nat} {g' : Bool} {bs : Option Addr} {cx cz : Value} {vs olds : List Value} {i : TypeInfo} (ht : ts[0]? = some st) (hu : P.underlying st = some (.slice e)) (hg : tAgg P e = some (g', s)) (hi : P.info? e = some i) (hA : ApOk P ts e s cx k vs w)
  (hcz : ∀ w : World, (zeroValue e).run P w = .ok cz w) (hold : ∀ w' : World, w'.heap = w.heap → (Builtin.firstCells s n (.slice bs n cap)).run P w' = .ok olds.toArray w') (hgr : cap < n + k) (hm : n + k < 16777216) (hb : i.bytes < 65536) :
  ∃ (nc : Nat) (w1 : World), w1.heap = w.heap ∧ (w1.os = w.os ∧ w1.tape = w.tape ∧ w1.output = w.output) ∧ n + k ≤ nc ∧ nc < big63 ∧
   (Builtin.append_ ts u [.slice bs n cap, cx].toArray).run P w = .ok (.slice (some ⟨w.heap.size, 0, none⟩) (n + k) nc) (w1.alloc (.cells (olds ++ vs ++ (Builtin.zeroCells cz.cells (nc - (n + k))).toList).toArray e)) := by
 have hroom : ∀ m (w : World), (askRoom m).run P w = .ok () w := by intro m w; unfold askRoom; split <;> rfl
 have hp63 : (2 : Nat) ^ 63 = 9223372036854775808 := rfl
 have hcap : (n + k) + w.tape w.drawn (.appendCap (n + k) cap e) % (2 ^ 63 - (n + k)) < big63 := by
  have h1 := Nat.mod_lt (w.tape w.drawn (.appendCap (n + k) cap e)) (show 0 < 2 ^ 63 - (n + k) by rw [hp63]; omega)
  generalize hM : 2 ^ 63 - (n + k) = M at *
  rw [hp63] at hM
  unfold big63
  omega
 have hch : (choose (.appendCap (n + k) cap e)).run P w = .ok ((n + k) + w.tape w.drawn (.appendCap (n + k) cap e) % (2 ^ 63 - (n + k))) { w with drawn := w.drawn + 1 } := by
  simp [choose, Sem.run, Question.forced, Question.cut]
 refine ⟨(n + k) + w.tape w.drawn (.appendCap (n + k) cap e) % (2 ^ 63 - (n + k)), { w with drawn := w.drawn + 1 }, rfl, ⟨rfl, rfl, rfl⟩, Nat.le_add_right _ _, hcap, ?_⟩
 generalize (n + k) + w.tape w.drawn (.appendCap (n + k) cap e) % (2 ^ 63 - (n + k)) = nc at *
 have hn1 : ¬ (n + k ≤ cap) := by omega
 have hmax : IntKind.i64.max = 9223372036854775807 := rfl
 have c3 : ¬ (((n + k : Nat) : Int) > IntKind.i64.max) := by rw [hmax]; omega
 have h48n : (2 : Nat) ^ 48 = 281474976710656 := rfl
 have hfit : ¬ (Builtin.nextslicecap (n + k) cap * i.bytes > 2 ^ 48) := by
  have h1 : (n + k) * i.bytes ≤ 16777216 * 65536 := Nat.mul_le_mul (by omega) (by omega)
  have := growslice_fits (bytes := i.bytes) hgr (by omega)
  rw [h48n]; omega
 have hrow : ∀ (vs' : Array Value), (newRow e vs').run P { w with drawn := w.drawn + 1 } = .ok ⟨w.heap.size, 0, none⟩ (World.alloc { w with drawn := w.drawn + 1 } (.cells vs' e)) := fun vs' => by simp [newRow]
 have hhe : ({ w with drawn := w.drawn + 1 } : World).heap = w.heap := rfl
 have happ : olds.toArray ++ vs.toArray ++ Builtin.zeroCells cz.cells (nc - (n + k)) = (olds ++ vs ++ (Builtin.zeroCells cz.cells (nc - (n + k))).toList).toArray := by apply Array.ext'; simp
 obtain ⟨hl, ⟨h1, h2, h3⟩ | ⟨h1, ⟨j, rfl⟩, h3, h4, cz', h5, h6, h7⟩⟩ := hA
 ·rcases appMk_false h1 with h1 | ⟨t, d, h1, hd, hn⟩
  ·unfold Builtin.append_
   simp only [ht, h1, List.getElem?_toArray, List.getElem?_cons_zero, List.getElem?_cons_succ, Sem.run_bind, run_underlying hu, Result.andThen_ok, tAgg_size hg, Sem.run_pure, Bool.false_eq_true, if_false, h2 w, hn1, Bool.not_false, if_true, run_typeInfo hi, c3, hfit, false_and, hch, hroom, hold _ hhe, h3 _ hhe, hcz, hrow, happ]
  ·have hm : (match d with | .int _ => true | _ => false) = false := by cases d <;> first | rfl | exact absurd rfl (hn _)
   unfold Builtin.append_
   simp only [ht, h1, List.getElem?_toArray, List.getElem?_cons_zero, List.getElem?_cons_succ, Sem.run_bind, run_underlying hu, run_underlying hd, Result.andThen_ok, tAgg_size hg, Sem.run_pure, Bool.false_eq_true, if_false, h2 w, hn1, Bool.not_false, if_true, run_typeInfo hi, c3, hfit, false_and, hch, hroom, hold _ hhe, h3 _ hhe, hcz, hrow, happ]
 ·obtain ⟨t, kk, h1, hk⟩ := appMk_true h1
  have hw : IntKind.i64.wrap (k : Int) = (k : Int) := lim_wrap .i64 k (by show k < big63; unfold big63; omega)
  have hmul : k * i.bytes ≤ 16777216 * 65536 := Nat.mul_le_mul (by omega) (by omega)
  have c1 : ¬ (k : Int) < 0 := by omega
  have h48 : (2 : Int) ^ 48 = 281474976710656 := rfl
  have c2 : ¬ (k : Int) * (i.bytes : Int) > 2 ^ 48 := by
   rw [h48]
   have : ((k * i.bytes : Nat) : Int) = (k : Int) * (i.bytes : Int) := by simp
   rw [← this]
   omega
  have ha : ∀ w : World, (asInt (.int j (k : Int))).run P w = .ok (k : Int) w := fun _ => rfl
  have hzz : cz' = cz := by
   have := (h5 w).symm.trans (hcz w)
   injection this
  subst hzz
  have happ' : olds.toArray ++ Builtin.zeroCells cz'.cells k ++ Builtin.zeroCells cz'.cells (nc - (n + k)) = (olds ++ vs ++ (Builtin.zeroCells cz'.cells (nc - (n + k))).toList).toArray := by apply Array.ext'; simp [h7]
  unfold Builtin.append_
  simp only [ht, h1, List.getElem?_toArray, List.getElem?_cons_zero, List.getElem?_cons_succ, Sem.run_bind, run_underlying hu, run_underlying hk, Result.andThen_ok, tAgg_size hg, Sem.run_pure, if_true, ha, hw, c1, if_false, run_typeInfo hi, c2, Int.toNat_natCast, hn1, Bool.not_true, Bool.false_eq_true, c3, hfit, false_and, hch, hroom, hold _ hhe]
  by_cases h0 : k * s = 0
  ·have hv : vs = [] := List.length_eq_zero_iff.1 (by rw [hl, h0])
   subst hv
   have happ0 : olds.toArray ++ #[] ++ Builtin.zeroCells cz'.cells (nc - (n + k)) = (olds ++ [] ++ (Builtin.zeroCells cz'.cells (nc - (n + k))).toList).toArray := by apply Array.ext'; simp
   simp only [h0, if_true, Sem.run_pure, Result.andThen_ok, hcz, hrow, happ0]
  ·simp only [h0, if_false, Sem.run_bind, hcz, Result.andThen_ok, Sem.run_pure, hrow, happ']
end
end Go.Proofs.YtnpkdiffpgcbhaaGreatDoor.Ev
namespace Go.Proofs.YtnpkdiffpgcbhaaGreatDoor.Ev
open Go Go.RowKit
theorem lays_append (b : List (Option AV)) : ∀ (a : List (Option AV)) (j : Nat) (c : T AV), lays j (a ++ b) c = lays (j + a.length) b (lays j a c)
 | [], j, c => by simp [lays]
 | v :: a, j, c => by
  rw [List.cons_append, lays, lays_append b a (j + 1), lays, List.length_cons, show j + 1 + a.length = j + (a.length + 1) by omega]
section
variable {P : Program} {B : Nat} {π : Pi} {H H' : Hp} {w : World} {v : AV} {as : List AV} {cargs : Array Value} {ts : Array TypeId} {u : TypeId}
theorem Step.cut (hH : HRel π B H w) {b c z : Nat} {tr : T AV} {d : Option AV} {m e flo fhi m' : Nat} {wr : Bool} {sib sb : List Nat} (hb : H.get b = some (.cells tr d m e flo fhi wr sib)) (hp : π b = some (c, z)) (hm : m' ≤ m) :
  Step B π H w π ((dels sb H).set b (.cells tr d m' e flo fhi false [])) w := by
 obtain ⟨c0, arr, fz, a1, a2, a3, a4, a5, a6, a7⟩ := hH.cells hb
 rw [hp] at a1; cases a1
 have inv : ∀ i y, ((dels sb H).set b (.cells tr d m' e flo fhi false [])).get i = some y → (i = b ∧ y = .cells tr d m' e flo fhi false []) ∨ (i ≠ b ∧ H.get i = some y) := by
  intro i y hy
  rw [Hp.get_set] at hy
  split at hy
  ·rename_i e; cases hy; exact .inl ⟨e, rfl⟩
  ·rename_i hib
   exact .inr ⟨hib, (dels_get hy).1⟩
 refine ⟨.refl π, ⟨hH.low, hH.glob, ?_, fun i p hi => by rw [Hp.nx_set, dels_nx]; exact hH.dom i p hi, ?_⟩, fun _ _ _ => rfl, Nat.le_refl _, by rw [Hp.nx_set, dels_nx]; exact Nat.le_refl _, fun b p h1 h2 => (by rw [h1] at h2; cases h2), ?_, ⟨rfl, rfl, rfl⟩, fun _ _ => Evo.refl _⟩
 ·intro i y hy
  rcases inv i y hy with ⟨rfl, rfl⟩ | ⟨h2, h3⟩
  ·refine ⟨c, arr.size, .cells arr e fz, hp, a2, ⟨arr, fz, rfl, rfl, by omega, fun h => (by cases h), ?_, a6⟩, fun h => (by cases h)⟩
   intro j v hj
   obtain ⟨q1, q2⟩ := ob_eq (b := Nat.blt j m') hj
   have q1 : j < m' := by simpa [Nat.blt_eq] using q1
   exact a5 j v (by
    show ob (Nat.blt j m) none _ = _
    have : Nat.blt j m = true := by rw [Nat.blt_eq]; omega
    rw [this]; exact q2)
  ·exact hH.blk i y h3
 ·intro i x i' x' c1 z1 z2 hx hx' hp1 hp2 hne
  rcases inv i x hx with ⟨rfl, rfl⟩ | ⟨h2, h3⟩
  ·exact ⟨rfl, fun h => (by cases h)⟩
  ·rcases inv i' x' hx' with ⟨rfl, rfl⟩ | ⟨h2', h3'⟩
   ·have := hH.sep i x i' _ c1 z1 z2 h3 hb hp1 hp2 hne
    exact ⟨this.1, fun h => ⟨(this.2 h).1, rfl⟩⟩
   ·exact hH.sep i x i' x' c1 z1 z2 h3 h3' hp1 hp2 hne
 ·intro i y hy
  rcases inv i y hy with ⟨rfl, rfl⟩ | ⟨h2, h3⟩
  ·exact .inl ⟨_, hb, fun h => (by cases h)⟩
  ·exact .inl ⟨y, h3, id⟩
theorem Step.row (hH : HRel π B H w) {w1 : World} (hw : w1.heap = w.heap) (ho : w1.os = w.os ∧ w1.tape = w.tape ∧ w1.output = w.output) {l : List (Option AV)} {vs rest : List Value} (hl : VOs π l vs) (h1 : ∀ v ∈ vs, v.oneCell' = true) (h2 : ∀ v ∈ rest, v.oneCell' = true) {n e flo fhi : Nat} {sib : List Nat} (hn : n = vs.length) :
  Step B π H w (piNew π H.nx w.heap.size (vs.length + rest.length)) (H.new (.cells (lays 0 l .e) none n e flo fhi true sib)) (w1.alloc (.cells (vs ++ rest).toArray e)) := by
 have hH1 := hH.same hw
 have he := piNew_ext (H := H) (hH.fresh (Nat.le_refl _)) w.heap.size (vs.length + rest.length)
 have hBR := BR_row (π := piNew π H.nx w.heap.size (vs.length + rest.length)) (w := w1.alloc (.cells (vs ++ rest).toArray e)) (e := e) (n := n) (lo := flo) (hi := fhi) (wr := true) (sib := sib) (l := l) (arr := (vs ++ rest).toArray) (by simp; omega)
  (fun j v hj hv => by
   obtain ⟨cv, a, b⟩ := hl.2 j v hv
   refine ⟨cv, ?_, b.mono he⟩
   rw [List.getElem?_toArray, List.getElem?_append_left (by omega)]
   exact a) (by
   intro v hv
   rcases List.mem_append.1 (by simpa using hv) with h | h
   ·exact h1 v h
   ·exact h2 v h) (0, 0) (fun _ => ⟨Nat.le_refl _, fun j a b => by omega⟩)
 have hs : (vs ++ rest).toArray.size = vs.length + rest.length := by simp
 rw [hs] at hBR
 refine Step.trans hH (Step.same hH hw ho) ?_
 rw [← show w1.heap.size = w.heap.size by rw [hw]] at hBR ⊢
 exact Step.alloc hH1 _ _ _ hBR
theorem apOk (hH : HRel π B H w) {x : AV} {cx : Value} {e s k : Nat} {g : Bool} {l : List (Option AV)} {i : TypeInfo} (hx : VR π x cx) (hg : tAgg P e = some (g, s)) (hi : P.info? e = some i)
  (h : (match (generalizing := false) appMk P ts with | some mk => (bif mk && !Nat.blt i.bytes 65536 then none else appended P e s mk x H) | none => none) = some (k, l)) :
  ∃ vs : List Value, ApOk P ts e s cx k vs w ∧ VOs π l vs ∧ (∀ v ∈ vs, v.oneCell' = true) ∧ l.length = k * s := by
 cases hmk : appMk P ts with
 | none => rw [hmk] at h; cases h
 | some mk =>
  rw [hmk] at h
  simp only at h
  cases mk with
  | false =>
   rw [Bool.false_and, cond_false] at h
   obtain ⟨vs, q1, q2, q3, q4, q5⟩ := appended_sound (P := P) hH hx h
   refine ⟨vs, ⟨q1, .inl ⟨hmk, q4, fun w' hw => ?_⟩⟩, q2, q3, q2.1.trans q1⟩
   rw [q5 k (Nat.le_refl _) w' hw, List.take_of_length_le (by omega)]
  | true =>
   rw [Bool.true_and] at h
   cases hb : Nat.blt i.bytes 65536 with
   | false => rw [hb] at h; cases h
   | true =>
    rw [hb, Bool.not_true, cond_false] at h
    unfold appended at h
    rw [cond_true] at h
    split at h
    ·rename_i j n z hz
     rw [Bool.cond_eq_ite] at h
     split at h
     ·rename_i hn
      cases h
      have hn : k < 16777216 := by simpa [Nat.blt_eq, maxNeed] using hn
      obtain ⟨cz, s2, g2, k1, k2, k3, k4, k5, k6⟩ := zeroCells_VRs (P := P) (π := π) hz k
      rw [hg] at k1; cases k1
      cases hx
      have hlen : (Builtin.zeroCells cz.cells k).toList.length = k * s := by rw [Array.length_toList, k6]
      refine ⟨(Builtin.zeroCells cz.cells k).toList, ⟨hlen, .inr ⟨hmk, ⟨j, rfl⟩, hn, fun i' hi' => ?_, cz, k2, k3, rfl⟩⟩, VOs.of k4, k5 k, by rw [List.length_map, k4.length, hlen]⟩
      rw [hi] at hi'; cases hi'
      simpa [Nat.blt_eq] using hb
     ·cases h
    ·cases h
theorem append_run (hH : HRel π B H w) (ha : VRs π as cargs.toList) : ORun P B π H w (do let y ← Builtin.append_ ts u cargs; pure (.value y)) (appendA P ts as H) := by
  unfold appendA
  split
  · rename_i st s x ht
    obtain ⟨cs, vs0, rfl, h1, h2⟩ := arr_cons ha
    cases h2 with
    | cons _ cx _ vs1 h2 h3 =>
    cases h3
    split
    · rename_i e he
      have hu := elemSl_eq he
      split
      · rename_i g sz i hg hi
        split
        · trivial
        · rename_i k new hap
          obtain ⟨vs, hA, hv, hone, hnl⟩ := apOk (ts := ts) hH h2 hg hi hap
          have hvl : vs.length = k * sz := hA.1
          split
          ·
            cases h1
            split
            · refine OVal.pure hH (cv := .slice none 0 0) ?_ .nils
              rw [run_append_in ht hu hg hi hA (Nat.le_refl 0)]
              rfl
            · rename_i hk0
              rw [Bool.cond_eq_ite]
              split
              · rename_i hc
                simp only [Bool.and_eq_true, Nat.blt_eq, maxNeed] at hc
                obtain ⟨⟨⟨c1, c2⟩, c3⟩, c4⟩ := hc
                obtain ⟨z, hz⟩ := Option.isSome_iff_exists.1 c4
                obtain ⟨cz, s2, g2, k1, k2, k3, k4, k5, k6⟩ := zeroCells_VRs (P := P) (π := π) hz 0
                rw [hg] at k1; cases k1
                have hkp : 0 < k := Nat.pos_of_ne_zero fun e => hk0 e
                obtain ⟨nc, w1, r1, r2, r3, r4, r5⟩ := run_append_more (u := u) (n := 0) (cap := 0) (bs := none) (olds := []) ht hu hg hi hA k2 (fun w' _ => by simp [Builtin.firstCells]) (by omega) (by omega) c2
                have hst := Step.row (w1 := w1) (e := e) (flo := 0) (fhi := 0) (sib := []) (rest := (Builtin.zeroCells cz.cells (nc - (0 + k))).toList) hH r1 r2 hv hone (k5 _) (n := new.length) hv.1
                refine OVal.mk r5 ?_ (by rw [List.nil_append]; exact hst)
                rw [Nat.zero_add]
                have hz2 : vs.length + (Builtin.zeroCells cz.cells (nc - (0 + k))).toList.length = nc * sz := by
                  rw [hvl, Array.length_toList, k6, ← Nat.add_mul, Nat.zero_add, show k + (nc - k) = nc by omega]
                exact VR.sl _ _ _ _ _ _ w.heap.size _ nc (show piNew π H.nx w.heap.size _ H.nx = some (w.heap.size, nc * sz) by unfold piNew; rw [if_pos rfl]; rw [Nat.zero_add] at hz2; rw [hz2]) (Nat.le_refl _) (by omega) (fun h => by cases h) (by omega) r4
              · trivial
          ·
            rename_i b o n lo ex sz'
            rw [Bool.cond_eq_ite]
            split
            · trivial
            rename_i hsz
            have hsz : sz = sz' := by
              cases hb : Nat.beq sz sz' with
              | true => exact Nat.eq_of_beq_eq_true hb
              | false => rw [hb] at hsz; exact absurd rfl hsz
            subst hsz
            cases h1 with
            | sl _ _ _ _ _ _ c z cap hp q1 q2 q3 q4 q5 =>
            rw [Bool.cond_eq_ite]
            split
            ·
              rename_i hle
              have hle : n + k ≤ lo := by simpa using hle
              split
              · rename_i h' hst
                obtain ⟨w', r1, r2⟩ := stores_sound P hH hp hst hv hone
                refine OVal.mk (cv := .slice (some ⟨c, o, none⟩) (n + k) cap) ?_ (.sl _ _ _ _ _ _ c z cap hp hle q2 q3 q4 q5) r2
                rw [run_append_in ht hu hg hi hA (by omega)]
                simp only [Addr.add_lit', r1, Result.andThen_ok]
              · trivial
            rename_i hle
            have hle : ¬ n + k ≤ lo := by simpa using hle
            rw [Bool.cond_eq_ite]
            split
            · trivial
            rename_i hc
            have hc : (Nat.blt (n + k) maxNeed && Nat.blt i.bytes 65536 && allCells new && (zeroC P e).isSome) = true := by
              cases hb : (Nat.blt (n + k) maxNeed && Nat.blt i.bytes 65536 && allCells new && (zeroC P e).isSome) with
              | true => rfl
              | false => rw [hb] at hc; exact absurd rfl hc
            simp only [Bool.and_eq_true, Nat.blt_eq, maxNeed] at hc
            obtain ⟨⟨⟨c1, c2⟩, c3⟩, c4⟩ := hc
            obtain ⟨zz, hz⟩ := Option.isSome_iff_exists.1 c4
            obtain ⟨cz, s2, g2, k1, k2, k3, k4, k5, k6⟩ := zeroCells_VRs (P := P) (π := π) hz 0
            rw [hg] at k1; cases k1
            split
            · rename_i tr d m e' flo fhi wr sib hb
              have hns : n * sz ≤ cap * sz := Nat.mul_le_mul_right sz (Nat.le_trans q1 q2)
              obtain ⟨olds, o1, o2, o3, o4⟩ := rdo_sound (P := P) (o := o) (cnt := n * sz) hH hb hp (by omega)
              have hold : ∀ w' : World, w'.heap = w.heap → (Builtin.firstCells sz n (.slice (some ⟨c, o, none⟩) n cap)).run P w' = .ok olds.toArray w' := by
                intro w' hw
                show (loadCells ⟨c, o, none⟩ (n * sz)).run P w' = _
                rw [o2 w' hw (n * sz) (Nat.le_refl _), List.take_of_length_le (by omega)]
              have grow : cap < n + k → ∃ (nc : Nat) (w1 : World), w1.heap = w.heap ∧ (w1.os = w.os ∧ w1.tape = w.tape ∧ w1.output = w.output) ∧ n + k ≤ nc ∧ nc < big63 ∧ (olds ++ vs).length + (Builtin.zeroCells cz.cells (nc - (n + k))).toList.length = nc * sz ∧ (olds ++ vs).length = (n + k) * sz ∧
                  (Builtin.append_ ts u [.slice (some ⟨c, o, none⟩) n cap, cx].toArray).run P w = .ok (.slice (some ⟨w.heap.size, 0, none⟩) (n + k) nc) (w1.alloc (.cells (olds ++ vs ++ (Builtin.zeroCells cz.cells (nc - (n + k))).toList).toArray e)) := by
                intro hgr
                obtain ⟨nc, w1, r1, r2, r3, r4, r5⟩ := run_append_more (u := u) ht hu hg hi hA k2 hold hgr c1 c2
                have hl2 : (olds ++ vs).length = (n + k) * sz := by rw [List.length_append, o1, hvl, ← Nat.add_mul]
                refine ⟨nc, w1, r1, r2, r3, r4, ?_, hl2, r5⟩
                rw [hl2, Array.length_toList, k6, ← Nat.add_mul, show n + k + (nc - (n + k)) = nc by omega]
              have hvo := o3.append hv
              have hone2 : ∀ v ∈ olds ++ vs, v.oneCell' = true := fun v hv => by
                rcases List.mem_append.1 hv with h | h
                · exact o4 v h
                · exact hone v h
              simp only
              rw [Bool.cond_eq_ite]
              split
              ·
                rename_i hex
                obtain ⟨nc, w1, r1, r2, r3, r4, r5, r6, r7⟩ := grow (by have := q3 hex; omega)
                have hst := Step.row (w1 := w1) (e := e) (flo := 0) (fhi := 0) (sib := []) (rest := (Builtin.zeroCells cz.cells (nc - (n + k))).toList) hH r1 r2 hvo hone2 (k5 _) (n := ((Blk.cells tr d m e' flo fhi wr sib).rdo o (n * sz) ++ new).length) hvo.1
                rw [r5] at hst
                refine OVal.mk r7 ?_ hst
                exact VR.sl _ _ _ _ _ _ w.heap.size _ nc (by simp [piNew]; rfl) (Nat.le_refl _) r3 (fun h => by cases h) (by omega) r4
              · rename_i hex
                rw [Bool.cond_eq_ite]
                split
                · trivial
                rename_i hd
                have hd : (Nat.beq o 0 && wr && Nat.beq e e' && (Nat.ble fhi (n * sz) || Nat.beq flo fhi)) = true := by
                  cases hb : (Nat.beq o 0 && wr && Nat.beq e e' && (Nat.ble fhi (n * sz) || Nat.beq flo fhi)) with
                  | true => rfl
                  | false => rw [hb] at hd; exact absurd rfl hd
                simp only [Bool.and_eq_true, Bool.or_eq_true, Nat.beq_eq, Nat.ble_eq] at hd
                obtain ⟨⟨⟨d1, d2⟩, d3⟩, d4⟩ := hd
                subst d1 d2 d3
                have hm' : (bif Nat.ble m (n * sz) then m else n * sz) ≤ m ∧ (bif Nat.ble m (n * sz) then m else n * sz) ≤ n * sz := by
                  cases hq : Nat.ble m (n * sz) with
                  | true => rw [cond_true]; exact ⟨Nat.le_refl _, by simpa using hq⟩
                  | false =>
                    rw [cond_false]
                    have : ¬ m ≤ n * sz := fun h => by rw [Nat.ble_eq_true_of_le h] at hq; cases hq
                    exact ⟨by omega, Nat.le_refl _⟩
                generalize (bif Nat.ble m (n * sz) then m else n * sz) = m' at hm' ⊢
                by_cases hgr : cap < n + k
                · obtain ⟨nc, w1, r1, r2, r3, r4, r5, r6, r7⟩ := grow hgr
                  have hct := Step.cut (m' := m') (sb := sib) hH hb hp hm'.1
                  have hst := Step.row (w1 := w1) (e := e) (flo := flo) (fhi := fhi) (sib := [b]) (rest := (Builtin.zeroCells cz.cells (nc - (n + k))).toList) hct.rel r1 r2 hvo hone2 (k5 _) (n := (n + k) * sz) r6.symm
                  have hnx : ((dels sib H).set b (.cells tr d m' e flo fhi false [])).nx = H.nx := by rw [Hp.nx_set, dels_nx]
                  rw [r5, hnx] at hst
                  refine OVal.mk r7 ?_ (Step.trans hH hct hst)
                  exact VR.sl _ _ _ _ _ _ w.heap.size _ nc (by simp [piNew]; rfl) (Nat.le_refl _) r3 (fun h => by cases h) (by omega) r4
                · have hcap : (n + k) * sz ≤ cap * sz := Nat.mul_le_mul_right sz (by omega)
                  have hal := Step.alias (m' := m') (n := (n + k) * sz) (l := (Blk.cells tr d m e flo fhi true sib).rdo 0 (n * sz)) hH hb hp hm'.1 (by omega) (fun j v hj hl => by
                    rw [rdo_get] at hl
                    split at hl
                    · simpa using hl
                    · cases hl)
                  have hnx : ((dels sib H).set b (.cells tr d m' e flo fhi false [])).nx = H.nx := by rw [Hp.nx_set, dels_nx]
                  have hbn : b ≠ H.nx := by intro e; rw [e, hH.fresh (Nat.le_refl _)] at hp; cases hp
                  have hp' : piNew π H.nx c z H.nx = some (c, z) := by unfold piNew; rw [if_pos rfl]
                  have hsl : VR (piNew π H.nx c z) (.sl H.nx 0 (n + k) (n + k) false sz) (.slice (some ⟨c, 0, none⟩) (n + k) cap) := VR.sl _ _ _ _ _ _ c z cap hp' (Nat.le_refl _) (by omega) (fun h => by cases h) (by omega) q5
                  have hrun := run_append_in (u := u) (bs := some ⟨c, 0, none⟩) ht hu hg hi hA (show n + k ≤ cap by omega)
                  simp only [Addr.add_lit', Nat.zero_add] at hrun
                  have hnl' : new.length = k * sz := hnl
                  by_cases hnil : new = []
                  · subst hnil
                    have hv0 : vs = [] := List.length_eq_zero_iff.1 (by rw [← hv.1]; rfl)
                    subst hv0
                    rw [List.append_nil]
                    exact OVal.mk (hrun.trans rfl) hsl hal
                  · generalize hX : (dels sib H).set b (.cells tr d m' e flo fhi false []) = X at hal hnx ⊢
                    have gb : X.get b = some (.cells tr d m' e flo fhi false []) := by rw [← hX, Hp.get_set, if_pos rfl]
                    generalize hO : (Blk.cells tr d m e flo fhi true sib).rdo 0 (n * sz) = old at hal o3 ⊢
                    have g1 : (X.new (.cells (lays 0 old .e) none ((n + k) * sz) e flo fhi true [b])).get H.nx = some (.cells (lays 0 old .e) none ((n + k) * sz) e flo fhi true [b]) := by rw [Hp.get_new, hnx, if_pos rfl]
                    have gb1 : (X.new (.cells (lays 0 old .e) none ((n + k) * sz) e flo fhi true [b])).get b = some (.cells tr d m' e flo fhi false []) := by rw [Hp.get_new, hnx, if_neg hbn, gb]
                    have hk : kill (n * sz) [b] (X.new (.cells (lays 0 old .e) none ((n + k) * sz) e flo fhi true [b])) = X.new (.cells (lays 0 old .e) none ((n + k) * sz) e flo fhi true [b]) := by
                      rw [kill, gb1]
                      have : Nat.blt (n * sz) m' = false := by
                        cases hq : Nat.blt (n * sz) m' with
                        | false => rfl
                        | true => have : n * sz < m' := by simpa [Nat.blt_eq] using hq
                                  omega
                      simp only [this, cond_false]
                      rfl
                    have hcond : (Nat.ble (n * sz + new.length) ((n + k) * sz) && (Nat.ble fhi (n * sz) || Nat.ble (n * sz + new.length) flo || Nat.beq flo fhi) && allCells new) = true := by
                      simp only [Bool.and_eq_true, Bool.or_eq_true, Nat.ble_eq, Nat.beq_eq]
                      refine ⟨⟨by rw [hnl', Nat.add_mul]; exact Nat.le_refl _, ?_⟩, c3⟩
                      rcases d4 with h | h
                      · exact .inl (.inl h)
                      · exact .inr h
                    have hst : stores (X.new (.cells (lays 0 old .e) none ((n + k) * sz) e flo fhi true [b])) H.nx (n * sz) new = some ((X.new (.cells (lays 0 old .e) none ((n + k) * sz) e flo fhi true [b])).set H.nx (.cells (lays (n * sz) new (lays 0 old .e)) none ((n + k) * sz) e flo fhi true [b])) := by
                      cases hq : new with
                      | nil => exact absurd hq hnil
                      | cons v0 l0 =>
                        rw [hq] at hcond
                        unfold stores
                        simp only [g1, hcond, cond_true, hk]
                    obtain ⟨w', r1, r2⟩ := stores_sound P hal.rel hp' hst ⟨hv.1, fun i v h => let ⟨cv, a, b⟩ := hv.2 i v h; ⟨cv, a, b.mono hal.ext⟩⟩ hone
                    rw [r1] at hrun
                    refine OVal.mk hrun hsl ((Step.trans hH hal r2).less ?_ (Nat.le_refl _))
                    intro i y hy
                    rw [Hp.get_set]
                    rw [Hp.get_new, hnx] at hy
                    split at hy
                    · rename_i e1
                      rw [if_pos e1]
                      rw [← hy, lays_append, Nat.zero_add, ← hO, rdo_length]
                    · rename_i e1
                      rw [if_neg e1, Hp.get_new, hnx, if_neg e1]
                      exact hy
            · trivial
          ·
            cases h1 with
            | slz a cap =>
              split
              · refine OVal.pure hH (cv := .slice (some a) 0 cap) ?_ (.slz a cap)
                rw [run_append_in ht hu hg hi hA (Nat.zero_le cap)]
                have hv0 : vs = [] := List.length_eq_zero_iff.1 (by rw [hvl, Nat.zero_mul])
                subst hv0
                rfl
              · trivial
          · trivial
      · trivial
    · trivial
  · trivial
end
end Go.Proofs.YtnpkdiffpgcbhaaGreatDoor.Ev
namespace Go.Proofs.YtnpkdiffpgcbhaaGreatDoor.Ev
open Go Go.RowKit
theorem ofBytes_sound : ∀ {l : List AV} {a v : Nat}, ofBytes l a = some v → ∃ bl : List UInt8, l = bl.map (fun b => AV.int .u8 (.ofNat b.toNat)) ∧ v = bl.foldl (fun a b => a * 256 + b.toNat) a
 | [], a, v, h => by cases h; exact ⟨[], rfl, rfl⟩
 | x :: l, a, v, h => by
  unfold ofBytes at h
  split at h
  ·cases ‹x :: l = []›
  ·rename_i a0 b l' heq
   cases heq
   rw [Bool.cond_eq_ite] at h
   split at h
   ·rename_i hb
    have hb : b < 256 := by simpa [Nat.blt_eq] using hb
    obtain ⟨bl, h1, h2⟩ := ofBytes_sound h
    have : (UInt8.ofNat b).toNat = b := by simp; omega
    exact ⟨UInt8.ofNat b :: bl, by rw [List.map_cons, this, ← h1], by rw [List.foldl_cons, this]; exact h2⟩
   ·cases h
  ·cases h
section
variable {P : Program} {B : Nat} {π : Pi} {H H' : Hp} {w : World} {v : AV} {as : List AV} {cargs : Array Value} {ts : Array TypeId} {u : TypeId}
theorem bytes_sound (hH : HRel π B H w) {b o n c z a : Nat} {x : Blk} (hx : H.get b = some x) (hp : π b = some (c, z)) {l : List AV} (h : x.rds o n = some l) (hb : ofBytes l 0 = some a) :
  ∃ bl : List UInt8, bl.length = n ∧ a = natOf bl ∧ (loadCells ⟨c, o, none⟩ n).run P w = .ok (bl.map fun b => Value.int .u8 b.toNat).toArray w ∧ ∀ j y, bl[j]? = some y → w.cell? ((⟨c, o, none⟩ : Addr).add j) = some (.int .u8 y.toNat) := by
 obtain ⟨bl, h1, h2⟩ := ofBytes_sound hb
 obtain ⟨cs, k1, k2⟩ := run_rds (P := P) hH hx hp h
 obtain ⟨q1, q2⟩ := rds_get h
 have hcs : cs = bl.map fun b => Value.int .u8 b.toNat := by
  subst h1
  clear h h2 hb q1 q2 k1 hx
  induction bl generalizing cs with
  | nil => cases k2; rfl
  | cons y bl ih =>
   cases k2 with
   | cons _ cy _ cs' k k' =>
    have := VR.int_inv k
    subst this
    rw [ih _ k']
    rfl
 have hlen : bl.length = n := by rw [h1, List.length_map] at q1; exact q1
 refine ⟨bl, hlen, h2, by rw [← hcs]; exact k1, fun j y hj => ?_⟩
 have hjn : j < n := by rw [← hlen]; exact (List.getElem?_eq_some_iff.1 hj).1
 obtain ⟨v, a1, a2⟩ := q2 j hjn
 obtain ⟨cv, a3, a4⟩ := rd_cell hH hx hp a2
 rw [h1, List.getElem?_map, hj] at a1
 cases a1
 have := VR.int_inv a4
 subst this
 rw [Addr.add_lit']
 exact a3
theorem liesAt_row {e t : TypeId} (hc : P.cellsOf e = 1) (hu : P.underlyingId e = P.underlyingId t) (count o n : Nat) (hn : o + n ≤ count) : liesAt P P.depth e count o t n = true := by
 have hd : P.depth = (2 * (P.types.size + Made.depth) + 1) + 1 := rfl
 rw [hd]
 simp only [liesAt, Bool.or_eq_true]
 left
 rw [hd]
 simp [rowAt, hc, hn, sameLayout, hu, Nat.mod_one]
theorem heap_freeze {w : World} {c o n e : Nat} {arr : Array Value} {fz : Nat × Nat} (h : w.heap[c]? = some (.cells arr e fz)) (hn : 0 < n) :
  (w.freeze ⟨c, o, none⟩ n).heap[c]? = some (.cells arr e (if fz.1 == fz.2 then (o, o + n) else (min fz.1 o, max fz.2 (o + n)))) ∧ (∀ k, k ≠ c → (w.freeze ⟨c, o, none⟩ n).heap[k]? = w.heap[k]?) ∧ (w.freeze ⟨c, o, none⟩ n).heap.size = w.heap.size ∧ ((w.freeze ⟨c, o, none⟩ n).os = w.os ∧ (w.freeze ⟨c, o, none⟩ n).tape = w.tape ∧ (w.freeze ⟨c, o, none⟩ n).output = w.output) := by
 unfold World.freeze
 rw [if_neg (by omega)]
 obtain ⟨f1, f2⟩ := fz
 refine ⟨?_, ?_, by simp, ⟨rfl, rfl, rfl⟩⟩
 ·simp only [Array.getElem?_modify, if_true, h, Option.map_some]
 ·intro k hk
  simp only [Array.getElem?_modify]
  rw [if_neg (fun e => hk e.symm)]
theorem string_run (hH : HRel π B H w) (ha : VRs π as cargs.toList) : ORun P B π H w (do let y ← Builtin.unsafeString_ ts u cargs; pure (.value y)) (builtinB P .unsafeString ts as H) := by
  have none_run : ∀ (p : Option Addr) (j : IntKind) (pt : TypeId), ts[0]? = some pt → (Builtin.unsafeString_ ts u #[.pointer p, .int j 0]).run P w = .ok (.string .empty) w := by
    intro p j pt ht
    have ha : (asInt (.int j 0)).run P w = .ok 0 w := rfl
    have hmax : IntKind.i64.max = 9223372036854775807 := rfl
    cases p with
    | none =>
      obtain ⟨m0, m1, m2, m3, hdef⟩ : ∃ m0 m1 m2 m3, Builtin.unsafeString_ ts u #[.pointer none, .int j 0] = (do
          let n ← asInt (.int j 0)
          let some pt := ts[0]? | stuck m0
          if n < 0 then runtimePanic (.error m1)
          if n > IntKind.i64.max then unsupported (.unsafePointer m2)
          if n = 0 then pure (.string .empty)
          else runtimePanic (.error m3)) := ⟨_, _, _, _, rfl⟩
      rw [hdef]
      simp only [Sem.run_bind, ha, Result.andThen_ok, ht]
      simp [hmax]
    | some a =>
      obtain ⟨m0, m1, m2, m3, hdef⟩ : ∃ m0 m1 m2 m3, Builtin.unsafeString_ ts u #[.pointer (some a), .int j 0] = (do
          let n ← asInt (.int j 0)
          let some pt := ts[0]? | stuck m0
          if n < 0 then runtimePanic (.error m1)
          if n > IntKind.i64.max then unsupported (.unsafePointer m2)
          if n = 0 then pure (.string .empty)
          else if ← variablesAt a (← elemOf pt) n.toNat then do
            let s ← loadBytes a .empty n.toNat
            freeze a n.toNat
            pure (.string s)
          else unsupported (.unsafePointer m3)) := ⟨_, _, _, _, rfl⟩
      rw [hdef]
      simp only [Sem.run_bind, ha, Result.andThen_ok, ht]
      simp [hmax]
  unfold builtinB
  simp only
  split
  · rename_i t j ht
    obtain ⟨cx, vs, rfl, h1, h2⟩ := arr_cons ha
    cases h2 with
    | cons _ cy _ vs' h2 h3 =>
    cases h3
    cases h1
    cases h2
    exact OVal.pure hH (none_run none j _ ht) (.str ByteArray.empty)
  · rename_i t b o j n ht
    obtain ⟨cx, vs, rfl, h1, h2⟩ := arr_cons ha
    cases h2 with
    | cons _ cy _ vs' h2 h3 =>
    cases h3
    cases h2
    cases h1 with
    | ptr _ _ c z hp =>
    split
    · exact OVal.pure hH (none_run _ j _ ht) (.str ByteArray.empty)
    · rename_i hn0
      split
      · rename_i t' ub tr d k e lo hi sib hu hb
        rw [Bool.cond_eq_ite]
        split
        · rename_i hc
          simp only [Bool.and_eq_true, Nat.beq_eq, Nat.ble_eq, Nat.blt_eq] at hc
          obtain ⟨⟨⟨⟨⟨c1, c2⟩, c3⟩, c4⟩, c5⟩, c6⟩ := hc
          split
          · rename_i l hl
            split
            · rename_i a hof
              obtain ⟨bl, q1, q2, q3, q4⟩ := bytes_sound (P := P) hH hb hp hl hof
              obtain ⟨c0, arr, fz, a1, a2, a3, a4, a5, a6, a7⟩ := hH.cells hb
              rw [hp] at a1; cases a1
              have hnp : 0 < n := Nat.pos_of_ne_zero fun e => hn0 e
              obtain ⟨f1, f2, f3, f4⟩ := heap_freeze (o := o) (n := n) a2 hnp
              have hsh : w.shape? c = some (e, arr.size) := by unfold World.shape?; rw [a2]
              have hlies : liesAt P P.depth e (arr.size / P.cellsOf e) o ub n = true := liesAt_row c3 c2.symm _ o n (by rw [c3, Nat.div_one]; omega)
              have hlb := Lib.run_loadBytes (P := P) w bl ⟨c, o, none⟩ .empty q4
              have hmax : IntKind.i64.max = 9223372036854775807 := rfl
              have hn63 : ¬ ((n : Int) > IntKind.i64.max) := by rw [hmax]; unfold big63 at c5; omega
              have hneg : ¬ ((n : Int) < 0) := by omega
              have hn0' : ¬ ((n : Int) = 0) := by omega
              have hai : (asInt (.int j (Int.ofNat n))).run P w = .ok (n : Int) w := rfl
              have hrun : (Builtin.unsafeString_ ts u [.pointer (some ⟨c, o, none⟩), .int j (Int.ofNat n)].toArray).run P w = .ok (.string ⟨bl.toArray⟩) (w.freeze ⟨c, o, none⟩ n) := by
                obtain ⟨m0, m1, m2, m3, hdef⟩ : ∃ m0 m1 m2 m3, Builtin.unsafeString_ ts u [.pointer (some ⟨c, o, none⟩), .int j (Int.ofNat n)].toArray = (do
                    let n ← asInt (.int j (Int.ofNat n))
                    let some pt := ts[0]? | stuck m0
                    if n < 0 then runtimePanic (.error m1)
                    if n > IntKind.i64.max then unsupported (.unsafePointer m2)
                    if n = 0 then pure (.string .empty)
                    else if ← variablesAt ⟨c, o, none⟩ (← elemOf pt) n.toNat then do
                      let s ← loadBytes ⟨c, o, none⟩ .empty n.toNat
                      freeze ⟨c, o, none⟩ n.toNat
                      pure (.string s)
                    else unsupported (.unsafePointer m3)) := ⟨_, _, _, _, rfl⟩
                rw [hdef]
                simp only [Sem.run_bind, hai, Result.andThen_ok, ht, hneg, hn63, hn0', if_false]
                rw [q1] at hlb
                simp [variablesAt, hsh, elemOf, run_underlying hu, hlies, hlb]
              have hv : VR π (.str n a) (.string ⟨bl.toArray⟩) := by
                have := VR.str (π := π) ⟨bl.toArray⟩
                have e1 : (⟨bl.toArray⟩ : ByteArray).size = n := by show bl.toArray.size = n; simpa using q1
                rw [e1, ← q2] at this
                exact this
              generalize hfz : (bif Nat.beq lo hi then (o, o + n) else (minN lo o, bif Nat.ble hi (o + n) then o + n else hi)) = fz2
              have hin : ∀ fz' : Nat × Nat, fz' = (if fz.1 == fz.2 then (o, o + n) else (min fz.1 o, max fz.2 (o + n))) → fz'.1 ≤ fz'.2 ∧ ∀ j, fz'.1 ≤ j → j < fz'.2 → (fz2.1 ≤ j ∧ j < fz2.2) ∨ (fz2.2 < fz2.1 ∧ arr.size ≤ j) := by
                intro fz' e'
                obtain ⟨g1, g2⟩ := a4 rfl
                have hmm : minN lo o = min lo o := by unfold minN; cases hq : Nat.ble lo o with
                  | true => have : lo ≤ o := by simpa using hq
                            rw [cond_true]; omega
                  | false => have : ¬ lo ≤ o := fun h => by rw [Nat.ble_eq_true_of_le h] at hq; cases hq
                             rw [cond_false]; omega
                have hM : (bif Nat.ble hi (o + n) then o + n else hi) = max hi (o + n) := by cases hq : Nat.ble hi (o + n) with
                  | true => have : hi ≤ o + n := by simpa using hq
                            rw [cond_true]; omega
                  | false => have : ¬ hi ≤ o + n := fun h => by rw [Nat.ble_eq_true_of_le h] at hq; cases hq
                             rw [cond_false]; omega
                rw [hmm, hM] at hfz
                by_cases hr : fz.1 = fz.2
                · have : (fz.1 == fz.2) = true := by simpa using hr
                  rw [this, if_pos rfl] at e'
                  subst e'
                  refine ⟨by simp, fun j j1 j2 => .inl ?_⟩
                  simp only at j1 j2
                  cases hlh : Nat.beq lo hi with
                  | true => rw [hlh, cond_true] at hfz; subst hfz; exact ⟨j1, j2⟩
                  | false => rw [hlh, cond_false] at hfz; subst hfz; simp only; omega
                · have : ¬ ((fz.1 == fz.2) = true) := by simpa using hr
                  rw [if_neg this] at e'
                  subst e'
                  have r1 := g2 fz.1 (Nat.le_refl _) (by omega)
                  have r2 := g2 (fz.2 - 1) (by omega) (by omega)
                  refine ⟨by simp only; omega, fun j j1 j2 => .inl ?_⟩
                  simp only at j1 j2
                  cases hlh : Nat.beq lo hi with
                  | true => have : lo = hi := Nat.eq_of_beq_eq_true hlh
                            omega
                  | false => rw [hlh, cond_false] at hfz; subst hfz; simp only; omega
              refine OVal.mk hrun hv (Step.write (x' := .cells tr d k e fz2.1 fz2.2 true sib) hH hb rfl hp f1 f2 f3 f4 (Evo.noMap (by simp)) ⟨arr, _, rfl, rfl, a3, fun _ => hin _ rfl, a5, a6⟩ rfl (fun _ => rfl) rfl ?_)
              intro i y hy
              rw [Hp.get_set] at hy
              split at hy
              · rename_i e1; cases hy; exact .inl ⟨e1, rfl⟩
              · rename_i hne
                refine .inr ⟨hne, hy, fun z' hz' => ?_⟩
                obtain ⟨s1, s2⟩ := hH.sep b _ i y c _ z' hb hy hp hz' (fun e => hne e.symm)
                obtain ⟨s3, s4⟩ := s2 rfl
                obtain ⟨ci, zi, oi, b1, b2, b3, b4⟩ := hH.blk i y hy
                rw [hz'] at b1; cases b1
                rw [a2] at b2; cases b2
                cases y with
                | cells ty dy ny ey loy hiy wy sy =>
                  obtain ⟨arr2, fz3, p1, p2, p3, p4, p5, p6⟩ := b3
                  cases p1
                  have hw : wy = false := s4
                  exact ⟨arr, _, rfl, p2, p3, fun e => (by rw [hw] at e; cases e), p5, p6⟩
                | map => exact absurd s4 (by simp [Blk.wr])
                | loop => exact absurd s4 (by simp [Blk.wr])
                | dfr => exact absurd s4 (by simp [Blk.wr])
                | siter => exact absurd s4 (by simp [Blk.wr])
                | miter => exact absurd s4 (by simp [Blk.wr])
            · trivial
          · trivial
        · trivial
      · trivial
  · trivial
end
end Go.Proofs.YtnpkdiffpgcbhaaGreatDoor.Ev
namespace Go.Proofs.YtnpkdiffpgcbhaaGreatDoor.Ev
open Go Go.RowKit
section
variable {P : Program} {B : Nat} {π : Pi} {H H' : Hp} {w : World} {r : T AV} {a : Act}
theorem rowAt_mono {fits : TypeId → Bool} : ∀ {d : Nat} {e : TypeId} {c c' o n : Nat}, c ≤ c' → rowAt P fits d e c o n = true → rowAt P fits d e c' o n = true
 | 0, _, _, _, _, _, _, h => by cases h
 | d + 1, e, c, c', o, n, hc, h => by
  unfold rowAt at h ⊢
  simp only at h ⊢
  split
  ·rename_i h0; rw [if_pos h0] at h; exact h
  ·rename_i h0
   rw [if_neg h0] at h
   simp only [Bool.or_eq_true, Bool.and_eq_true, decide_eq_true_eq] at h ⊢
   rcases h with ⟨⟨h1, h2⟩, h3⟩ | ⟨h1, h2⟩
   ·exact .inl ⟨⟨h1, by omega⟩, h3⟩
   ·exact .inr ⟨by omega, h2⟩
theorem liesAt_mono : ∀ {d : Nat} {e : TypeId} {c c' o n : Nat} {t : TypeId}, c ≤ c' → liesAt P d e c o t n = true → liesAt P d e c' o t n = true
 | 0, _, _, _, _, _, _, _, h => by cases h
 | d + 1, e, c, c', o, n, t, hc, h => by
  unfold liesAt at h ⊢
  rw [Bool.or_eq_true] at h ⊢
  rcases h with h | h
  ·exact .inl (rowAt_mono hc h)
  ·right
   split at h
   ·rename_i m u' hu
    exact liesAt_mono hc h
   ·cases h
theorem run_s2b (e : TypeId) (s : ByteArray) (hs : s.size < 16777216) : ∃ (nc : Nat) (w1 : World), w1.heap = w.heap ∧ (w1.os = w.os ∧ w1.tape = w.tape ∧ w1.output = w.output) ∧ s.size ≤ nc ∧ nc < big63 ∧
  (Conv.stringToBytes e s).run P w = .ok (.slice (some ⟨w.heap.size, 0, none⟩) s.size nc) (w1.alloc (.cells ((s.data.map fun b => Value.int .u8 b.toNat) ++ Array.replicate (nc - s.size) (.int .u8 0)) e (nc, nc + 1))) := by
 have hp63 : (2 : Nat) ^ 63 = 9223372036854775808 := rfl
 have hcap : s.size + w.tape w.drawn (.appendCap s.size 0 e) % (2 ^ 63 - s.size) < big63 := by
  have h1 := Nat.mod_lt (w.tape w.drawn (.appendCap s.size 0 e)) (show 0 < 2 ^ 63 - s.size by rw [hp63]; omega)
  generalize hM : 2 ^ 63 - s.size = M at *
  rw [hp63] at hM
  unfold big63
  omega
 have hch : (choose (.appendCap s.size 0 e)).run P w = .ok (s.size + w.tape w.drawn (.appendCap s.size 0 e) % (2 ^ 63 - s.size)) { w with drawn := w.drawn + 1 } := by
  simp [choose, Sem.run, Question.forced, Question.cut]
 refine ⟨s.size + w.tape w.drawn (.appendCap s.size 0 e) % (2 ^ 63 - s.size), { w with drawn := w.drawn + 1 }, rfl, ⟨rfl, rfl, rfl⟩, Nat.le_add_right _ _, hcap, ?_⟩
 have hle : s.size ≤ s.size + w.tape w.drawn (.appendCap s.size 0 e) % (2 ^ 63 - s.size) := Nat.le_add_right _ _
 generalize s.size + w.tape w.drawn (.appendCap s.size 0 e) % (2 ^ 63 - s.size) = nc at *
 unfold Conv.stringToBytes
 have hrow : ∀ (vs' : Array Value), (newRow e vs').run P { w with drawn := w.drawn + 1 } = .ok ⟨w.heap.size, 0, none⟩ (World.alloc { w with drawn := w.drawn + 1 } (.cells vs' e)) := fun vs' => by simp [newRow]
 simp only [Sem.run_bind, hch, Result.andThen_ok, hrow]
 generalize hw2 : World.alloc { w with drawn := w.drawn + 1 } (.cells ((s.data.map fun b => Value.int .u8 b.toNat) ++ Array.replicate (nc - s.size) (.int .u8 0)) e) = w2
 have hsz : ((s.data.map fun b => Value.int .u8 b.toNat) ++ Array.replicate (nc - s.size) (Value.int .u8 0)).size = nc := by
  rw [Array.size_append, Array.size_map, Array.size_replicate]
  show s.data.size + (nc - s.data.size) = nc
  have : s.data.size = s.size := rfl
  omega
 have hsh : w2.shape? w.heap.size = some (e, nc) := by
  rw [← hw2]
  unfold World.shape?
  have := heap_alloc_new { w with drawn := w.drawn + 1 } (.cells ((s.data.map fun b => Value.int .u8 b.toNat) ++ Array.replicate (nc - s.size) (.int .u8 0)) e)
  rw [show ({ w with drawn := w.drawn + 1 } : World).heap.size = w.heap.size from rfl] at this
  rw [this]
  simp only [hsz]
 have hm : (markStringish ⟨w.heap.size, 0, none⟩).run P w2 = .ok () (w2.freeze ⟨w.heap.size, nc, none⟩ 1) := by
  unfold markStringish
  simp [hsh]
 simp only [hm, Result.andThen_ok, Sem.run_pure]
 congr 1
 rw [← hw2]
 unfold World.freeze World.alloc
 rw [if_neg (by omega)]
 congr 1
 apply Array.ext_getElem?
 intro i
 simp only [Array.getElem?_modify, Array.getElem?_push]
 by_cases hi : i = w.heap.size
 ·subst hi; simp
 ·rw [if_neg (fun e => hi e.symm), if_neg hi, if_neg hi]
theorem conv_sound (hH : HRel π B H w) {s d : TypeId} {v : AV} {cv : Value} (hv : VR π v cv) : ORun P B π H w (do let y ← convert s d cv; pure (.value y)) (convA P s d v H) := by
 unfold convA
 split
 ·rename_i ds k j n hs hd
  refine ORun.plain (plain_wrapI _ _ _) fun v H' e => ?_
  obtain ⟨rfl, rfl⟩ := wrapI_val e
  have := VR.int_inv hv
  subst this
  refine OVal.pure hH ?_ (.int _ _)
  unfold convert
  simp only [Sem.run_bind, run_underlying hs, run_underlying hd, Result.andThen_ok]
  rfl
 ·rename_i ds n u hs hd
  cases hv with
  | str st =>
  refine OVal.pure hH ?_ (.str st)
  unfold convert
  simp only [Sem.run_bind, run_underlying hs, run_underlying hd, Result.andThen_ok]
  rfl
 ·rename_i ds e n u hs hd
  cases hv with
  | str st =>
  split
  ·rename_i he
   rw [Bool.cond_eq_ite]
   split
   ·rename_i hn
    have hn : st.size < 16777216 := by simpa [Nat.blt_eq, maxNeed] using hn
    obtain ⟨nc, w1, r1, r2, r3, r4, r5⟩ := run_s2b (P := P) (w := w) e st hn
    have hrun : (convert s d (.string st)).run P w = (Conv.stringToBytes e st).run P w := by
     unfold convert
     simp only [Sem.run_bind, run_underlying hs, run_underlying hd, Result.andThen_ok, run_underlying he]
    have hsz : ((st.data.map fun b => Value.int .u8 b.toNat) ++ Array.replicate (nc - st.size) (Value.int .u8 0)).size = nc := by
     rw [Array.size_append, Array.size_map, Array.size_replicate]
     show st.data.size + (nc - st.data.size) = nc
     have : st.data.size = st.size := rfl
     omega
    have he2 := piNew_ext (H := H) (hH.fresh (Nat.le_refl _)) w.heap.size nc
    have hBR := BR_row (π := piNew π H.nx w.heap.size nc) (w := w1.alloc (.cells ((st.data.map fun b => Value.int .u8 b.toNat) ++ Array.replicate (nc - st.size) (Value.int .u8 0)) e (nc, nc + 1))) (e := e) (n := st.size) (lo := 1) (hi := 0) (wr := true) (sib := [])
     (l := (strBytes st.size (natOf st.data.toList) st.size).map fun b => some (byteA b)) (arr := (st.data.map fun b => Value.int .u8 b.toNat) ++ Array.replicate (nc - st.size) (Value.int .u8 0)) (by omega)
     (fun j v hj hv => by
      obtain ⟨cv, a, b⟩ := (str_cells (π := piNew π H.nx w.heap.size nc) st).2 j v hv
      refine ⟨cv, ?_, b⟩
      rw [← Array.getElem?_toList, Array.toList_append, List.getElem?_append_left (by simpa using hj)]
      exact a) (by
      intro v hv
      rw [Array.toList_append] at hv
      rcases List.mem_append.1 hv with h | h
      ·rw [Array.toList_map] at h
       obtain ⟨b, _, rfl⟩ := List.mem_map.1 h
       rfl
      ·simp at h
       rw [h.2]; rfl) (nc, nc + 1) (fun _ => ⟨by simp, fun j a b => .inr ⟨by omega, by rw [hsz]; exact a⟩⟩)
    rw [hsz] at hBR
    have hhs : w1.heap.size = w.heap.size := by rw [r1]
    have hst := Step.alloc (hH.same r1) _ nc _ (by rw [hhs]; exact hBR)
    rw [hhs] at hst
    refine OVal.mk (hrun.trans r5) ?_ (Step.trans hH (Step.same hH r1 r2) hst)
    exact VR.sl _ _ _ _ _ _ w.heap.size nc nc (by simp [piNew]) (Nat.le_refl _) r3 (fun h => by cases h) (by omega) r4
   ·trivial
  ·trivial
 ·rename_i e hs hd
  cases hv
  split
  ·rename_i he
   refine OVal.pure hH ?_ (.str ByteArray.empty)
   rw [run_convert_bytes_string w s d e none 0 0 hs he hd]
   rfl
  ·trivial
 ·rename_i e hs hd
  cases hv with
  | slz ad cap =>
  split
  ·rename_i he
   refine OVal.pure hH ?_ (.str ByteArray.empty)
   rw [run_convert_bytes_string w s d e (some ad) 0 cap hs he hd, run_bytesToString w ad 0 cap [] rfl]
   rfl
  ·trivial
 ·rename_i e b o n lo ex sz hs hd
  split
  ·rename_i k he hb
   rw [Bool.cond_eq_ite]
   split
   ·split
    ·rename_i l hl
     split
     ·rename_i u hof
      cases hv with
      | sl _ _ _ _ _ _ c z cap hp q1 q2 q3 q4 q5 =>
      obtain ⟨bl, q1, q2, q3, q4⟩ := bytes_sound (P := P) hH hb hp hl hof
      have hvs : VR π (.str n u) (.string ⟨bl.toArray⟩) := by
       have := VR.str (π := π) ⟨bl.toArray⟩
       have e1 : (⟨bl.toArray⟩ : ByteArray).size = n := by show bl.toArray.size = n; simpa using q1
       rw [e1, ← q2] at this
       exact this
      refine OVal.pure hH ?_ hvs
      rw [run_convert_bytes_string w s d e (some ⟨c, o, none⟩) n cap hs he hd, run_bytesToString w ⟨c, o, none⟩ n cap (bl.map fun b => (b.toNat : Int)) (by rw [q3, List.map_map]; rfl)]
      congr 2
      have key : ∀ (l : List UInt8) (acc : ByteArray), (l.map fun b => (b.toNat : Int)).foldl (fun (r : ByteArray) n => r.push (UInt8.ofNat n.toNat)) acc = ⟨acc.data ++ l.toArray⟩ := by
       intro l
       induction l with
       | nil => intro acc; simp
       | cons x l ih =>
        intro acc
        rw [List.map_cons, List.foldl_cons, ih]
        apply ByteArray.ext
        simp [ByteArray.push]
      rw [key]
      simp
     ·trivial
    ·trivial
   ·trivial
  ·trivial
 ·rename_i t b o hs hd
  split
  ·rename_i g sz tr dd n e lo hi wr sib hg hb
   rw [Bool.cond_eq_ite]
   split
   ·rename_i ho
    have ho : o < n := by simpa [Nat.blt_eq] using ho
    cases hv with
    | ptr _ _ c z hp =>
    obtain ⟨c0, arr, fz, a1, a2, a3, a4, a5, a6, a7⟩ := hH.cells hb
    rw [hp] at a1; cases a1
    refine OVal.pure hH ?_ (.ptr _ _ _ _ hp)
    have hsh : w.shape? c = some (e, arr.size) := by unfold World.shape?; rw [a2]
    unfold convert
    simp only [Sem.run_bind, run_underlying hs, run_underlying hd, Result.andThen_ok]
    show (Conv.unsafePointer s d (.pointer (some ⟨c, o, none⟩))).run P w = _
    unfold Conv.unsafePointer
    have hno : ¬ arr.size ≤ o := by omega
    simp [run_underlying hs, run_underlying hd, Conv.seenAt, viewAt, cellsIn, hsh, tAgg_size hg, hno]
   ·trivial
  ·trivial
 ·rename_i t b o hs hd
  split
  ·rename_i tr dd n e lo hi wr sib hb
   rw [Bool.cond_eq_ite]
   split
   ·rename_i hl
    rw [Bool.and_eq_true] at hl
    obtain ⟨h1, h2⟩ := hl
    obtain ⟨⟨g, sz⟩, hg⟩ := Option.isSome_iff_exists.1 h1
    cases hv with
    | ptr _ _ c z hp =>
    obtain ⟨c0, arr, fz, a1, a2, a3, a4, a5, a6, a7⟩ := hH.cells hb
    rw [hp] at a1; cases a1
    refine OVal.pure hH ?_ (.ptr _ _ _ _ hp)
    have hsh : w.shape? c = some (e, arr.size) := by unfold World.shape?; rw [a2]
    have hlies : liesAt P P.depth e (arr.size / P.cellsOf e) o t 1 = true := liesAt_mono (Nat.div_le_div_right a3) h2
    unfold convert
    simp only [Sem.run_bind, run_underlying hs, run_underlying hd, Result.andThen_ok]
    show (Conv.unsafePointer s d (.pointer (some ⟨c, o, none⟩))).run P w = _
    unfold Conv.unsafePointer
    simp [run_underlying hs, run_underlying hd, Conv.seenAt, viewAt, cellsIn, hsh, tAgg_size hg, variablesAt, hlies]
   ·trivial
  ·trivial
 ·trivial
theorem convert_run (hH : HRel π B H w) (hR : RR π r a.tmps) {s d : TypeId} {x : Operand} : ORun P B π H w (do let y ← convert s d (a.eval x); pure (.value y)) (opConvert s d x P r H) := by
 unfold opConvert
 cases h1 : opnd r x with
 | none => trivial
 | some v => exact conv_sound hH (opnd_sound hH hR h1)
end
end Go.Proofs.YtnpkdiffpgcbhaaGreatDoor.Ev
namespace Go.Proofs.YtnpkdiffpgcbhaaGreatDoor.Ev
open Go Go.RowKit
section
variable {P : Program} {B : Nat} {π : Pi} {H H' : Hp} {w : World} {r : T AV} {a : Act}
theorem builtin_run (hH : HRel π B H w) {b : Builtin} {ts : Array TypeId} {u : TypeId} {cs : Array Bool} {as : List AV} {cargs : Array Value} (ha : VRs π as cargs.toList) : ORun P B π H w (builtin b ts u cs cargs) (builtinA P b ts as H) := by
 cases b <;> first | exact len_run hH ha | exact cap_run hH ha | exact clear_run hH ha | exact delete_run hH ha | exact max_run hH ha | exact min_run hH ha | exact sliceData_run hH ha | exact string_run hH ha | exact append_run hH ha | exact copy_run hH ha | exact (rfl : (pure Next.recover : Sem Next).run P w = _) | trivial
theorem call_builtin_run (hH : HRel π B H w) (hR : RR π r a.tmps) {c : Call} {ty : TypeId} {b : Builtin} (hc : c.callee = .builtin b) : ORun P B π H w (do let d ← resolve a.eval c ty; invoke d.target d.args) (opCall c P r H) := by
 unfold opCall
 rw [hc]
 cases h1 : opnds r c.args.toList with
 | none => trivial
 | some args =>
  show ORun P B π H w _ (builtinA P b c.argTypes args H)
  have k1 := opnds_sound hH hR h1
  have hargs : VRs π args (c.args.map a.eval).toList := by simpa using k1
  have hres : resolve a.eval c ty = pure { target := .builtin b c.argTypes ty (c.args.map fun | .const _ => true | _ => false), args := c.args.map a.eval } := by unfold resolve; rw [hc]; rfl
  rw [hres]
  exact builtin_run hH hargs
theorem call_run (hX : extOk P = true) (hH : HRel π B H w) (hR : RR π r a.tmps) {c : Call} {ty : TypeId} : ORun P B π H w (do let d ← resolve a.eval c ty; invoke d.target d.args) (opCall c P r H) := by
 cases hc : c.callee with
 | value f => exact call_value_run hX hH hR hc
 | invoke x n => exact call_invoke_run hX hH hR hc
 | builtin b => exact call_builtin_run hH hR hc
theorem plain_opAlloc {e : TypeId} : (opAlloc e P r H).plain := by unfold opAlloc; exact plain_oo trivial fun _ _ => by rw [fN_eq]; trivial
theorem plain_opBox {e : TypeId} {x : Operand} : (opBox e x P r H).plain := by unfold opBox; exact plain_oo trivial fun _ _ => plain_ob trivial (by rw [fN_eq]; trivial)
theorem plain_opBuildSlice {t : TypeId} {n : Nat} {ps : Array (Nat × Operand)} : (opBuildSlice t n ps P r H).plain := by
 unfold opBuildSlice
 exact plain_oo trivial fun _ _ => plain_oo trivial fun _ _ => plain_oo trivial fun _ _ => plain_oo trivial fun _ _ => plain_ob trivial (plain_oo trivial fun _ _ => plain_ob trivial (by rw [fN_eq]; trivial))
theorem plain_opMakeMap {t : TypeId} {x : Option Operand} : (opMakeMap t x P r H).plain := by unfold opMakeMap; split <;> trivial
theorem plain_opMakeSlice {t : TypeId} {l c : Operand} : (opMakeSlice t l c P r H).plain := by
 unfold opMakeSlice
 split
 ·split
  ·exact plain_cond trivial trivial
  ·trivial
 ·trivial
theorem cls2_run (hH : HRel π B H w) (hR : RR π r a.tmps) {o : Oper} (hc : cls P o.op = 2) (hp : (opA P r o H).plain) : ORun P B π H w (execOp a.eval o) (opA P r o H) :=
 alloc_run (fun _ _ e => cls2 hc hH hR e) hH hp
theorem opsOk (hX : extOk P = true) : OpsOk P := by
 intro r o B π H w a hH hR
 by_cases hc : cls P o.op = 2
 ·refine cls2_run hH hR hc ?_
  unfold opA
  cases ho : o.op <;> first | exact plain_opAlloc | exact plain_opBox | exact plain_opBuildSlice | exact plain_opMakeMap | exact plain_opMakeSlice | (rw [ho] at hc; first | (cases hc; done) | skip)
  ·rename_i t x l h m
   have hc : ob (isSlS P t) 1 0 = 2 := hc
   cases hs : isSlS P t <;> rw [hs] at hc <;> cases hc
  ·rename_i c
   have hc : clsC c = 2 := hc
   unfold clsC at hc
   split at hc
   ·split at hc <;> cases hc
   ·cases hc
 unfold opA
 cases ho : o.op with
 | move x => exact ORun.congr (by unfold execOp; rw [ho]) (move_run hH hR (x := x))
 | assign x => exact ORun.congr (by unfold execOp; rw [ho]) (move_run hH hR (x := x))
 | pick x y z => exact ORun.congr (by unfold execOp; rw [ho]) (pick_run hH hR)
 | alloc e => rw [ho] at hc; exact absurd rfl hc
 | box e x => rw [ho] at hc; exact absurd rfl hc
 | build t ps => exact ORun.congr (by unfold execOp; rw [ho]) (build_run hH hR)
 | buildSlice t n ps => rw [ho] at hc; exact absurd rfl hc
 | insert t m k x => exact ORun.congr (by unfold execOp; rw [ho]) (insert_run hH hR)
 | load t x => exact ORun.congr (by unfold execOp; rw [ho]) (load_run hH hR)
 | store t x y => exact ORun.congr (by unfold execOp; rw [ho]) (store_run hH hR)
 | nilCheck x => exact nilCheck_run hH hR ho
 | binOp op t x y u => exact ORun.congr (by unfold execOp; rw [ho]) (binOp_run hH hR)
 | unOp op t x => exact ORun.congr (by unfold execOp; rw [ho]) (unOp_run hH hR (t := t))
 | convert s d x => exact ORun.congr (by unfold execOp; rw [ho]) (convert_run hH hR)
 | makeInterface t x => exact ORun.congr (by unfold execOp; rw [ho]) (makeInterface_run hH hR)
 | makeFunc f x y => exact ORun.congr (by unfold execOp; rw [ho]) (makeFunc_run hH hR)
 | makeMap t x => rw [ho] at hc; exact absurd rfl hc
 | makeSlice t l c => rw [ho] at hc; exact absurd rfl hc
 | slice t x l h m => exact ORun.congr (by unfold execOp; rw [ho]) (slice_run hH hR)
 | fieldAddr t x f => exact ORun.congr (by unfold execOp; rw [ho]) (fieldAddr_run hH hR)
 | field t x f => exact ORun.congr (by unfold execOp; rw [ho]) (field_run hH hR)
 | indexAddr t x i => exact ORun.congr (by unfold execOp; rw [ho]) (indexAddr_run hH hR)
 | index t x i => exact ORun.congr (by unfold execOp; rw [ho]) (index_run hH hR)
 | lookup t x i ok => exact ORun.congr (by unfold execOp; rw [ho]) (lookup_run hH hR)
 | mapUpdate t m k x => exact ORun.congr (by unfold execOp; rw [ho]) (mapUpd_run hH hR rfl)
 | range t x => exact ORun.congr (by unfold execOp; rw [ho]) (range_run hH hR)
 | next x s => exact ORun.congr (by unfold execOp; rw [ho]) (next_op_run hH hR (ty := o.type))
 | entry x => exact ORun.congr (by unfold execOp; rw [ho]) (entry_run hH hR)
 | typeAssert x t u ok => exact ORun.congr (by unfold execOp; rw [ho]) (typeAssert_run hH hR)
 | extract x i => exact ORun.congr (by unfold execOp; rw [ho]) (extract_run hH hR)
 | call c => exact ORun.congr (by unfold execOp; rw [ho]) (call_run hX hH hR (ty := o.type))
 | defer c => exact ORun.congr (by unfold execOp; rw [ho]) (defer_run hH hR (ty := o.type))
 | panic x => exact ORun.congr (by unfold execOp; rw [ho]) (panic_run hH hR)
 | _ => trivial
end
end Go.Proofs.YtnpkdiffpgcbhaaGreatDoor.Ev
namespace Go.Proofs.YtnpkdiffpgcbhaaGreatDoor.Ev
open Go Go.RowKit
def flatL (fl : TypeId → DataW Unit → Option (List AV)) (P : Program) : Nat → List (Nat × TypeId × DataW Unit) → Option (List AV × Nat)
 | o, [] => some ([], o)
 | o, (off, t, d) :: r => bif Nat.beq off o then (fl t d).bind fun l => (flatL fl P (o + P.cellsOf t) r).map fun x => (l ++ x.1, x.2) else none
def flatD (P : Program) : Nat → TypeId → DataW Unit → Option (List AV)
 | 0, _, _ => none
 | n + 1, t, d => match P.underlying t, d with
  | some (.int k), .lit (.int _ m) => some [.int k m]
  | some .bool, .lit (.bool b) => some [.bool b]
  | some .string, .lit (.string s) => some [.str s.length (natOf s)]
  | some (.array m e), .agg ds => bif Nat.beq ds.length m then (flatL (flatD P n) P 0 (ds.zipIdx.map fun x => (x.2 * P.cellsOf e, e, x.1))).bind fun x => bif Nat.beq x.2 (P.cellsOf t) then some x.1 else none else none
  | some (.struct fs), .agg ds => bif Nat.beq ds.length fs.size then (flatL (flatD P n) P 0 ((fs.toList.zip ds).map fun x => (x.1.offset, x.1.type, x.2))).bind fun x => bif Nat.beq x.2 (P.cellsOf t) then some x.1 else none else none
  | some (.interface _), .iface _ _ => some [.opi]
  | some (.interface _), .nil => some [.nili]
  | _, _ => none
section
variable {P : Program} {π : Pi} {w : World} {fl : TypeId → DataW Unit → Option (List AV)} {fuel : Nat}
theorem flatL_sound {cs : List Value} (hfl : ∀ (t : TypeId) (d : DataW Unit) (l : List AV) (cs : List Value) (x : DataW Unit × List MemPlace), fl t d = some l → DataW.trod (fun _ => ()) P w 0 (fun _ => true) false fuel t cs = some x → x.1 = d → VRs π l cs) :
  ∀ (its : List (Nat × TypeId × DataW Unit)) (o : Nat) (r : List AV × Nat), (∀ it ∈ its, ∃ x, DataW.trod (fun _ => ()) P w 0 (fun _ => true) false fuel it.2.1 ((cs.drop it.1).take (P.cellsOf it.2.1)) = some x ∧ x.1 = it.2.2) → flatL fl P o its = some r → cs.length ≤ r.2 → VRs π r.1 (cs.drop o)
 | [], o, r, _, h, hl => by
  cases h
  rw [List.drop_of_length_le hl]
  exact .nil
 | (off, t, d) :: its, o, r, hx, h, hl => by
  unfold flatL at h
  rw [Bool.cond_eq_ite] at h
  split at h
  ·rename_i ho
   have ho : off = o := Nat.eq_of_beq_eq_true ho
   subst ho
   cases h1 : fl t d with
   | none => rw [h1] at h; cases h
   | some l =>
    rw [h1] at h
    simp only [Option.bind_some] at h
    cases h2 : flatL fl P (off + P.cellsOf t) its with
    | none => rw [h2] at h; cases h
    | some r2 =>
     rw [h2] at h
     cases h
     obtain ⟨x, k1, k2⟩ := hx _ List.mem_cons_self
     have q1 := hfl t d l _ x h1 k1 k2
     have q2 := flatL_sound (cs := cs) hfl its (off + P.cellsOf t) r2 (fun it hi => hx it (List.mem_cons_of_mem _ hi)) h2 hl
     have := q1.append q2
     rwa [← List.drop_drop, List.take_append_drop] at this
  ·cases h
theorem trod_iface {t : TypeId} {ms : Array (String × TypeId)} {cs : List Value} {x : DataW Unit × List MemPlace} (hu : P.underlying t = some (.interface ms)) (ht : DataW.trod (fun _ => ()) P w 0 (fun _ => true) false fuel t cs = some x) :
  (cs = [.nilIface] ∧ x = (.nil, [])) ∨ ∃ u v name y, cs = [.iface u v] ∧ x.1 = .iface name y := by
 cases fuel with
 | zero => simp [DataW.trod] at ht
 | succ m =>
  unfold DataW.trod at ht
  rw [hu] at ht
  cases cs with
  | nil => simp at ht
  | cons c cs =>
   cases cs with
   | cons c2 cs => cases c <;> simp at ht
   | nil =>
    cases c <;> first | (simp at ht; done) | skip
    ·rename_i u v
     refine .inr ⟨u, v, ?_⟩
     cases hn : P.typeName? 3 u with
     | none => simp [hn] at ht
     | some name =>
      simp only [hn] at ht
      cases hq : DataW.trod (fun _ => ()) P w 0 (fun _ => true) false m u v.cells.toList with
      | none => rw [hq] at ht; cases ht
      | some y => rw [hq] at ht; cases ht; exact ⟨name, y.1, rfl, rfl⟩
    ·cases ht; exact .inl ⟨rfl, rfl⟩
theorem flatD_sound : ∀ {n : Nat} {t : TypeId} {d : DataW Unit} {l : List AV} {cs : List Value} {x : DataW Unit × List MemPlace} {fuel : Nat}, flatD P n t d = some l → DataW.trod (fun _ => ()) P w 0 (fun _ => true) false fuel t cs = some x → x.1 = d → VRs π l cs
 | 0, _, _, _, _, _, _, h, _, _ => by cases h
 | n + 1, t, d, l, cs, x, fuel, h, ht, hd => by
  unfold flatD at h
  split at h
  ·rename_i k k' m hu
   cases h
   obtain ⟨m', rfl, rfl, _⟩ := DataW.trod_int hu ht
   cases hd
   exact .cons _ _ _ _ (.int _ _) .nil
  ·rename_i b hu
   cases h
   obtain ⟨m', rfl, rfl⟩ := DataW.trod_bool hu ht
   cases hd
   exact .cons _ _ _ _ (.bool _) .nil
  ·rename_i s hu
   cases h
   obtain ⟨m', rfl, rfl, _⟩ := DataW.trod_string hu ht
   cases hd
   have := VR.str (π := π) m'
   have e : m'.size = m'.data.toList.length := by simp
   rw [e] at this
   exact .cons _ _ _ _ this .nil
  ·rename_i m e ds hu
   rw [Bool.cond_eq_ite] at h
   split at h
   ·rename_i hlen
    have hlen : ds.length = m := Nat.eq_of_beq_eq_true hlen
    cases h1 : flatL (flatD P n) P 0 (ds.zipIdx.map fun x => (x.2 * P.cellsOf e, e, x.1)) with
    | none => rw [h1] at h; cases h
    | some r =>
     rw [h1] at h
     simp only [Option.bind_some] at h
     rw [Bool.cond_eq_ite] at h
     split at h
     ·rename_i hr
      have hr : r.2 = P.cellsOf t := Nat.eq_of_beq_eq_true hr
      cases h
      obtain ⟨xs, f, rfl, rfl, k1, k2, k3⟩ := DataW.trod_array hu ht
      cases hd
      have := flatL_sound (P := P) (π := π) (w := w) (cs := cs) (fuel := f) (fl := flatD P n) (fun t d l cs x a b c => flatD_sound a b c) _ 0 r (by
       intro it hi
       obtain ⟨⟨d, i⟩, hm, rfl⟩ := List.mem_map.1 hi
       obtain ⟨_, hm2, hm3⟩ := List.mem_zipIdx hm
       simp only at hm2 hm3 ⊢
       have hil : i < xs.length := by simpa using hm2
       have := k3 i (by rw [← k2]; exact hil)
       refine ⟨xs[i], by rw [this]; simp [hil], ?_⟩
       rw [hm3]
       simp) h1 (by rw [hr, k1]; exact Nat.le_refl _)
      simpa using this
     ·cases h
   ·cases h
  ·rename_i fs ds hu
   rw [Bool.cond_eq_ite] at h
   split at h
   ·rename_i hlen
    have hlen : ds.length = fs.size := Nat.eq_of_beq_eq_true hlen
    cases h1 : flatL (flatD P n) P 0 ((fs.toList.zip ds).map fun x => (x.1.offset, x.1.type, x.2)) with
    | none => rw [h1] at h; cases h
    | some r =>
     rw [h1] at h
     simp only [Option.bind_some] at h
     rw [Bool.cond_eq_ite] at h
     split at h
     ·rename_i hr
      have hr : r.2 = P.cellsOf t := Nat.eq_of_beq_eq_true hr
      cases h
      obtain ⟨xs, f, rfl, rfl, k1, k2, k3⟩ := DataW.trod_struct hu ht
      cases hd
      have := flatL_sound (P := P) (π := π) (w := w) (cs := cs) (fuel := f) (fl := flatD P n) (fun t d l cs x a b c => flatD_sound a b c) _ 0 r (by
       intro it hi
       obtain ⟨⟨fd, d⟩, hm, rfl⟩ := List.mem_map.1 hi
       obtain ⟨i, hi2⟩ := List.mem_iff_getElem?.1 hm
       rw [List.getElem?_zip_eq_some] at hi2
       obtain ⟨j1, j2⟩ := hi2
       simp only at j1 j2 ⊢
       have := k3 i fd (by rw [← Array.getElem?_toList]; exact j1)
       rw [List.getElem?_map] at j2
       cases hx : xs[i]? with
       | none => rw [hx] at j2; cases j2
       | some y =>
        rw [hx] at j2 this
        refine ⟨y, this, by simpa using j2⟩) h1 (by rw [hr, k1]; exact Nat.le_refl _)
      simpa using this
     ·cases h
   ·cases h
  ·rename_i ps s d hu
   cases h
   rcases trod_iface hu ht with ⟨rfl, rfl⟩ | ⟨u, v, name, y, rfl, hx⟩
   ·cases hd
   ·exact .cons _ _ _ _ (.opi _ _) .nil
  ·rename_i ps hu
   cases h
   rcases trod_iface hu ht with ⟨rfl, rfl⟩ | ⟨u, v, name, y, rfl, hx⟩
   ·exact .cons _ _ _ _ .nili .nil
   ·rw [hx] at hd; cases hd
  ·cases h
end
noncomputable def h0T (l : List (Nat × Nat × List AV)) : T Blk := List.rec .e (fun y _ ih => ih.put (some (.cells (lays 0 (y.2.2.map some) .e) none y.2.2.length y.2.1 0 0 false [])) (Pos.of y.1)) l
noncomputable def h0 (l : List (Nat × Nat × List AV)) : Hp := ⟨h0T l, gN⟩
theorem h0T_get : ∀ {l : List (Nat × Nat × List AV)} {g : Nat} {x : Blk}, (h0T l).get (Pos.of g) = some x → ∃ y ∈ l, y.1 = g ∧ x = .cells (lays 0 (y.2.2.map some) .e) none y.2.2.length y.2.1 0 0 false []
 | [], g, x, h => by
  have h : (T.e : T Blk).get (Pos.of g) = some x := h
  rw [T.get_e] at h
  cases h
 | y :: l, g, x, h => by
  have h : (Hp.set ⟨h0T l, 0⟩ y.1 (.cells (lays 0 (y.2.2.map some) .e) none y.2.2.length y.2.1 0 0 false [])).get g = some x := h
  rw [Hp.get_set] at h
  split at h
  ·rename_i e
   cases h
   exact ⟨y, List.mem_cons_self, e.symm, rfl⟩
  ·obtain ⟨y', k1, k2⟩ := h0T_get (l := l) (g := g) (x := x) h
   exact ⟨y', List.mem_cons_of_mem _ k1, k2⟩
noncomputable def pi0 (W : World) : Pi := fun g => bif Nat.blt g gN then (match W.heap[g]? with
 | some (.cells arr _ _) => some (g, arr.size)
 | _ => some (g, 0)) else none
theorem pi0_some {W : World} {g : Nat} {p : Nat × Nat} (h : pi0 W g = some p) : g < gN ∧ p.1 = g := by
 unfold pi0 at h
 rw [Bool.cond_eq_ite] at h
 split at h
 ·rename_i hg
  refine ⟨by simpa [Nat.blt_eq] using hg, ?_⟩
  split at h <;> cases h <;> rfl
 ·cases h
theorem HRel.first {W : World} {l : List (Nat × Nat × List AV)} (hsz : gN ≤ W.heap.size) (hl : ∀ y ∈ l, y.1 < gN ∧ (∃ cs, W.heap[y.1]? = some (.cells cs y.2.1) ∧ ∀ π, VRs π y.2.2 cs.toList) ∧ y.2.2.all AV.isCell = true) : HRel (pi0 W) W.heap.size (h0 l) W := by
 refine ⟨Nat.le_refl _, ?_, ?_, ?_, ?_⟩
 ·intro g hg
  unfold pi0
  have : Nat.blt g gN = true := by rw [Nat.blt_eq]; exact hg
  rw [this, cond_true]
  split <;> exact ⟨_, rfl⟩
 ·intro b x hx
  obtain ⟨y, hy, rfl, rfl⟩ := h0T_get hx
  obtain ⟨k1, ⟨cs, k2, k3⟩, k4⟩ := hl y hy
  have hp : pi0 W y.1 = some (y.1, cs.size) := by
   unfold pi0
   have : Nat.blt y.1 gN = true := by rw [Nat.blt_eq]; exact k1
   rw [this, cond_true, k2]
  refine ⟨y.1, cs.size, _, hp, k2, ?_, fun h => by cases h⟩
  have hlen : y.2.2.length = cs.size := by rw [(k3 (pi0 W)).length]; simp
  exact BR_row (π := pi0 W) (by omega) (fun j v hj hv => by
   rw [List.getElem?_map] at hv
   cases hv2 : y.2.2[j]? with
   | none => rw [hv2] at hv; cases hv
   | some u =>
    rw [hv2] at hv
    cases hv
    obtain ⟨cv, a, b⟩ := (k3 (pi0 W)).get hv2
    exact ⟨cv, by rw [← Array.getElem?_toList]; exact a, b⟩) (isCell_one (k3 (pi0 W)) k4) (0, 0) (fun h => by cases h)
 ·intro b p hp
  obtain ⟨k1, k2⟩ := pi0_some hp
  exact ⟨k1, by omega⟩
 ·intro b x b' x' c z z' _ _ hp hp' hne
  have h1 := (pi0_some hp).2
  have h2 := (pi0_some hp').2
  simp only at h1 h2
  exact absurd (h1.symm.trans h2) hne
def retTrue : CR → Bool
 | .ret (.bool true) _ => true
 | _ => false
theorem closed_sound {P : Program} (hm : P.follows .mixedOrders = true) (hX : extOk P = true) {kn : CallF → CallF} (hk : KnOk P kn) {n f : Nat} {l : List (Nat × Nat × List AV)} (hE : retTrue (callB P (codeN P kn n) f [] (h0 l)) = true)
  {W : World} (hsz : gN ≤ W.heap.size) (hl : ∀ y ∈ l, y.1 < gN ∧ (∃ cs, W.heap[y.1]? = some (.cells cs y.2.1) ∧ ∀ π, VRs π y.2.2 cs.toList) ∧ y.2.2.all AV.isCell = true) :
  Calls P f #[] W fun e W' => e = .returned (.bool true) ∧ Below W.heap.size W W' := by
 have hH := HRel.first hsz hl
 have hok : (callB P (codeN P kn n) f [] (h0 l)).ok := by
  cases hc : callB P (codeN P kn n) f [] (h0 l) with
  | bad w => rw [hc] at hE; cases hE
  | _ => trivial
 refine (call_sound hm (opsOk hX) hk n _ _ _ _ f [] #[] hH .nil hok).mono fun e W' ho => ?_
 cases hc : callB P (codeN P kn n) f [] (h0 l) with
 | bad w => rw [hc] at hE; cases hE
 | pan c h => rw [hc] at hE; cases hE
 | ret v h =>
  rw [hc] at hE ho
  obtain ⟨π', cv, rfl, h1, h2⟩ := ho
  have hv : v = .bool true := by
   cases v <;> first | (cases hE; done) | skip
   rename_i b
   cases b
   ·cases hE
   ·rfl
  subst hv
  cases h1
  refine ⟨rfl, h2.out.1, h2.out.2.1, h2.out.2.2, h2.size, fun k hk => ?_⟩
  refine h2.fr k hk fun b x z hx hw _ => ?_
  obtain ⟨y, _, _, rfl⟩ := h0T_get hx
  cases hw
noncomputable def firstG (P : Program) (x : String × DataW Unit) : Option (Nat × Nat × List AV) :=
 (P.globalNamed x.1).bind fun g => (P.globals[g]?).bind fun gl => (((begin P (fun _ _ => 0) default).world.heap[g]?).bind Obj.row?).bind fun r => (flatD P 12 gl.type x.2).bind fun vs =>
  bif Nat.blt g gN && Nat.blt g P.globals.size && vs.all AV.isCell then some (g, r.2, vs) else none
noncomputable def firstL (P : Program) (laid : List (String × DataW Unit)) : List (Nat × Nat × List AV) := laid.filterMap (firstG P)
theorem laid_first {P : Program} {W : World} (hS : W.ShapedOpen P) : ∀ {laid : List (String × DataW Unit)} {ps : List MemPlace}, DataW.LaidVars P W laid ps → ∀ y ∈ firstL P laid, y.1 < gN ∧ (∃ cs, W.heap[y.1]? = some (.cells cs y.2.1) ∧ ∀ π, VRs π y.2.2 cs.toList) ∧ y.2.2.all AV.isCell = true
 | [], _, _, y, hy => by cases hy
 | (n, d) :: laid, ps, hL, y, hy => by
  obtain ⟨g, t, cs, fuel, p, q, h1, h2, h3, h4, h5, _⟩ := hL
  unfold firstL at hy
  rw [List.filterMap_cons] at hy
  cases hf : firstG P (n, d) with
  | none =>
   rw [hf] at hy
   exact laid_first hS h5 y hy
  | some y0 =>
   rw [hf] at hy
   rcases List.mem_cons.1 hy with rfl | hy
   ·unfold firstG at hf
    rw [h1] at hf
    simp only [Option.bind_some] at hf
    cases hgl : P.globals[g]? with
    | none => rw [hgl] at hf; cases hf
    | some gl =>
     rw [hgl] at hf h2
     simp only [Option.bind_some, Option.map_some, Option.some.injEq] at hf h2
     cases hr : ((begin P (fun _ _ => 0) default).world.heap[g]?).bind Obj.row? with
     | none => rw [hr] at hf; cases hf
     | some r =>
      rw [hr] at hf
      simp only [Option.bind_some] at hf
      cases hfl : flatD P 12 gl.type d with
      | none => rw [hfl] at hf; cases hf
      | some vs =>
       rw [hfl] at hf
       simp only [Option.bind_some] at hf
       rw [Bool.cond_eq_ite] at hf
       split at hf
       ·rename_i hc
        cases hf
        simp only [Bool.and_eq_true, Nat.blt_eq] at hc
        obtain ⟨⟨c1, c2⟩, c3⟩ := hc
        obtain ⟨cs', k1, k2, _⟩ := hS.1 g r.1 r.2 c2 hr
        have hcs : cs' = cs := by
         unfold World.var? at h3
         rw [h1] at h3
         simp only [Option.bind_some, k1, Option.some.injEq] at h3
         exact h3
        subst hcs
        refine ⟨c1, ⟨cs', k1, fun π => ?_⟩, c3⟩
        rw [h2] at hfl
        exact flatD_sound hfl h4 rfl
       ·cases hf
   ·exact laid_first hS h5 y hy
theorem shaped_size {P : Program} {W : World} (hS : W.ShapedOpen P) {g : Nat} (hg : gN = g + 1) (hlt : g < P.globals.size) {r : Array Value × TypeId} (hr : ((begin P (fun _ _ => 0) default).world.heap[g]?).bind Obj.row? = some r) : gN ≤ W.heap.size := by
 obtain ⟨cs, k1, _⟩ := hS.1 g r.1 r.2 hlt hr
 have := (Array.getElem?_eq_some_iff.1 k1).1
 omega
end Go.Proofs.YtnpkdiffpgcbhaaGreatDoor.Ev
namespace Go.Proofs.YtnpkdiffpgcbhaaGreatDoor.Ev
open Go Go.RowKit
section
variable {P : Program} {B : Nat} {π π' : Pi} {H Hin H' HB : Hp} {w w' : World}
end
theorem beqs_eq : ∀ {l m : List AV}, AV.beqs l m = true → l = m
 | [], [], _ => rfl
 | [], _ :: _, h => by simp [AV.beqs] at h
 | _ :: _, [], h => by simp [AV.beqs] at h
 | x :: l, y :: m, h => by
  rw [AV.beqs, Bool.and_eq_true] at h
  rw [AV.beq_eq _ _ h.1, beqs_eq h.2]
theorem knId_ok (P : Program) : KnOk P (fun cf => cf) := fun _ h => h
section
variable {P : Program}
end
end Go.Proofs.YtnpkdiffpgcbhaaGreatDoor.Ev
namespace Go.Proofs.YtnpkdiffpgcbhaaGreatDoor.Ev
open Go Go.RowKit
end Go.Proofs.YtnpkdiffpgcbhaaGreatDoor.Ev
namespace Go.Proofs.YtnpkdiffpgcbhaaGreatDoor.Ev
open Go Go.RowKit
section
variable {P : Program} {B : Nat} {π π' : Pi} {H H' : Hp} {w w' : World}
end
end Go.Proofs.YtnpkdiffpgcbhaaGreatDoor.Ev
