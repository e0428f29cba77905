/- A law for regions. Conditions: each theorem's own. -/
import Derived.Deep.RegionHeld3
namespace Go.Proofs.YtnpkdiffpgcbhaaGreatDoor
open Go
section
variable {P : Program} {ops : Array Oper} {Q : Exit → Act → World → Prop} {md : Region.Mode} {S : World → Prop} {E : List Nat}
def none0 (E : List Nat) (l : Array Bool) : Prop := ∀ e ∈ E, l.getD e false = false
def wpU (P : Program) (md : Region.Mode) (ops : Array Oper) (Q : Exit → Act → World → Prop) (S : World → Prop) (E : List Nat) : Nat → Array Bool → Act → World → Prop
 | 0, listed, a, w => Region.ready md ops listed = [] ∧ Q .normal a w
 | fuel + 1, listed, a, w =>
  (Region.ready md ops listed = [] → Q .normal a w) ∧
  ∀ i ∈ Region.ready md ops listed, wpOp P ops Q i (fun a' w' => (none0 E (listed.setIfInBounds i true) → S w') ∧ wpU P md ops Q S E fuel (listed.setIfInBounds i true) a' w') a w
theorem wpAny_of_U : ∀ (fuel : Nat) (listed : Array Bool) (a : Act) (w : World), wpU P md ops Q S E fuel listed a w → wpAny P md ops Q fuel listed a w
 | 0, _, _, _, h => h
 | fuel + 1, _, _, _, h => ⟨h.1, fun i hi => wpOp_mono (fun a' w' h' => wpAny_of_U fuel _ a' w' h'.2) (h.2 i hi)⟩
def closedAt (md : Region.Mode) (ops : Array Oper) (L : Array Bool) (i : Nat) : Bool :=
 (List.range ops.size).all fun j => j == i || L.getD j false || match ops[j]? with | some o => !(o.after.all fun e => !Region.binds md e || L.getD e.on false) | none => true
def without (md : Region.Mode) (ops : Array Oper) (i : Nat) : Nat → Array Bool → Array Bool
 | 0, l => l
 | n + 1, l => without md ops i n ((Region.ready md ops l).foldl (fun l j => if j == i then l else l.setIfInBounds j true) l)
theorem closedAt_spec {L : Array Bool} {i : Nat} (h : closedAt md ops L i = true) {j : Nat} {o : Oper} (ho : ops[j]? = some o) (hji : j ≠ i) (hall : ∀ e ∈ o.after, Region.binds md e = true → L.getD e.on false = true) : L.getD j false = true := by
 have hlt : j < ops.size := (Array.getElem?_eq_some_iff.1 ho).1
 have := List.all_eq_true.1 h j (List.mem_range.2 hlt)
 rw [ho] at this
 simp only [Bool.or_eq_true, beq_iff_eq, hji, false_or, Bool.not_eq_true'] at this
 rcases this with h1 | h1
 ·exact h1
 ·have h2 : (o.after.all fun e => !Region.binds md e || L.getD e.on false) = true := by
   rw [Array.all_eq_true']
   intro e he
   cases hb : Region.binds md e with
   | false => rfl
   | true => simpa using hall e he hb
  rw [h2] at h1
  cases h1
def Sub (l L : Array Bool) : Prop := ∀ k, l.getD k false = true → L.getD k false = true
theorem Sub.set {l L : Array Bool} (h : Sub l L) {j : Nat} (hj : L.getD j false = true) : Sub (l.setIfInBounds j true) L := by
 intro k hk
 by_cases e : j = k
 ·subst e; exact hj
 ·rw [getD_set_ne false e] at hk; exact h k hk
theorem Sub.none0 {l L : Array Bool} (h : Sub l L) (hE : ∀ e ∈ E, L.getD e false = false) : none0 E l := by
 intro e he
 cases hk : l.getD e false with
 | false => rfl
 | true => have := h e hk; rw [hE e he] at this; cases this
theorem none0.set {l : Array Bool} (h : none0 E l) {i : Nat} (hi : i ∉ E) : none0 E (l.setIfInBounds i true) := by
 intro e he
 rw [getD_set_ne false (fun q : i = e => hi (by rw [q]; exact he))]
 exact h e he
theorem wpU_first {i : Nat} {oi : Oper} {v : Value} (hi : ops[i]? = some oi) (hsel : ∀ (j : Nat) (o : Oper) cs b, ops[j]? = some o → o.op ≠ .select cs b)
  (hQ : ∀ c a w, Q (.panic c) (a.put oi.dst v) w → Q (.panic c) a w) {L : Array Bool} (hL : closedAt md ops L i = true) (hE : ∀ e ∈ E, L.getD e false = false) (hiE : i ∉ E) :
  ∀ (fuel : Nat) (listed : Array Bool) (a : Act) (w : World),
   (∀ j oj, ops[j]? = some oj → j ≠ i → listed.getD j true = false → (∀ e ∈ oj.after, Region.binds md e = true → e.on ≠ i) → oi.apart ops oj = true) →
   i ∈ Region.ready md ops listed → Sub listed L → YieldsIf P ops S oi v a → S w →
   wpU P md ops Q S E fuel (listed.setIfInBounds i true) (a.put oi.dst v) w → wpU P md ops Q S E (fuel + 1) listed a w := by
 intro fuel
 induction fuel with
 | zero =>
  intro listed a w _ hr _ hy hS H
  refine ⟨fun h => (by rw [h] at hr; cases hr), fun j hj => ?_⟩
  by_cases hji : j = i
  ·subst hji; exact hy.wpOp hi hS ⟨fun _ => hS, H⟩
  ·have := ready_mono hj hji
   rw [H.1] at this
   cases this
 | succ fuel ih =>
  intro listed a w hfree hr hsub hy hS H
  refine ⟨fun h => (by rw [h] at hr; cases hr), fun j hj => ?_⟩
  by_cases hji : j = i
  ·subst hji; exact hy.wpOp hi hS ⟨fun _ => hS, H⟩
  ·have h1 := H.2 j (ready_mono hj hji)
   obtain ⟨hjun, oj, hoj, hall⟩ := mem_ready.1 hj
   have hLj := closedAt_spec hL hoj hji (fun e he hb => hsub _ (hall e he hb))
   have hsub' := hsub.set hLj
   have hn : none0 E ((listed.setIfInBounds i true).setIfInBounds j true) := by
    rw [Array.setIfInBounds_comm _ _ (Ne.symm hji)]
    exact (hsub'.none0 hE).set hiE
   have hnot : ∀ e ∈ oj.after, Region.binds md e = true → e.on ≠ i := fun e he hb heq => by
    have h1 := hall e he hb
    have h0 := (mem_ready.1 hr).1
    rw [heq] at h1
    rcases Nat.lt_or_ge i listed.size with h' | h'
    ·simp [h'] at h0 h1; rw [h0] at h1; cases h1
    ·simp [Array.getElem?_eq_none h'] at h1
   have h2 := wpOp_putIf (S := S) hoj (hfree j oj hoj hji hjun hnot) (fun cs b => hsel i oi cs b hi) (fun cs b => hsel j oj cs b hoj) hQ hy h1
   refine wpOp_mono (fun a' w' h3 => ⟨fun _ => h3.2.1 hn, ih (listed.setIfInBounds j true) a' w' (fun k ok hk hki hun hno => ?_) (ready_mono hr (Ne.symm hji)) hsub' h3.1 (h3.2.1 hn) ?_⟩) h2
   ·refine hfree k ok hk hki ?_ hno
    by_cases hjk : j = k
    ·subst hjk; exact hjun
    ·rw [getD_set_ne true hjk] at hun; exact hun
   ·rw [Array.setIfInBounds_comm _ _ hji]
    exact h3.2.2
def subB (l L : Array Bool) : Bool := (List.range l.size).all fun k => !l.getD k false || L.getD k false
theorem subB_spec {l L : Array Bool} (h : subB l L = true) : Sub l L := by
 intro k hk
 have hlt : k < l.size := by
  rcases Nat.lt_or_ge k l.size with h' | h'
  ·exact h'
  ·simp [Array.getElem?_eq_none h'] at hk
 have := List.all_eq_true.1 h k (List.mem_range.2 hlt)
 rw [hk] at this
 simpa using this
theorem wpU_take (i : Nat) {oi : Oper} {v : Value} {fuel : Nat} {listed : Array Bool} {a : Act} {w : World} (hi : ops[i]? = some oi)
  (hs : Region.noSelect ops = true) (hf : Region.free md ops listed i = true) (hr : (Region.ready md ops listed).contains i = true)
  (hL : (closedAt md ops (without md ops i ops.size (Array.replicate ops.size false)) i && subB listed (without md ops i ops.size (Array.replicate ops.size false)) && E.all (fun e => !(without md ops i ops.size (Array.replicate ops.size false)).getD e false && e != i)) = true)
  (hQ : ∀ c a w, Q (.panic c) (a.put oi.dst v) w → Q (.panic c) a w) (hy : YieldsIf P ops S oi v a) (hS : S w)
  (h : wpU P md ops Q S E fuel (listed.setIfInBounds i true) (a.put oi.dst v) w) : wpU P md ops Q S E (fuel + 1) listed a w := by
 simp only [Bool.and_eq_true] at hL
 have hE := List.all_eq_true.1 hL.2
 exact wpU_first hi (Region.noSelect_spec hs) hQ hL.1.1 (fun e he => by have := hE e he; simp only [Bool.and_eq_true, Bool.not_eq_true'] at this; exact this.1)
  (fun he => by have := hE _ he; simp at this) fuel listed a w (Region.free_spec hi hf) (by simpa using hr) (subB_spec hL.1.2) hy hS h
theorem wpU_first0 {i : Nat} {oi : Oper} {v : Value} (hi : ops[i]? = some oi) (hsel : ∀ (j : Nat) (o : Oper) cs b, ops[j]? = some o → o.op ≠ .select cs b)
  (hQ : ∀ c a w, Q (.panic c) (a.put oi.dst v) w → Q (.panic c) a w) (hiE : i ∉ E) :
  ∀ (fuel : Nat) (listed : Array Bool) (a : Act) (w : World),
   (∀ j oj, ops[j]? = some oj → j ≠ i → listed.getD j true = false → (∀ e ∈ oj.after, Region.binds md e = true → e.on ≠ i) → oi.apart ops oj = true) →
   i ∈ Region.ready md ops listed → YieldsIf P ops (fun _ => True) oi v a → (none0 E listed → S w) →
   wpU P md ops Q S E fuel (listed.setIfInBounds i true) (a.put oi.dst v) w → wpU P md ops Q S E (fuel + 1) listed a w := by
 have back : ∀ {l : Array Bool}, none0 E (l.setIfInBounds i true) → none0 E l := fun {l} h e he => by
  have := h e he
  rwa [getD_set_ne false (fun q : i = e => hiE (by rw [q]; exact he))] at this
 intro fuel
 induction fuel with
 | zero =>
  intro listed a w _ hr hy hS H
  refine ⟨fun h => (by rw [h] at hr; cases hr), fun j hj => ?_⟩
  by_cases hji : j = i
  ·subst hji; exact hy.wpOp hi trivial ⟨fun hn => hS (back hn), H⟩
  ·have := ready_mono hj hji
   rw [H.1] at this
   cases this
 | succ fuel ih =>
  intro listed a w hfree hr hy hS H
  refine ⟨fun h => (by rw [h] at hr; cases hr), fun j hj => ?_⟩
  by_cases hji : j = i
  ·subst hji; exact hy.wpOp hi trivial ⟨fun hn => hS (back hn), H⟩
  ·have h1 := H.2 j (ready_mono hj hji)
   obtain ⟨hjun, oj, hoj, hall⟩ := mem_ready.1 hj
   have hnot : ∀ e ∈ oj.after, Region.binds md e = true → e.on ≠ i := fun e he hb heq => by
    have h1 := hall e he hb
    have h0 := (mem_ready.1 hr).1
    rw [heq] at h1
    rcases Nat.lt_or_ge i listed.size with h' | h'
    ·simp [h'] at h0 h1; rw [h0] at h1; cases h1
    ·simp [Array.getElem?_eq_none h'] at h1
   have h2 := wpOp_putIf (S := fun _ => True) hoj (hfree j oj hoj hji hjun hnot) (fun cs b => hsel i oi cs b hi) (fun cs b => hsel j oj cs b hoj) hQ hy h1
   refine wpOp_mono (fun a' w' h3 => ?_) h2
   have hS' : none0 E (listed.setIfInBounds j true) → S w' := fun hn => h3.2.1 (by rw [Array.setIfInBounds_comm _ _ (Ne.symm hji)]; exact hn.set hiE)
   refine ⟨hS', ih (listed.setIfInBounds j true) a' w' (fun k ok hk hki hun hno => ?_) (ready_mono hr (Ne.symm hji)) h3.1 hS' ?_⟩
   ·refine hfree k ok hk hki ?_ hno
    by_cases hjk : j = k
    ·subst hjk; exact hjun
    ·rw [getD_set_ne true hjk] at hun; exact hun
   ·rw [Array.setIfInBounds_comm _ _ hji]
    exact h3.2.2
theorem wpU_take0 (i : Nat) {oi : Oper} {v : Value} {fuel : Nat} {listed : Array Bool} {a : Act} {w : World} (hi : ops[i]? = some oi)
  (hs : Region.noSelect ops = true) (hf : Region.free md ops listed i = true) (hr : (Region.ready md ops listed).contains i = true) (hE : E.contains i = false)
  (hQ : ∀ c a w, Q (.panic c) (a.put oi.dst v) w → Q (.panic c) a w) (hy : YieldsIf P ops (fun _ => True) oi v a) (hS : none0 E listed → S w)
  (h : wpU P md ops Q S E fuel (listed.setIfInBounds i true) (a.put oi.dst v) w) : wpU P md ops Q S E (fuel + 1) listed a w :=
 wpU_first0 hi (Region.noSelect_spec hs) hQ (by simpa using hE) fuel listed a w (Region.free_spec hi hf) (by simpa using hr) hy hS h
theorem wpU_all {rs : List Nat} {fuel : Nat} {listed : Array Bool} {a : Act} {w : World} (hr : Region.ready md ops listed = rs) (hne : rs ≠ [])
  (h : ∀ i ∈ rs, wpOp P ops Q i (fun a' w' => (none0 E (listed.setIfInBounds i true) → S w') ∧ wpU P md ops Q S E fuel (listed.setIfInBounds i true) a' w') a w) : wpU P md ops Q S E (fuel + 1) listed a w :=
 ⟨fun h0 => absurd (hr ▸ h0) hne, hr ▸ h⟩
theorem wpU_done {fuel : Nat} {listed : Array Bool} {a : Act} {w : World} (hr : Region.ready md ops listed = []) (h : Q .normal a w) : wpU P md ops Q S E fuel listed a w := by
 cases fuel with
 | zero => exact ⟨hr, h⟩
 | succ f => exact ⟨fun _ => h, fun i hi => by rw [hr] at hi; cases hi⟩
def AllU (P : Program) (md : Region.Mode) (ops : Array Oper) (Q : Exit → Act → World → Prop) (S : World → Prop) (E : List Nat) (fuel : Nat) (listed : Array Bool) (a : Act) (w : World) (rs : List Nat) : Prop :=
 ∀ i ∈ rs, wpOp P ops Q i (fun a' w' => (none0 E (listed.setIfInBounds i true) → S w') ∧ wpU P md ops Q S E fuel (listed.setIfInBounds i true) a' w') a w
theorem AllU.nil {fuel : Nat} {listed : Array Bool} {a : Act} {w : World} : AllU P md ops Q S E fuel listed a w [] := fun _ h => by cases h
theorem wp_region_U {id : Nat} {a : Act} {w : World} (S : World → Prop) (E : List Nat) (hm : P.follows .mixedOrders = true) (hS : S w.drew)
  (h : S w.drew → wpU P .any ops Q S E ops.size (Array.replicate ops.size false) a w.drew) : (Code.region id ops true).wp P Q a w :=
 wp_region_any hm (wpAny_of_U _ _ _ _ (h hS))
theorem AllU.cons {fuel : Nat} {listed : Array Bool} {a : Act} {w : World} {i : Nat} {o : Oper} {rs : List Nat} (ho : ops[i]? = some o)
  (h : ∀ K' : Act → World → Prop, Shut (∀ a w, (none0 E (listed.setIfInBounds i true) → S w) → wpU P md ops Q S E fuel (listed.setIfInBounds i true) a w → K' a w) → if Region.wanted o (yielded ops a.tmps) = true then Oper.wp P o a w K' Q else K' (a.put o.dst undef) w)
  (hs : AllU P md ops Q S E fuel listed a w rs) : AllU P md ops Q S E fuel listed a w (i :: rs) := fun j hj => by
 rcases List.mem_cons.1 hj with rfl | hj
 ·exact wpOp_step ho (fun K' hK => h K' (fun a w hS hW => hK a w ⟨hS, hW⟩))
 ·exact hs j hj
theorem wpU_ready {rs : List Nat} {fuel : Nat} {listed : Array Bool} {a : Act} {w : World} (hr : Region.ready md ops listed = rs) (hne : rs ≠ [])
  (h : AllU P md ops Q S E fuel listed a w rs) : wpU P md ops Q S E (fuel + 1) listed a w := wpU_all hr hne h
end
end Go.Proofs.YtnpkdiffpgcbhaaGreatDoor
