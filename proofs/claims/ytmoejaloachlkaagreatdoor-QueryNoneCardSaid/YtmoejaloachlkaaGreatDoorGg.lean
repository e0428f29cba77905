/- The evaluator's soundness, 38: the first heap: what is listed of package-level variables; a closed call. -/
import Derived.Test.YtmoejaloachlkaaGreatDoorGf
import Derived.OpenShut
import Derived.ChangeArms
import GoSem.ClaimJoined
import Derived.Below
namespace Go.Proofs.YtmoejaloachlkaaGreatDoor.Ev
open Go Go.RowKit

/-! ### What a reading tells of cells -/
def flatL (fl : TypeId → DataW Unit → Option (List AV)) (P : Program) : Nat → List (Nat × TypeId × DataW Unit) → Option (List AV × Nat)
  | o, [] => some ([], o)
  | o, (off, t, d) :: r => bif Nat.beq off o then (fl t d).bind fun l => (flatL fl P (o + P.cellsOf t) r).map fun x => (l ++ x.1, x.2) else none
def flatD (P : Program) : Nat → TypeId → DataW Unit → Option (List AV)
  | 0, _, _ => none
  | n + 1, t, d => match P.underlying t, d with
    | some (.int k), .lit (.int _ m) => some [.int k m]
    | some .bool, .lit (.bool b) => some [.bool b]
    | some .string, .lit (.string s) => some [.str s.length (natOf s)]
    | some (.array m e), .agg ds => bif Nat.beq ds.length m then (flatL (flatD P n) P 0 (ds.zipIdx.map fun x => (x.2 * P.cellsOf e, e, x.1))).bind fun x => bif Nat.beq x.2 (P.cellsOf t) then some x.1 else none else none
    | some (.struct fs), .agg ds => bif Nat.beq ds.length fs.size then (flatL (flatD P n) P 0 ((fs.toList.zip ds).map fun x => (x.1.offset, x.1.type, x.2))).bind fun x => bif Nat.beq x.2 (P.cellsOf t) then some x.1 else none else none
    | some (.interface _), .iface _ _ => some [.opi]
    | some (.interface _), .nil => some [.nili]
    | _, _ => none
section
variable {P : Program} {π : Pi} {w : World} {fl : TypeId → DataW Unit → Option (List AV)} {fuel : Nat}
theorem flatL_sound {cs : List Value} (hfl : ∀ (t : TypeId) (d : DataW Unit) (l : List AV) (cs : List Value) (x : DataW Unit × List MemPlace), fl t d = some l → DataW.trod (fun _ => ()) P w 0 (fun _ => true) false fuel t cs = some x → x.1 = d → VRs π l cs) :
    ∀ (its : List (Nat × TypeId × DataW Unit)) (o : Nat) (r : List AV × Nat), (∀ it ∈ its, ∃ x, DataW.trod (fun _ => ()) P w 0 (fun _ => true) false fuel it.2.1 ((cs.drop it.1).take (P.cellsOf it.2.1)) = some x ∧ x.1 = it.2.2) → flatL fl P o its = some r → cs.length ≤ r.2 → VRs π r.1 (cs.drop o)
  | [], o, r, _, h, hl => by
    cases h
    rw [List.drop_of_length_le hl]
    exact .nil
  | (off, t, d) :: its, o, r, hx, h, hl => by
    unfold flatL at h
    rw [Bool.cond_eq_ite] at h
    split at h
    · rename_i ho
      have ho : off = o := Nat.eq_of_beq_eq_true ho
      subst ho
      cases h1 : fl t d with
      | none => rw [h1] at h; cases h
      | some l =>
        rw [h1] at h
        simp only [Option.bind_some] at h
        cases h2 : flatL fl P (off + P.cellsOf t) its with
        | none => rw [h2] at h; cases h
        | some r2 =>
          rw [h2] at h
          cases h
          obtain ⟨x, k1, k2⟩ := hx _ List.mem_cons_self
          have q1 := hfl t d l _ x h1 k1 k2
          have q2 := flatL_sound (cs := cs) hfl its (off + P.cellsOf t) r2 (fun it hi => hx it (List.mem_cons_of_mem _ hi)) h2 hl
          have := q1.append q2
          rwa [← List.drop_drop, List.take_append_drop] at this
    · cases h
theorem trod_iface {t : TypeId} {ms : Array (String × TypeId)} {cs : List Value} {x : DataW Unit × List MemPlace} (hu : P.underlying t = some (.interface ms)) (ht : DataW.trod (fun _ => ()) P w 0 (fun _ => true) false fuel t cs = some x) :
    (cs = [.nilIface] ∧ x = (.nil, [])) ∨ ∃ u v name y, cs = [.iface u v] ∧ x.1 = .iface name y := by
  cases fuel with
  | zero => simp [DataW.trod] at ht
  | succ m =>
    unfold DataW.trod at ht
    rw [hu] at ht
    cases cs with
    | nil => simp at ht
    | cons c cs =>
      cases cs with
      | cons c2 cs => cases c <;> simp at ht
      | nil =>
        cases c <;> first | (simp at ht; done) | skip
        · rename_i u v
          refine .inr ⟨u, v, ?_⟩
          cases hn : P.typeName? 3 u with
          | none => simp [hn] at ht
          | some name =>
            simp only [hn] at ht
            cases hq : DataW.trod (fun _ => ()) P w 0 (fun _ => true) false m u v.cells.toList with
            | none => rw [hq] at ht; cases ht
            | some y => rw [hq] at ht; cases ht; exact ⟨name, y.1, rfl, rfl⟩
        · cases ht; exact .inl ⟨rfl, rfl⟩
theorem flatD_sound : ∀ {n : Nat} {t : TypeId} {d : DataW Unit} {l : List AV} {cs : List Value} {x : DataW Unit × List MemPlace} {fuel : Nat}, flatD P n t d = some l → DataW.trod (fun _ => ()) P w 0 (fun _ => true) false fuel t cs = some x → x.1 = d → VRs π l cs
  | 0, _, _, _, _, _, _, h, _, _ => by cases h
  | n + 1, t, d, l, cs, x, fuel, h, ht, hd => by
    unfold flatD at h
    split at h
    · rename_i k k' m hu
      cases h
      obtain ⟨m', rfl, rfl, _⟩ := DataW.trod_int hu ht
      cases hd
      exact .cons _ _ _ _ (.int _ _) .nil
    · rename_i b hu
      cases h
      obtain ⟨m', rfl, rfl⟩ := DataW.trod_bool hu ht
      cases hd
      exact .cons _ _ _ _ (.bool _) .nil
    · rename_i s hu
      cases h
      obtain ⟨m', rfl, rfl, _⟩ := DataW.trod_string hu ht
      cases hd
      have := VR.str (π := π) m'
      have e : m'.size = m'.data.toList.length := by simp
      rw [e] at this
      exact .cons _ _ _ _ this .nil
    · rename_i m e ds hu
      rw [Bool.cond_eq_ite] at h
      split at h
      · rename_i hlen
        have hlen : ds.length = m := Nat.eq_of_beq_eq_true hlen
        cases h1 : flatL (flatD P n) P 0 (ds.zipIdx.map fun x => (x.2 * P.cellsOf e, e, x.1)) with
        | none => rw [h1] at h; cases h
        | some r =>
          rw [h1] at h
          simp only [Option.bind_some] at h
          rw [Bool.cond_eq_ite] at h
          split at h
          · rename_i hr
            have hr : r.2 = P.cellsOf t := Nat.eq_of_beq_eq_true hr
            cases h
            obtain ⟨xs, f, rfl, rfl, k1, k2, k3⟩ := DataW.trod_array hu ht
            cases hd
            have := flatL_sound (P := P) (π := π) (w := w) (cs := cs) (fuel := f) (fl := flatD P n) (fun t d l cs x a b c => flatD_sound a b c) _ 0 r (by
              intro it hi
              obtain ⟨⟨d, i⟩, hm, rfl⟩ := List.mem_map.1 hi
              obtain ⟨_, hm2, hm3⟩ := List.mem_zipIdx hm
              simp only at hm2 hm3 ⊢
              have hil : i < xs.length := by simpa using hm2
              have := k3 i (by rw [← k2]; exact hil)
              refine ⟨xs[i], by rw [this]; simp [hil], ?_⟩
              rw [hm3]
              simp) h1 (by rw [hr, k1]; exact Nat.le_refl _)
            simpa using this
          · cases h
      · cases h
    · rename_i fs ds hu
      rw [Bool.cond_eq_ite] at h
      split at h
      · rename_i hlen
        have hlen : ds.length = fs.size := Nat.eq_of_beq_eq_true hlen
        cases h1 : flatL (flatD P n) P 0 ((fs.toList.zip ds).map fun x => (x.1.offset, x.1.type, x.2)) with
        | none => rw [h1] at h; cases h
        | some r =>
          rw [h1] at h
          simp only [Option.bind_some] at h
          rw [Bool.cond_eq_ite] at h
          split at h
          · rename_i hr
            have hr : r.2 = P.cellsOf t := Nat.eq_of_beq_eq_true hr
            cases h
            obtain ⟨xs, f, rfl, rfl, k1, k2, k3⟩ := DataW.trod_struct hu ht
            cases hd
            have := flatL_sound (P := P) (π := π) (w := w) (cs := cs) (fuel := f) (fl := flatD P n) (fun t d l cs x a b c => flatD_sound a b c) _ 0 r (by
              intro it hi
              obtain ⟨⟨fd, d⟩, hm, rfl⟩ := List.mem_map.1 hi
              obtain ⟨i, hi2⟩ := List.mem_iff_getElem?.1 hm
              rw [List.getElem?_zip_eq_some] at hi2
              obtain ⟨j1, j2⟩ := hi2
              simp only at j1 j2 ⊢
              have := k3 i fd (by rw [← Array.getElem?_toList]; exact j1)
              rw [List.getElem?_map] at j2
              cases hx : xs[i]? with
              | none => rw [hx] at j2; cases j2
              | some y =>
                rw [hx] at j2 this
                refine ⟨y, this, by simpa using j2⟩) h1 (by rw [hr, k1]; exact Nat.le_refl _)
            simpa using this
          · cases h
      · cases h
    · rename_i ps s d hu
      cases h
      rcases trod_iface hu ht with ⟨rfl, rfl⟩ | ⟨u, v, name, y, rfl, hx⟩
      · cases hd
      · exact .cons _ _ _ _ (.opi _ _) .nil
    · rename_i ps hu
      cases h
      rcases trod_iface hu ht with ⟨rfl, rfl⟩ | ⟨u, v, name, y, rfl, hx⟩
      · exact .cons _ _ _ _ .nili .nil
      · rw [hx] at hd; cases hd
    · cases h
end

/-! ### The first heap -/
noncomputable def h0T (l : List (Nat × Nat × List AV)) : T Blk := List.rec .e (fun y _ ih => ih.put (some (.cells (lays 0 (y.2.2.map some) .e) none y.2.2.length y.2.1 0 0 false [])) (Pos.of y.1)) l
noncomputable def h0 (l : List (Nat × Nat × List AV)) : Hp := ⟨h0T l, gN⟩
theorem h0T_get : ∀ {l : List (Nat × Nat × List AV)} {g : Nat} {x : Blk}, (h0T l).get (Pos.of g) = some x → ∃ y ∈ l, y.1 = g ∧ x = .cells (lays 0 (y.2.2.map some) .e) none y.2.2.length y.2.1 0 0 false []
  | [], g, x, h => by
    have h : (T.e : T Blk).get (Pos.of g) = some x := h
    rw [T.get_e] at h
    cases h
  | y :: l, g, x, h => by
    have h : (Hp.set ⟨h0T l, 0⟩ y.1 (.cells (lays 0 (y.2.2.map some) .e) none y.2.2.length y.2.1 0 0 false [])).get g = some x := h
    rw [Hp.get_set] at h
    split at h
    · rename_i e
      cases h
      exact ⟨y, List.mem_cons_self, e.symm, rfl⟩
    · obtain ⟨y', k1, k2⟩ := h0T_get (l := l) (g := g) (x := x) h
      exact ⟨y', List.mem_cons_of_mem _ k1, k2⟩
noncomputable def pi0 (W : World) : Pi := fun g => bif Nat.blt g gN then (match W.heap[g]? with
  | some (.cells arr _ _) => some (g, arr.size)
  | _ => some (g, 0)) else none
theorem pi0_some {W : World} {g : Nat} {p : Nat × Nat} (h : pi0 W g = some p) : g < gN ∧ p.1 = g := by
  unfold pi0 at h
  rw [Bool.cond_eq_ite] at h
  split at h
  · rename_i hg
    refine ⟨by simpa [Nat.blt_eq] using hg, ?_⟩
    split at h <;> cases h <;> rfl
  · cases h
theorem HRel.first {W : World} {l : List (Nat × Nat × List AV)} (hsz : gN ≤ W.heap.size) (hl : ∀ y ∈ l, y.1 < gN ∧ (∃ cs, W.heap[y.1]? = some (.cells cs y.2.1) ∧ ∀ π, VRs π y.2.2 cs.toList) ∧ y.2.2.all AV.isCell = true) : HRel (pi0 W) W.heap.size (h0 l) W := by
  refine ⟨Nat.le_refl _, ?_, ?_, ?_, ?_⟩
  · intro g hg
    unfold pi0
    have : Nat.blt g gN = true := by rw [Nat.blt_eq]; exact hg
    rw [this, cond_true]
    split <;> exact ⟨_, rfl⟩
  · intro b x hx
    obtain ⟨y, hy, rfl, rfl⟩ := h0T_get hx
    obtain ⟨k1, ⟨cs, k2, k3⟩, k4⟩ := hl y hy
    have hp : pi0 W y.1 = some (y.1, cs.size) := by
      unfold pi0
      have : Nat.blt y.1 gN = true := by rw [Nat.blt_eq]; exact k1
      rw [this, cond_true, k2]
    refine ⟨y.1, cs.size, _, hp, k2, ?_, fun h => by cases h⟩
    have hlen : y.2.2.length = cs.size := by rw [(k3 (pi0 W)).length]; simp
    exact BR_row (π := pi0 W) (by omega) (fun j v hj hv => by
      rw [List.getElem?_map] at hv
      cases hv2 : y.2.2[j]? with
      | none => rw [hv2] at hv; cases hv
      | some u =>
        rw [hv2] at hv
        cases hv
        obtain ⟨cv, a, b⟩ := (k3 (pi0 W)).get hv2
        exact ⟨cv, by rw [← Array.getElem?_toList]; exact a, b⟩) (isCell_one (k3 (pi0 W)) k4) (0, 0) (fun h => by cases h)
  · intro b p hp
    obtain ⟨k1, k2⟩ := pi0_some hp
    exact ⟨k1, by omega⟩
  · intro b x b' x' c z z' _ _ hp hp' hne
    have h1 := (pi0_some hp).2
    have h2 := (pi0_some hp').2
    simp only at h1 h2
    exact absurd (h1.symm.trans h2) hne
def retTrue : CR → Bool
  | .ret (.bool true) _ => true
  | _ => false
theorem closed_sound {P : Program} (hm : P.follows .mixedOrders = true) (hX : extOk P = true) {kn : CallF → CallF} (hk : KnOk P kn) {n f : Nat} {l : List (Nat × Nat × List AV)} (hE : retTrue (callB P (codeN P kn n) f [] (h0 l)) = true)
    {W : World} (hsz : gN ≤ W.heap.size) (hl : ∀ y ∈ l, y.1 < gN ∧ (∃ cs, W.heap[y.1]? = some (.cells cs y.2.1) ∧ ∀ π, VRs π y.2.2 cs.toList) ∧ y.2.2.all AV.isCell = true) :
    Calls P f #[] W fun e W' => e = .returned (.bool true) ∧ Below W.heap.size W W' := by
  have hH := HRel.first hsz hl
  have hok : (callB P (codeN P kn n) f [] (h0 l)).ok := by
    cases hc : callB P (codeN P kn n) f [] (h0 l) with
    | bad w => rw [hc] at hE; cases hE
    | _ => trivial
  refine (call_sound hm (opsOk hX) hk n _ _ _ _ f [] #[] hH .nil hok).mono fun e W' ho => ?_
  cases hc : callB P (codeN P kn n) f [] (h0 l) with
  | bad w => rw [hc] at hE; cases hE
  | pan c h => rw [hc] at hE; cases hE
  | ret v h =>
    rw [hc] at hE ho
    obtain ⟨π', cv, rfl, h1, h2⟩ := ho
    have hv : v = .bool true := by
      cases v <;> first | (cases hE; done) | skip
      rename_i b
      cases b
      · cases hE
      · rfl
    subst hv
    cases h1
    refine ⟨rfl, h2.out.1, h2.out.2.1, h2.out.2.2, h2.size, fun k hk => ?_⟩
    refine h2.fr k hk fun b x z hx hw _ => ?_
    obtain ⟨y, _, _, rfl⟩ := h0T_get hx
    cases hw
/-- What a seat's list gives. -/
noncomputable def firstG (P : Program) (x : String × DataW Unit) : Option (Nat × Nat × List AV) :=
  (P.globalNamed x.1).bind fun g => (P.globals[g]?).bind fun gl => (((begin P (fun _ _ => 0) default).world.heap[g]?).bind Obj.row?).bind fun r => (flatD P 12 gl.type x.2).bind fun vs =>
    bif Nat.blt g gN && Nat.blt g P.globals.size && vs.all AV.isCell then some (g, r.2, vs) else none
noncomputable def firstL (P : Program) (laid : List (String × DataW Unit)) : List (Nat × Nat × List AV) := laid.filterMap (firstG P)
theorem laid_first {P : Program} {W : World} (hS : W.ShapedOpen P) : ∀ {laid : List (String × DataW Unit)} {ps : List MemPlace}, DataW.LaidVars P W laid ps → ∀ y ∈ firstL P laid, y.1 < gN ∧ (∃ cs, W.heap[y.1]? = some (.cells cs y.2.1) ∧ ∀ π, VRs π y.2.2 cs.toList) ∧ y.2.2.all AV.isCell = true
  | [], _, _, y, hy => by cases hy
  | (n, d) :: laid, ps, hL, y, hy => by
    obtain ⟨g, t, cs, fuel, p, q, h1, h2, h3, h4, h5, _⟩ := hL
    unfold firstL at hy
    rw [List.filterMap_cons] at hy
    cases hf : firstG P (n, d) with
    | none =>
      rw [hf] at hy
      exact laid_first hS h5 y hy
    | some y0 =>
      rw [hf] at hy
      rcases List.mem_cons.1 hy with rfl | hy
      · unfold firstG at hf
        rw [h1] at hf
        simp only [Option.bind_some] at hf
        cases hgl : P.globals[g]? with
        | none => rw [hgl] at hf; cases hf
        | some gl =>
          rw [hgl] at hf h2
          simp only [Option.bind_some, Option.map_some, Option.some.injEq] at hf h2
          cases hr : ((begin P (fun _ _ => 0) default).world.heap[g]?).bind Obj.row? with
          | none => rw [hr] at hf; cases hf
          | some r =>
            rw [hr] at hf
            simp only [Option.bind_some] at hf
            cases hfl : flatD P 12 gl.type d with
            | none => rw [hfl] at hf; cases hf
            | some vs =>
              rw [hfl] at hf
              simp only [Option.bind_some] at hf
              rw [Bool.cond_eq_ite] at hf
              split at hf
              · rename_i hc
                cases hf
                simp only [Bool.and_eq_true, Nat.blt_eq] at hc
                obtain ⟨⟨c1, c2⟩, c3⟩ := hc
                obtain ⟨cs', k1, k2, _⟩ := hS.1 g r.1 r.2 c2 hr
                have hcs : cs' = cs := by
                  unfold World.var? at h3
                  rw [h1] at h3
                  simp only [Option.bind_some, k1, Option.some.injEq] at h3
                  exact h3
                subst hcs
                refine ⟨c1, ⟨cs', k1, fun π => ?_⟩, c3⟩
                rw [h2] at hfl
                exact flatD_sound hfl h4 rfl
              · cases hf
      · exact laid_first hS h5 y hy
theorem shaped_size {P : Program} {W : World} (hS : W.ShapedOpen P) {g : Nat} (hg : gN = g + 1) (hlt : g < P.globals.size) {r : Array Value × TypeId} (hr : ((begin P (fun _ _ => 0) default).world.heap[g]?).bind Obj.row? = some r) : gN ≤ W.heap.size := by
  obtain ⟨cs, k1, _⟩ := hS.1 g r.1 r.2 hlt hr
  have := (Array.getElem?_eq_some_iff.1 k1).1
  omega
end Go.Proofs.YtmoejaloachlkaaGreatDoor.Ev
