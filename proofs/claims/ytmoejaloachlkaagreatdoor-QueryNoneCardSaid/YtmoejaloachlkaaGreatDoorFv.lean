/- The evaluator's soundness, 27: operations over maps; small builtins. -/
import Derived.Test.YtmoejaloachlkaaGreatDoorFu
import Derived.Lib.Bytealg
import Derived.Lib.MakeNoZero
namespace Go.Proofs.YtmoejaloachlkaaGreatDoor.Ev
open Go Go.RowKit

section
variable {P : Program} {B : Nat} {π : Pi} {H H' : Hp} {w : World} {r : T AV} {a : Act} {v : AV}
theorem mapUpd_run (hH : HRel π B H w) (hR : RR π r a.tmps) {t : TypeId} {m k x : Operand} {c : OR}
    (hc : c = match opnd r m, opnd r k, opnd r x with
      | some m, some k, some v => (match mapUpd P t m k v H with
        | some h' => OR.val undA h'
        | none => .bad "mapUpdate")
      | _, _, _ => .bad "mapUpdate") : ORun P B π H w (do Instr.mapUpdate t (a.eval m) (a.eval k) (a.eval x); pure .skip) c := by
  subst hc
  cases h1 : opnd r m with
  | none => trivial
  | some m' =>
    cases h2 : opnd r k with
    | none => trivial
    | some k' =>
      cases h3 : opnd r x with
      | none => trivial
      | some x' =>
        simp only
        cases h4 : mapUpd P t m' k' x' H with
        | none => trivial
        | some H1 =>
          obtain ⟨w', k1, k2⟩ := mapUpd_sound (P := P) hH (opnd_sound hH hR h1) (opnd_sound hH hR h2) (opnd_sound hH hR h3) h4
          exact OVal.unit k1 k2
theorem insert_run (hH : HRel π B H w) (hR : RR π r a.tmps) {t : TypeId} {m k x : Operand} : ORun P B π H w (do Instr.mapUpdate t (a.eval m) (a.eval k) (a.eval x); pure .skip) (opInsert t m k x P r H) := by
  unfold opInsert
  cases h1 : opnd r m with
  | none => trivial
  | some m' =>
    cases h2 : opnd r k with
    | none => trivial
    | some k' =>
      cases h3 : opnd r x with
      | none => trivial
      | some x' =>
        simp only
        cases h4 : mapUpd P t m' k' x' H with
        | none => trivial
        | some H1 =>
          obtain ⟨w', k1, k2⟩ := mapUpd_sound (P := P) hH (opnd_sound hH hR h1) (opnd_sound hH hR h2) (opnd_sound hH hR h3) h4
          exact OVal.unit k1 k2
theorem range_run (hH : HRel π B H w) (hR : RR π r a.tmps) {t : TypeId} {x : Operand} : ORun P B π H w (do let y ← Instr.range t (a.eval x); pure (.value y)) (opRange t x P r H) := by
  refine ORun.plain ?_ fun v H' e => range_sound hH hR e
  unfold opRange
  split
  · trivial
  · split <;> trivial
  · trivial
theorem next_op_run (hH : HRel π B H w) (hR : RR π r a.tmps) {x : Operand} {s : Bool} {ty : TypeId} : ORun P B π H w (do let y ← Instr.next (a.eval x) s ty; pure (.value y)) (opNext x s P r H) := by
  obtain ⟨h1, h2, h3⟩ := next_sound (P := P) (s := s) (ty := ty) (x := x) hH hR
  rcases h3 _ rfl with ⟨ww, e⟩ | ⟨v, H', e⟩ | ⟨l, e⟩
  · rw [e]; trivial
  · rw [e]; exact h1 v H' e
  · rw [e]; exact h2 l e
theorem entry_run (hH : HRel π B H w) (hR : RR π r a.tmps) {x : Operand} : ORun P B π H w (do let y ← Instr.entry (a.eval x); pure (.value y)) (opEntry x P r H) := by
  refine ORun.plain ?_ fun v H' e => entry_sound hH hR e
  unfold opEntry
  split
  · split
    · split
      · rw [Bool.cond_eq_ite]
        split
        · split <;> trivial
        · trivial
      · trivial
    · trivial
  · trivial
/-! ### len, cap, min, max, clear -/
theorem run_builtinV {s : Sem Value} {cv : Value} (h : s.run P w = .ok cv w) : (do let y ← s; pure (.value y) : Sem Next).run P w = .ok (.value cv) w := by rw [Sem.run_bind, h]; rfl
theorem lenT_eq {t : TypeId} : (lenT P t = .str → P.underlying t = some .string) ∧ (lenT P t = .sl → ∃ e, P.underlying t = some (.slice e)) := by
  unfold lenT
  split
  · rename_i h; exact ⟨fun _ => h, fun h => (by cases h)⟩
  · rename_i e h; exact ⟨fun h => (by cases h), fun _ => ⟨e, h⟩⟩
  · exact ⟨fun h => (by cases h), fun h => (by cases h)⟩
theorem lenA_sound (hH : HRel π B H w) {t u : TypeId} {ts : Array TypeId} {x : AV} {cx : Value} {n : Nat} {args : Array Value} (ht : ts[0]? = some t) (hx : VR π x cx) (ha : args[0]? = some cx) (h : lenA P t x H = some n) : (Builtin.len_ ts u args).run P w = .ok (.int .i64 n) w := by
  unfold Builtin.len_
  simp only [ht, ha]
  unfold lenA at h
  cases hl : lenT P t with
  | str =>
    rw [hl] at h
    have h : avStr x none (fun n _ => some n) = some n := h
    obtain ⟨m, v, rfl, h2⟩ := avStr_eqO h
    cases h2
    rw [Sem.run_bind, run_underlying (lenT_eq.1 hl), Result.andThen_ok]
    cases hx; rfl
  | sl =>
    rw [hl] at h
    have h : avSl x (lenZ x) (fun _ _ n _ _ _ => some n) = some n := h
    obtain ⟨e, hu⟩ := lenT_eq.2 hl
    rw [Sem.run_bind, run_underlying hu, Result.andThen_ok]
    cases x <;> first | (cases h; cases hx; rfl) | (exfalso; cases h; done)
  | other =>
    rw [hl] at h
    replace h : lenO P t x H = some n := h
    unfold lenO at h
    split at h
    · rename_i m e hu
      cases h
      rw [Sem.run_bind, run_underlying hu, Result.andThen_ok]
      cases hx <;> rfl
    · rename_i kt vt hu
      cases h
      rw [Sem.run_bind, run_underlying hu, Result.andThen_ok]
      cases hx; rfl
    · rename_i kt vt b hu
      split at h
      · rename_i es c hb
        cases h
        rw [Sem.run_bind, run_underlying hu, Result.andThen_ok]
        obtain ⟨mm, z, l, es', a1, a2, a3, a4, _⟩ := hH.map hb
        cases hx with
        | map _ m' z' hp =>
          rw [hp] at a1; cases a1
          simp only [Sem.run_bind, run_getObj_map a2, Result.andThen_ok, Sem.run_pure]
          rw [a3.length_eq, a4.length]; rfl
      · cases h
    · rename_i e hu
      split at h
      · rename_i m e' hu2
        cases h
        rw [Sem.run_bind, run_underlying hu, Result.andThen_ok]
        cases hx
        simp only [Sem.run_bind, run_underlying hu2, Result.andThen_ok, Sem.run_pure]
        rfl
      · cases h
    · cases h
theorem minA_sound (mx : Bool) : ∀ {l : List AV} {vs : List Value} {x : AV} {cx : Value}, VR π x cx → VRs π l vs → minA mx x l = some v → ∃ cv, (vs.foldlM (if mx then Builtin.max2 else Builtin.min2) cx).run P w = .ok cv w ∧ VR π v cv
  | [], vs, x, cx, hx, hl, h => by
    cases hl
    unfold minA at h
    cases h
    exact ⟨cx, rfl, hx⟩
  | y :: l, vs, x, cx, hx, hl, h => by
    cases hl with
    | cons _ cy _ vs' hy hl' =>
      cases x <;> cases y <;> first | (unfold minA at h; cases h; done) | skip
      rename_i k n k' m
      unfold minA at h
      cases hx
      cases hy
      rw [List.foldlM_cons]
      cases mx with
      | true =>
        have e : (Builtin.max2 (.int k n) (.int k' m)).run P w = .ok (.int k (if m > n then m else n)) w := rfl
        obtain ⟨cv, h1, h2⟩ := minA_sound true (x := .int k (bif iLt n m then m else n)) (cx := .int k (if m > n then m else n)) (by
          rw [iLt_iff]
          by_cases hlt : n < m
          · rw [decide_eq_true hlt, cond_true, if_pos hlt]; exact .int _ _
          · rw [decide_eq_false hlt, cond_false, if_neg hlt]; exact .int _ _) hl' h
        refine ⟨cv, ?_, h2⟩
        rw [Sem.run_bind]
        show Result.andThen (Sem.run P (Builtin.max2 (.int k n) (.int k' m)) w) _ = _
        rw [e]; exact h1
      | false =>
        have e : (Builtin.min2 (.int k n) (.int k' m)).run P w = .ok (.int k (if m < n then m else n)) w := rfl
        obtain ⟨cv, h1, h2⟩ := minA_sound false (x := .int k (bif iLt m n then m else n)) (cx := .int k (if m < n then m else n)) (by
          rw [iLt_iff]
          by_cases hlt : m < n
          · rw [decide_eq_true hlt, cond_true, if_pos hlt]; exact .int _ _
          · rw [decide_eq_false hlt, cond_false, if_neg hlt]; exact .int _ _) hl' h
        refine ⟨cv, ?_, h2⟩
        rw [Sem.run_bind]
        show Result.andThen (Sem.run P (Builtin.min2 (.int k n) (.int k' m)) w) _ = _
        rw [e]; exact h1

/-! ### Functions without a body -/
def extName (n : String) : Bool := n == "internal/bytealg.IndexByteString" || n == "internal/bytealg.CountString" || n == "internal/bytealg.abigen_runtime_cmpstring" || n == "internal/abi.NoEscape" || n == "maps.clone" || n == "math/bits.Add64" || n == "internal/bytealg.MakeNoZero"
/-- The model's table of functions without a body has no other row for these. -/
def extOk (P : Program) : Bool := P.funcs.toList.all fun fn => fn.body.isSome || !extName fn.name || (Extern.findNext fn).isNone
theorem find_indexByte {fn : Func} (h : fn.name = "internal/bytealg.IndexByteString") : Extern.find fn = some Extern.BytealgIndexByte.indexByte := by
  unfold Extern.find; rw [h]; kernel_rfl
theorem find_count {fn : Func} (h : fn.name = "internal/bytealg.CountString") : Extern.find fn = some Extern.BytealgCount.count := by
  unfold Extern.find; rw [h]; kernel_rfl
theorem find_cmp {fn : Func} (h : fn.name = "internal/bytealg.abigen_runtime_cmpstring") : Extern.find fn = some Extern.BytealgCompare.compare := by
  unfold Extern.find; rw [h]; kernel_rfl
theorem find_noEscape {fn : Func} (h : fn.name = "internal/abi.NoEscape") : Extern.find fn = some Extern.AbiNoEscape.same := by
  unfold Extern.find; rw [h]; kernel_rfl
theorem find_clone {fn : Func} (h : fn.name = "maps.clone") : Extern.find fn = some Extern.MapsClone.clone := by
  unfold Extern.find; rw [h]; kernel_rfl
theorem find_makeNoZero {fn : Func} (h : fn.name = "internal/bytealg.MakeNoZero") : Extern.find fn = some (Extern.BytealgMakeNoZero.makeNoZero fn.params fn.resultTypes) := by
  unfold Extern.find; rw [h]; kernel_rfl
end
end Go.Proofs.YtmoejaloachlkaaGreatDoor.Ev
