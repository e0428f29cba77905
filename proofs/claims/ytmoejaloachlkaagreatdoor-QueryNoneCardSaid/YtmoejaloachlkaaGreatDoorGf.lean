/- The evaluator's soundness, 37: every operation. -/
import Derived.Test.YtmoejaloachlkaaGreatDoorGe
namespace Go.Proofs.YtmoejaloachlkaaGreatDoor.Ev
open Go Go.RowKit

section
variable {P : Program} {B : Nat} {π : Pi} {H H' : Hp} {w : World} {r : T AV} {a : Act}
theorem builtin_run (hH : HRel π B H w) {b : Builtin} {ts : Array TypeId} {u : TypeId} {cs : Array Bool} {as : List AV} {cargs : Array Value} (ha : VRs π as cargs.toList) : ORun P B π H w (builtin b ts u cs cargs) (builtinA P b ts as H) := by
  cases b <;> first | exact len_run hH ha | exact cap_run hH ha | exact clear_run hH ha | exact delete_run hH ha | exact max_run hH ha | exact min_run hH ha | exact sliceData_run hH ha | exact string_run hH ha | exact append_run hH ha | exact copy_run hH ha | exact (rfl : (pure Next.recover : Sem Next).run P w = _) | trivial
theorem call_builtin_run (hH : HRel π B H w) (hR : RR π r a.tmps) {c : Call} {ty : TypeId} {b : Builtin} (hc : c.callee = .builtin b) : ORun P B π H w (do let d ← resolve a.eval c ty; invoke d.target d.args) (opCall c P r H) := by
  unfold opCall
  rw [hc]
  cases h1 : opnds r c.args.toList with
  | none => trivial
  | some args =>
    show ORun P B π H w _ (builtinA P b c.argTypes args H)
    have k1 := opnds_sound hH hR h1
    have hargs : VRs π args (c.args.map a.eval).toList := by simpa using k1
    have hres : resolve a.eval c ty = pure { target := .builtin b c.argTypes ty (c.args.map fun | .const _ => true | _ => false), args := c.args.map a.eval } := by unfold resolve; rw [hc]; rfl
    rw [hres]
    exact builtin_run hH hargs
theorem call_run (hX : extOk P = true) (hH : HRel π B H w) (hR : RR π r a.tmps) {c : Call} {ty : TypeId} : ORun P B π H w (do let d ← resolve a.eval c ty; invoke d.target d.args) (opCall c P r H) := by
  cases hc : c.callee with
  | value f => exact call_value_run hX hH hR hc
  | invoke x n => exact call_invoke_run hX hH hR hc
  | builtin b => exact call_builtin_run hH hR hc
theorem plain_opAlloc {e : TypeId} : (opAlloc e P r H).plain := by unfold opAlloc; exact plain_oo trivial fun _ _ => by rw [fN_eq]; trivial
theorem plain_opBox {e : TypeId} {x : Operand} : (opBox e x P r H).plain := by unfold opBox; exact plain_oo trivial fun _ _ => plain_ob trivial (by rw [fN_eq]; trivial)
theorem plain_opBuildSlice {t : TypeId} {n : Nat} {ps : Array (Nat × Operand)} : (opBuildSlice t n ps P r H).plain := by
  unfold opBuildSlice
  exact plain_oo trivial fun _ _ => plain_oo trivial fun _ _ => plain_oo trivial fun _ _ => plain_oo trivial fun _ _ => plain_ob trivial (plain_oo trivial fun _ _ => plain_ob trivial (by rw [fN_eq]; trivial))
theorem plain_opMakeMap {t : TypeId} {x : Option Operand} : (opMakeMap t x P r H).plain := by unfold opMakeMap; split <;> trivial
theorem plain_opMakeSlice {t : TypeId} {l c : Operand} : (opMakeSlice t l c P r H).plain := by
  unfold opMakeSlice
  split
  · split
    · exact plain_cond trivial trivial
    · trivial
  · trivial
theorem cls2_run (hH : HRel π B H w) (hR : RR π r a.tmps) {o : Oper} (hc : cls P o.op = 2) (hp : (opA P r o H).plain) : ORun P B π H w (execOp a.eval o) (opA P r o H) :=
  alloc_run (fun _ _ e => cls2 hc hH hR e) hH hp
theorem opsOk (hX : extOk P = true) : OpsOk P := by
  intro r o B π H w a hH hR
  by_cases hc : cls P o.op = 2
  · refine cls2_run hH hR hc ?_
    unfold opA
    cases ho : o.op <;> first | exact plain_opAlloc | exact plain_opBox | exact plain_opBuildSlice | exact plain_opMakeMap | exact plain_opMakeSlice | (rw [ho] at hc; first | (cases hc; done) | skip)
    · rename_i t x l h m
      have hc : ob (isSlS P t) 1 0 = 2 := hc
      cases hs : isSlS P t <;> rw [hs] at hc <;> cases hc
    · rename_i c
      have hc : clsC c = 2 := hc
      unfold clsC at hc
      split at hc
      · split at hc <;> cases hc
      · cases hc
  unfold opA
  cases ho : o.op with
  | move x => exact ORun.congr (by unfold execOp; rw [ho]) (move_run hH hR (x := x))
  | assign x => exact ORun.congr (by unfold execOp; rw [ho]) (move_run hH hR (x := x))
  | pick x y z => exact ORun.congr (by unfold execOp; rw [ho]) (pick_run hH hR)
  | alloc e => rw [ho] at hc; exact absurd rfl hc
  | box e x => rw [ho] at hc; exact absurd rfl hc
  | build t ps => exact ORun.congr (by unfold execOp; rw [ho]) (build_run hH hR)
  | buildSlice t n ps => rw [ho] at hc; exact absurd rfl hc
  | insert t m k x => exact ORun.congr (by unfold execOp; rw [ho]) (insert_run hH hR)
  | load t x => exact ORun.congr (by unfold execOp; rw [ho]) (load_run hH hR)
  | store t x y => exact ORun.congr (by unfold execOp; rw [ho]) (store_run hH hR)
  | nilCheck x => exact nilCheck_run hH hR ho
  | binOp op t x y u => exact ORun.congr (by unfold execOp; rw [ho]) (binOp_run hH hR)
  | unOp op t x => exact ORun.congr (by unfold execOp; rw [ho]) (unOp_run hH hR (t := t))
  | convert s d x => exact ORun.congr (by unfold execOp; rw [ho]) (convert_run hH hR)
  | makeInterface t x => exact ORun.congr (by unfold execOp; rw [ho]) (makeInterface_run hH hR)
  | makeFunc f x y => exact ORun.congr (by unfold execOp; rw [ho]) (makeFunc_run hH hR)
  | makeMap t x => rw [ho] at hc; exact absurd rfl hc
  | makeSlice t l c => rw [ho] at hc; exact absurd rfl hc
  | slice t x l h m => exact ORun.congr (by unfold execOp; rw [ho]) (slice_run hH hR)
  | fieldAddr t x f => exact ORun.congr (by unfold execOp; rw [ho]) (fieldAddr_run hH hR)
  | field t x f => exact ORun.congr (by unfold execOp; rw [ho]) (field_run hH hR)
  | indexAddr t x i => exact ORun.congr (by unfold execOp; rw [ho]) (indexAddr_run hH hR)
  | index t x i => exact ORun.congr (by unfold execOp; rw [ho]) (index_run hH hR)
  | lookup t x i ok => exact ORun.congr (by unfold execOp; rw [ho]) (lookup_run hH hR)
  | mapUpdate t m k x => exact ORun.congr (by unfold execOp; rw [ho]) (mapUpd_run hH hR rfl)
  | range t x => exact ORun.congr (by unfold execOp; rw [ho]) (range_run hH hR)
  | next x s => exact ORun.congr (by unfold execOp; rw [ho]) (next_op_run hH hR (ty := o.type))
  | entry x => exact ORun.congr (by unfold execOp; rw [ho]) (entry_run hH hR)
  | typeAssert x t u ok => exact ORun.congr (by unfold execOp; rw [ho]) (typeAssert_run hH hR)
  | extract x i => exact ORun.congr (by unfold execOp; rw [ho]) (extract_run hH hR)
  | call c => exact ORun.congr (by unfold execOp; rw [ho]) (call_run hX hH hR (ty := o.type))
  | defer c => exact ORun.congr (by unfold execOp; rw [ho]) (defer_run hH hR (ty := o.type))
  | panic x => exact ORun.congr (by unfold execOp; rw [ho]) (panic_run hH hR)
  | _ => trivial
end
end Go.Proofs.YtmoejaloachlkaaGreatDoor.Ev
