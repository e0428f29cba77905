/- MatchSame: whatever its matches, the law returns true. No conditions. -/
import Derived.Test.YthbabhnbiilimaaGreatDoorMsM
import Derived.Test.YthbabhnbiilimaaGreatDoorMsO
import Derived.Test.YthbabhnbiilimaaGreatDoorMb1
import Derived.Test.YthbabhnbiilimaaGreatDoorMb2
import Derived.WalkKit
import Derived.ProofKit
import Derived.OpenShut
import Derived.Lib.SmallJoins
import Derived.Below
import Derived.Deep.Slices
import Derived.Deep.Fields
namespace Go.Proofs.YthbabhnbiilimaaGreatDoor.Ev
open Go Go.RowKit Go.ChangeShapes Go.WideShapes Go.Joins Go.ChangeAt Go.Deep
theorem run_true {W : World} (hsz : gN ≤ W.heap.size) (hl' : ∀ y ∈ hl, y.1 < gN ∧ (∃ cs, W.heap[y.1]? = some (.cells cs y.2.1) ∧ ∀ π, VRs π y.2.2 cs.toList) ∧ y.2.2.all AV.isCell = true) :
    Calls Tryz.prog 5 #[] W fun e W' => e = .returned (.bool true) ∧ Below W.heap.size W W' :=
  closed_sound (n := 3000) (l := hl) mixed extFine (knF_ok F2_ok F2_sib (knF_ok F1_ok F1_sib (knId_ok _))) (by kernel_rfl) hsz hl'
theorem run_here {W : World} (hsz : gN ≤ W.heap.size) (hl' : ∀ y ∈ hl, y.1 < gN ∧ (∃ cs, W.heap[y.1]? = some (.cells cs y.2.1) ∧ ∀ π, VRs π y.2.2 cs.toList) ∧ y.2.2.all AV.isCell = true) (w' : World) (hb : Below W.heap.size W w') :
    Calls Tryz.prog 5 #[] w' fun e w2 => e = .returned (.bool true) ∧ Below w'.heap.size w' w2 :=
  run_true (Nat.le_trans hsz hb.size) fun y hy => by
    obtain ⟨q1, ⟨cs, q2, q3⟩, q4⟩ := hl' y hy
    exact ⟨q1, ⟨cs, (hb.block y.1 (Nat.lt_of_lt_of_le q1 hsz)).trans q2, q3⟩, q4⟩
section
variable {H : Type} {enc : TypeId × Value → H} {P : Program} {w : World} {base : Nat} {spare : Nat → Bool} {held : Bool}
theorem open_agg1 {r : Reach} {b0 : Nat} {t : TypeId} {f0 : Field} {v : Value} {d : DataW H} {p : List MemPlace} (hs : P.underlying t = some (.struct #[f0])) (hone : oneCellFields P #[f0] = true) (hC : P.cellsOf t = 1)
    (hv : Value.okWide P w r b0 t v) (h : DataW.Trod enc P w base spare held t v d p) :
    ∃ (v0 : Value) (y0 : DataW H × List MemPlace) (n : Nat), v = .agg #[v0] ∧ DataW.trod enc P w base spare held n f0.type [v0] = some y0 := by
  obtain ⟨cs, rfl, hsz⟩ := okWide_struct hs hv
  obtain ⟨c0, rfl⟩ : ∃ c0, cs = #[c0] := by
    have h1 : cs.size = 1 := hsz.trans hC
    exact ⟨cs[0], Array.ext (by simp [h1]) (fun i h2 h3 => by
      obtain rfl : i = 0 := by omega
      simp)⟩
  obtain ⟨fuel, hf⟩ := h
  obtain ⟨xs, n, _, hx, hl, hlen, hff⟩ := DataW.trod_struct hs hf
  match xs, hlen with
  | [y0], _ =>
    obtain ⟨o0, k0⟩ := hone_of hone 0 f0 rfl
    have h0 := hff 0 f0 rfl
    exact ⟨c0, y0, n, rfl, by simpa [Value.cells, o0, k0] using h0⟩
end
theorem kcells2 : Tryz.prog.cellsOf 2 = 1 := by kernel_rfl
theorem kcells3 : Tryz.prog.cellsOf 3 = 1 := by kernel_rfl
theorem kcells4 : Tryz.prog.cellsOf 4 = 1 := by kernel_rfl
theorem kcells9 : Tryz.prog.cellsOf 9 = 1 := by kernel_rfl
theorem kcells24 : Tryz.prog.cellsOf 24 = 1 := by kernel_rfl
theorem kcells25 : Tryz.prog.cellsOf 25 = 1 := by kernel_rfl
theorem kcells26 : Tryz.prog.cellsOf 26 = 1 := by kernel_rfl
theorem kcells28 : Tryz.prog.cellsOf 28 = 3 := by kernel_rfl
theorem kcells30 : Tryz.prog.cellsOf 30 = 1 := by kernel_rfl
theorem kcells32 : Tryz.prog.cellsOf 32 = 3 := by kernel_rfl
theorem kcells59 : Tryz.prog.cellsOf 59 = 5 := by kernel_rfl
set_option maxRecDepth 100000 in
theorem walk {H : Type} {enc : TypeId × Value → H} {W : World} {base : Nat} {v0 : Value} {d0 : DataW H} {p0 : List MemPlace}
    (hv : Value.okWide Tryz.prog W .any base 24 v0) (h0 : DataW.Trod enc Tryz.prog W 0 (fun _ => true) true 24 v0 d0 p0)
    (hsz : gN ≤ W.heap.size) (hl' : ∀ y ∈ hl, y.1 < gN ∧ (∃ cs, W.heap[y.1]? = some (.cells cs y.2.1) ∧ ∀ π, VRs π y.2.2 cs.toList) ∧ y.2.2.all AV.isCell = true) :
    Calls Tryz.prog 3 #[v0] W fun e W' => e = .returned (.bool true) ∧ Below W.heap.size W W' := by
  obtain ⟨c0, y0, n0, rfl, hy⟩ := open_agg1 Tryz.underlying24 (by kernel_rfl) kcells24 hv h0
  have hV := fun fuel => (open_value (enc := enc) (P := Tryz.prog) (w := W) (base := 0) (spare := fun _ => true) (held := true) Tryz.underlying59 Tryz.underlying30 kcells59 ⟨rfl, kcells3⟩ ⟨rfl, kcells4⟩ ⟨rfl, kcells2⟩ ⟨rfl, kcells9⟩ ⟨rfl, kcells30⟩
    Tryz.underlying3 Tryz.underlying4 Tryz.underlying2 Tryz.underlying9 rfl fuel).2
  have hE := open_elem (enc := enc) (P := Tryz.prog) (w := W) (base := 0) (spare := fun _ => true) (held := true) Tryz.underlying32 kcells32 ⟨rfl, kcells3⟩ ⟨rfl, kcells3⟩ ⟨rfl, kcells30⟩ Tryz.underlying3 Tryz.underlying3 rfl hV
  have hF := open_rows (enc := enc) (P := Tryz.prog) (w := W) (base := 0) (spare := fun _ => true) (held := true) Tryz.underlying25 kcells32 (by omega) (fun _ _ r => RdE.len r) hE
  have hM := open_match (enc := enc) (P := Tryz.prog) (w := W) (base := 0) (spare := fun _ => true) (held := true) Tryz.underlying28 kcells28 ⟨rfl, kcells3⟩ ⟨rfl, kcells25⟩ ⟨rfl, kcells26⟩ Tryz.underlying3 rfl Tryz.underlying26 hF
  obtain ⟨sl, l, xs, e, hs, hl⟩ := open_rows (enc := enc) (P := Tryz.prog) (w := W) (base := 0) (spare := fun _ => true) (held := true) Tryz.underlying22 kcells28 (by omega) (fun _ _ r => RdM.len r) hM n0 _ _ hy
  injection e with e _
  subst e
  exact law_walk ⟨xs, hs, hl⟩ (run_here hsz hl')
end Go.Proofs.YthbabhnbiilimaaGreatDoor.Ev
