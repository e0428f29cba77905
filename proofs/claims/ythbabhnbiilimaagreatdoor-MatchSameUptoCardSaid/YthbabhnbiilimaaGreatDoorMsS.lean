/- proctorkit.Size: some number. What was there stays. -/
import Derived.Test.YthbabhnbiilimaaGreatDoorMsG
namespace Go.Proofs.YthbabhnbiilimaaGreatDoor
open Go.RowKit

def GV.list : GV → List GV
  | .mk _ _ _ _ l => l
def SizeC (l : List GV) : Prop := ∀ (w : World) (s : Value) (d : Int), RowV w s l →
  Calls Tryz.prog 10 #[s, .int .i64 d] w fun e w' => ∃ z : Int, e = .returned (.int .i64 z) ∧ Below w.heap.size w w'
set_option maxHeartbeats 6400000 in
set_option maxRecDepth 100000 in
theorem size_row {l : List GV} (ih : ∀ v ∈ l, SizeC v.list) : SizeC l := by
  intro w s d hr
  obtain ⟨xs, hs, hl⟩ := hr
  obtain ⟨ao, c, rfl, hc, hmax⟩ := hs.shape
  obtain ⟨n, hln⟩ : ∃ n, l.length = n := ⟨_, rfl⟩
  have HS := Lib.hid hs
  have HL := Lib.hid hl
  have HLN := Lib.hid hln
  have IH := Lib.hid ih
  rw [hln]
  rw [hln] at hc hmax
  clear hs hl hln ih
  by_cases hd : d > 100
  · go_enter Tryz.func10, Tryz.ntmps10
    go_wp2_with fail
    go_ret
    exact ⟨_, rfl, Below.refl _ _⟩
  · go_enter Tryz.func10, Tryz.ntmps10
    go_wp2_with fail
    go_loopw [5, 6] (fun nv i wr => ∃ (k : Nat) (z : Int), k ≤ n ∧ i = .int .i64 k ∧ nv = .int .i64 z ∧ Hid (Below w.heap.size w wr)) (fun _ i _ => n - (intOf i).toNat)
    case atStart => exact ⟨0, 0, Nat.zero_le _, rfl, rfl, Lib.hid (Below.refl _ _)⟩
    case round =>
      obtain ⟨k, z, hk, rfl, rfl, HBL⟩ := hrel
      by_cases hlt : k < n
      · obtain ⟨a, ha⟩ := at_get HLN.out hlt
        obtain ⟨g1, o1, p1, kd1, b1, i1, t1, s1, ys1, l1, e1, hc1, ea, ht1, hs1, hr1, c10, c11, c12, c13, c14⟩ := cells5 (below_slice HBL.out HS.out) (below_vals HBL.out HL.out) ha
        injection e1 with e11 _ e12
        subst e11 e12
        have HIH := Lib.hid (IH.out a (List.mem_of_getElem? ha))
        subst ea
        have RA : Hid (RowV wr s1 l1) := Lib.hid ⟨_, hs1, hr1⟩
        obtain ⟨q1, w1, rfl, _, _⟩ := hs1.shape
        clear hs1 hr1 ha c10 c11 c12
        go_wp2_with fail
        have GL := Lib.hid (cell_lt c13)
        go_region_held3 (fun w' => w'.cell? ⟨g1, o1 + k * 5 + 3, none⟩ = some (.string t1) ∧ w'.cell? ⟨g1, o1 + k * 5 + 4, none⟩ = some (.slice q1 l1.length w1)) (go_keep) (first | (go_at_call 10; refine (HIH.out _ _ _ (RowV.heap (w := wr) RA.out (by exact rfl))).mono ?_; rintro e w3 ⟨z3, rfl, hb3⟩; have d13 : w3.cell? ⟨g1, o1 + k * 5 + 3, none⟩ = some (.string t1) := (hb3.cell (p := ⟨g1, o1 + k * 5 + 3, none⟩) GL.out).trans c13; have d14 : w3.cell? ⟨g1, o1 + k * 5 + 4, none⟩ = some (.slice q1 l1.length w1) := (hb3.cell (p := ⟨g1, o1 + k * 5 + 4, none⟩) GL.out).trans c14; have HX3 := Lib.hid hb3; clear hb3))
        go_wp2_with fail
        go_roundw
        case rel => exact ⟨k + 1, _, by omega, by go_num, rfl, Lib.hid (bon (bon (bon HBL.out (by exact ⟨rfl, rfl, rfl, Nat.le_refl _, fun _ _ => rfl⟩)) HX3.out) (by exact ⟨rfl, rfl, rfl, Nat.le_refl _, fun _ _ => rfl⟩))⟩
        case measure => simp [intOf]; omega
      · obtain rfl : k = n := by omega
        go_wp2_with fail
        go_ret
        exact ⟨_, rfl, HBL.out⟩
theorem size_val : ∀ v : GV, SizeC v.list := by
  intro v
  induction v using GV.ind with
  | h k b i t l ih => exact size_row ih
theorem size_any (l : List GV) : SizeC l := size_row (fun v _ => size_val v)
set_option maxHeartbeats 6400000 in
set_option maxRecDepth 100000 in
theorem size_top {w : World} {s : Value} {l : List GV} (hr : RowV w s l) :
    Calls Tryz.prog 4 #[s] w fun e w' => ∃ z : Int, e = .returned (.int .i64 z) ∧ Below w.heap.size w w' := by
  have HC := Lib.hid (size_any l w s 0 hr)
  clear hr
  go_enter Tryz.func4, Tryz.ntmps4
  go_wp2_with fail
  refine HC.out.mono ?_
  rintro e w1 ⟨z, rfl, hb1⟩
  have HX := Lib.hid hb1
  clear hb1
  go_wp2_with fail
  go_ret
  exact ⟨_, rfl, HX.out⟩
end Go.Proofs.YthbabhnbiilimaaGreatDoor
