/- proctorlaw12.wakes returns true and leaves old memory alone. -/
import Derived.Test.YtkaldclkpdjalaaAS
namespace Go.Proofs.Ytkaldclkpdjalaa
open Go.RowKit

set_option maxRecDepth 100000 in
set_option maxHeartbeats 1600000 in
theorem wakes_any (w : World) : Calls Try.prog 23 #[] w fun e w' => e = .returned (.bool true) ∧ Below w.heap.size w w' := by
  go_enter Try.func23, Try.ntmps23
  go_wp2_with fail
  refine (AS.new_any w w.heap.size (Nat.le_refl _)).mono ?_
  rintro e w1 ⟨rfl, ha1, hf1⟩
  go_wp2_with fail
  refine (AS.put_any ha1 ⟨#[120]⟩ (by omega) (by omega) (by omega) hf1.size).mono ?_
  rintro e w2 ⟨rfl, ha2, hf2⟩
  go_wp2_with fail
  refine (AS.put_any ha2 ⟨#[121]⟩ (by omega) (by omega) (by omega) (Nat.le_trans hf1.size hf2.size)).mono ?_
  rintro e w3 ⟨rfl, ha3, hf3⟩
  go_wp2_with fail
  refine (AS.drop_some ha3 1 (by omega) (by omega) (by omega) (by omega) rfl).mono ?_
  rintro e w4 ⟨rfl, ha4, hf4⟩
  go_wp2_with fail
  refine (AS.get_some ha4 2 (by omega) (by omega) ⟨#[121]⟩ rfl).mono ?_
  rintro e w5 ⟨rfl, rfl⟩
  go_wp2_with fail
  refine (AS.len_any ha4).mono ?_
  rintro e w5 ⟨rfl, rfl⟩
  go_wp2_with fail
  refine (AS.put_any ha4 ⟨#[122]⟩ (by omega) (by omega) (by omega) (Nat.le_trans (Nat.le_trans (Nat.le_trans hf1.size hf2.size) hf3.size) hf4.size)).mono ?_
  rintro e w5 ⟨rfl, ha5, hf5⟩
  go_wp2_with fail
  go_ret
  exact ⟨rfl, ((((hf1.trans hf2).trans hf3).trans hf4).trans hf5).below (Nat.le_refl _)⟩
end Go.Proofs.Ytkaldclkpdjalaa
