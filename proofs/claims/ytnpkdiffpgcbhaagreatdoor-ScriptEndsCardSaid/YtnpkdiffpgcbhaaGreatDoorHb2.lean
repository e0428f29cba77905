/- A call that is known: what it comes to. No conditions. -/
import Derived.Test.YtnpkdiffpgcbhaaGreatDoorHa
namespace Go.Proofs.YtnpkdiffpgcbhaaGreatDoor.Ev
open Go Go.RowKit
noncomputable def F2 : KF := ⟨20, [(.str 62 73009447381997281904705946669439098738165300536744827412494979043320631243343102574885353658354221733788425059825888531843621425534437001434775772509)], 741, gB, (.tup [(.agg [(.int .i64 (.ofNat 0)), (.bool false), (.int .i64 (.ofNat 0)), (.str 0 0), .nils]), (.int .i64 (.ofNat 8))]), gB, 1342⟩
theorem F2_ok : FactOk Tryz.prog F2 := fact_ok mixed extFine (knId_ok _) (n := 3000) (by kernel_rfl)
theorem F2_sib : sibIn F2.hin = true := by kernel_rfl
end Go.Proofs.YtnpkdiffpgcbhaaGreatDoor.Ev
