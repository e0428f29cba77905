/- The row's closed facts, ahead of the row itself (they speak of the program alone). No conditions. -/
import Derived.Test.YthfenjgelbkloaaGreatDoorCjB
import Derived.Test.YthfenjgelbkloaaGreatDoorCjC
import Derived.Test.YthfenjgelbkloaaGreatDoorCjM
import Derived.Test.YthfenjgelbkloaaGreatDoorCjN
import Derived.Test.YthfenjgelbkloaaGreatDoorCjD
namespace Go.Proofs.YthfenjgelbkloaaGreatDoor.consoleLines.Pre
open Go
theorem and2 {a b : Bool} (ha : a = true) (hb : b = true) : (a && b) = true := by rw [ha, hb]; rfl
set_option maxRecDepth 100000 in
theorem joined : joinedFacts Tryz.prog 3 Tryz.f3 spec0 row0 = true := by
  unfold joinedFacts
  exact (and2 (and2 (and2 (and2 (and2 (and2 (and2 (and2 (and2 (and2 (and2 (and2 (and2 (and2 (and2 (and2 (and2 (and2 (and2 (and2 (and2 (and2 (and2 (and2 (and2 (and2 (and2 (and2 (and2 (and2 (and2 j1 j2) j3) j4) j5) j6) j7) j8) j9) j10) j11) j12) j13) j14) j15) j16) j17) j18) j19) j20) j21) j22) j23) j24) j25) j26) j27) j28) j29) j30) j31) j32)
end Go.Proofs.YthfenjgelbkloaaGreatDoor.consoleLines.Pre
