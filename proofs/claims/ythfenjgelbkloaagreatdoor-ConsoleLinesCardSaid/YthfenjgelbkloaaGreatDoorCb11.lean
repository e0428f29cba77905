/- Calls that are known: what they come to. No conditions. -/
import Derived.Test.YthfenjgelbkloaaGreatDoorCa
namespace Go.Proofs.YthfenjgelbkloaaGreatDoor.Ev
open Go Go.RowKit
noncomputable def F22 : KF := ⟨41, [(.agg [(.sl 11342 0 1 1 false 3), (.sl 11573 0 1 1 false 8), .nils])], 13495, gB ++ [(11334, k0),
   (11342, k119),
   (11396, k120),
   (11482, k121),
   (11485, k122),
   (11492, k123),
   (11499, k124),
   (11570, k125),
   (11573, k126)], (.tup [(.str 74 6295147529031264086211580993755352814397140657729722008695741280554275274736867016119690425533262545046197315299218417939777813677461330071156714135633020933311026859971380080228), (.int .i64 (.ofNat 0))]), gB ++ [(11334, k0),
   (11342, k119),
   (11396, k120),
   (11482, k121),
   (11485, k122),
   (11492, k123),
   (11499, k124),
   (11570, k125),
   (11573, k126)], 14120⟩
theorem F22_ok : FactOk Tryz.prog F22 := fact_ok mixed extFine (knId_ok _) (n := 3000) (by kernel_rfl)
theorem F22_sib : sibIn F22.hin = true := by kernel_rfl
end Go.Proofs.YthfenjgelbkloaaGreatDoor.Ev
