/- Calls that are known: what they come to. No conditions. -/
import Derived.Test.YtggofakkkkkbcaaGreatDoorPa
namespace Go.Proofs.YtggofakkkkkbcaaGreatDoor.Ev
open Go Go.RowKit
noncomputable def F20 : KF := ⟨13, [(.str 131 1171342591808953838370622111918516865893980509288777369497997561560005119186053578637801281169821884336472214333159662206573385033592428703264488402256668230946242732992164892381493744680760674160660159909819067912977241612447782029570169829973924171941174090733748338695793950402878852677480549172469000566741495396)], 18159, gB, (.tup [(.agg [(.sl 18491 0 1 1 false 3), (.sl 18823 0 2 2 false 8), .nils]), (.int .i64 (.ofNat 0)), (.int .i64 (.ofNat 0))]), gB ++ [(18483, k0),
   (18491, k95),
   (18545, k2),
   (18552, k96),
   (18577, k97),
   (18643, k98),
   (18646, k99),
   (18707, k2),
   (18714, k100),
   (18802, k101),
   (18805, k102),
   (18820, k103),
   (18823, k104)], 18824⟩
theorem F20_ok : FactOk Tryz.prog F20 := fact_ok mixed extFine (knId_ok _) (n := 3000) (by kernel_rfl)
theorem F20_sib : sibIn F20.hin = true := by kernel_rfl
noncomputable def F21 : KF := ⟨256, [(.str 140 5531508995516263832371595514788075873617263951006362762557970559300354648259572108616484800153608775248365020711855754728310298312005976329783055564447833934242807005997423884792089150441193764552649740073403569434631089736003605510636447691078265721533292503170304708093621424374069354841256148699980933139528694413935083476739082776164)], 19062, gB, (.tup [(.agg [(.sl 19394 0 1 1 false 3), (.sl 19726 0 2 2 false 8), .nils]), (.bool true)]), gB ++ [(19386, k0),
   (19394, .cells (.n (some (.str 1 80)) (.n (some (.sl 19386 0 1 1 false 3)) .e .e) (.n (some (.str 0 0)) .e .e)) none 3 90 0 0 true []),
   (19448, k2),
   (19455, .cells (.n (some (.int .i64 (.ofNat 1))) (.n (some (.str 1 80)) (.n (some .nils) (.n (some .nils) .e .e) (.n (some (.int .i64 (.ofNat 0))) .e (.n (some .nils) .e .e))) (.n (some .nils) (.n (some (.int .i64 (.ofNat 0))) .e .e) (.n (some (.int .i64 (.ofNat 0))) .e (.n (some (.str 0 0)) .e .e)))) (.n (some (.str 0 0)) (.n (some .nils) (.n (some (.str 0 0)) .e .e) (.n (some (.str 0 0)) .e (.n (some (.str 0 0)) .e .e))) (.n (some (.sl 19448 0 1 1 false 2)) (.n (some (.bool false)) .e .e) (.n (some .nils) .e (.n (some .nils) .e .e))))) none 19 200 0 0 true []),
   (19480, k97),
   (19546, .cells (.n (some (.int .i64 (.ofNat 5))) (.n (some .nils) (.n (some (.bool false)) (.n (some .nils) .e (.n (some .nils) .e .e)) (.n (some .nils) .e (.n (some (.bool false)) .e .e))) (.n (some (.str 0 0)) (.n (some (.int .i64 (.ofNat 6))) .e (.n (some (.str 0 0)) .e .e)) (.n (some (.str 0 0)) .e (.n (some (.str 1 120)) .e .e)))) (.n (some (.str 0 0)) (.n (some (.int .i64 (.ofNat 0))) (.n (some (.str 0 0)) .e (.n (some .nils) .e .e)) (.n (some .nils) .e (.n (some (.int .i64 (.ofNat 0))) .e .e))) (.n (some (.int .i64 (.ofNat 0))) (.n (some (.str 1 103)) .e (.n (some (.int .i64 (.ofNat 0))) .e .e)) (.n (some (.int .i64 (.ofNat 0))) (.n (some (.str 0 0)) .e .e) (.n (some (.int .i64 (.ofNat 2))) .e .e))))) none 24 148 0 0 true [19480]),
   (19549, .cells (.n (some (.str 1 109)) (.n (some (.str 0 0)) (.n (some (.sl 19455 0 1 1 false 19)) .e .e) (.n (some (.bool false)) .e .e)) (.n (some (.int .i64 (.ofNat 0))) (.n (some (.bool false)) .e .e) (.n (some (.str 0 0)) .e (.n (some (.sl 19546 0 2 2 false 12)) .e .e)))) none 8 95 0 0 false []),
   (19610, k2),
   (19617, .cells (.n (some (.int .i64 (.ofNat 1))) (.n (some (.str 1 80)) (.n (some .nils) (.n (some .nils) .e .e) (.n (some (.int .i64 (.ofNat 0))) .e (.n (some .nils) .e .e))) (.n (some .nils) (.n (some (.int .i64 (.ofNat 0))) .e .e) (.n (some (.int .i64 (.ofNat 0))) .e (.n (some (.str 0 0)) .e .e)))) (.n (some (.str 0 0)) (.n (some .nils) (.n (some (.str 0 0)) .e .e) (.n (some (.str 0 0)) .e (.n (some (.str 0 0)) .e .e))) (.n (some (.sl 19610 0 1 1 false 2)) (.n (some (.bool false)) .e .e) (.n (some .nils) .e (.n (some .nils) .e .e))))) none 19 200 0 0 true []),
   (19705, k101),
   (19708, .cells (.n (some (.int .i64 (.ofNat 1))) (.n (some (.int .i64 (.ofNat 2))) (.n (some .nils) (.n (some .nils) .e .e) (.n (some (.int .i64 (.ofNat 0))) .e .e)) (.n (some (.int .i64 (.ofNat 10))) (.n (some (.int .i64 (.ofNat 0))) .e .e) (.n (some (.int .i64 (.ofNat 2))) .e .e))) (.n (some (.str 0 0)) (.n (some (.str 0 0)) (.n (some (.str 0 0)) .e .e) (.n (some (.str 1 120)) .e .e)) (.n (some (.bool false)) (.n (some (.bool false)) .e .e) (.n (some .nils) .e (.n (some .nils) .e .e))))) none 16 146 0 0 true [19705]),
   (19723, .cells (.n (some (.int .i64 (.ofNat 6))) (.n (some .nils) (.n (some (.bool false)) .e (.n (some (.sl 19708 0 2 2 false 8)) .e .e)) (.n (some (.str 0 0)) .e (.n (some (.str 0 0)) .e .e))) (.n (some (.str 0 0)) (.n (some (.int .i64 (.ofNat 0))) .e (.n (some .nils) .e .e)) (.n (some (.int .i64 (.ofNat 16))) (.n (some (.str 0 0)) .e .e) (.n (some (.int .i64 (.ofNat 0))) .e .e)))) none 12 148 0 0 true []),
   (19726, .cells (.n (some (.str 1 109)) (.n (some (.str 0 0)) (.n (some (.sl 19455 0 1 1 false 19)) (.n (some (.sl 19617 0 1 1 false 19)) .e .e) (.n (some (.str 1 103)) .e .e)) (.n (some (.bool false)) (.n (some (.bool false)) .e .e) (.n (some (.str 1 103)) .e .e))) (.n (some (.int .i64 (.ofNat 0))) (.n (some (.bool false)) (.n (some (.bool false)) .e .e) (.n (some (.int .i64 (.ofNat 0))) .e .e)) (.n (some (.str 0 0)) (.n (some (.str 0 0)) .e .e) (.n (some (.sl 19546 0 2 2 false 12)) .e (.n (some (.sl 19723 0 1 1 false 12)) .e .e))))) none 16 95 0 0 true [19549])], 19727⟩
theorem F21_ok : FactOk Tryz.prog F21 := fact_ok mixed extFine (knId_ok _) (n := 3000) (by kernel_rfl)
theorem F21_sib : sibIn F21.hin = true := by kernel_rfl
end Go.Proofs.YtggofakkkkkbcaaGreatDoor.Ev
