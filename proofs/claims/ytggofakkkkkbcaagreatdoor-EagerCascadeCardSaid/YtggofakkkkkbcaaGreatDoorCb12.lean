/- Calls that are known: what they come to. No conditions. -/
import Derived.Test.YtggofakkkkkbcaaGreatDoorCa
import Derived.Test.YtggofakkkkkbcaaGreatDoorCb11
namespace Go.Proofs.YtggofakkkkkbcaaGreatDoor.Ev
open Go Go.RowKit
noncomputable def F32 : KF := ⟨15, [(.agg [(.sl 29757 0 2 2 false 3), (.sl 29908 0 1 1 false 8), .nils]), (.sl 29912 0 3 3 true 8), (.agg [(.int .i64 (.ofNat 9)), (.int .i64 (.ofNat 200)), (.int .i64 (.ofNat 4))])], 29914, gB ++ [(29714, k1),
   (29722, k199),
   (29749, k200),
   (29757, k201),
   (29811, k4),
   (29818, k202),
   (29896, k203),
   (29905, k204),
   (29908, k205),
   (29911, k207),
   (29912, k208)], (.tup [(.sl 33884 0 6 6 false 10), (.int .i64 (.ofNat 0))]), gB ++ [(29714, k1),
   (29722, k199),
   (29749, k200),
   (29757, k201),
   (29811, k4),
   (29818, k202),
   (29896, k203),
   (29905, k204),
   (29908, k205),
   (29911, k207),
   (29912, k208),
   (32304, k48),
   (33635, .cells (.n (some (.int .i64 (.ofNat 1))) (.n (some (.bool true)) (.n (some (.str 0 0)) (.n (some (.int .i64 (.ofNat 0))) (.n (some (.int .i64 (.ofNat 10))) .e (.n (some (.str 0 0)) .e .e)) (.n (some (.bool false)) .e (.n (some (.int .i64 (.ofNat 1))) .e .e))) (.n (some (.int .i64 (.ofNat 4))) (.n (some (.str 0 0)) .e (.n (some (.bool false)) .e .e)) (.n (some (.int .i64 (.ofNat 0))) .e (.n (some (.int .i64 (.ofNat 0))) .e .e)))) (.n (some (.int .i64 (.ofNat 0))) (.n (some (.bool false)) (.n (some (.int .i64 (.ofNat 0))) .e (.n (some (.int .i64 (.ofNat 0))) .e .e)) (.n (some (.int .i64 (.ofNat 1))) .e (.n (some (.str 0 0)) .e .e))) (.n (some (.int .i64 (.ofNat 0))) (.n (some (.int .i64 (.ofNat 0))) .e (.n (some (.int .i64 (.ofNat 3))) .e .e)) (.n (some (.str 0 0)) (.n (some (.int .i64 (.ofNat 0))) .e .e) (.n (some (.bool false)) .e .e))))) (.n (some (.int .i64 (.ofNat 1))) (.n (some .nils) (.n (some (.int .i64 (.ofNat 0))) (.n (some (.int .i64 (.ofNat 0))) .e (.n (some .nils) .e .e)) (.n (some (.int .i64 (.ofNat 2))) .e (.n (some .nils) .e .e))) (.n (some (.int .i64 (.ofNat 0))) (.n (some .nils) .e (.n (some (.int .i64 (.ofNat 1))) .e .e)) (.n (some .nils) (.n (some (.int .i64 (.ofNat 0))) .e .e) (.n (some (.int .i64 (.ofNat 0))) .e .e)))) (.n (some (.int .i64 (.ofNat 0))) (.n (some (.int .i64 (.ofNat 0))) (.n (some .nils) .e (.n (some (.int .i64 (.ofNat 0))) .e .e)) (.n (some (.int .i64 (.ofNat 0))) .e (.n (some .nils) .e .e))) (.n (some .nils) (.n (some (.int .i64 (.ofNat 0))) .e (.n (some (.int .i64 (.ofNat 0))) .e .e)) (.n (some (.sl 32304 0 1 1 false 3)) (.n (some .nils) .e .e) (.n (some (.int .i64 (.ofNat 0))) .e .e)))))) none 50 40 0 0 false []),
   (33884, .cells (.n (some (.int .i64 (.ofNat 1))) (.n (some (.bool true)) (.n (some (.str 0 0)) (.n (some (.int .i64 (.ofNat 0))) (.n (some (.int .i64 (.ofNat 10))) .e (.n (some (.str 0 0)) .e .e)) (.n (some (.bool false)) (.n (some (.int .i64 (.ofNat 0))) .e .e) (.n (some (.int .i64 (.ofNat 1))) .e .e))) (.n (some (.int .i64 (.ofNat 4))) (.n (some (.str 0 0)) (.n (some (.int .i64 (.ofNat 0))) .e .e) (.n (some (.bool false)) .e .e)) (.n (some (.int .i64 (.ofNat 0))) (.n (some (.int .i64 (.ofNat 3))) .e .e) (.n (some (.int .i64 (.ofNat 0))) .e .e)))) (.n (some (.int .i64 (.ofNat 0))) (.n (some (.bool false)) (.n (some (.int .i64 (.ofNat 0))) .e (.n (some (.int .i64 (.ofNat 0))) .e .e)) (.n (some (.int .i64 (.ofNat 1))) (.n (some (.bool false)) .e .e) (.n (some (.str 0 0)) .e .e))) (.n (some (.int .i64 (.ofNat 0))) (.n (some (.int .i64 (.ofNat 0))) (.n (some (.str 0 0)) .e .e) (.n (some (.int .i64 (.ofNat 3))) .e .e)) (.n (some (.str 0 0)) (.n (some (.int .i64 (.ofNat 0))) .e .e) (.n (some (.bool false)) .e .e))))) (.n (some (.int .i64 (.ofNat 1))) (.n (some .nils) (.n (some (.int .i64 (.ofNat 0))) (.n (some (.int .i64 (.ofNat 0))) .e (.n (some .nils) .e .e)) (.n (some (.int .i64 (.ofNat 2))) (.n (some (.int .i64 (.ofNat 0))) .e .e) (.n (some .nils) .e .e))) (.n (some (.int .i64 (.ofNat 0))) (.n (some .nils) (.n (some .nils) .e .e) (.n (some (.int .i64 (.ofNat 1))) .e .e)) (.n (some .nils) (.n (some (.int .i64 (.ofNat 0))) .e .e) (.n (some (.int .i64 (.ofNat 0))) .e .e)))) (.n (some (.int .i64 (.ofNat 0))) (.n (some (.int .i64 (.ofNat 0))) (.n (some .nils) (.n (some (.int .i64 (.ofNat 0))) .e .e) (.n (some (.int .i64 (.ofNat 0))) .e .e)) (.n (some (.int .i64 (.ofNat 0))) (.n (some (.int .i64 (.ofNat 2))) .e .e) (.n (some .nils) .e .e))) (.n (some .nils) (.n (some (.int .i64 (.ofNat 0))) (.n (some .nils) .e .e) (.n (some (.int .i64 (.ofNat 0))) .e .e)) (.n (some (.sl 32304 0 1 1 false 3)) (.n (some .nils) .e .e) (.n (some (.int .i64 (.ofNat 0))) .e .e)))))) none 60 40 0 0 true [33635])], 33982⟩
theorem F32_ok : FactOk Tryz.prog F32 := fact_ok mixed extFine (knF_ok F31_ok F31_sib (knId_ok _)) (n := 3000) (by kernel_rfl)
theorem F32_sib : sibIn F32.hin = true := by kernel_rfl
noncomputable def F33 : KF := ⟨58, [(.agg [(.sl 29757 0 2 2 false 3), (.sl 29908 0 1 1 false 8), .nils])], 34872, gB ++ [(29714, k1),
   (29722, k199),
   (29749, k200),
   (29757, k201),
   (29811, k4),
   (29818, k202),
   (29896, k203),
   (29905, k204),
   (29908, k205)], (.tup [(.sl 35689 0 1 1 false 3), (.int .i64 (.ofNat 0))]), gB ++ [(29714, k1),
   (29722, k199),
   (29749, k200),
   (29757, k201),
   (29811, k4),
   (29818, k202),
   (29896, k203),
   (29905, k204),
   (29908, k205),
   (35680, k4),
   (35686, k209),
   (35689, k210)], 35690⟩
theorem F33_ok : FactOk Tryz.prog F33 := fact_ok mixed extFine (knId_ok _) (n := 3000) (by kernel_rfl)
theorem F33_sib : sibIn F33.hin = true := by kernel_rfl
end Go.Proofs.YtggofakkkkkbcaaGreatDoor.Ev
