/- Calls that are known: what they come to. No conditions. -/
import Derived.Test.YtggofakkkkkbcaaGreatDoorSa
import Derived.Test.YtggofakkkkkbcaaGreatDoorSb30
namespace Go.Proofs.YtggofakkkkkbcaaGreatDoor.Ev
open Go Go.RowKit
noncomputable def F63 : KF := ⟨34, [(.agg [(.sl 38453 0 2 2 false 3), (.sl 38604 0 1 1 false 8), .nils])], 42683, gB ++ [(38410, k1),
   (38418, k138),
   (38445, k139),
   (38453, k140),
   (38507, k4),
   (38514, k141),
   (38592, k142),
   (38601, k143),
   (38604, k144)], (.tup [(.ptr 43537 0), (.int .i64 (.ofNat 0))]), gB ++ [(38410, k1),
   (38418, k138),
   (38445, k139),
   (38453, k140),
   (38507, k4),
   (38514, k141),
   (38592, k142),
   (38601, k143),
   (38604, k144),
   (43537, .cells (.n (some (.sl 38453 0 2 2 false 3)) (.n (some .nils) .e (.n (some (.sl 44385 0 1 1 false 3)) .e .e)) (.n (some (.sl 38604 0 1 1 false 8)) (.n (some (.ptr 44418 0)) .e .e) (.n (some (.ptr 43539 0)) .e .e))) none 6 111 0 0 true []),
   (43538, k19),
   (43539, k166),
   (43551, k1),
   (43553, k167),
   (43565, k139),
   (43567, k168),
   (44376, k4),
   (44382, k169),
   (44385, k170),
   (44387, k19),
   (44388, .cells (.n (some (.sl 44416 0 2 2 false 3)) .e (.n (some (.map 44387)) .e .e)) none 2 205 0 0 true []),
   (44400, k1),
   (44402, .cells (.n (some (.str 1 80)) (.n (some (.sl 44400 0 1 1 false 3)) .e .e) (.n (some (.str 0 0)) .e .e)) none 3 90 0 0 false []),
   (44414, k139),
   (44416, .cells (.n (some (.str 1 80)) (.n (some (.sl 44400 0 1 1 false 3)) .e (.n (some (.str 0 0)) .e .e)) (.n (some (.str 0 0)) (.n (some (.sl 44414 0 1 1 false 3)) .e .e) (.n (some (.str 1 81)) .e .e))) none 6 90 0 0 true [44402]),
   (44417, .map [((.agg [(.str 1 80), (.str 3 3226160)]), (.int .i64 (.ofNat 0)))] 1),
   (44418, .cells (.n (some (.sl 44385 0 1 1 false 3)) (.n (some (.sl 44432 0 1 1 false 4)) .e (.n (some (.sl 44435 0 1 1 false 1)) .e .e)) (.n (some (.ptr 44388 0)) (.n (some (.sl 44500 0 1 1 false 1)) .e .e) (.n (some (.map 44417)) .e .e))) none 6 219 0 0 true []),
   (44432, .cells (.n (some (.int .i64 (.ofNat 0))) (.n (some .nils) .e .e) (.n (some (.str 1 80)) .e (.n (some (.int .i64 (.ofNat 1))) .e .e))) none 4 467 0 0 true []),
   (44434, k46),
   (44435, .cells (.n (some (.sl 44434 0 1 1 false 1)) .e .e) none 1 22 0 0 true []),
   (44488, k169),
   (44493, k46),
   (44495, k46),
   (44498, .cells (.n (some (.sl 44488 0 1 1 true 19)) (.n (some (.sl 44495 0 1 1 false 1)) .e (.n (some .nils) .e .e)) (.n (some (.sl 44493 0 1 1 false 1)) .e (.n (some (.int .i64 (.ofNat 0))) .e .e))) none 5 331 0 0 true []),
   (44500, .cells (.n (some (.ptr 44498 0)) .e .e) none 1 329 0 0 true [])], 44501⟩
theorem F63_ok : FactOk Tryz.prog F63 := fact_ok mixed extFine (knF_ok F62_ok F62_sib (knF_ok F61_ok F61_sib (knId_ok _))) (n := 3000) (by kernel_rfl)
theorem F63_sib : sibIn F63.hin = true := by kernel_rfl
noncomputable def F65 : KF := ⟨40, [(.str 98 39515281478997323119786696203001747920655963385997764787961006167569573029131438119581969150607630898408720285844241889411071482987393140398630628746984215690069800352194406344110433669906597542669078834935275044496205849566478890004068)], 46531, gB, (.tup [(.sl 46752 0 33 33 false 4), (.int .i64 (.ofNat 0)), (.int .i64 (.ofNat 0))]), gB ++ [(46746, k137),
   (46752, .cells (.n (some (.int .i64 (.ofNat 0))) (.n (some (.int .i64 (.ofNat 0))) (.n (some (.int .i64 (.ofNat 6))) (.n (some (.int .i64 (.ofNat 10))) (.n (some (.int .i64 (.ofNat 20))) (.n (some (.int .i64 (.ofNat 45))) (.n (some (.int .i64 (.ofNat 93))) .e .e) (.n (some (.int .i64 (.ofNat 67))) .e .e)) (.n (some (.int .i64 (.ofNat 32))) (.n (some (.int .i64 (.ofNat 84))) .e .e) (.n (some (.int .i64 (.ofNat 58))) .e .e))) (.n (some (.int .i64 (.ofNat 14))) (.n (some (.int .i64 (.ofNat 38))) (.n (some (.int .i64 (.ofNat 88))) .e .e) (.n (some (.int .i64 (.ofNat 63))) .e .e)) (.n (some (.int .i64 (.ofNat 28))) (.n (some (.int .i64 (.ofNat 80))) .e .e) (.n (some (.int .i64 (.ofNat 54))) .e .e)))) (.n (some (.int .i64 (.ofNat 8))) (.n (some (.int .i64 (.ofNat 18))) (.n (some (.int .i64 (.ofNat 40))) (.n (some (.int .i64 (.ofNat 91))) .e .e) (.n (some (.int .i64 (.ofNat 65))) .e .e)) (.n (some (.int .i64 (.ofNat 30))) (.n (some (.int .i64 (.ofNat 82))) .e .e) (.n (some (.int .i64 (.ofNat 56))) .e .e))) (.n (some (.int .i64 (.ofNat 12))) (.n (some (.int .i64 (.ofNat 34))) (.n (some (.int .i64 (.ofNat 86))) .e .e) (.n (some (.int .i64 (.ofNat 61))) .e .e)) (.n (some (.int .i64 (.ofNat 26))) (.n (some (.int .i64 (.ofNat 72))) .e .e) (.n (some (.int .i64 (.ofNat 49))) .e (.n (some (.int .i64 (.ofNat 95))) .e .e)))))) (.n (some (.int .i64 (.ofNat 0))) (.n (some (.int .i64 (.ofNat 0))) (.n (some (.int .i64 (.ofNat 0))) (.n (some (.int .i64 (.ofNat 3))) (.n (some (.int .i64 (.ofNat 4))) .e .e) (.n (some (.int .i64 (.ofNat 0))) .e .e)) (.n (some (.int .i64 (.ofNat 4))) (.n (some (.int .i64 (.ofNat 0))) .e .e) (.n (some (.int .i64 (.ofNat 1))) .e .e))) (.n (some (.int .i64 (.ofNat 0))) (.n (some (.int .i64 (.ofNat 4))) (.n (some (.int .i64 (.ofNat 1))) .e .e) (.n (some (.int .i64 (.ofNat 0))) .e .e)) (.n (some (.int .i64 (.ofNat 4))) (.n (some (.int .i64 (.ofNat 0))) .e .e) (.n (some (.int .i64 (.ofNat 0))) .e .e)))) (.n (some (.int .i64 (.ofNat 4))) (.n (some (.int .i64 (.ofNat 4))) (.n (some (.int .i64 (.ofNat 0))) (.n (some (.int .i64 (.ofNat 4))) .e .e) (.n (some (.int .i64 (.ofNat 4))) .e .e)) (.n (some (.int .i64 (.ofNat 0))) (.n (some (.int .i64 (.ofNat 4))) .e .e) (.n (some (.int .i64 (.ofNat 4))) .e .e))) (.n (some (.int .i64 (.ofNat 4))) (.n (some (.int .i64 (.ofNat 0))) (.n (some (.int .i64 (.ofNat 4))) .e .e) (.n (some (.int .i64 (.ofNat 4))) .e .e)) (.n (some (.int .i64 (.ofNat 0))) (.n (some (.int .i64 (.ofNat 0))) .e .e) (.n (some (.int .i64 (.ofNat 0))) .e (.n (some (.int .i64 (.ofNat 0))) .e .e))))))) (.n (some (.str 5 427020088179)) (.n (some (.str 1 80)) (.n (some (.str 1 120)) (.n (some (.str 5 427020088179)) (.n (some (.str 1 114)) (.n (some (.str 1 59)) .e .e) (.n (some (.str 4 1952998766)) .e .e)) (.n (some (.str 1 58)) (.n (some (.str 1 121)) .e .e) (.n (some (.str 1 120)) .e .e))) (.n (some (.str 3 6909556)) (.n (some (.str 1 125)) (.n (some (.str 1 120)) .e .e) (.n (some (.str 1 120)) .e .e)) (.n (some (.str 1 123)) (.n (some (.str 1 81)) .e .e) (.n (some (.str 1 80)) .e .e)))) (.n (some (.str 1 123)) (.n (some (.str 1 125)) (.n (some (.str 4 1920298085)) (.n (some (.str 1 125)) .e .e) (.n (some (.str 1 41)) .e .e)) (.n (some (.str 1 121)) (.n (some (.str 1 123)) .e .e) (.n (some (.str 1 40)) .e .e))) (.n (some (.str 1 58)) (.n (some (.str 3 6909556)) (.n (some (.str 1 61)) .e .e) (.n (some (.str 1 58)) .e .e)) (.n (some (.str 1 81)) (.n (some (.str 7 30521787425186156)) .e .e) (.n (some (.str 4 2003330414)) .e (.n (some (.str 3 6647396)) .e .e)))))) (.n (some (.int .i64 (.ofNat 5))) (.n (some (.int .i64 (.ofNat 9))) (.n (some (.int .i64 (.ofNat 19))) (.n (some (.int .i64 (.ofNat 44))) (.n (some (.int .i64 (.ofNat 92))) .e .e) (.n (some (.int .i64 (.ofNat 66))) .e .e)) (.n (some (.int .i64 (.ofNat 31))) (.n (some (.int .i64 (.ofNat 83))) .e .e) (.n (some (.int .i64 (.ofNat 57))) .e .e))) (.n (some (.int .i64 (.ofNat 13))) (.n (some (.int .i64 (.ofNat 37))) (.n (some (.int .i64 (.ofNat 87))) .e .e) (.n (some (.int .i64 (.ofNat 62))) .e .e)) (.n (some (.int .i64 (.ofNat 27))) (.n (some (.int .i64 (.ofNat 79))) .e .e) (.n (some (.int .i64 (.ofNat 53))) .e (.n (some (.int .i64 (.ofNat 98))) .e .e))))) (.n (some (.int .i64 (.ofNat 7))) (.n (some (.int .i64 (.ofNat 17))) (.n (some (.int .i64 (.ofNat 39))) (.n (some (.int .i64 (.ofNat 90))) .e .e) (.n (some (.int .i64 (.ofNat 64))) .e .e)) (.n (some (.int .i64 (.ofNat 29))) (.n (some (.int .i64 (.ofNat 81))) .e .e) (.n (some (.int .i64 (.ofNat 55))) .e .e))) (.n (some (.int .i64 (.ofNat 11))) (.n (some (.int .i64 (.ofNat 33))) (.n (some (.int .i64 (.ofNat 85))) .e .e) (.n (some (.int .i64 (.ofNat 60))) .e .e)) (.n (some (.int .i64 (.ofNat 25))) (.n (some (.int .i64 (.ofNat 71))) .e .e) (.n (some (.int .i64 (.ofNat 48))) .e (.n (some (.int .i64 (.ofNat 94))) .e .e)))))))) none 132 189 0 0 true [46746])], 46753⟩
theorem F65_ok : FactOk Tryz.prog F65 := fact_ok mixed extFine (knId_ok _) (n := 3000) (by kernel_rfl)
theorem F65_sib : sibIn F65.hin = true := by kernel_rfl
end Go.Proofs.YtggofakkkkkbcaaGreatDoor.Ev
