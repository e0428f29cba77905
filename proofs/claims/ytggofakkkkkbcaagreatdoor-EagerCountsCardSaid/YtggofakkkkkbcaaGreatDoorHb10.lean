/- Calls that are known: what they come to. No conditions. -/
import Derived.Test.YtggofakkkkkbcaaGreatDoorHa
namespace Go.Proofs.YtggofakkkkkbcaaGreatDoor.Ev
open Go Go.RowKit
noncomputable def F29 : KF := ⟨40, [(.str 110 3130723142814899568319799838871132055685624502048238620693098440902815112278042623334143687454921566445143884011406239522062883589639764059708098232993442521147877169123742503117608886130368623139579244727274554561659491532142497382318222587963252098977371198418532)], 395247, gB, (.tup [(.sl 395500 0 38 38 false 4), (.int .i64 (.ofNat 0)), (.int .i64 (.ofNat 0))]), gB ++ [(395494, k257),
   (395500, .cells (.n (some (.int .i64 (.ofNat 0))) (.n (some (.int .i64 (.ofNat 0))) (.n (some (.int .i64 (.ofNat 6))) (.n (some (.int .i64 (.ofNat 10))) (.n (some (.int .i64 (.ofNat 20))) (.n (some (.int .i64 (.ofNat 47))) (.n (some (.int .i64 (.ofNat 89))) .e .e) (.n (some (.int .i64 (.ofNat 64))) .e .e)) (.n (some (.int .i64 (.ofNat 33))) (.n (some (.int .i64 (.ofNat 80))) .e .e) (.n (some (.int .i64 (.ofNat 56))) .e (.n (some (.int .i64 (.ofNat 102))) .e .e)))) (.n (some (.int .i64 (.ofNat 14))) (.n (some (.int .i64 (.ofNat 42))) (.n (some (.int .i64 (.ofNat 85))) .e .e) (.n (some (.int .i64 (.ofNat 60))) .e (.n (some (.int .i64 (.ofNat 107))) .e .e))) (.n (some (.int .i64 (.ofNat 26))) (.n (some (.int .i64 (.ofNat 68))) .e .e) (.n (some (.int .i64 (.ofNat 51))) .e (.n (some (.int .i64 (.ofNat 94))) .e .e))))) (.n (some (.int .i64 (.ofNat 8))) (.n (some (.int .i64 (.ofNat 18))) (.n (some (.int .i64 (.ofNat 45))) (.n (some (.int .i64 (.ofNat 87))) .e .e) (.n (some (.int .i64 (.ofNat 62))) .e .e)) (.n (some (.int .i64 (.ofNat 28))) (.n (some (.int .i64 (.ofNat 73))) .e .e) (.n (some (.int .i64 (.ofNat 54))) .e (.n (some (.int .i64 (.ofNat 96))) .e .e)))) (.n (some (.int .i64 (.ofNat 12))) (.n (some (.int .i64 (.ofNat 37))) (.n (some (.int .i64 (.ofNat 83))) .e .e) (.n (some (.int .i64 (.ofNat 58))) .e (.n (some (.int .i64 (.ofNat 105))) .e .e))) (.n (some (.int .i64 (.ofNat 22))) (.n (some (.int .i64 (.ofNat 66))) .e .e) (.n (some (.int .i64 (.ofNat 49))) .e (.n (some (.int .i64 (.ofNat 92))) .e .e)))))) (.n (some (.int .i64 (.ofNat 0))) (.n (some (.int .i64 (.ofNat 0))) (.n (some (.int .i64 (.ofNat 4))) (.n (some (.int .i64 (.ofNat 0))) (.n (some (.int .i64 (.ofNat 1))) .e .e) (.n (some (.int .i64 (.ofNat 2))) .e .e)) (.n (some (.int .i64 (.ofNat 3))) (.n (some (.int .i64 (.ofNat 1))) .e .e) (.n (some (.int .i64 (.ofNat 0))) .e (.n (some (.int .i64 (.ofNat 1))) .e .e)))) (.n (some (.int .i64 (.ofNat 0))) (.n (some (.int .i64 (.ofNat 1))) (.n (some (.int .i64 (.ofNat 0))) .e .e) (.n (some (.int .i64 (.ofNat 0))) .e (.n (some (.int .i64 (.ofNat 0))) .e .e))) (.n (some (.int .i64 (.ofNat 4))) (.n (some (.int .i64 (.ofNat 0))) .e .e) (.n (some (.int .i64 (.ofNat 1))) .e (.n (some (.int .i64 (.ofNat 4))) .e .e))))) (.n (some (.int .i64 (.ofNat 4))) (.n (some (.int .i64 (.ofNat 0))) (.n (some (.int .i64 (.ofNat 4))) (.n (some (.int .i64 (.ofNat 4))) .e .e) (.n (some (.int .i64 (.ofNat 4))) .e .e)) (.n (some (.int .i64 (.ofNat 0))) (.n (some (.int .i64 (.ofNat 0))) .e .e) (.n (some (.int .i64 (.ofNat 4))) .e (.n (some (.int .i64 (.ofNat 0))) .e .e)))) (.n (some (.int .i64 (.ofNat 4))) (.n (some (.int .i64 (.ofNat 0))) (.n (some (.int .i64 (.ofNat 4))) .e .e) (.n (some (.int .i64 (.ofNat 4))) .e (.n (some (.int .i64 (.ofNat 4))) .e .e))) (.n (some (.int .i64 (.ofNat 0))) (.n (some (.int .i64 (.ofNat 4))) .e .e) (.n (some (.int .i64 (.ofNat 4))) .e (.n (some (.int .i64 (.ofNat 4))) .e .e))))))) (.n (some (.str 5 427020088179)) (.n (some (.str 1 80)) (.n (some (.str 1 120)) (.n (some (.str 1 58)) (.n (some (.str 1 80)) (.n (some (.str 1 120)) .e .e) (.n (some (.str 1 48)) .e .e)) (.n (some (.str 1 100)) (.n (some (.str 1 112)) .e .e) (.n (some (.str 1 120)) .e (.n (some (.str 1 120)) .e .e)))) (.n (some (.str 3 6909556)) (.n (some (.str 1 112)) (.n (some (.str 1 121)) .e .e) (.n (some (.str 1 120)) .e (.n (some (.str 3 6647396)) .e .e))) (.n (some (.str 1 125)) (.n (some (.str 4 1952998766)) .e .e) (.n (some (.str 1 120)) .e (.n (some (.str 1 59)) .e .e))))) (.n (some (.str 1 123)) (.n (some (.str 1 121)) (.n (some (.str 1 58)) (.n (some (.str 1 61)) .e .e) (.n (some (.str 1 62)) .e .e)) (.n (some (.str 4 1920298085)) (.n (some (.str 6 129125580895333)) .e .e) (.n (some (.str 1 58)) .e (.n (some (.str 5 482955849332)) .e .e)))) (.n (some (.str 1 58)) (.n (some (.str 4 2003330414)) (.n (some (.str 1 123)) .e .e) (.n (some (.str 1 44)) .e (.n (some (.str 1 59)) .e .e))) (.n (some (.str 3 6909556)) (.n (some (.str 1 41)) .e .e) (.n (some (.str 1 40)) .e (.n (some (.str 1 125)) .e .e)))))) (.n (some (.int .i64 (.ofNat 5))) (.n (some (.int .i64 (.ofNat 9))) (.n (some (.int .i64 (.ofNat 19))) (.n (some (.int .i64 (.ofNat 46))) (.n (some (.int .i64 (.ofNat 88))) .e .e) (.n (some (.int .i64 (.ofNat 63))) .e .e)) (.n (some (.int .i64 (.ofNat 32))) (.n (some (.int .i64 (.ofNat 79))) .e .e) (.n (some (.int .i64 (.ofNat 55))) .e (.n (some (.int .i64 (.ofNat 101))) .e .e)))) (.n (some (.int .i64 (.ofNat 13))) (.n (some (.int .i64 (.ofNat 41))) (.n (some (.int .i64 (.ofNat 84))) .e .e) (.n (some (.int .i64 (.ofNat 59))) .e (.n (some (.int .i64 (.ofNat 106))) .e .e))) (.n (some (.int .i64 (.ofNat 25))) (.n (some (.int .i64 (.ofNat 67))) .e .e) (.n (some (.int .i64 (.ofNat 50))) .e (.n (some (.int .i64 (.ofNat 93))) .e .e))))) (.n (some (.int .i64 (.ofNat 7))) (.n (some (.int .i64 (.ofNat 17))) (.n (some (.int .i64 (.ofNat 44))) (.n (some (.int .i64 (.ofNat 86))) .e .e) (.n (some (.int .i64 (.ofNat 61))) .e (.n (some (.int .i64 (.ofNat 110))) .e .e))) (.n (some (.int .i64 (.ofNat 27))) (.n (some (.int .i64 (.ofNat 72))) .e .e) (.n (some (.int .i64 (.ofNat 53))) .e (.n (some (.int .i64 (.ofNat 95))) .e .e)))) (.n (some (.int .i64 (.ofNat 11))) (.n (some (.int .i64 (.ofNat 36))) (.n (some (.int .i64 (.ofNat 82))) .e .e) (.n (some (.int .i64 (.ofNat 57))) .e (.n (some (.int .i64 (.ofNat 104))) .e .e))) (.n (some (.int .i64 (.ofNat 21))) (.n (some (.int .i64 (.ofNat 65))) .e .e) (.n (some (.int .i64 (.ofNat 48))) .e (.n (some (.int .i64 (.ofNat 91))) .e .e)))))))) none 152 189 0 0 true [395494])], 395501⟩
theorem F29_ok : FactOk Tryz.prog F29 := fact_ok mixed extFine (knId_ok _) (n := 3000) (by kernel_rfl)
theorem F29_sib : sibIn F29.hin = true := by kernel_rfl
noncomputable def F30 : KF := ⟨163, [(.agg [(.sl 393539 0 1 1 false 3), (.sl 393905 0 1 1 false 8), .nils])], 395055, gB ++ [(393517, k0),
   (393531, k248),
   (393539, k249),
   (393600, k3),
   (393686, k4),
   (393689, k250),
   (393696, k251),
   (393703, k252),
   (393827, k253),
   (393836, k254),
   (393902, k255),
   (393905, k256)], (.tup [(.str 110 3130723142814899568319799838871132055685624502048238620693098440902815112278042623334143687454921566445143884011406239522062883589639764059708098232993442521147877169123742503117608886130368623139579244727274554561659491532142497382318222587963252098977371198418532), (.int .i64 (.ofNat 0))]), gB ++ [(393517, k0),
   (393531, k248),
   (393539, k249),
   (393600, k3),
   (393686, k4),
   (393689, k250),
   (393696, k251),
   (393703, k252),
   (393827, k253),
   (393836, k254),
   (393902, k255),
   (393905, k256)], 395991⟩
theorem F30_ok : FactOk Tryz.prog F30 := fact_ok mixed extFine (knF_ok F29_ok F29_sib (knId_ok _)) (n := 3000) (by kernel_rfl)
theorem F30_sib : sibIn F30.hin = true := by kernel_rfl
noncomputable def F31 : KF := ⟨58, [(.agg [(.sl 393539 0 1 1 false 3), (.sl 393905 0 1 1 false 8), .nils])], 395053, gB ++ [(393517, k0),
   (393531, k248),
   (393539, k249),
   (393600, k3),
   (393686, k4),
   (393689, k250),
   (393696, k251),
   (393703, k252),
   (393827, k253),
   (393836, k254),
   (393902, k255),
   (393905, k256)], (.tup [(.sl 396199 0 1 1 false 3), (.int .i64 (.ofNat 0))]), gB ++ [(393517, k0),
   (393531, k248),
   (393539, k249),
   (393600, k3),
   (393686, k4),
   (393689, k250),
   (393696, k251),
   (393703, k252),
   (393827, k253),
   (393836, k254),
   (393902, k255),
   (393905, k256),
   (396169, k3),
   (396186, k4),
   (396193, k258),
   (396194, k259),
   (396196, k260),
   (396199, k261)], 396200⟩
theorem F31_ok : FactOk Tryz.prog F31 := fact_ok mixed extFine (knF_ok F30_ok F30_sib (knId_ok _)) (n := 3000) (by kernel_rfl)
theorem F31_sib : sibIn F31.hin = true := by kernel_rfl
end Go.Proofs.YtggofakkkkkbcaaGreatDoor.Ev
