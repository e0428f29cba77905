/- Calls that are known: what they come to. No conditions. -/
import Derived.Test.YtggofakkkkkbcaaGreatDoorPa
namespace Go.Proofs.YtggofakkkkkbcaaGreatDoor.Ev
open Go Go.RowKit
noncomputable def F13 : KF := ⟨13, [(.str 105 2847376111108041703409798937055831680195864926370159302497276550201174546217183750131109519281201075397061479736037389929479202693925030753060734416476708743408107002742049371629361806324709450481357515041014335568414090587843164322779357076687061085796)], 10940, gB, (.tup [(.agg [(.sl 11241 0 1 1 false 3), (.sl 11655 0 1 1 false 8), .nils]), (.int .i64 (.ofNat 0)), (.int .i64 (.ofNat 0))]), gB ++ [(11233, k0),
   (11241, k51),
   (11315, k2),
   (11401, k52),
   (11404, k53),
   (11411, k54),
   (11418, k55),
   (11489, k56),
   (11627, k57),
   (11630, k58),
   (11643, k59),
   (11652, k60),
   (11655, k61)], 11656⟩
theorem F13_ok : FactOk Tryz.prog F13 := fact_ok mixed extFine (knId_ok _) (n := 3000) (by kernel_rfl)
theorem F13_sib : sibIn F13.hin = true := by kernel_rfl
noncomputable def F14 : KF := ⟨163, [(.agg [(.sl 11241 0 1 1 false 3), (.sl 11655 0 1 1 false 8), .nils])], 11667, gB ++ [(11233, k0),
   (11241, k51),
   (11315, k2),
   (11401, k52),
   (11404, k53),
   (11411, k54),
   (11418, k55),
   (11489, k56),
   (11627, k57),
   (11630, k58),
   (11643, k59),
   (11652, k60),
   (11655, k61)], (.tup [(.str 111 801465124560614289489868758751009806255519873970554941901109586308742964628058585172262983926221376482863301889189566133912889770088299636448509407126698111880558641735441055284843781642804314280609668523330810415186169645867271166678982358363419997871871659279216228), (.int .i64 (.ofNat 0))]), gB ++ [(11233, k0),
   (11241, k51),
   (11315, k2),
   (11401, k52),
   (11404, k53),
   (11411, k54),
   (11418, k55),
   (11489, k56),
   (11627, k57),
   (11630, k58),
   (11643, k59),
   (11652, k60),
   (11655, k61)], 12650⟩
theorem F14_ok : FactOk Tryz.prog F14 := fact_ok mixed extFine (knId_ok _) (n := 3000) (by kernel_rfl)
theorem F14_sib : sibIn F14.hin = true := by kernel_rfl
end Go.Proofs.YtggofakkkkkbcaaGreatDoor.Ev
