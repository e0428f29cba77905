/- The row's closed facts, one by one. No conditions. -/
import Derived.Test.YtmoejaloachlkaaGreatDoorRows
import Derived.JoinedOf
import Derived.WalkKit
import GoSem.ClaimSeven
namespace Go.Proofs.YtmoejaloachlkaaGreatDoor.queryNone
open Go
theorem clo : Tryz.prog.closure 3 = [3, 4, 9, 25, 26, 77, 122, 181, 182, 78, 123, 125, 121, 180, 179, 183, 124, 80, 184, 126, 127, 79, 128, 185, 129, 186, 227, 289, 341, 342, 228, 290, 343, 291, 292, 345, 374, 206, 263, 264, 325, 331, 332, 265, 266, 333, 334, 368, 369, 344, 293, 130, 187, 229, 230, 231, 189, 236, 296, 346, 375, 389, 134, 390, 132, 297, 232, 233, 294, 234, 295, 131, 188, 235, 81, 133, 24, 75, 93, 149, 210, 211, 275, 204, 262, 330, 212, 276, 277, 278, 280, 339, 279, 281, 205, 203, 261, 329, 282, 340, 373, 76, 119, 120, 5, 10, 7, 16, 35, 36, 90, 141, 91, 142, 143, 144, 145, 207, 267, 268, 336, 335, 337, 371, 209, 273, 274, 338, 372, 388, 370, 270, 269, 146, 208, 272, 271, 92, 148, 147, 34, 89, 37, 94, 38, 95, 96, 150, 97, 98, 151, 213, 214, 283, 284, 217, 242, 303, 285, 286, 287, 152, 153, 215, 216, 99, 100, 154, 39, 17, 40, 101, 155, 102, 103, 156, 105, 104, 157, 41, 18, 42, 43, 44, 106, 45, 47, 48, 46, 49, 50, 19, 51, 53, 54, 108, 158, 109, 159, 162, 135, 190, 237, 221, 220, 218, 163, 219, 111, 164, 112, 165, 160, 27, 161, 52, 107, 55, 56, 57, 20, 58, 59, 60, 110, 61, 21, 63, 64, 62, 66, 67, 113, 166, 167, 223, 222, 288, 115, 114, 168, 116, 170, 169, 224, 172, 171, 225, 174, 173, 175, 177, 176, 226, 69, 68, 117, 65, 22, 70, 71, 72, 73, 118, 178, 74, 28, 29, 82, 83, 136, 137, 32, 86, 191, 84, 30, 85, 31, 33, 87, 88, 138, 192, 238, 298, 299, 139, 140, 193, 239, 300, 347, 376, 391, 392, 348, 378, 377, 379, 393, 240, 241, 301, 302, 194, 197, 196, 198, 195, 243, 244, 246, 245, 304, 350, 254, 309, 351, 381, 394, 395, 382, 383, 396, 397, 398, 401, 400, 402, 403, 406, 409, 430, 355, 410, 411, 431, 357, 412, 432, 413, 414, 415, 416, 417, 433, 260, 326, 365, 327, 366, 259, 328, 367, 418, 419, 420, 421, 422, 434, 435, 436, 359, 423, 424, 425, 426, 427, 428, 310, 352, 407, 349, 380, 247, 305, 306, 248, 307, 249, 250, 308, 252, 251, 311, 253, 312, 313, 353, 314, 354, 356, 384, 385, 399, 404, 405, 408, 429, 358, 386, 256, 255, 315, 199, 258, 324, 257, 316, 317, 360, 318, 361, 362, 319, 363, 364, 387, 320, 321, 322, 323, 200, 201, 202, 11, 12, 13, 14, 6, 15, 8, 23] := by kernel_rfl
theorem unf : Tryz.prog.unfollowed 3 = true := by unfold Program.unfollowed; rw [clo]; kernel_rfl
theorem goNot : (Tryz.prog.funcs.any Func.goes) = false := by kernel_rfl
theorem goNotHere : ((Tryz.prog.closure 3).any fun g => (Tryz.prog.funcs[g]?).any Func.goes) = false := by rw [clo]; kernel_rfl
theorem goes : Tryz.prog.goes 3 = false := by unfold Program.goes; rw [goNotHere, goNot]; cases Tryz.prog.unfollowed 3 <;> rfl
theorem nameIs : Tryz.prog.funcNamed Rows.queryNoneRow.func = some 3 := by kernel_rfl
set_option maxRecDepth 100000 in
theorem goesBy : false = Rows.queryNoneRow.goesBy Tryz.prog := by
  unfold OpenClaim.goesBy Program.goesAt Program.goesFrom
  rw [nameIs, Option.any_some, goes]
  kernel_rfl
theorem and2 {a b : Bool} (ha : a = true) (hb : b = true) : (a && b) = true := by rw [ha, hb]; rfl
theorem j1 : (Rows.queryNoneRow.wf (OpenSpec.ofChange Rows.queryNoneSpec)) = true := by kernel_rfl
theorem j2 : (laidOutB Tryz.prog) = true := by kernel_rfl
theorem j3 : (mapsRowed Tryz.prog) = true := by kernel_rfl
theorem j4 : (Tryz.f3.params.all (Tryz.prog.readableRec ·)) = true := by kernel_rfl
theorem j5 : (namedTie Tryz.prog Rows.queryNoneRow.named Rows.queryNoneSpec.vars) = true := by kernel_rfl
theorem j6 : ((Rows.queryNoneRow.stops == [])) = true := by kernel_rfl
theorem j7 : ((Tryz.prog.stops == [])) = true := by kernel_rfl
theorem j8 : ((Rows.queryNoneRow.knobs == [])) = true := by kernel_rfl
theorem j9 : ((Tryz.prog.stopKnobs == [])) = true := by kernel_rfl
theorem j10 : ((Rows.queryNoneRow.inPlace == Tryz.prog.inPlace 3)) = true := by unfold Program.inPlace; rw [clo]; kernel_rfl
theorem j11 : ((Rows.queryNoneRow.unfollowed == Tryz.prog.unfollowed 3)) = true := by rw [unf]; rfl
theorem j12 : ((Rows.queryNoneRow.recurses == Tryz.prog.recurses 3)) = true := by unfold Program.recurses; rw [unf]; rfl
theorem j13 : ((Rows.queryNoneRow.named == Tryz.prog.varsNamed 3)) = true := by unfold Program.varsNamed; rw [clo]; kernel_rfl
theorem j14 : ((Rows.queryNoneRow.maps == (Tryz.f3.params.toList ++ Rows.queryNoneSpec.plain.varTypes Tryz.prog).any (Tryz.prog.mapsRec ·))) = true := by kernel_rfl
theorem j15 : ((Rows.queryNoneRow.ifaces == (Tryz.f3.params.toList ++ Rows.queryNoneSpec.plain.varTypes Tryz.prog).any (Tryz.prog.ifacesRec ·))) = true := by kernel_rfl
theorem j16 : ((Rows.queryNoneRow.mapsOut == Tryz.prog.mapsAmong Tryz.f3.resultTypes.toList)) = true := by kernel_rfl
theorem j17 : ((Rows.queryNoneRow.loops == (Tryz.f3.params.toList ++ Rows.queryNoneSpec.plain.varTypes Tryz.prog).any (Tryz.prog.loopsFrom ·))) = true := by kernel_rfl
theorem j18 : ((Rows.queryNoneRow.wideKeys == (Tryz.f3.params.toList ++ Rows.queryNoneSpec.plain.varTypes Tryz.prog ++ Tryz.f3.resultTypes.toList).any (Tryz.prog.wideKeysFrom ·))) = true := by kernel_rfl
theorem j19 : (Rows.queryNoneSpec.vars.all (Tryz.prog.varReadable ·)) = true := by kernel_rfl
theorem j20 : (Tryz.f3.resultTypes.all (fun t => Tryz.prog.readableRec t && decide (t < Tryz.prog.types.size))) = true := by kernel_rfl
theorem j21 : ((Rows.queryNoneRow.ifacesOut == Tryz.f3.resultTypes.toList.any (Tryz.prog.ifacesRec ·))) = true := by kernel_rfl
theorem j22 : ((Rows.queryNoneRow.loopsOut == Tryz.f3.resultTypes.toList.any (Tryz.prog.loopsFrom ·))) = true := by kernel_rfl
theorem j23 : ((Rows.queryNoneRow.plainKeys == Tryz.prog.plainKeys)) = true := by kernel_rfl
theorem j24 : (Rows.queryNoneRow.shortTexts.isNone) = true := by kernel_rfl
theorem j25 : (Tryz.prog.stopsHeard) = true := by kernel_rfl
theorem j26 : (Tryz.prog.mayEnter) = true := by kernel_rfl
theorem j27 : ((Rows.queryNoneRow.lifted == Tryz.prog.liftsFinal)) = true := by kernel_rfl
theorem j28 : ((Tryz.prog.make == some Rows.queryNoneRow.make)) = true := by kernel_rfl
theorem j29 : ((Rows.queryNoneRow.kinds == (if Rows.queryNoneRow.domain.isEmpty then [] else Tryz.f3.params.toList.map fun t => match Tryz.prog.underlying t with | some (.int k) => some k | _ => none))) = true := by kernel_rfl
theorem j30 : ((Rows.queryNoneRow.pinned == Rows.queryNoneRow.pinnedBy)) = true := by kernel_rfl
theorem j31 : ((Rows.queryNoneRow.veiled == (Tryz.f3.params.toList ++ Rows.queryNoneSpec.plain.varTypes Tryz.prog ++ Tryz.f3.resultTypes.toList).any (Tryz.prog.veiledRec ·))) = true := by kernel_rfl
theorem j32 : (Rows.queryNoneRow.veiledFits Tryz.prog Tryz.f3.params.toList (Tryz.f3.params.toList ++ Rows.queryNoneSpec.plain.varTypes Tryz.prog ++ Tryz.f3.resultTypes.toList)) = true := by kernel_rfl
set_option maxRecDepth 100000 in
theorem joined : joinedFacts Tryz.prog 3 Tryz.f3 Rows.queryNoneSpec Rows.queryNoneRow = true := by
  unfold joinedFacts
  exact (and2 (and2 (and2 (and2 (and2 (and2 (and2 (and2 (and2 (and2 (and2 (and2 (and2 (and2 (and2 (and2 (and2 (and2 (and2 (and2 (and2 (and2 (and2 (and2 (and2 (and2 (and2 (and2 (and2 (and2 (and2 j1 j2) j3) j4) j5) j6) j7) j8) j9) j10) j11) j12) j13) j14) j15) j16) j17) j18) j19) j20) j21) j22) j23) j24) j25) j26) j27) j28) j29) j30) j31) j32)
theorem looksAre : true = Tryz.prog.looks [] := by kernel_rfl
end Go.Proofs.YtmoejaloachlkaaGreatDoor.queryNone
