/- The row's closed facts, one by one. No conditions. -/
import Derived.Test.YtggofakkkkkbcaaGreatDoorJq
import Derived.Test.YtggofakkkkkbcaaGreatDoorV8
import Derived.Test.YtggofakkkkkbcaaGreatDoorRows
import Derived.JoinedOf
import Derived.WalkKit
import GoSem.ClaimSeven
namespace Go.Proofs.YtggofakkkkkbcaaGreatDoor.eagerCounts
open Go
theorem clo : Tryz.prog.closure 3 = [3, 7, 14, 9, 8, 13, 19, 20, 29, 44, 87, 88, 30, 45, 47, 43, 86, 85, 89, 46, 32, 90, 48, 49, 31, 50, 91, 51, 92, 148, 241, 357, 358, 149, 242, 359, 243, 244, 361, 432, 499, 539, 540, 352, 581, 582, 541, 542, 583, 584, 631, 632, 360, 245, 52, 93, 150, 151, 152, 95, 157, 248, 362, 433, 500, 56, 501, 54, 249, 153, 154, 246, 155, 247, 53, 94, 156, 33, 55, 18, 27, 40, 84, 145, 146, 232, 233, 353, 429, 147, 234, 235, 236, 238, 354, 237, 239, 177, 355, 430, 498, 240, 356, 431, 28, 41, 42, 15, 21, 34, 17, 26, 39, 80, 98, 163, 254, 255, 364, 434, 365, 435, 436, 437, 438, 502, 543, 544, 586, 585, 587, 634, 504, 549, 550, 588, 635, 651, 633, 546, 545, 439, 503, 548, 547, 366, 441, 440, 253, 363, 256, 367, 257, 368, 369, 442, 370, 371, 443, 505, 506, 551, 552, 509, 186, 312, 553, 554, 555, 444, 445, 507, 508, 372, 373, 446, 258, 57, 96, 158, 250, 159, 160, 251, 162, 161, 252, 97, 164, 259, 260, 261, 374, 262, 264, 265, 263, 266, 267, 165, 268, 270, 271, 376, 447, 377, 448, 123, 121, 204, 327, 206, 205, 510, 451, 511, 379, 452, 380, 453, 449, 281, 450, 269, 375, 272, 273, 274, 166, 275, 276, 277, 378, 278, 167, 280, 282, 279, 284, 285, 381, 454, 455, 513, 512, 556, 382, 295, 387, 383, 457, 456, 514, 459, 458, 515, 461, 460, 462, 463, 293, 386, 287, 286, 384, 283, 168, 288, 289, 290, 291, 385, 464, 292, 136, 227, 137, 139, 141, 230, 142, 231, 140, 138, 229, 351, 228, 343, 344, 424, 345, 425, 426, 346, 427, 428, 497, 347, 348, 349, 350, 81, 143, 82, 144, 83, 58, 99, 169, 171, 294, 296, 170, 172, 297, 388, 389, 299, 181, 298, 300, 301, 173, 302, 390, 391, 465, 59, 100, 174, 303, 393, 392, 304, 305, 307, 394, 308, 306, 332, 207, 328, 408, 475, 476, 101, 175, 176, 179, 178, 102, 180, 35, 36, 60, 61, 62, 103, 182, 63, 104, 105, 64, 106, 183, 185, 310, 311, 124, 226, 309, 395, 396, 466, 467, 516, 557, 188, 313, 109, 79, 134, 135, 78, 128, 215, 193, 316, 399, 190, 320, 209, 331, 400, 329, 407, 401, 131, 219, 337, 194, 318, 130, 129, 217, 216, 336, 414, 415, 486, 416, 417, 487, 488, 535, 418, 419, 420, 421, 213, 212, 333, 218, 132, 38, 221, 220, 211, 208, 330, 222, 224, 342, 339, 338, 422, 110, 189, 187, 314, 397, 133, 223, 340, 423, 489, 490, 536, 491, 492, 537, 538, 580, 493, 494, 495, 496, 341, 37, 225, 65, 107, 108, 184, 66, 67, 111, 112, 68, 113, 69, 114, 115, 191, 315, 398, 468, 469, 470, 517, 518, 558, 589, 317, 192, 116, 195, 196, 197, 319, 198, 321, 117, 70, 118, 199, 322, 323, 402, 471, 403, 324, 404, 325, 326, 405, 406, 472, 473, 474, 519, 559, 334, 409, 477, 528, 529, 410, 479, 478, 480, 530, 560, 561, 590, 591, 520, 523, 522, 524, 521, 562, 563, 565, 564, 592, 637, 573, 597, 335, 411, 481, 482, 412, 413, 483, 484, 485, 532, 531, 533, 534, 577, 610, 645, 579, 611, 612, 646, 628, 613, 647, 614, 615, 616, 617, 618, 648, 619, 620, 621, 622, 623, 649, 650, 656, 641, 624, 625, 626, 627, 629, 630, 578, 636, 652, 566, 593, 594, 567, 595, 568, 569, 596, 571, 570, 598, 572, 599, 600, 638, 639, 653, 657, 658, 659, 660, 661, 640, 654, 575, 574, 601, 525, 576, 602, 603, 642, 604, 605, 643, 644, 655, 606, 607, 608, 609, 526, 527, 200, 201, 202, 203, 71, 120, 127, 214, 119, 72, 122, 125, 210, 73, 126, 74, 75, 76, 77, 23, 22, 10, 11, 16, 24, 25] := Ev.clo_of Jq.leadsAre (by kernel_rfl)
theorem unf : Tryz.prog.unfollowed 3 = true := by unfold Program.unfollowed; rw [clo]; kernel_rfl
theorem goNotHere : ((Tryz.prog.closure 3).any fun g => (Tryz.prog.funcs[g]?).any Func.goes) = false := by rw [clo]; kernel_rfl
theorem goes : Tryz.prog.goes 3 = false := by unfold Program.goes; rw [goNotHere, Jq.goNot]; cases Tryz.prog.unfollowed 3 <;> rfl
theorem nameIs : Tryz.prog.funcNamed Rows.eagerCountsRow.func = some 3 := by kernel_rfl
set_option maxRecDepth 100000 in
theorem goesBy : false = Rows.eagerCountsRow.goesBy Tryz.prog := by
  unfold OpenClaim.goesBy Program.goesAt Program.goesFrom
  rw [nameIs, Option.any_some, goes]
  kernel_rfl
theorem and2 {a b : Bool} (ha : a = true) (hb : b = true) : (a && b) = true := by rw [ha, hb]; rfl
set_option maxRecDepth 100000 in
theorem j1 : (Rows.eagerCountsRow.wf (OpenSpec.ofChange Rows.eagerCountsSpec)) = true := by kernel_rfl
theorem j2 : (laidOutB Tryz.prog) = true := Jq.j2
theorem j3 : (mapsRowed Tryz.prog) = true := Jq.j3
set_option maxRecDepth 100000 in
theorem j4 : (Tryz.f3.params.all (Tryz.prog.readableRec ·)) = true := by kernel_rfl
set_option maxRecDepth 100000 in
theorem j5 : (namedTie Tryz.prog Rows.eagerCountsRow.named Rows.eagerCountsSpec.vars) = true := by kernel_rfl
set_option maxRecDepth 100000 in
theorem j6 : ((Rows.eagerCountsRow.stops == [])) = true := by kernel_rfl
theorem j7 : ((Tryz.prog.stops == [])) = true := Jq.j7
set_option maxRecDepth 100000 in
theorem j8 : ((Rows.eagerCountsRow.knobs == [])) = true := by kernel_rfl
theorem j9 : ((Tryz.prog.stopKnobs == [])) = true := Jq.j9
set_option maxRecDepth 100000 in
theorem j10 : ((Rows.eagerCountsRow.inPlace == Tryz.prog.inPlace 3)) = true := by unfold Program.inPlace; rw [clo]; kernel_rfl
set_option maxRecDepth 100000 in
theorem j11 : ((Rows.eagerCountsRow.unfollowed == Tryz.prog.unfollowed 3)) = true := by rw [unf]; rfl
set_option maxRecDepth 100000 in
theorem j12 : ((Rows.eagerCountsRow.recurses == Tryz.prog.recurses 3)) = true := by unfold Program.recurses; rw [unf]; rfl
set_option maxRecDepth 100000 in
theorem j13 : ((Rows.eagerCountsRow.named == Tryz.prog.varsNamed 3)) = true := by unfold Program.varsNamed; rw [clo]; kernel_rfl
set_option maxRecDepth 100000 in
theorem j14 : ((Rows.eagerCountsRow.maps == (Tryz.f3.params.toList ++ Rows.eagerCountsSpec.plain.varTypes Tryz.prog).any (Tryz.prog.mapsRec ·))) = true := by kernel_rfl
set_option maxRecDepth 100000 in
theorem j15 : ((Rows.eagerCountsRow.ifaces == (Tryz.f3.params.toList ++ Rows.eagerCountsSpec.plain.varTypes Tryz.prog).any (Tryz.prog.ifacesRec ·))) = true := by kernel_rfl
set_option maxRecDepth 100000 in
theorem j16 : ((Rows.eagerCountsRow.mapsOut == Tryz.prog.mapsAmong Tryz.f3.resultTypes.toList)) = true := by kernel_rfl
set_option maxRecDepth 100000 in
theorem j17 : ((Rows.eagerCountsRow.loops == (Tryz.f3.params.toList ++ Rows.eagerCountsSpec.plain.varTypes Tryz.prog).any (Tryz.prog.loopsFrom ·))) = true := by kernel_rfl
set_option maxRecDepth 100000 in
theorem j18 : ((Rows.eagerCountsRow.wideKeys == (Tryz.f3.params.toList ++ Rows.eagerCountsSpec.plain.varTypes Tryz.prog ++ Tryz.f3.resultTypes.toList).any (Tryz.prog.wideKeysFrom ·))) = true := by kernel_rfl
set_option maxRecDepth 100000 in
theorem j19 : (Rows.eagerCountsSpec.vars.all (Tryz.prog.varReadable ·)) = true := by kernel_rfl
set_option maxRecDepth 100000 in
theorem j20 : (Tryz.f3.resultTypes.all (fun t => Tryz.prog.readableRec t && decide (t < Tryz.prog.types.size))) = true := by kernel_rfl
set_option maxRecDepth 100000 in
theorem j21 : ((Rows.eagerCountsRow.ifacesOut == Tryz.f3.resultTypes.toList.any (Tryz.prog.ifacesRec ·))) = true := by kernel_rfl
set_option maxRecDepth 100000 in
theorem j22 : ((Rows.eagerCountsRow.loopsOut == Tryz.f3.resultTypes.toList.any (Tryz.prog.loopsFrom ·))) = true := by kernel_rfl
set_option maxRecDepth 100000 in
theorem j23 : ((Rows.eagerCountsRow.plainKeys == Tryz.prog.plainKeys)) = true := by rw [Jq.j23]; kernel_rfl
set_option maxRecDepth 100000 in
theorem j24 : (Rows.eagerCountsRow.shortTexts.isNone) = true := by kernel_rfl
theorem j25 : (Tryz.prog.stopsHeard) = true := Jq.j25
theorem j26 : (Tryz.prog.mayEnter) = true := Jq.j26
set_option maxRecDepth 100000 in
theorem j27 : ((Rows.eagerCountsRow.lifted == Tryz.prog.liftsFinal)) = true := by rw [Jq.j27]; kernel_rfl
set_option maxRecDepth 100000 in
theorem j28 : ((Tryz.prog.make == some Rows.eagerCountsRow.make)) = true := by kernel_rfl
set_option maxRecDepth 100000 in
theorem j29 : ((Rows.eagerCountsRow.kinds == (if Rows.eagerCountsRow.domain.isEmpty then [] else Tryz.f3.params.toList.map fun t => match Tryz.prog.underlying t with | some (.int k) => some k | _ => none))) = true := by kernel_rfl
set_option maxRecDepth 100000 in
theorem j30 : ((Rows.eagerCountsRow.pinned == Rows.eagerCountsRow.pinnedBy)) = true := by kernel_rfl
set_option maxRecDepth 100000 in
theorem j31 : ((Rows.eagerCountsRow.veiled == (Tryz.f3.params.toList ++ Rows.eagerCountsSpec.plain.varTypes Tryz.prog ++ Tryz.f3.resultTypes.toList).any (Tryz.prog.veiledRec ·))) = true := by kernel_rfl
set_option maxRecDepth 100000 in
theorem j32 : (Rows.eagerCountsRow.veiledFits Tryz.prog Tryz.f3.params.toList (Tryz.f3.params.toList ++ Rows.eagerCountsSpec.plain.varTypes Tryz.prog ++ Tryz.f3.resultTypes.toList)) = true := by kernel_rfl
set_option maxRecDepth 100000 in
theorem joined : joinedFacts Tryz.prog 3 Tryz.f3 Rows.eagerCountsSpec Rows.eagerCountsRow = true := by
  unfold joinedFacts
  exact (and2 (and2 (and2 (and2 (and2 (and2 (and2 (and2 (and2 (and2 (and2 (and2 (and2 (and2 (and2 (and2 (and2 (and2 (and2 (and2 (and2 (and2 (and2 (and2 (and2 (and2 (and2 (and2 (and2 (and2 (and2 j1 j2) j3) j4) j5) j6) j7) j8) j9) j10) j11) j12) j13) j14) j15) j16) j17) j18) j19) j20) j21) j22) j23) j24) j25) j26) j27) j28) j29) j30) j31) j32)
theorem looksAre : true = Tryz.prog.looks [] := Jq.looksAre
end Go.Proofs.YtggofakkkkkbcaaGreatDoor.eagerCounts
