/- The row's closed facts, one by one. No conditions. -/
import Derived.Test.YthbabhnbiilimaaGreatDoorMa
import Derived.Test.YthbabhnbiilimaaGreatDoorRows
import Derived.JoinedOf
import Derived.WalkKit
import GoSem.ClaimSeven
namespace Go.Proofs.YthbabhnbiilimaaGreatDoor.matchSameUpto
open Go
theorem hl_eq : Ev.firstL Tryz.prog Rows.matchSameUptoRow.laid = Ev.hl := by kernel_rfl
/-- What each function leads to. -/
def leads : List (List Nat) := [[], [], [1], [4, 5, 6, 7, 8, 9, 5], [10], [11, 13, 13, 13, 14, 12, 13, 13, 13, 14, 15, 14, 16], [17, 18], [21], [22, 23, 24], [27], [10], [28], [29, 30, 31], [32], [], [33, 30, 34, 36, 37, 35, 40, 44, 46, 45], [], [], [19, 20], [], [19, 20], [47], [48, 48], [], [22, 22, 26, 25], [], [49, 43], [50], [52, 51], [33, 54], [55, 16, 56, 57], [36, 58, 35, 61, 8], [], [62, 55, 63, 64, 65, 66, 67], [68], [69, 70, 72, 71, 73, 74, 75, 35, 78, 77, 79, 80, 81, 83, 82], [84, 36, 36, 36, 84, 84, 34, 85, 86], [38, 39], [87], [88, 89, 90], [41, 42], [], [43], [22, 92, 92, 93, 49, 43, 94], [96, 95], [], [], [97], [], [], [98, 99], [100, 101], [53], [102, 103, 102, 104, 105, 106], [107, 109, 108, 110, 111], [112, 113], [114, 115, 116], [], [59, 60, 39], [117, 118], [119], [96, 120], [122, 121, 124, 125, 126], [127, 130, 132, 133, 131, 131, 134], [136, 140, 131], [143, 131, 146], [148, 147, 152, 131, 151], [156, 131, 160], [161, 162], [35], [], [163, 164], [], [165, 166, 35], [167, 35], [76], [168, 38], [169, 171, 170, 80], [], [172, 35, 173], [174, 20], [169], [174, 169, 175, 80], [], [176], [55, 177, 129, 179, 178, 181, 180, 114, 128], [114, 183, 182], [], [88], [96, 184], [91], [185], [], [186, 186], [187, 187], [188, 189, 190, 191, 192, 193, 194, 195, 95, 95], [196, 197], [47], [99, 99, 99, 50, 99], [], [198], [199, 200, 201], [202], [203, 102, 203, 204, 202, 102, 205, 206, 207], [208, 102, 102, 209, 102, 208, 102, 208, 102, 105, 210, 105, 102, 211], [102, 201], [203, 204, 213, 212, 210, 105], [], [], [216, 215], [219, 108, 220, 222], [224], [225, 177, 177, 226, 225, 228, 227], [], [177, 226, 229], [], [230, 163], [], [230, 231], [88], [232, 233, 234, 235, 236, 237, 238, 239, 120, 120], [240], [123], [241, 242, 243], [198, 244, 101], [245, 246, 247, 248, 249, 250], [], [128, 129], [], [251], [], [], [], [], [135], [129], [138, 137], [252], [139], [253, 254], [141, 142, 137], [], [139], [144, 137], [139, 145], [177, 251, 255, 256, 255, 256], [], [147, 147, 147], [150, 149], [], [], [], [153, 155, 154], [68, 38, 257, 217, 258], [259], [], [157, 158, 137], [157, 157, 157], [159], [260, 251, 251], [157], [38], [68, 262, 261], [226], [86, 80, 80, 264, 263], [], [], [73], [], [265], [266], [20], [59, 169], [38, 170, 267, 268, 269, 43, 270, 271, 230, 268, 272, 272, 272], [], [273, 274], [275, 276], [], [178], [129], [178, 178, 178, 180, 180, 180], [129], [], [], [277, 278, 279, 280, 281, 282, 283, 284, 184, 184], [285], [], [], [], [286, 286], [287, 288], [289, 289, 289, 290], [], [], [], [], [], [], [291], [], [], [293, 292], [294, 295], [205, 294, 201, 296], [293, 105, 297], [294, 295], [203, 105, 102, 102, 102, 102, 102, 105, 203], [105], [298, 201, 296], [102, 298, 201, 294, 299, 201], [202, 300], [202, 202, 296, 203, 301, 102, 302, 301, 102, 302, 102, 208, 102, 302, 105, 105], [202, 102, 207], [214], [298, 294, 201, 296], [303], [109, 109, 218, 217], [304], [109], [110, 305, 110, 305, 306, 110, 305, 110, 221, 306, 110, 108, 110, 108], [221], [307], [223, 108], [223, 223, 223], [308, 309, 111, 111, 309, 309, 111], [310], [311], [312], [], [313], [314], [92, 315, 315, 315, 231], [], [316, 316], [287, 288], [317, 317, 317, 318], [], [], [], [], [], [319, 319, 319, 319, 319, 319, 319], [320, 319, 319, 321, 319, 322, 319, 320, 319, 320, 319, 319, 319, 319, 323, 319, 324, 319], [319, 326, 325, 319, 323, 319], [53], [], [327], [], [328, 329, 330], [], [331, 328], [], [], [332], [333, 256, 129, 256, 251, 139, 256, 38, 128, 251, 129, 334, 149, 251, 256, 129, 139, 251, 139, 139, 251, 335], [38, 251, 86, 251, 256], [336, 178], [153], [338, 337, 340, 339, 341, 180, 342, 217], [], [159, 344, 159, 344, 344, 159, 344, 159, 159, 344, 159, 251], [345], [38], [346], [81], [347, 348, 349], [], [230], [], [350, 351], [], [268, 352, 352, 268, 270], [272], [353, 354, 355], [356, 273], [357], [359, 358, 358, 358, 276, 358, 360, 276, 358, 276, 358, 358, 358], [], [361, 361], [287, 288], [362, 362, 362, 363], [], [], [], [], [], [], [96], [], [290], [364, 364, 364], [365], [], [], [], [], [], [292], [294], [368, 369], [102, 370, 102, 370, 102, 204, 371, 105, 371, 207, 202, 372, 102, 204, 302, 207, 102, 373, 102, 374, 298, 202, 214, 105, 302, 375], [204, 202, 201, 376, 212], [377], [], [], [306], [], [], [], [378, 309], [], [], [], [], [314], [], [], [318], [379, 379, 379], [], [380, 381, 380, 380, 380, 380, 382], [], [383], [384], [319, 385, 319, 386, 385, 319, 386, 320, 319, 319, 319], [319], [319], [], [387, 388], [], [389, 390, 391], [], [], [177, 128, 251, 253, 86, 251, 129, 129, 392, 178, 393], [], [139, 128], [251, 128, 251], [394], [], [395], [], [], [343, 215], [258], [], [], [], [396, 397], [], [398, 399, 400], [], [401], [], [118], [], [36, 80, 402, 35, 403, 26, 404, 405], [], [20, 230, 406, 407, 357], [], [359], [358, 408], [], [363], [409, 409, 409], [], [366, 367], [410, 410, 381], [411, 410, 412, 413, 413, 414, 415, 414, 416, 417], [418], [419, 420, 421, 422], [204, 371, 207], [300, 210], [204, 371, 105, 371, 102, 207], [204, 214, 105, 102, 203, 204, 302, 207, 105, 371, 207], [203, 204, 423, 212], [298, 214, 105, 203, 204, 424, 212], [203, 105, 302], [425, 377, 293, 294, 377, 426], [378], [], [427], [428], [], [429, 430, 431, 432], [433, 434, 319, 323, 319, 319, 323, 319, 323, 319, 319, 319, 323, 319, 319, 386, 319, 386, 319, 323, 319, 319, 386, 319, 319, 436, 435, 319], [319, 438, 437, 319], [433, 439, 319, 386, 319, 440, 321, 386, 319, 321, 319, 386, 321, 386, 319, 386], [], [441, 442, 391, 328, 328, 443, 328, 391, 444, 445], [], [391], [20, 442, 391], [128, 251, 86, 251], [], [], [], [], [230, 407, 407, 406, 406, 20], [], [], [447, 446, 398, 448, 398, 448, 399, 398, 398, 448, 399, 230, 398, 446, 399, 449, 398, 446, 398], [450, 450, 451, 451], [174, 88], [96, 452], [], [26], [], [], [], [], [], [], [], [410, 412, 415, 453], [], [], [410, 382, 410, 381, 380, 380], [454, 381], [455, 455, 455, 455, 455, 455, 456], [457], [457], [457, 459, 458], [457, 459, 458], [298, 202, 214, 105, 302], [298, 202, 214, 105, 203, 302], [293, 202, 102, 102, 460, 297, 425, 426], [292], [461], [462], [], [197, 463, 464], [], [465, 466], [321], [319, 319, 468, 467, 319, 469, 319], [319], [319, 386], [319], [319, 386], [], [470, 319, 319, 319, 469, 319, 321, 319, 469, 319, 321, 319, 469, 319], [], [], [], [], [391], [], [447], [230, 398, 447, 446], [471, 170, 472, 268], [], [473, 451, 451], [474, 475, 476, 477, 478, 479, 480, 481, 452, 452], [412, 414], [482], [], [455, 455, 455, 455, 455, 455], [], [], [483], [484, 293, 102, 203, 426], [], [], [], [], [], [485, 486], [319], [319], [488, 487], [319, 489, 319, 322, 319, 320, 319], [490, 491, 490, 494, 496, 497, 498, 499, 498, 500, 498, 501, 498, 502, 503, 492, 493, 492, 504, 492, 505, 492, 506, 507, 508], [230], [510, 510, 510], [], [511, 511], [287, 288], [512, 512, 512, 513], [], [], [], [], [], [383], [293, 294, 299, 201, 514, 296, 514, 102, 102, 514, 102, 514, 214, 202, 204, 377, 207, 202, 204, 515, 212, 426, 102, 204, 377, 207, 426, 102, 204, 377, 105, 377, 207, 426, 203], [], [], [319], [386], [516], [517], [492, 493], [518], [519], [495], [], [20, 495], [20, 495], [520], [], [], [], [], [492, 521, 268, 268, 522, 272], [519], [519], [], [268, 270], [268, 509, 170, 495], [20], [], [], [513], [523, 523, 523], [], [377], [], [268], [268, 268, 270], [], [268, 43, 495], [519], [524], [], [], [], [], [], [], [], [], [], [], [], [], [], [], [], [], [], [86], [86], [174], [], [], [], [], [], [], [], [], [], [], [], [], [458, 458]]
theorem leadsAre : Tryz.prog.funcs.toList.map Tryz.prog.leadsTo = leads := by kernel_rfl
theorem goNot : (Tryz.prog.funcs.any Func.goes) = false := by kernel_rfl
theorem clo : Tryz.prog.closure 3 = [3, 4, 10, 5, 11, 28, 52, 53, 102, 202, 294, 295, 103, 203, 205, 201, 293, 292, 296, 204, 105, 297, 206, 207, 104, 208, 298, 209, 299, 368, 418, 455, 456, 369, 419, 457, 420, 421, 459, 483, 383, 429, 430, 197, 463, 464, 431, 432, 465, 466, 485, 486, 458, 422, 210, 300, 370, 371, 372, 302, 377, 425, 460, 484, 514, 214, 515, 212, 426, 373, 374, 423, 375, 424, 211, 301, 376, 106, 213, 51, 100, 198, 291, 365, 366, 410, 381, 428, 462, 367, 411, 412, 413, 415, 453, 414, 416, 382, 380, 427, 461, 417, 454, 482, 101, 199, 200, 13, 32, 14, 12, 29, 33, 62, 122, 123, 241, 319, 242, 320, 321, 322, 323, 384, 433, 434, 468, 467, 469, 488, 386, 439, 440, 470, 489, 516, 487, 436, 435, 324, 385, 438, 437, 243, 326, 325, 121, 240, 124, 244, 125, 245, 246, 327, 247, 248, 328, 387, 388, 441, 442, 391, 20, 19, 443, 444, 445, 329, 330, 389, 390, 249, 250, 331, 126, 55, 112, 225, 310, 177, 226, 311, 228, 227, 312, 113, 63, 127, 128, 129, 251, 130, 132, 133, 131, 134, 135, 64, 136, 138, 139, 253, 332, 254, 333, 86, 114, 229, 313, 183, 182, 392, 178, 393, 256, 336, 38, 87, 334, 149, 335, 137, 252, 140, 141, 142, 65, 143, 144, 145, 255, 146, 66, 148, 150, 147, 152, 153, 68, 161, 162, 262, 261, 345, 257, 217, 304, 258, 338, 337, 394, 340, 339, 395, 341, 180, 342, 343, 215, 303, 155, 154, 259, 151, 67, 156, 157, 158, 159, 260, 344, 160, 54, 107, 109, 216, 218, 108, 110, 219, 305, 306, 221, 307, 220, 222, 223, 111, 224, 308, 309, 378, 30, 16, 56, 115, 116, 230, 314, 163, 57, 31, 36, 84, 176, 275, 357, 406, 407, 276, 359, 358, 360, 408, 34, 85, 179, 181, 58, 59, 117, 118, 231, 92, 315, 60, 119, 88, 39, 89, 96, 196, 184, 277, 278, 361, 279, 287, 288, 280, 362, 363, 409, 281, 282, 283, 284, 90, 91, 185, 285, 35, 69, 70, 72, 71, 164, 80, 174, 264, 81, 169, 265, 347, 396, 397, 348, 349, 398, 399, 400, 447, 446, 448, 449, 471, 490, 517, 268, 491, 492, 518, 270, 493, 519, 494, 495, 496, 497, 498, 520, 43, 22, 48, 93, 186, 49, 94, 187, 499, 500, 501, 502, 503, 521, 522, 524, 272, 504, 505, 506, 507, 508, 509, 170, 266, 472, 263, 346, 73, 165, 166, 74, 167, 75, 76, 168, 78, 77, 171, 79, 172, 173, 267, 269, 350, 351, 401, 450, 451, 473, 510, 271, 352, 83, 82, 175, 273, 353, 354, 355, 402, 403, 452, 474, 475, 511, 476, 477, 512, 513, 523, 478, 479, 480, 481, 26, 404, 405, 274, 356, 61, 120, 232, 233, 316, 234, 235, 317, 318, 379, 236, 237, 238, 239, 8, 23, 24, 25, 15, 37, 40, 41, 42, 44, 95, 188, 189, 286, 190, 191, 289, 290, 364, 192, 193, 194, 195, 46, 45, 6, 17, 18, 7, 21, 47, 97, 9, 27, 50, 98, 99] := Ev.clo_of leadsAre (by kernel_rfl)
theorem unf : Tryz.prog.unfollowed 3 = true := by unfold Program.unfollowed; rw [clo]; kernel_rfl
theorem goNotHere : ((Tryz.prog.closure 3).any fun g => (Tryz.prog.funcs[g]?).any Func.goes) = false := by rw [clo]; kernel_rfl
theorem goes : Tryz.prog.goes 3 = false := by unfold Program.goes; rw [goNotHere, goNot]; cases Tryz.prog.unfollowed 3 <;> rfl
theorem nameIs : Tryz.prog.funcNamed Rows.matchSameUptoRow.func = some 3 := by kernel_rfl
set_option maxRecDepth 100000 in
theorem goesBy : false = Rows.matchSameUptoRow.goesBy Tryz.prog := by
  unfold OpenClaim.goesBy Program.goesAt Program.goesFrom
  rw [nameIs, Option.any_some, goes]
  kernel_rfl
theorem and2 {a b : Bool} (ha : a = true) (hb : b = true) : (a && b) = true := by rw [ha, hb]; rfl
theorem range_all (f : Nat → Bool) (n m : Nat) (h1 : (List.range n).all f = true) (h2 : ((List.range m).all fun i => f (n + i)) = true) : (List.range (n + m)).all f = true := by
  rw [List.range_add, List.all_append, h1, List.all_map]
  exact h2
set_option maxRecDepth 100000 in
theorem tsize : Tryz.prog.types.size = 595 := by kernel_rfl
set_option maxRecDepth 100000 in
theorem s0 : (List.range 50).all (rowFine Tryz.prog) = true := by kernel_rfl
set_option maxRecDepth 100000 in
theorem r1 : ((List.range 50).all fun i => rowFine Tryz.prog (50 + i)) = true := by kernel_rfl
set_option maxRecDepth 100000 in
theorem s1 : (List.range 100).all (rowFine Tryz.prog) = true := range_all (rowFine Tryz.prog) 50 50 s0 r1
set_option maxRecDepth 100000 in
theorem r2 : ((List.range 50).all fun i => rowFine Tryz.prog (100 + i)) = true := by kernel_rfl
set_option maxRecDepth 100000 in
theorem s2 : (List.range 150).all (rowFine Tryz.prog) = true := range_all (rowFine Tryz.prog) 100 50 s1 r2
set_option maxRecDepth 100000 in
theorem r3 : ((List.range 50).all fun i => rowFine Tryz.prog (150 + i)) = true := by kernel_rfl
set_option maxRecDepth 100000 in
theorem s3 : (List.range 200).all (rowFine Tryz.prog) = true := range_all (rowFine Tryz.prog) 150 50 s2 r3
set_option maxRecDepth 100000 in
theorem r4 : ((List.range 50).all fun i => rowFine Tryz.prog (200 + i)) = true := by kernel_rfl
set_option maxRecDepth 100000 in
theorem s4 : (List.range 250).all (rowFine Tryz.prog) = true := range_all (rowFine Tryz.prog) 200 50 s3 r4
set_option maxRecDepth 100000 in
theorem r5 : ((List.range 50).all fun i => rowFine Tryz.prog (250 + i)) = true := by kernel_rfl
set_option maxRecDepth 100000 in
theorem s5 : (List.range 300).all (rowFine Tryz.prog) = true := range_all (rowFine Tryz.prog) 250 50 s4 r5
set_option maxRecDepth 100000 in
theorem r6 : ((List.range 50).all fun i => rowFine Tryz.prog (300 + i)) = true := by kernel_rfl
set_option maxRecDepth 100000 in
theorem s6 : (List.range 350).all (rowFine Tryz.prog) = true := range_all (rowFine Tryz.prog) 300 50 s5 r6
set_option maxRecDepth 100000 in
theorem r7 : ((List.range 50).all fun i => rowFine Tryz.prog (350 + i)) = true := by kernel_rfl
set_option maxRecDepth 100000 in
theorem s7 : (List.range 400).all (rowFine Tryz.prog) = true := range_all (rowFine Tryz.prog) 350 50 s6 r7
set_option maxRecDepth 100000 in
theorem r8 : ((List.range 50).all fun i => rowFine Tryz.prog (400 + i)) = true := by kernel_rfl
set_option maxRecDepth 100000 in
theorem s8 : (List.range 450).all (rowFine Tryz.prog) = true := range_all (rowFine Tryz.prog) 400 50 s7 r8
set_option maxRecDepth 100000 in
theorem r9 : ((List.range 50).all fun i => rowFine Tryz.prog (450 + i)) = true := by kernel_rfl
set_option maxRecDepth 100000 in
theorem s9 : (List.range 500).all (rowFine Tryz.prog) = true := range_all (rowFine Tryz.prog) 450 50 s8 r9
set_option maxRecDepth 100000 in
theorem r10 : ((List.range 50).all fun i => rowFine Tryz.prog (500 + i)) = true := by kernel_rfl
set_option maxRecDepth 100000 in
theorem s10 : (List.range 550).all (rowFine Tryz.prog) = true := range_all (rowFine Tryz.prog) 500 50 s9 r10
set_option maxRecDepth 100000 in
theorem r11 : ((List.range 45).all fun i => rowFine Tryz.prog (550 + i)) = true := by kernel_rfl
set_option maxRecDepth 100000 in
theorem s11 : (List.range 595).all (rowFine Tryz.prog) = true := range_all (rowFine Tryz.prog) 550 45 s10 r11
set_option maxRecDepth 100000 in
theorem j1 : (Rows.matchSameUptoRow.wf (OpenSpec.ofChange (Rows.OpenSpec.upto Rows.matchSameSpec).bare)) = true := by kernel_rfl
set_option maxRecDepth 100000 in
theorem j2 : (laidOutB Tryz.prog) = true := by
  unfold laidOutB
  rw [tsize, s11]
  kernel_rfl
set_option maxRecDepth 100000 in
theorem j3 : (mapsRowed Tryz.prog) = true := by kernel_rfl
set_option maxRecDepth 100000 in
theorem j4 : (Tryz.f3.params.all (Tryz.prog.readableRec ·)) = true := by kernel_rfl
set_option maxRecDepth 100000 in
theorem j5 : (namedTie Tryz.prog Rows.matchSameUptoRow.named (Rows.OpenSpec.upto Rows.matchSameSpec).bare.vars) = true := by kernel_rfl
set_option maxRecDepth 100000 in
theorem j6 : ((Rows.matchSameUptoRow.stops == [])) = true := by kernel_rfl
set_option maxRecDepth 100000 in
theorem j7 : ((Tryz.prog.stops == [])) = true := by kernel_rfl
set_option maxRecDepth 100000 in
theorem j8 : ((Rows.matchSameUptoRow.knobs == [])) = true := by kernel_rfl
set_option maxRecDepth 100000 in
theorem j9 : ((Tryz.prog.stopKnobs == [])) = true := by kernel_rfl
set_option maxRecDepth 100000 in
theorem j10 : ((Rows.matchSameUptoRow.inPlace == Tryz.prog.inPlace 3)) = true := by unfold Program.inPlace; rw [clo]; kernel_rfl
set_option maxRecDepth 100000 in
theorem j11 : ((Rows.matchSameUptoRow.unfollowed == Tryz.prog.unfollowed 3)) = true := by rw [unf]; rfl
set_option maxRecDepth 100000 in
theorem j12 : ((Rows.matchSameUptoRow.recurses == Tryz.prog.recurses 3)) = true := by unfold Program.recurses; rw [unf]; rfl
set_option maxRecDepth 100000 in
theorem j13 : ((Rows.matchSameUptoRow.named == Tryz.prog.varsNamed 3)) = true := by unfold Program.varsNamed; rw [clo]; kernel_rfl
set_option maxRecDepth 100000 in
theorem j14 : ((Rows.matchSameUptoRow.maps == (Tryz.f3.params.toList ++ (Rows.OpenSpec.upto Rows.matchSameSpec).bare.plain.varTypes Tryz.prog).any (Tryz.prog.mapsRec ·))) = true := by kernel_rfl
set_option maxRecDepth 100000 in
theorem j15 : ((Rows.matchSameUptoRow.ifaces == (Tryz.f3.params.toList ++ (Rows.OpenSpec.upto Rows.matchSameSpec).bare.plain.varTypes Tryz.prog).any (Tryz.prog.ifacesRec ·))) = true := by kernel_rfl
set_option maxRecDepth 100000 in
theorem j16 : ((Rows.matchSameUptoRow.mapsOut == Tryz.prog.mapsAmong Tryz.f3.resultTypes.toList)) = true := by kernel_rfl
set_option maxRecDepth 100000 in
theorem j17 : ((Rows.matchSameUptoRow.loops == (Tryz.f3.params.toList ++ (Rows.OpenSpec.upto Rows.matchSameSpec).bare.plain.varTypes Tryz.prog).any (Tryz.prog.loopsFrom ·))) = true := by kernel_rfl
set_option maxRecDepth 100000 in
theorem j18 : ((Rows.matchSameUptoRow.wideKeys == (Tryz.f3.params.toList ++ (Rows.OpenSpec.upto Rows.matchSameSpec).bare.plain.varTypes Tryz.prog ++ Tryz.f3.resultTypes.toList).any (Tryz.prog.wideKeysFrom ·))) = true := by kernel_rfl
set_option maxRecDepth 100000 in
theorem j19 : ((Rows.OpenSpec.upto Rows.matchSameSpec).bare.vars.all (Tryz.prog.varReadable ·)) = true := by kernel_rfl
set_option maxRecDepth 100000 in
theorem j20 : (Tryz.f3.resultTypes.all (fun t => Tryz.prog.readableRec t && decide (t < Tryz.prog.types.size))) = true := by kernel_rfl
set_option maxRecDepth 100000 in
theorem j21 : ((Rows.matchSameUptoRow.ifacesOut == Tryz.f3.resultTypes.toList.any (Tryz.prog.ifacesRec ·))) = true := by kernel_rfl
set_option maxRecDepth 100000 in
theorem j22 : ((Rows.matchSameUptoRow.loopsOut == Tryz.f3.resultTypes.toList.any (Tryz.prog.loopsFrom ·))) = true := by kernel_rfl
set_option maxRecDepth 100000 in
theorem j23 : ((Rows.matchSameUptoRow.plainKeys == Tryz.prog.plainKeys)) = true := by kernel_rfl
set_option maxRecDepth 100000 in
theorem j24 : (Rows.matchSameUptoRow.shortTexts.isNone) = true := by kernel_rfl
set_option maxRecDepth 100000 in
theorem j25 : (Tryz.prog.stopsHeard) = true := by kernel_rfl
set_option maxRecDepth 100000 in
theorem j26 : (Tryz.prog.mayEnter) = true := by kernel_rfl
set_option maxRecDepth 100000 in
theorem j27 : ((Rows.matchSameUptoRow.lifted == Tryz.prog.liftsFinal)) = true := by kernel_rfl
set_option maxRecDepth 100000 in
theorem j28 : ((Tryz.prog.make == some Rows.matchSameUptoRow.make)) = true := by kernel_rfl
set_option maxRecDepth 100000 in
theorem j29 : ((Rows.matchSameUptoRow.kinds == (if Rows.matchSameUptoRow.domain.isEmpty then [] else Tryz.f3.params.toList.map fun t => match Tryz.prog.underlying t with | some (.int k) => some k | _ => none))) = true := by kernel_rfl
set_option maxRecDepth 100000 in
theorem j30 : ((Rows.matchSameUptoRow.pinned == Rows.matchSameUptoRow.pinnedBy)) = true := by kernel_rfl
set_option maxRecDepth 100000 in
theorem j31 : ((Rows.matchSameUptoRow.veiled == (Tryz.f3.params.toList ++ (Rows.OpenSpec.upto Rows.matchSameSpec).bare.plain.varTypes Tryz.prog ++ Tryz.f3.resultTypes.toList).any (Tryz.prog.veiledRec ·))) = true := by kernel_rfl
set_option maxRecDepth 100000 in
theorem j32 : (Rows.matchSameUptoRow.veiledFits Tryz.prog Tryz.f3.params.toList (Tryz.f3.params.toList ++ (Rows.OpenSpec.upto Rows.matchSameSpec).bare.plain.varTypes Tryz.prog ++ Tryz.f3.resultTypes.toList)) = true := by kernel_rfl
set_option maxRecDepth 100000 in
theorem joined : joinedFacts Tryz.prog 3 Tryz.f3 (Rows.OpenSpec.upto Rows.matchSameSpec).bare Rows.matchSameUptoRow = true := by
  unfold joinedFacts
  exact (and2 (and2 (and2 (and2 (and2 (and2 (and2 (and2 (and2 (and2 (and2 (and2 (and2 (and2 (and2 (and2 (and2 (and2 (and2 (and2 (and2 (and2 (and2 (and2 (and2 (and2 (and2 (and2 (and2 (and2 (and2 j1 j2) j3) j4) j5) j6) j7) j8) j9) j10) j11) j12) j13) j14) j15) j16) j17) j18) j19) j20) j21) j22) j23) j24) j25) j26) j27) j28) j29) j30) j31) j32)
theorem looksAre : true = Tryz.prog.looks [] := by kernel_rfl
end Go.Proofs.YthbabhnbiilimaaGreatDoor.matchSameUpto
