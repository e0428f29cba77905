/- The row's closed facts, ahead of the row itself (they speak of the program alone). No conditions. -/
import Derived.Test.YthfenjgelbkloaaGreatDoorCjA
namespace Go.Proofs.YthfenjgelbkloaaGreatDoor.consoleLines.Pre
open Go
/-- The variables that these functions name. -/
def namedIn (P : Program) (L : List Nat) : List Nat := L.flatMap fun g => ((P.funcs[g]?).bind (·.body)).elim [] Code.globalsNamed
/-- What these functions read without a body. -/
def readIn (P : Program) (L : List Nat) : List String := L.filterMap fun g => (P.funcs[g]?).bind fun fn => if fn.body.isNone then entryReads.lookup fn.name else none
theorem named_cat {P : Program} {a b : List Nat} {x y : List Nat} (h1 : namedIn P a = x) (h2 : namedIn P b = y) : namedIn P (a ++ b) = x ++ y := by
  rw [← h1, ← h2]; exact List.flatMap_append ..
theorem read_cat {P : Program} {a b : List Nat} {x y : List String} (h1 : readIn P a = x) (h2 : readIn P b = y) : readIn P (a ++ b) = x ++ y := by
  rw [← h1, ← h2]; exact List.filterMap_append ..
theorem vars_of {P : Program} {f : Nat} {L x : List Nat} {y : List String} (h : P.closure f = L) (h1 : namedIn P L = x) (h2 : readIn P L = y) : P.varsNamed f = ((x.eraseDups).filterMap (fun g => (P.globals[g]?).map (·.name)) ++ y).eraseDups := by
  subst h h1 h2
  rfl
def L0 : List Nat := [3, 4, 6, 17, 47, 96, 196, 197, 337, 97, 198, 98, 199, 336, 466, 338, 339, 340, 467, 18, 48, 99, 7, 20, 21, 51, 104, 203, 204, 52, 105, 107, 103, 202, 201, 205, 106, 54, 206, 108, 109, 53, 110, 207, 111, 71, 152, 300, 428, 429, 153, 301, 430, 302, 303, 9, 23, 60, 126, 127, 218, 217, 219, 128, 129, 220, 221, 362, 363, 431, 304, 112, 208, 344, 345, 346, 210, 351, 478, 585, 665, 721, 116, 722, 114, 479, 347, 348, 476, 349, 477, 113, 209, 350, 55, 115, 19, 49, 100, 200]
set_option maxRecDepth 100000 in
theorem na0 : namedIn Tryz.prog L0 = [4, 5, 1, 1, 1, 2, 3, 0, 6, 7] := by kernel_rfl
set_option maxRecDepth 100000 in
theorem nb0 : readIn Tryz.prog L0 = ["internal/bytealg.MaxLen"] := by kernel_rfl
def L1 : List Nat := [341, 342, 468, 195, 343, 469, 470, 471, 473, 583, 472, 474, 16, 194, 163, 321, 475, 584, 664, 50, 101, 102, 8, 22, 56, 61, 41, 79, 80, 166, 323, 167, 94, 324, 157, 325, 458, 570, 571, 661, 660, 662, 720, 460, 576, 577, 663, 156, 307, 719, 573, 572, 326, 459, 575, 574, 168, 328, 327, 78, 165, 81, 169, 82, 170, 171, 329, 172, 173, 330, 461, 462, 578, 579, 465, 511, 599, 580, 581, 582, 331, 332, 463, 464, 174, 175, 333, 83, 63, 140, 266, 382, 267, 216, 361, 269, 268, 383, 141, 130]
set_option maxRecDepth 100000 in
theorem na1 : namedIn Tryz.prog L1 = [] := by kernel_rfl
set_option maxRecDepth 100000 in
theorem nb1 : readIn Tryz.prog L1 = [] := by kernel_rfl
def L2 : List Nat := [222, 223, 224, 364, 225, 227, 228, 226, 229, 230, 131, 231, 233, 234, 366, 485, 367, 486, 418, 416, 529, 614, 531, 530, 587, 489, 588, 369, 490, 370, 491, 487, 244, 488, 232, 365, 235, 236, 237, 132, 238, 239, 240, 368, 241, 133, 243, 245, 242, 247, 248, 371, 492, 493, 590, 589, 666, 372, 258, 377, 373, 495, 494, 591, 497, 496, 592, 499, 498, 500, 501, 256, 376, 250, 249, 374, 246, 134, 251, 252, 253, 254, 375, 502, 255, 117, 211, 118, 120, 122, 214, 123, 215, 121, 119, 213, 360, 212, 352, 353]
set_option maxRecDepth 100000 in
theorem na2 : namedIn Tryz.prog L2 = [] := by kernel_rfl
set_option maxRecDepth 100000 in
theorem nb2 : readIn Tryz.prog L2 = [] := by kernel_rfl
def L3 : List Nat := [480, 354, 481, 482, 355, 483, 484, 586, 356, 357, 358, 359, 57, 124, 58, 125, 59, 10, 24, 62, 135, 137, 257, 259, 136, 138, 260, 378, 379, 262, 148, 261, 263, 264, 139, 265, 380, 381, 503, 25, 64, 142, 270, 385, 384, 271, 272, 274, 76, 275, 273, 386, 155, 306, 504, 593, 594, 65, 143, 144, 146, 145, 66, 147, 11, 26, 67, 12, 27, 68, 149, 69, 70, 150, 276, 387, 277, 388, 433, 389, 505, 595, 390, 391, 392, 308, 435, 436, 434, 549, 278, 393, 394, 395, 506, 279, 396, 397, 280, 151]
set_option maxRecDepth 100000 in
theorem na3 : namedIn Tryz.prog L3 = [] := by kernel_rfl
set_option maxRecDepth 100000 in
theorem nb3 : readIn Tryz.prog L3 = [] := by kernel_rfl
def L4 : List Nat := [281, 282, 283, 398, 507, 284, 399, 400, 285, 401, 508, 510, 597, 598, 419, 548, 596, 667, 668, 723, 724, 771, 794, 513, 600, 404, 305, 432, 299, 423, 538, 518, 603, 670, 515, 607, 442, 557, 671, 615, 677, 672, 312, 444, 558, 519, 605, 425, 424, 540, 539, 620, 683, 684, 738, 685, 686, 739, 740, 783, 687, 688, 689, 690, 536, 535, 617, 541, 426, 154, 543, 542, 534, 532, 616, 544, 546, 624, 621, 405, 514, 512, 601, 669, 427, 545, 622, 691, 741, 742, 784, 743, 744, 785, 786, 798, 745, 746, 747, 748]
set_option maxRecDepth 100000 in
theorem na4 : namedIn Tryz.prog L4 = [] := by kernel_rfl
set_option maxRecDepth 100000 in
theorem nb4 : readIn Tryz.prog L4 = [] := by kernel_rfl
def L5 : List Nat := [623, 193, 547, 286, 402, 403, 509, 287, 288, 406, 407, 289, 408, 290, 409, 410, 516, 602, 456, 567, 568, 569, 658, 659, 718, 770, 604, 517, 411, 520, 521, 522, 606, 523, 608, 412, 291, 413, 524, 609, 610, 673, 725, 437, 611, 674, 612, 613, 675, 676, 726, 727, 728, 551, 640, 618, 678, 729, 776, 777, 679, 731, 730, 732, 778, 641, 642, 703, 704, 636, 701, 772, 644, 550, 625, 626, 628, 627, 692, 750, 637, 697, 619, 680, 733, 734, 681, 682, 735, 736, 737, 780, 779, 781, 782, 796, 809, 834, 752, 810]
set_option maxRecDepth 100000 in
theorem na5 : namedIn Tryz.prog L5 = [] := by kernel_rfl
set_option maxRecDepth 100000 in
theorem nb5 : readIn Tryz.prog L5 = [] := by kernel_rfl
def L6 : List Nat := [811, 835, 754, 812, 836, 813, 814, 815, 816, 817, 837, 818, 819, 820, 821, 822, 838, 839, 842, 756, 823, 824, 825, 826, 827, 828, 797, 749, 787, 629, 693, 694, 630, 695, 631, 632, 696, 634, 633, 698, 635, 699, 700, 751, 753, 788, 799, 829, 830, 840, 843, 755, 789, 639, 638, 702, 773, 795, 801, 802, 831, 803, 804, 832, 833, 841, 805, 806, 807, 808, 774, 775, 525, 526, 527, 528, 292, 415, 422, 537, 414, 293, 417, 420, 533, 294, 421, 295, 296, 297, 298, 13, 28, 29, 30, 72, 31, 73, 158, 39]
set_option maxRecDepth 100000 in
theorem na6 : namedIn Tryz.prog L6 = [] := by kernel_rfl
set_option maxRecDepth 100000 in
theorem nb6 : readIn Tryz.prog L6 = [] := by kernel_rfl
def L7 : List Nat := [77, 164, 322, 36, 32, 33, 74, 159, 34, 35, 75, 160, 309, 310, 161, 311, 438, 552, 553, 643, 554, 645, 705, 757, 758, 790, 759, 760, 791, 792, 800, 761, 762, 763, 764, 646, 647, 706, 765, 455, 566, 650, 651, 715, 652, 653, 716, 717, 769, 654, 655, 656, 657, 439, 440, 441, 555, 556, 314, 446, 448, 447, 559, 648, 561, 560, 443, 313, 445, 315, 449, 450, 562, 563, 317, 453, 316, 452, 451, 318, 454, 565, 564, 649, 707, 708, 766, 709, 710, 767, 768, 793, 711, 712, 713, 714, 319, 162, 320, 457]
set_option maxRecDepth 100000 in
theorem na7 : namedIn Tryz.prog L7 = [] := by kernel_rfl
set_option maxRecDepth 100000 in
theorem nb7 : readIn Tryz.prog L7 = [] := by kernel_rfl
def L8 : List Nat := [37, 38, 40, 14, 42, 15, 43, 84, 44, 86, 87, 177, 88, 192, 89, 178, 334, 191, 186, 190, 335, 188, 179, 180, 181, 182, 183, 184, 185, 187, 189, 85, 176, 45, 91, 90, 46, 92, 93, 95, 5]
set_option maxRecDepth 100000 in
theorem na8 : namedIn Tryz.prog L8 = [] := by kernel_rfl
set_option maxRecDepth 100000 in
theorem nb8 : readIn Tryz.prog L8 = [] := by kernel_rfl
set_option maxRecDepth 100000 in
theorem cloP : Tryz.prog.closure 3 = L0 ++ (L1 ++ (L2 ++ (L3 ++ (L4 ++ (L5 ++ (L6 ++ (L7 ++ (L8)))))))) := clo
def namesA : List Nat := [4, 5, 1, 1, 1, 2, 3, 0, 6, 7] ++ ([] ++ ([] ++ ([] ++ ([] ++ ([] ++ ([] ++ ([] ++ ([]))))))))
def readsB : List String := ["internal/bytealg.MaxLen"] ++ ([] ++ ([] ++ ([] ++ ([] ++ ([] ++ ([] ++ ([] ++ ([]))))))))
theorem naA : namedIn Tryz.prog (L0 ++ (L1 ++ (L2 ++ (L3 ++ (L4 ++ (L5 ++ (L6 ++ (L7 ++ (L8))))))))) = namesA := named_cat na0 (named_cat na1 (named_cat na2 (named_cat na3 (named_cat na4 (named_cat na5 (named_cat na6 (named_cat na7 (na8))))))))
theorem nbA : readIn Tryz.prog (L0 ++ (L1 ++ (L2 ++ (L3 ++ (L4 ++ (L5 ++ (L6 ++ (L7 ++ (L8))))))))) = readsB := read_cat nb0 (read_cat nb1 (read_cat nb2 (read_cat nb3 (read_cat nb4 (read_cat nb5 (read_cat nb6 (read_cat nb7 (nb8))))))))
theorem varsAre : Tryz.prog.varsNamed 3 = ((namesA.eraseDups).filterMap (fun g => (Tryz.prog.globals[g]?).map (·.name)) ++ readsB).eraseDups := vars_of cloP naA nbA
theorem varsAre2 : ((namesA.eraseDups).filterMap (fun g => (Tryz.prog.globals[g]?).map (·.name)) ++ readsB).eraseDups = ["unicode/utf8.first", "unicode/utf8.acceptRanges", "internal/bytealg.MaxLen", "strconv.ErrSyntax", "strconv.ErrRange", "internal/strconv.uint64pow10", "math/bits.deBruijn32tab", "math/bits.deBruijn64tab"] := by kernel_rfl
theorem vars_eq {a b c : List String} (h1 : b = c) (h2 : (a == c) = true) : (a == b) = true := by
  subst h1
  exact h2
theorem j13 : ((row0.named == Tryz.prog.varsNamed 3)) = true := vars_eq (varsAre.trans varsAre2) (by kernel_rfl)
end Go.Proofs.YthfenjgelbkloaaGreatDoor.consoleLines.Pre
