/- What the listed variables are laid as. No conditions. -/
import Derived.Test.YthfenjgelbkloaaGreatDoorCn
import Derived.Test.YthfenjgelbkloaaGreatDoorCt
import Derived.Lay
namespace Go.Proofs.YthfenjgelbkloaaGreatDoor
open Go
namespace Wit
theorem lay_iface {P : Program} {t : TypeId} {n u : Nat} {name : String} {d : DataW Unit} {v : Value} {x : List Value × List Obj} (h0 : (match P.underlying t with | some (.interface _) => true | _ => false) = true)
    (h1 : ((List.range P.types.size).find? fun u => P.typeName? 3 u == some name) = some u) (h2 : d.lay P u n = some x) (h3 : Lay.pack P u x.1 = some v) : (DataW.iface name d).lay P t n = some ([.iface u v], x.2) := by
  rw [DataW.lay, h1]
  split at h0
  · rename_i ms hm
    rw [hm]
    simp only [h2, h3]
  · cases h0
theorem list_nil {P : Program} {n : Nat} : Lay.layList P n [] = some ([], []) := by rw [Lay.layList]
theorem list_cons {P : Program} {n g t : Nat} {name : String} {d : DataW Unit} {r : List (String × DataW Unit)} {y : List Value × List Obj} {z : List (Nat × List Value) × List Obj} (h0 : P.globalNamed name = some g)
    (h1 : (P.globals[g]?).map (·.type) = some t) (h2 : d.lay P t n = some y) (h3 : Lay.layList P (n + y.2.length) r = some z) : Lay.layList P n ((name, d) :: r) = some ((g, y.1) :: z.1, y.2 ++ z.2) := by
  rw [Lay.layList]
  cases hg : P.globals[g]? with
  | none => rw [hg] at h1; cases h1
  | some gl =>
    rw [hg] at h1
    obtain rfl : gl.type = t := by simpa using h1
    simp only [h0, hg, h2, h3]
def y0 : List Value × List Obj := ([.int .u8 0, .int .u8 1, .int .u8 28, .int .u8 2, .int .u8 29, .int .u8 14, .int .u8 24, .int .u8 3, .int .u8 30, .int .u8 22, .int .u8 20, .int .u8 15, .int .u8 25, .int .u8 17, .int .u8 4, .int .u8 8, .int .u8 31, .int .u8 27, .int .u8 13, .int .u8 23, .int .u8 21, .int .u8 19, .int .u8 16, .int .u8 7, .int .u8 26, .int .u8 12, .int .u8 18, .int .u8 6, .int .u8 11, .int .u8 5, .int .u8 10, .int .u8 9], [])
theorem l0 : DataW.lay Tryz.prog 627 13 TieBy.laid_math_bits_deBruijn32tab = some y0 := by kernel_rfl
def y1 : List Value × List Obj := ([.int .u8 0, .int .u8 1, .int .u8 56, .int .u8 2, .int .u8 57, .int .u8 49, .int .u8 28, .int .u8 3, .int .u8 61, .int .u8 58, .int .u8 42, .int .u8 50, .int .u8 38, .int .u8 29, .int .u8 17, .int .u8 4, .int .u8 62, .int .u8 47, .int .u8 59, .int .u8 36, .int .u8 45, .int .u8 43, .int .u8 51, .int .u8 22, .int .u8 53, .int .u8 39, .int .u8 33, .int .u8 30, .int .u8 24, .int .u8 18, .int .u8 12, .int .u8 5, .int .u8 63, .int .u8 55, .int .u8 48, .int .u8 27, .int .u8 60, .int .u8 41, .int .u8 37, .int .u8 16, .int .u8 46, .int .u8 35, .int .u8 44, .int .u8 21, .int .u8 52, .int .u8 32, .int .u8 23, .int .u8 11, .int .u8 54, .int .u8 26, .int .u8 40, .int .u8 15, .int .u8 34, .int .u8 20, .int .u8 31, .int .u8 10, .int .u8 25, .int .u8 14, .int .u8 19, .int .u8 9, .int .u8 13, .int .u8 8, .int .u8 7, .int .u8 6], [])
theorem l1 : DataW.lay Tryz.prog 628 13 TieBy.laid_math_bits_deBruijn64tab = some y1 := by kernel_rfl
def y2 : List Value × List Obj := ([.int .u64 1, .int .u64 10, .int .u64 100, .int .u64 1000, .int .u64 10000, .int .u64 100000, .int .u64 1000000, .int .u64 10000000, .int .u64 100000000, .int .u64 1000000000, .int .u64 10000000000, .int .u64 100000000000, .int .u64 1000000000000, .int .u64 10000000000000, .int .u64 100000000000000, .int .u64 1000000000000000, .int .u64 10000000000000000, .int .u64 100000000000000000, .int .u64 1000000000000000000, .int .u64 10000000000000000000], [])
theorem l2 : DataW.lay Tryz.prog 353 13 TieBy.laid_internal_strconv_uint64pow10 = some y2 := by kernel_rfl
def y3 : List Value × List Obj := ([.int .u8 128, .int .u8 191, .int .u8 160, .int .u8 191, .int .u8 128, .int .u8 159, .int .u8 144, .int .u8 191, .int .u8 128, .int .u8 143, .int .u8 0, .int .u8 0, .int .u8 0, .int .u8 0, .int .u8 0, .int .u8 0, .int .u8 0, .int .u8 0, .int .u8 0, .int .u8 0, .int .u8 0, .int .u8 0, .int .u8 0, .int .u8 0, .int .u8 0, .int .u8 0, .int .u8 0, .int .u8 0, .int .u8 0, .int .u8 0, .int .u8 0, .int .u8 0], [])
theorem l3 : DataW.lay Tryz.prog 610 13 TieBy.laid_unicode_utf8_acceptRanges = some y3 := by kernel_rfl
def y4 : List Value × List Obj := ([.iface 696 (.pointer (some ⟨13, 0, none⟩))], [.cells #[.string ⟨#[118, 97, 108, 117, 101, 32, 111, 117, 116, 32, 111, 102, 32, 114, 97, 110, 103, 101]⟩] 698])
theorem l4 : DataW.lay Tryz.prog 170 13 TieBy.laid_strconv_ErrRange = some y4 :=
  lay_iface (by kernel_rfl) found (x := ([.pointer (some ⟨13, 0, none⟩)], [.cells #[.string ⟨#[118, 97, 108, 117, 101, 32, 111, 117, 116, 32, 111, 102, 32, 114, 97, 110, 103, 101]⟩] 698])) (by kernel_rfl) (by kernel_rfl)
def y5 : List Value × List Obj := ([.iface 696 (.pointer (some ⟨14, 0, none⟩))], [.cells #[.string ⟨#[105, 110, 118, 97, 108, 105, 100, 32, 115, 121, 110, 116, 97, 120]⟩] 698])
theorem l5 : DataW.lay Tryz.prog 170 14 TieBy.laid_strconv_ErrSyntax = some y5 :=
  lay_iface (by kernel_rfl) found (x := ([.pointer (some ⟨14, 0, none⟩)], [.cells #[.string ⟨#[105, 110, 118, 97, 108, 105, 100, 32, 115, 121, 110, 116, 97, 120]⟩] 698])) (by kernel_rfl) (by kernel_rfl)
def y6 : List Value × List Obj := ([.int .u8 240, .int .u8 240, .int .u8 240, .int .u8 240, .int .u8 240, .int .u8 240, .int .u8 240, .int .u8 240, .int .u8 240, .int .u8 240, .int .u8 240, .int .u8 240, .int .u8 240, .int .u8 240, .int .u8 240, .int .u8 240, .int .u8 240, .int .u8 240, .int .u8 240, .int .u8 240, .int .u8 240, .int .u8 240, .int .u8 240, .int .u8 240, .int .u8 240, .int .u8 240, .int .u8 240, .int .u8 240, .int .u8 240, .int .u8 240, .int .u8 240, .int .u8 240, .int .u8 240, .int .u8 240, .int .u8 240, .int .u8 240, .int .u8 240, .int .u8 240, .int .u8 240, .int .u8 240, .int .u8 240, .int .u8 240, .int .u8 240, .int .u8 240, .int .u8 240, .int .u8 240, .int .u8 240, .int .u8 240, .int .u8 240, .int .u8 240, .int .u8 240, .int .u8 240, .int .u8 240, .int .u8 240, .int .u8 240, .int .u8 240, .int .u8 240, .int .u8 240, .int .u8 240, .int .u8 240, .int .u8 240, .int .u8 240, .int .u8 240, .int .u8 240, .int .u8 240, .int .u8 240, .int .u8 240, .int .u8 240, .int .u8 240, .int .u8 240, .int .u8 240, .int .u8 240, .int .u8 240, .int .u8 240, .int .u8 240, .int .u8 240, .int .u8 240, .int .u8 240, .int .u8 240, .int .u8 240, .int .u8 240, .int .u8 240, .int .u8 240, .int .u8 240, .int .u8 240, .int .u8 240, .int .u8 240, .int .u8 240, .int .u8 240, .int .u8 240, .int .u8 240, .int .u8 240, .int .u8 240, .int .u8 240, .int .u8 240, .int .u8 240, .int .u8 240, .int .u8 240, .int .u8 240, .int .u8 240, .int .u8 240, .int .u8 240, .int .u8 240, .int .u8 240, .int .u8 240, .int .u8 240, .int .u8 240, .int .u8 240, .int .u8 240, .int .u8 240, .int .u8 240, .int .u8 240, .int .u8 240, .int .u8 240, .int .u8 240, .int .u8 240, .int .u8 240, .int .u8 240, .int .u8 240, .int .u8 240, .int .u8 240, .int .u8 240, .int .u8 240, .int .u8 240, .int .u8 240, .int .u8 240, .int .u8 240, .int .u8 240, .int .u8 241, .int .u8 241, .int .u8 241, .int .u8 241, .int .u8 241, .int .u8 241, .int .u8 241, .int .u8 241, .int .u8 241, .int .u8 241, .int .u8 241, .int .u8 241, .int .u8 241, .int .u8 241, .int .u8 241, .int .u8 241, .int .u8 241, .int .u8 241, .int .u8 241, .int .u8 241, .int .u8 241, .int .u8 241, .int .u8 241, .int .u8 241, .int .u8 241, .int .u8 241, .int .u8 241, .int .u8 241, .int .u8 241, .int .u8 241, .int .u8 241, .int .u8 241, .int .u8 241, .int .u8 241, .int .u8 241, .int .u8 241, .int .u8 241, .int .u8 241, .int .u8 241, .int .u8 241, .int .u8 241, .int .u8 241, .int .u8 241, .int .u8 241, .int .u8 241, .int .u8 241, .int .u8 241, .int .u8 241, .int .u8 241, .int .u8 241, .int .u8 241, .int .u8 241, .int .u8 241, .int .u8 241, .int .u8 241, .int .u8 241, .int .u8 241, .int .u8 241, .int .u8 241, .int .u8 241, .int .u8 241, .int .u8 241, .int .u8 241, .int .u8 241, .int .u8 241, .int .u8 241, .int .u8 2, .int .u8 2, .int .u8 2, .int .u8 2, .int .u8 2, .int .u8 2, .int .u8 2, .int .u8 2, .int .u8 2, .int .u8 2, .int .u8 2, .int .u8 2, .int .u8 2, .int .u8 2, .int .u8 2, .int .u8 2, .int .u8 2, .int .u8 2, .int .u8 2, .int .u8 2, .int .u8 2, .int .u8 2, .int .u8 2, .int .u8 2, .int .u8 2, .int .u8 2, .int .u8 2, .int .u8 2, .int .u8 2, .int .u8 2, .int .u8 19, .int .u8 3, .int .u8 3, .int .u8 3, .int .u8 3, .int .u8 3, .int .u8 3, .int .u8 3, .int .u8 3, .int .u8 3, .int .u8 3, .int .u8 3, .int .u8 3, .int .u8 35, .int .u8 3, .int .u8 3, .int .u8 52, .int .u8 4, .int .u8 4, .int .u8 4, .int .u8 68, .int .u8 241, .int .u8 241, .int .u8 241, .int .u8 241, .int .u8 241, .int .u8 241, .int .u8 241, .int .u8 241, .int .u8 241, .int .u8 241, .int .u8 241], [])
theorem l6 : DataW.lay Tryz.prog 607 15 TieBy.laid_unicode_utf8_first = some y6 := by kernel_rfl
def Y : List (Nat × List Value) × List Obj := ([(6, y0.1), (7, y1.1), (0, y2.1), (5, y3.1), (3, y4.1), (2, y5.1), (4, y6.1)], [.cells #[.string ⟨#[118, 97, 108, 117, 101, 32, 111, 117, 116, 32, 111, 102, 32, 114, 97, 110, 103, 101]⟩] 698, .cells #[.string ⟨#[105, 110, 118, 97, 108, 105, 100, 32, 115, 121, 110, 116, 97, 120]⟩] 698])
theorem r6 : Lay.layList Tryz.prog 15 [("unicode/utf8.first", TieBy.laid_unicode_utf8_first)] = some ([(4, y6.1)], y6.2 ++ ([])) := list_cons (n := 15) (by kernel_rfl) (by kernel_rfl) l6 list_nil
theorem r5 : Lay.layList Tryz.prog 14 [("strconv.ErrSyntax", TieBy.laid_strconv_ErrSyntax), ("unicode/utf8.first", TieBy.laid_unicode_utf8_first)] = some ([(2, y5.1), (4, y6.1)], y5.2 ++ (y6.2 ++ ([]))) := list_cons (n := 14) (by kernel_rfl) (by kernel_rfl) l5 r6
theorem r4 : Lay.layList Tryz.prog 13 [("strconv.ErrRange", TieBy.laid_strconv_ErrRange), ("strconv.ErrSyntax", TieBy.laid_strconv_ErrSyntax), ("unicode/utf8.first", TieBy.laid_unicode_utf8_first)] = some ([(3, y4.1), (2, y5.1), (4, y6.1)], y4.2 ++ (y5.2 ++ (y6.2 ++ ([])))) := list_cons (n := 13) (by kernel_rfl) (by kernel_rfl) l4 r5
theorem r3 : Lay.layList Tryz.prog 13 [("unicode/utf8.acceptRanges", TieBy.laid_unicode_utf8_acceptRanges), ("strconv.ErrRange", TieBy.laid_strconv_ErrRange), ("strconv.ErrSyntax", TieBy.laid_strconv_ErrSyntax), ("unicode/utf8.first", TieBy.laid_unicode_utf8_first)] = some ([(5, y3.1), (3, y4.1), (2, y5.1), (4, y6.1)], y3.2 ++ (y4.2 ++ (y5.2 ++ (y6.2 ++ ([]))))) := list_cons (n := 13) (by kernel_rfl) (by kernel_rfl) l3 r4
theorem r2 : Lay.layList Tryz.prog 13 [("internal/strconv.uint64pow10", TieBy.laid_internal_strconv_uint64pow10), ("unicode/utf8.acceptRanges", TieBy.laid_unicode_utf8_acceptRanges), ("strconv.ErrRange", TieBy.laid_strconv_ErrRange), ("strconv.ErrSyntax", TieBy.laid_strconv_ErrSyntax), ("unicode/utf8.first", TieBy.laid_unicode_utf8_first)] = some ([(0, y2.1), (5, y3.1), (3, y4.1), (2, y5.1), (4, y6.1)], y2.2 ++ (y3.2 ++ (y4.2 ++ (y5.2 ++ (y6.2 ++ ([])))))) := list_cons (n := 13) (by kernel_rfl) (by kernel_rfl) l2 r3
theorem r1 : Lay.layList Tryz.prog 13 [("math/bits.deBruijn64tab", TieBy.laid_math_bits_deBruijn64tab), ("internal/strconv.uint64pow10", TieBy.laid_internal_strconv_uint64pow10), ("unicode/utf8.acceptRanges", TieBy.laid_unicode_utf8_acceptRanges), ("strconv.ErrRange", TieBy.laid_strconv_ErrRange), ("strconv.ErrSyntax", TieBy.laid_strconv_ErrSyntax), ("unicode/utf8.first", TieBy.laid_unicode_utf8_first)] = some ([(7, y1.1), (0, y2.1), (5, y3.1), (3, y4.1), (2, y5.1), (4, y6.1)], y1.2 ++ (y2.2 ++ (y3.2 ++ (y4.2 ++ (y5.2 ++ (y6.2 ++ ([]))))))) := list_cons (n := 13) (by kernel_rfl) (by kernel_rfl) l1 r2
theorem r0 : Lay.layList Tryz.prog 13 [("math/bits.deBruijn32tab", TieBy.laid_math_bits_deBruijn32tab), ("math/bits.deBruijn64tab", TieBy.laid_math_bits_deBruijn64tab), ("internal/strconv.uint64pow10", TieBy.laid_internal_strconv_uint64pow10), ("unicode/utf8.acceptRanges", TieBy.laid_unicode_utf8_acceptRanges), ("strconv.ErrRange", TieBy.laid_strconv_ErrRange), ("strconv.ErrSyntax", TieBy.laid_strconv_ErrSyntax), ("unicode/utf8.first", TieBy.laid_unicode_utf8_first)] = some ([(6, y0.1), (7, y1.1), (0, y2.1), (5, y3.1), (3, y4.1), (2, y5.1), (4, y6.1)], y0.2 ++ (y1.2 ++ (y2.2 ++ (y3.2 ++ (y4.2 ++ (y5.2 ++ (y6.2 ++ ([])))))))) := list_cons (n := 13) (by kernel_rfl) (by kernel_rfl) l0 r1
theorem laid_as : Lay.layList Tryz.prog 13 TieBy.listedAll = some Y := by
  exact r0
theorem size_is (os : Os) : (World.holding Tryz.prog os ⟨#[], #[], []⟩).heap.size = 13 := by kernel_rfl
theorem all_of {P : Program} {w : World} {l : List (String × DataW Unit)} {n : Nat} {z : List (Nat × List Value) × List Obj} (hs : w.heap.size = n) (h : Lay.layList P n l = some z) : w.layVars P l = { w with heap := ⟨Lay.setRows w.heap.toList z.1 ++ z.2⟩ } := by
  subst hs
  unfold World.layVars
  rw [h]
theorem fits_of {P : Program} {w : World} {l : List (String × DataW Unit)} {n : Nat} {z : List (Nat × List Value) × List Obj} (hs : w.heap.size = n) (h : Lay.layList P n l = some z)
    (h1 : decide (z.1.map (·.1)).Nodup = true) (h2 : (z.1.all fun r => Lay.isRow w.heap.toList[r.1]? && !([] : List Nat).contains r.1) = true) : w.layFits P l [] = true := by
  subst hs
  unfold World.layFits
  rw [h]
  simp only [h1, h2, List.all_nil, Bool.and_self]
theorem ifaces_of {P : Program} {w w' : World} {l : List (String × DataW Unit)} {n : Nat} {z : List (Nat × List Value) × List Obj} (hs : w.heap.size = n) (h : Lay.layList P n l = some z)
    (h1 : (z.1.all fun r => r.2.all (Lay.okV P w')) = true) (h2 : z.2.all (Lay.okO P w') = true) : w.layIfaces P l w' = true := by
  subst hs
  unfold World.layIfaces
  rw [h]
  simp only [h1, h2, Bool.and_self]
theorem all_is (os : Os) : World.laidAll Tryz.prog os TieBy.listedAll = { World.holding Tryz.prog os ⟨#[], #[], []⟩ with heap := ⟨Lay.setRows (World.holding Tryz.prog os ⟨#[], #[], []⟩).heap.toList Y.1 ++ Y.2⟩ } := all_of (size_is os) laid_as
end Wit
end Go.Proofs.YthfenjgelbkloaaGreatDoor
