/- The parser, walked (ParX). Conditions: each theorem's own. -/
import Derived.Test.YtnpkdiffpgcbhaaGreatDoorS39
namespace Go.Proofs.YtnpkdiffpgcbhaaGreatDoor
open Go.RowKit
theorem beq_bytes (a b : ByteArray) : (a == b) = (a.data == b.data) := by
 cases a; cases b; rfl
theorem bytes_ne {y : ByteArray} {u l : List UInt8} (hy : y.data.toList = u) (h : u ≠ l) : (y == ⟨l.toArray⟩) = false := by
 rw [beq_bytes, beq_eq_false_iff_ne]
 intro e
 apply h
 rw [← hy, e]
theorem find_none {u : List UInt8} (h0 : u ≠ [105, 110, 115, 101, 114, 116]) (h1 : u ≠ [117, 112, 100, 97, 116, 101]) (h2 : u ≠ [100, 101, 108, 101, 116, 101]) (h3 : u ≠ [102, 111, 99, 117, 115]) (h4 : u ≠ [102, 108, 111, 119]) (h5 : u ≠ [102, 105, 114, 101]) (h6 : u ≠ [113, 117, 101, 114, 121]) (y : ByteArray) (hy : y.data.toList = u) : Instr.findNow .string (.string y) opsMap 0 = some none := by
 have e0 := bytes_ne hy h0
 have e1 := bytes_ne hy h1
 have e2 := bytes_ne hy h2
 have e3 := bytes_ne hy h3
 have e4 := bytes_ne hy h4
 have e5 := bytes_ne hy h5
 have e6 := bytes_ne hy h6
 simp only [opsMap, Instr.findNow, Instr.sameNow, e0, e1, e2, e3, e4, e5, e6]
theorem word0 : Instr.findNow .string (.string ⟨List.toArray [105, 110, 115, 101, 114, 116]⟩) opsMap 0 = some (some (0, .func (.func 81) #[] #[])) := by kernel_rfl
theorem en0 (args : Array Value) (w : World) : (callFunc 81 args).run Tryz.prog w = .ok (.enter 81 args) w := by kernel_rfl
theorem word1 : Instr.findNow .string (.string ⟨List.toArray [117, 112, 100, 97, 116, 101]⟩) opsMap 0 = some (some (1, .func (.func 83) #[] #[])) := by kernel_rfl
theorem en1 (args : Array Value) (w : World) : (callFunc 83 args).run Tryz.prog w = .ok (.enter 83 args) w := by kernel_rfl
theorem word2 : Instr.findNow .string (.string ⟨List.toArray [100, 101, 108, 101, 116, 101]⟩) opsMap 0 = some (some (2, .func (.func 85) #[] #[])) := by kernel_rfl
theorem en2 (args : Array Value) (w : World) : (callFunc 85 args).run Tryz.prog w = .ok (.enter 85 args) w := by kernel_rfl
theorem word3 : Instr.findNow .string (.string ⟨List.toArray [102, 111, 99, 117, 115]⟩) opsMap 0 = some (some (3, .func (.func 86) #[] #[])) := by kernel_rfl
theorem en3 (args : Array Value) (w : World) : (callFunc 86 args).run Tryz.prog w = .ok (.enter 86 args) w := by kernel_rfl
theorem word4 : Instr.findNow .string (.string ⟨List.toArray [102, 108, 111, 119]⟩) opsMap 0 = some (some (4, .func (.func 88) #[] #[])) := by kernel_rfl
theorem en4 (args : Array Value) (w : World) : (callFunc 88 args).run Tryz.prog w = .ok (.enter 88 args) w := by kernel_rfl
theorem word5 : Instr.findNow .string (.string ⟨List.toArray [102, 105, 114, 101]⟩) opsMap 0 = some (some (5, .func (.func 89) #[] #[])) := by kernel_rfl
theorem en5 (args : Array Value) (w : World) : (callFunc 89 args).run Tryz.prog w = .ok (.enter 89 args) w := by kernel_rfl
theorem word6 : Instr.findNow .string (.string ⟨List.toArray [113, 117, 101, 114, 121]⟩) opsMap 0 = some (some (6, .func (.func 90) #[] #[])) := by kernel_rfl
theorem en6 (args : Array Value) (w : World) : (callFunc 90 args).run Tryz.prog w = .ok (.enter 90 args) w := by kernel_rfl
def rd0 (l : List Lx) : Option (OpV × List Lx) := match takeL 0 [] l with | none => none | some (c, r2) => (pSet r2).map fun p => ({ noOp with kind := 1, cls := c, set := p.1 }, p.2)
def rd1 (l : List Lx) : Option (OpV × List Lx) := match pHandle l with | none => none | some (h, r2) => (pSet r2).map fun p => ({ noOp with kind := 2, handle := h, set := p.1 }, p.2)
def rd2 (l : List Lx) : Option (OpV × List Lx) := (pHandle l).map fun p => ({ noOp with kind := 3, handle := p.1 }, p.2)
def rd3 (l : List Lx) : Option (OpV × List Lx) := (pText l).map fun p => ({ noOp with kind := 4, text := p.1 }, p.2)
def rd4 (l : List Lx) : Option (OpV × List Lx) := match pText l with | none => none | some (t, r2) => match takeL 0 [] r2 with | none => none | some (o, r3) => if o == [111, 110] then some ({ noOp with kind := 5, text := t, on := true }, r3) else if o == [111, 102, 102] then some ({ noOp with kind := 5, text := t }, r3) else none
def rd5 (l : List Lx) : Option (OpV × List Lx) := match numL l with | none => none | some (n, r2) => if n < 2147483648 then some ({ noOp with kind := 6, n := n }, r2) else none
def rd6 (l : List Lx) : Option (OpV × List Lx) := match takeL 0 [] l with | none => none | some (q, r2) => match takeL 4 [40] r2 with | none => none | some (_, r3) => (listL pOpt [41] (r3.length + 1) true r3).map fun p => ({ noOp with kind := 7, text := q, args := p.1 }, p.2)
theorem line1_any {W : World} {pb rb k : Nat} {T : List Lx} (hp : PAt W pb T k) (hrp : rb < pb) (hrb : W.heap[rb]? = some (.cells #[.int .i64 0, .string ⟨#[]⟩, .slice none 0 0, .int .i64 0, .string ⟨#[]⟩, .bool false, .int .i64 0, .slice none 0 0] 58 (0,0))) :
  Calls Tryz.prog 54 #[.pointer (some ⟨pb, 0, none⟩), .pointer (some ⟨rb, 0, none⟩)] W (LEnd W pb rb T k (pOp (T.drop k))) := by
 unfold pOp
 rcases h0 : takeL 0 [] (T.drop k) with _ | ⟨u, r⟩
 ·exact line1_none hp h0
 simp only
 by_cases e0 : u = [105, 110, 115, 101, 114, 116]
 ·rw [if_pos (by simpa using e0)]
  exact line1_word (i := 0) hp hrp hrb h0 (fun y hy => by have := bytes_of (hy.trans e0); subst this; exact word0) en0 rd0 (fun w k hp => op_insert hp)
 rw [if_neg (by simpa using e0)]
 by_cases e1 : u = [117, 112, 100, 97, 116, 101]
 ·rw [if_pos (by simpa using e1)]
  exact line1_word (i := 1) hp hrp hrb h0 (fun y hy => by have := bytes_of (hy.trans e1); subst this; exact word1) en1 rd1 (fun w k hp => op_update hp)
 rw [if_neg (by simpa using e1)]
 by_cases e2 : u = [100, 101, 108, 101, 116, 101]
 ·rw [if_pos (by simpa using e2)]
  exact line1_word (i := 2) hp hrp hrb h0 (fun y hy => by have := bytes_of (hy.trans e2); subst this; exact word2) en2 rd2 (fun w k hp => op_delete hp)
 rw [if_neg (by simpa using e2)]
 by_cases e3 : u = [102, 111, 99, 117, 115]
 ·rw [if_pos (by simpa using e3)]
  exact line1_word (i := 3) hp hrp hrb h0 (fun y hy => by have := bytes_of (hy.trans e3); subst this; exact word3) en3 rd3 (fun w k hp => op_focus hp)
 rw [if_neg (by simpa using e3)]
 by_cases e4 : u = [102, 108, 111, 119]
 ·rw [if_pos (by simpa using e4)]
  exact line1_word (i := 4) hp hrp hrb h0 (fun y hy => by have := bytes_of (hy.trans e4); subst this; exact word4) en4 rd4 (fun w k hp => op_flow hp)
 rw [if_neg (by simpa using e4)]
 by_cases e5 : u = [102, 105, 114, 101]
 ·rw [if_pos (by simpa using e5)]
  exact line1_word (i := 5) hp hrp hrb h0 (fun y hy => by have := bytes_of (hy.trans e5); subst this; exact word5) en5 rd5 (fun w k hp => op_fire hp)
 rw [if_neg (by simpa using e5)]
 by_cases e6 : u = [113, 117, 101, 114, 121]
 ·rw [if_pos (by simpa using e6)]
  exact line1_word (i := 6) hp hrp hrb h0 (fun y hy => by have := bytes_of (hy.trans e6); subst this; exact word6) en6 rd6 (fun w k hp => op_query hp)
 rw [if_neg (by simpa using e6)]
 exact line1_no hp h0 (fun y hy => find_none e0 e1 e2 e3 e4 e5 e6 y hy)
end Go.Proofs.YtnpkdiffpgcbhaaGreatDoor
