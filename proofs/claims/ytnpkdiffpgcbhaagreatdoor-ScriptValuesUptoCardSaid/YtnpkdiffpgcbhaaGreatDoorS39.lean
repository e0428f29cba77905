/- The parser, walked (ParV, ParW). Conditions: each theorem's own. -/
import Derived.Test.YtnpkdiffpgcbhaaGreatDoorS38
set_option maxRecDepth 100000
set_option maxHeartbeats 1600000
namespace Go.Proofs.YtnpkdiffpgcbhaaGreatDoor
open Go.RowKit
attribute [local go_sem] Oper.semAt_some
theorem ops_under : Tryz.prog.underlying 112 = some (.map 9 111) := by kernel_rfl
theorem str_under : Tryz.prog.underlying 9 = some .string := by kernel_rfl
def opsMap : List MapEntry :=
  [⟨.string ⟨#[105, 110, 115, 101, 114, 116]⟩, .func (.func 81) #[] #[], 0⟩, ⟨.string ⟨#[117, 112, 100, 97, 116, 101]⟩, .func (.func 83) #[] #[], 1⟩, ⟨.string ⟨#[100, 101, 108, 101, 116, 101]⟩, .func (.func 85) #[] #[], 2⟩,
   ⟨.string ⟨#[102, 111, 99, 117, 115]⟩, .func (.func 86) #[] #[], 3⟩, ⟨.string ⟨#[102, 108, 111, 119]⟩, .func (.func 88) #[] #[], 4⟩, ⟨.string ⟨#[102, 105, 114, 101]⟩, .func (.func 89) #[] #[], 5⟩, ⟨.string ⟨#[113, 117, 101, 114, 121]⟩, .func (.func 90) #[] #[], 6⟩]
theorem run_under {P : Program} {w : World} {t : TypeId} {d : TypeDesc} (h : P.underlying t = some d) : (underlying t).run P w = .ok d w := by
 simp [underlying, h]
theorem run_map {P : Program} {w : World} {b c : Nat} {l : Array MapEntry} (h : w.heap[b]? = some (.map l c)) : (getObj b).run P w = .ok (.map l c) w := by simp [getObj, Sem.run, h]
theorem run_check {w : World} {key : ByteArray} (e : Bool) : (Instr.checkKey e 10000 9 (.string key)).run Tryz.prog w = .ok () w := by
 unfold Instr.checkKey
 rw [Sem.run_bind, run_under str_under, Result.andThen_ok]
 rfl
theorem run_find {w : World} {key : ByteArray} {es : List MapEntry} {r : Option (Nat × Value)} (hn : Instr.findNow .string (.string key) es 0 = some r) : (Instr.findKey 9 (.string key) es).run Tryz.prog w = .ok r w := by
 unfold Instr.findKey
 rw [Sem.run_bind, run_under str_under, Result.andThen_ok]
 rw [hn]
 rfl
theorem push_set {α : Type} (a : Array α) (x y : α) : (a.push x).setIfInBounds a.size y = a.push y := by
 apply Array.ext_getElem?
 intro i
 rw [Array.getElem?_setIfInBounds, Array.getElem?_push, Array.getElem?_push]
 by_cases h : a.size = i
 ·subst h; simp
 ·rw [if_neg h, if_neg (fun e => h e.symm), if_neg (fun e => h e.symm)]
theorem run_set0 {P : Program} {w : World} {m c c1 : Nat} {l l1 : Array MapEntry} (hw : w.heap[m]? = some (.map l c)) : (setObj m (.map l1 c1)).run P w = .ok () { w with heap := w.heap.setIfInBounds m (.map l1 c1) } := by simp [setObj, Sem.run, hw]
theorem run_set {P : Program} {w : World} {l l1 : Array MapEntry} {c c1 : Nat} : (setObj w.heap.size (.map l1 c1)).run P (w.alloc (.map l c)) = .ok () (w.alloc (.map l1 c1)) := by
 have h : (w.alloc (.map l c)).heap[w.heap.size]? = some (.map l c) := heap_alloc_new w _
 rw [run_set0 h]
 show Result.ok () ({ w with heap := (w.heap.push (.map l c)).setIfInBounds w.heap.size (.map l1 c1) } : World) = Result.ok () ({ w with heap := w.heap.push (.map l1 c1) } : World)
 rw [push_set]
theorem ins_alloc (w : World) (es : Array MapEntry) (c : Nat) (key : ByteArray) (v : Value) (hn : Instr.findNow .string (.string key) es.toList 0 = some none) :
  (Instr.mapUpdate 112 (.map (some w.heap.size)) (.string key) v).run Tryz.prog (w.alloc (.map es c)) = .ok () (w.alloc (.map (es.push ⟨.string key, v, c⟩) (c + 1))) := by
 unfold Instr.mapUpdate
 rw [Sem.run_bind, run_under ops_under, Result.andThen_ok]
 simp only
 rw [Sem.run_bind, run_map (heap_alloc_new w _), Result.andThen_ok]
 simp only
 rw [Sem.run_bind, run_check, Result.andThen_ok, Sem.run_bind, run_find hn, Result.andThen_ok]
 exact run_set
theorem look_run {w : World} {b c : Nat} {l : Array MapEntry} (h : w.heap[b]? = some (.map l c)) (key : ByteArray) {r : Option (Nat × Value)} (hn : Instr.findNow .string (.string key) l.toList 0 = some r) :
  (Instr.lookup 112 (.map (some b)) (.string key) false).run Tryz.prog w = .ok (r.elim .nilFunc (·.2)) w := by
 unfold Instr.lookup
 rw [Sem.run_bind, run_under ops_under, Result.andThen_ok]
 simp only
 rw [Sem.run_bind, run_map h, Result.andThen_ok]
 simp only
 rw [Sem.run_bind, Sem.run_pure, Result.andThen_ok, Sem.run_bind, run_check, Result.andThen_ok, Sem.run_bind, run_find hn, Result.andThen_ok]
 cases r with
 | some x => rfl
 | none =>
  have hz : (zeroValue 111).run Tryz.prog w = .ok .nilFunc w := by kernel_rfl
  rw [Sem.run_bind, hz]
  rfl
theorem operations_any (w : World) : Calls Tryz.prog 55 #[] w fun e w' => e = .returned (.map (some w.heap.size)) ∧ w' = w.alloc (.map opsMap.toArray 7) := by
 have hmm := @run_makeMap Tryz.prog
 have i0 := ins_alloc w #[] 0 ⟨#[105, 110, 115, 101, 114, 116]⟩ (.func (.func 81) #[] #[]) rfl
 have i1 := ins_alloc w (opsMap.take 1).toArray 1 ⟨#[117, 112, 100, 97, 116, 101]⟩ (.func (.func 83) #[] #[]) rfl
 have i2 := ins_alloc w (opsMap.take 2).toArray 2 ⟨#[100, 101, 108, 101, 116, 101]⟩ (.func (.func 85) #[] #[]) rfl
 have i3 := ins_alloc w (opsMap.take 3).toArray 3 ⟨#[102, 111, 99, 117, 115]⟩ (.func (.func 86) #[] #[]) rfl
 have i4 := ins_alloc w (opsMap.take 4).toArray 4 ⟨#[102, 108, 111, 119]⟩ (.func (.func 88) #[] #[]) rfl
 have i5 := ins_alloc w (opsMap.take 5).toArray 5 ⟨#[102, 105, 114, 101]⟩ (.func (.func 89) #[] #[]) rfl
 have i6 := ins_alloc w (opsMap.take 6).toArray 6 ⟨#[113, 117, 101, 114, 121]⟩ (.func (.func 90) #[] #[]) rfl
 simp only [opsMap, List.take_succ_cons, List.take_zero, List.push_toArray, List.cons_append, List.nil_append, Nat.reduceAdd] at i0 i1 i2 i3 i4 i5 i6
 go_enter Tryz.func55, Tryz.ntmps55
 go_wp2_with fail
 exact bodyPost_ret (v := .map (some w.heap.size)) (by simp [results, Tryz.results55]) rfl ⟨rfl, rfl⟩
end Go.Proofs.YtnpkdiffpgcbhaaGreatDoor
namespace Go.Proofs.YtnpkdiffpgcbhaaGreatDoor
open Go.RowKit
attribute [local go_sem] Oper.semAt_some
def LEnd (W : World) (pb rb : Nat) (T : List Lx) (k : Nat) (res : Option (OpV × List Lx)) (e : Ending) (w' : World) : Prop :=
 match res with
 | some (op, r) => e = .returned (.tuple #[]) ∧ ∃ k' c, r = T.drop k' ∧ k < k' ∧ k' ≤ T.length ∧ (∃ sl, w'.heap[pb]? = some (.cells #[sl, .int .i64 k'] 135 (0,0))) ∧ FP (fun i => i = pb ∨ i = rb) W w' ∧ w'.heap[rb]? = some (.cells (List.toArray c) 58 (0,0)) ∧ RdOp w' (fun b => W.heap.size ≤ b) c op
 | none => e = .panicked [{ v := .iface 132 (.agg #[]), recovered := false }] ∧ FP (fun i => i = pb) W w'
theorem line1_none {W : World} {pb rb k : Nat} {T : List Lx} (hp : PAt W pb T k) (h0 : takeL 0 [] (T.drop k) = none) :
  Calls Tryz.prog 54 #[.pointer (some ⟨pb, 0, none⟩), .pointer (some ⟨rb, 0, none⟩)] W (LEnd W pb rb T k none) := by
 have HO := Lib.hid (operations_any W)
 have HP := Lib.hid (hp.fp (S := nob) ((FP.refl _ W).alloc (.map opsMap.toArray 7)) (fun _ h => h.elim))
 clear hp
 go_enter Tryz.func54, Tryz.ntmps54
 go_wp2_with fail
 refine HO.out.mono ?_
 rintro e w1 ⟨rfl, rfl⟩
 go_wp2_with fail
 refine (take_none HP.out 0 ⟨#[]⟩ h0).mono ?_
 rintro e w9 ⟨rfl, hf⟩
 exact ⟨rfl, rfl, ((FP.refl _ W).alloc _).trans hf (fun i hi => .inl hi)⟩
theorem neq_nil {w : World} (f : Nat) : (binOp .neq 111 (.func (.func f) #[] #[]) .nilFunc).run Tryz.prog w = .ok (.bool true) w := by kernel_rfl
theorem eq_nil {w : World} : (binOp .neq 111 .nilFunc .nilFunc).run Tryz.prog w = .ok (.bool false) w := by kernel_rfl
theorem line1_no {W : World} {pb rb k : Nat} {T : List Lx} (hp : PAt W pb T k) {u : Bs} {r : List Lx} (h0 : takeL 0 [] (T.drop k) = some (u, r)) (hn : ∀ y : ByteArray, y.data.toList = u → Instr.findNow .string (.string y) opsMap 0 = some none) :
  Calls Tryz.prog 54 #[.pointer (some ⟨pb, 0, none⟩), .pointer (some ⟨rb, 0, none⟩)] W (LEnd W pb rb T k none) := by
 have HO := Lib.hid (operations_any W)
 have HP := Lib.hid (hp.fp (S := nob) ((FP.refl _ W).alloc (.map opsMap.toArray 7)) (fun _ h => h.elim))
 have hpw := hp.lt
 have HNN := Lib.hid hn
 clear hp hn
 go_enter Tryz.func54, Tryz.ntmps54
 go_wp2_with fail
 refine HO.out.mono ?_
 rintro e w1 ⟨rfl, rfl⟩
 go_wp2_with fail
 refine (take_some HP.out 0 ⟨#[]⟩ h0).mono ?_
 rintro e w2 ⟨y, rfl, hy, hp2, hf2⟩
 have hm2 : w2.heap[W.heap.size]? = some (.map opsMap.toArray 7) := (hf2.blk _ (by simp) (by omega)).trans (heap_new_at rfl _)
 have hlk := look_run hm2 y (r := none) (HNN.out y hy)
 simp only [Option.elim_none] at hlk
 have HF2 : Hid (FP (fun i => i = pb) W w2) := Lib.hid (((FP.refl _ W).alloc _).trans hf2 (fun i hi => .inl hi))
 have hne := eq_nil (w := w2)
 clear hy hp2 hf2 hm2
 go_wp2_with fail
 refine (need_false _).mono ?_
 rintro e w9 ⟨rfl, rfl⟩
 exact ⟨rfl, rfl, HF2.out⟩
theorem rdop_shape {w : World} {F : Nat → Prop} {c : List Value} {op : OpV} (h : RdOp w F c op) : ∃ k cl a0 n0 c0 hh t on n a1 n1 c1, c = [.int .i64 k, .string cl, .slice a0 n0 c0, .int .i64 hh, .string t, .bool on, .int .i64 n, .slice a1 n1 c1] := by
 cases h with
 | mk k cl ss h t on n sa xs ys st ar hs hsl ha hal =>
  obtain ⟨_, a0, c0, e0, _⟩ := hs
  obtain ⟨_, a1, c1, e1, _⟩ := ha
  subst e0 e1
  exact ⟨_, _, _, _, _, _, _, _, _, _, _, _, rfl⟩
theorem line1_word {W : World} {pb rb k i f : Nat} {T : List Lx} (hp : PAt W pb T k) (hrp : rb < pb) (hrb : W.heap[rb]? = some (.cells #[.int .i64 0, .string ⟨#[]⟩, .slice none 0 0, .int .i64 0, .string ⟨#[]⟩, .bool false, .int .i64 0, .slice none 0 0] 58 (0,0))) {u : Bs} {r : List Lx} (h0 : takeL 0 [] (T.drop k) = some (u, r))
  (hn : ∀ y : ByteArray, y.data.toList = u → Instr.findNow .string (.string y) opsMap 0 = some (some (i, .func (.func f) #[] #[])))
  (hen : ∀ (args : Array Value) (w : World), (callFunc f args).run Tryz.prog w = .ok (.enter f args) w) (rd : List Lx → Option (OpV × List Lx))
  (hc : ∀ w k, PAt w pb T k → Calls Tryz.prog f #[.pointer (some ⟨pb, 0, none⟩)] w (REnd w pb T k (OpAt w) (rd (T.drop k)))) :
  Calls Tryz.prog 54 #[.pointer (some ⟨pb, 0, none⟩), .pointer (some ⟨rb, 0, none⟩)] W (LEnd W pb rb T k (rd r)) := by
 have HO := Lib.hid (operations_any W)
 have HP := Lib.hid (hp.fp (S := nob) ((FP.refl _ W).alloc (.map opsMap.toArray 7)) (fun _ h => h.elim))
 have hpw := hp.lt
 have HNN := Lib.hid hn
 have HC := Lib.hid hc
 have HRB := Lib.hid hrb
 obtain ⟨res, hres⟩ : ∃ res, rd r = res := ⟨_, rfl⟩
 rw [hres]
 have HRES := Lib.hid hres
 clear hp hn hc hrb hres
 cases res with
 | none =>
  go_enter Tryz.func54, Tryz.ntmps54
  go_wp2_with fail
  refine HO.out.mono ?_
  rintro e w1 ⟨rfl, rfl⟩
  go_wp2_with fail
  refine (take_some HP.out 0 ⟨#[]⟩ h0).mono ?_
  rintro e w2 ⟨y, rfl, hy, hp2, hf2⟩
  have hm2 : w2.heap[W.heap.size]? = some (.map opsMap.toArray 7) := (hf2.blk _ (by simp) (by omega)).trans (heap_new_at rfl _)
  have hlk := look_run hm2 y (r := some (i, .func (.func f) #[] #[])) (HNN.out y hy)
  simp only [Option.elim_some] at hlk
  have HF2 : Hid (FP (fun i => i = pb) W w2) := Lib.hid (((FP.refl _ W).alloc _).trans hf2 (fun i hi => .inl hi))
  obtain ⟨_, _, hr, _⟩ := takeL_drop h0
  have hcc := HC.out w2 (k + 1) hp2
  rw [← hr, HRES.out] at hcc
  have HCC := Lib.hid hcc
  have hne := neq_nil (w := w2) f
  clear hy hp2 hf2 hm2 hcc hr
  go_wp2_with (go_at_call 57; refine (need_true _).mono ?_; rintro e w9 ⟨rfl, rfl⟩)
  refine HCC.out.mono ?_
  rintro e w9 ⟨rfl, hf⟩
  exact ⟨rfl, rfl, HF2.out.trans hf (fun i hi => .inl hi)⟩
 | some p =>
  obtain ⟨op, r2⟩ := p
  go_enter Tryz.func54, Tryz.ntmps54
  go_wp2_with fail
  refine HO.out.mono ?_
  rintro e w1 ⟨rfl, rfl⟩
  go_wp2_with fail
  refine (take_some HP.out 0 ⟨#[]⟩ h0).mono ?_
  rintro e w2 ⟨y, rfl, hy, hp2, hf2⟩
  have hm2 : w2.heap[W.heap.size]? = some (.map opsMap.toArray 7) := (hf2.blk _ (by simp) (by omega)).trans (heap_new_at rfl _)
  have hlk := look_run hm2 y (r := some (i, .func (.func f) #[] #[])) (HNN.out y hy)
  simp only [Option.elim_some] at hlk
  have HF2 : Hid (FP (fun i => i = pb) W w2) := Lib.hid (((FP.refl _ W).alloc _).trans hf2 (fun i hi => .inl hi))
  obtain ⟨_, _, hr, _⟩ := takeL_drop h0
  have hcc := HC.out w2 (k + 1) hp2
  rw [← hr, HRES.out] at hcc
  have HCC := Lib.hid hcc
  have hne := neq_nil (w := w2) f
  clear hy hp2 hf2 hm2 hcc hr
  go_wp2_with (go_at_call 57; refine (need_true _).mono ?_; rintro e w9 ⟨rfl, rfl⟩)
  refine HCC.out.mono ?_
  rintro e w3 ⟨v3, k', rfl, ⟨c, rfl, hrd⟩, hr2, hk1, hk2, hp3, hf3⟩
  obtain ⟨kk, cl, a0, n0, s0, hh, t, on, n, a1, n1, s1, rfl⟩ := rdop_shape hrd
  have hb3 := (hf3.blk _ (lt_blk ((HF2.out.blk _ (lt_blk HRB.out) (by omega)).trans HRB.out)) (by omega)).trans ((HF2.out.blk _ (lt_blk HRB.out) (by omega)).trans HRB.out)
  have c0 : w3.cell? ⟨rb, 0, none⟩ = some (.int .i64 0) := cell_blk hb3
  have f0 : w3.frozen? ⟨rb, 0, none⟩ = false := frz_blk hb3
  have c1 : w3.cell? ⟨rb, 1, none⟩ = some (.string ⟨#[]⟩) := cell_blk hb3
  have f1 : w3.frozen? ⟨rb, 1, none⟩ = false := frz_blk hb3
  have c2 : w3.cell? ⟨rb, 2, none⟩ = some (.slice none 0 0) := cell_blk hb3
  have f2 : w3.frozen? ⟨rb, 2, none⟩ = false := frz_blk hb3
  have c3 : w3.cell? ⟨rb, 3, none⟩ = some (.int .i64 0) := cell_blk hb3
  have f3 : w3.frozen? ⟨rb, 3, none⟩ = false := frz_blk hb3
  have c4 : w3.cell? ⟨rb, 4, none⟩ = some (.string ⟨#[]⟩) := cell_blk hb3
  have f4 : w3.frozen? ⟨rb, 4, none⟩ = false := frz_blk hb3
  have c5 : w3.cell? ⟨rb, 5, none⟩ = some (.bool false) := cell_blk hb3
  have f5 : w3.frozen? ⟨rb, 5, none⟩ = false := frz_blk hb3
  have c6 : w3.cell? ⟨rb, 6, none⟩ = some (.int .i64 0) := cell_blk hb3
  have f6 : w3.frozen? ⟨rb, 6, none⟩ = false := frz_blk hb3
  have c7 : w3.cell? ⟨rb, 7, none⟩ = some (.slice none 0 0) := cell_blk hb3
  have f7 : w3.frozen? ⟨rb, 7, none⟩ = false := frz_blk hb3
  have HB3 := Lib.hid hb3
  have HRD := Lib.hid hrd
  have HP3 := Lib.hid hp3
  have HF3 := Lib.hid (HF2.out.trans hf3 (fun i hi => .inl hi))
  have HR := Lib.hid (And.intro hr2 (And.intro hk1 hk2))
  clear hb3 hrd hp3 hf3 hr2 hk1 hk2 hlk hne
  go_wp2_with fail
  have hw2 : W.heap.size ≤ w2.heap.size := HF2.out.size
  have hrW : rb < W.heap.size := lt_blk HRB.out
  have z1 := put8_at HB3.out (.int .i64 kk) (.string cl) (.slice a0 n0 s0) (.int .i64 hh) (.string t) (.bool on) (.int .i64 n) (.slice a1 n1 s1)
  obtain ⟨sl, xs, hpb, _⟩ := HP3.out.box
  have z2 := (put8_ne w3 rb (.int .i64 kk) (.string cl) (.slice a0 n0 s0) (.int .i64 hh) (.string t) (.bool on) (.int .i64 n) (.slice a1 n1 s1) (k := pb) (by omega)).trans hpb
  have z3 : FP (fun i => i = pb ∨ i = rb) W (put8 w3 rb (.int .i64 kk) (.string cl) (.slice a0 n0 s0) (.int .i64 hh) (.string t) (.bool on) (.int .i64 n) (.slice a1 n1 s1)) := (HF3.out.mono (fun i hi => .inl hi)).trans (put8_fp (S := fun i => i = rb) w3 _ (.int .i64 kk) (.string cl) (.slice a0 n0 s0) (.int .i64 hh) (.string t) (.bool on) (.int .i64 n) (.slice a1 n1 s1) rfl) (fun i hi => .inl (.inr hi))
  have z4 : RdOp (put8 w3 rb (.int .i64 kk) (.string cl) (.slice a0 n0 s0) (.int .i64 hh) (.string t) (.bool on) (.int .i64 n) (.slice a1 n1 s1)) (fun b => W.heap.size ≤ b) [.int .i64 kk, .string cl, .slice a0 n0 s0, .int .i64 hh, .string t, .bool on, .int .i64 n, .slice a1 n1 s1] op := RdOp.trans' (fun g hg _ => by have hg' : w2.heap.size ≤ g := hg; exact ⟨put8_ne _ _ _ _ _ _ _ _ _ _ (by omega), by omega⟩) HRD.out
  change bodyPost _ _ _ _ _ (put8 w3 rb (.int .i64 kk) (.string cl) (.slice a0 n0 s0) (.int .i64 hh) (.string t) (.bool on) (.int .i64 n) (.slice a1 n1 s1))
  exact bodyPost_end (v := .tuple #[]) (by simp [results, Tryz.results54]) rfl ⟨rfl, k', _, HR.out.1, by have := HR.out.2.1; omega, HR.out.2.2, ⟨sl, z2⟩, z3, z1, z4⟩
end Go.Proofs.YtnpkdiffpgcbhaaGreatDoor
