/- Wakes, Event and Value, walked. Conditions: each theorem's own. -/
import Derived.Test.YtnpkdiffpgcbhaaGreatDoorC2
import Derived.Test.YtnpkdiffpgcbhaaGreatDoorC5
import Derived.Test.YtnpkdiffpgcbhaaGreatDoorS50
import Derived.Test.YtnpkdiffpgcbhaaGreatDoorS42
import Derived.Test.YtnpkdiffpgcbhaaGreatDoorS46
set_option maxRecDepth 100000
set_option maxHeartbeats 3200000
namespace Go.Proofs.YtnpkdiffpgcbhaaGreatDoor
open Go.RowKit
attribute [local go_sem] Oper.semAt_some
theorem event_end (w : World) : Calls Tryz.prog 12 #[.agg #[.slice none 0 0, .slice none 0 0, .slice none 0 0], .agg #[.int .i64 10, .int .i64 0, .bool false, .int .i64 0, .int .i64 0, .slice none 0 0, .string ⟨#[]⟩, .slice none 0 0, .int .i64 3, .int .i64 0]] w fun e w' => e = .returned (.string ⟨#[101, 110, 100, 32, 51]⟩) ∧ FP nob w w' := by
 have HI := Lib.hid (fun (W : World) => Tryz.strconv_Itoa_small 3 (by decide) W)
 have hd : Lib.decDigits 3 = [51] := by kernel_rfl
 rw [hd] at HI
 go_enter Tryz.func12, Tryz.ntmps12
 go_wp2_with fail
 refine (HI.out _).mono ?_
 rintro e w1 ⟨rfl, rfl⟩
 go_wp2_with fail
 exact bodyPost_ret (v := .string (⟨#[101, 110, 100, 32]⟩ ++ ⟨#[51]⟩)) (by simp [results, Tryz.results12]) rfl (And.intro (by rw [show ((⟨#[101, 110, 100, 32]⟩ : ByteArray) ++ ⟨#[51]⟩) = ⟨#[101, 110, 100, 32, 51]⟩ from data_inj (by rw [cat_data]; rfl)]) (((FP.refl nob w).alloc _).alloc _))
end Go.Proofs.YtnpkdiffpgcbhaaGreatDoor
namespace Go.Proofs.YtnpkdiffpgcbhaaGreatDoor
open Go.RowKit
attribute [local go_sem] Oper.semAt_some
def wkT : Bs := [105, 110, 115, 101, 114, 116, 32, 80, 32, 123, 32, 120, 32, 61, 32, 45, 32, 50, 44, 32, 121, 32, 61, 32, 91, 116, 114, 117, 101, 44, 32, 63, 51, 93, 32, 125, 10, 47, 47, 32, 110, 111, 110, 101, 10, 113, 117, 101, 114, 121, 32, 113, 40, 42, 44, 32, 34, 97, 34, 41]
def wkP : Bs := [105, 110, 115, 101, 114, 116, 32, 80, 32, 123, 32, 120, 32, 61, 32, 45, 32, 50, 32, 44, 32, 121, 32, 61, 32, 91, 32, 116, 114, 117, 101, 32, 44, 32, 63, 32, 51, 32, 93, 32, 125, 10, 113, 117, 101, 114, 121, 32, 113, 32, 40, 32, 42, 32, 44, 32, 34, 97, 34, 32, 41, 10]
def wkOps : List OpV := [⟨1, [80], [([120], intV (-2)), ([121], listV [boolV true, factV 3])], 0, [], false, 0, []⟩, ⟨7, [], [], 0, [113], false, 0, [(false, nullV), (true, textV [97])]⟩]
theorem wk_parse : parseA wkT = .ok wkOps := by kernel_rfl
theorem wakes_any {w : World} (hlib : LibOk w)
  (hPr : ∀ W v, FP nob w W → Got W v wkOps → Calls Tryz.prog 10 #[v] W fun e w' => e = .returned (.tuple #[.string ⟨#[105, 110, 115, 101, 114, 116, 32, 80, 32, 123, 32, 120, 32, 61, 32, 45, 32, 50, 32, 44, 32, 121, 32, 61, 32, 91, 32, 116, 114, 117, 101, 32, 44, 32, 63, 32, 51, 32, 93, 32, 125, 10, 113, 117, 101, 114, 121, 32, 113, 32, 40, 32, 42, 32, 44, 32, 34, 97, 34, 32, 41, 10]⟩, .int .i64 0]) ∧ FP nob W w')
  (hV : ∀ W, FP nob w W → Calls Tryz.prog 20 #[.string ⟨#[91, 49, 44, 32, 110, 117, 108, 108, 93]⟩] W fun e w' => ∃ a c, e = .returned (.tuple #[.agg #[.int .i64 4, .bool false, .int .i64 0, .string ⟨#[]⟩, .slice a 2 c], .int .i64 0]) ∧ FP nob W w') : YesC 9 #[] w := by
 have HP := Lib.hid (parse_res (w := w) ⟨#[105, 110, 115, 101, 114, 116, 32, 80, 32, 123, 32, 120, 32, 61, 32, 45, 32, 50, 44, 32, 121, 32, 61, 32, 91, 116, 114, 117, 101, 44, 32, 63, 51, 93, 32, 125, 10, 47, 47, 32, 110, 111, 110, 101, 10, 113, 117, 101, 114, 121, 32, 113, 40, 42, 44, 32, 34, 97, 34, 41]⟩ hlib)
 have HPR := Lib.hid hPr
 have HV := Lib.hid hV
 clear hlib hPr hV
 unfold YesC
 go_enter Tryz.func9, Tryz.ntmps9
 go_wp2_with fail
 refine HP.out.mono ?_
 rintro e w1 ⟨v1, n1, c1, rfl, hr⟩
 obtain ⟨rfl, rfl, hg⟩ := hr.det_ok wk_parse
 have HF1 := Lib.hid hr.1
 have HPR1 := Lib.hid (HPR.out w1 v1 hr.1 hg)
 obtain ⟨ao, cp, rfl⟩ := hg.shape
 rw [show wkOps.length = 2 from rfl] at HPR1 ⊢
 clear hr hg
 go_wp2_with fail
 refine HPR1.out.mono ?_
 rintro e w2 ⟨rfl, f2⟩
 have HF2 : Hid (FP nob w w2) := Lib.hid (FP.trans (S := nob) HF1.out f2 (fun _ x => x.elim))
 have HV2 := Lib.hid (HV.out w2 HF2.out)
 clear f2
 go_wp2_with fail
 refine HV2.out.mono ?_
 rintro e w3 ⟨a3, c3, rfl, f3⟩
 have HF3 : Hid (FP nob w w3) := Lib.hid (FP.trans (S := nob) HF2.out f3 (fun _ x => x.elim))
 clear f3
 have HE := Lib.hid (fun (W : World) => event_end W)
 go_wp2_with fail
 refine (HE.out _).mono ?_
 rintro e w4 ⟨rfl, f4⟩
 have HF4 : Hid (FP nob w w4) := Lib.hid (FP.trans (S := nob) (HF3.out.alloc _) f4 (fun _ x => x.elim))
 clear f4
 go_wp2_with fail
 exact bodyPost_ret (v := .bool true) (by simp [results, Tryz.results9]) rfl (And.intro rfl HF4.out)
end Go.Proofs.YtnpkdiffpgcbhaaGreatDoor
namespace Go.Proofs.YtnpkdiffpgcbhaaGreatDoor
open Go.RowKit
attribute [local go_sem] Oper.semAt_some
def VEnd (W : World) (pb rb : Nat) (T : List Lx) (k : Nat) (res : Option (GV × List Lx)) (e : Ending) (w' : World) : Prop :=
 match res with
 | some (v, r) => e = .returned (.tuple #[]) ∧ ∃ k' c, r = T.drop k' ∧ k < k' ∧ k' ≤ T.length ∧ (∃ sl, w'.heap[pb]? = some (.cells #[sl, .int .i64 k'] 135 (0,0))) ∧ FP (fun i => i = pb ∨ i = rb) W w' ∧ w'.heap[rb]? = some (.cells (List.toArray c) 52 (0,0)) ∧ RdV w' (fun b => W.heap.size ≤ b) c v
 | none => e = .panicked [{ v := .iface 132 (.agg #[]), recovered := false }] ∧ FP (fun i => i = pb) W w'
theorem put5_at0 {w : World} {g : Nat} {u0 u1 u2 u3 u4 : Value} {ty : TypeId} (h : w.heap[g]? = some (.cells #[u0, u1, u2, u3, u4] ty (0,0))) (a b c d e : Value) : (put5 w g 0 a b c d e).heap[g]? = some (.cells #[a, b, c, d, e] ty (0,0)) := by
 unfold put5
 have h0 := heap_set h (o := 0) a g
 rw [if_pos rfl] at h0
 have h1 := heap_set h0 (o := 0 + 1) b g
 rw [if_pos rfl] at h1
 have h2 := heap_set h1 (o := 0 + 1 + 1) c g
 rw [if_pos rfl] at h2
 have h3 := heap_set h2 (o := 0 + 1 + 1 + 1) d g
 rw [if_pos rfl] at h3
 have h4 := heap_set h3 (o := 0 + 1 + 1 + 1 + 1) e g
 rw [if_pos rfl] at h4
 exact h4
theorem vclo_any {W : World} {pb rb : Nat} {T : List Lx} (hp : PAt W pb T 0) (hrp : rb < pb) (hrb : W.heap[rb]? = some (.cells #[.int .i64 0, .bool false, .int .i64 0, .string ⟨#[]⟩, .slice none 0 0] 52 (0,0))) :
  Calls Tryz.prog 47 #[.pointer (some ⟨pb, 0, none⟩), .pointer (some ⟨rb, 0, none⟩)] W (VEnd W pb rb T 0 (pVal 30 T)) := by
 have hc := value_any 30 (Nat.le_refl _) W 0 hp
 rw [List.drop_zero] at hc
 have hc : Calls Tryz.prog 48 #[.pointer (some ⟨pb, 0, none⟩), .int .i64 0] W (ValEnd W pb T 0 (pVal 30 T)) := hc
 have HC := Lib.hid hc
 have HRB := Lib.hid hrb
 have hpw := hp.lt
 obtain ⟨res, hres⟩ : ∃ res, pVal 30 T = res := ⟨_, rfl⟩
 rw [hres] at HC ⊢
 clear hp hc hrb hres
 cases res with
 | none =>
  go_enter Tryz.func47, Tryz.ntmps47
  go_wp2_with fail
  refine HC.out.mono ?_
  rintro e w9 ⟨rfl, hf⟩
  exact ⟨rfl, rfl, hf⟩
 | some p =>
  obtain ⟨v, r⟩ := p
  go_enter Tryz.func47, Tryz.ntmps47
  go_wp2_with fail
  refine HC.out.mono ?_
  rintro e w1 ⟨kd, b, i, t, sl, k', rfl, hrd, hr, hk1, hk2, hp1, hf⟩
  obtain ⟨ax, nx, cx, rfl⟩ : ∃ a n c, sl = .slice a n c := by
   obtain ⟨_, _, _, _, a, n, c, e⟩ := rdv_shape hrd
   injection e with _ e; injection e with _ e; injection e with _ e; injection e with _ e; injection e with e _
   exact ⟨a, n, c, e⟩
  have HRD := Lib.hid hrd
  have HF := Lib.hid hf
  have hrb1 := (hf.blk _ (lt_blk HRB.out) (by omega)).trans HRB.out
  have c0 : w1.cell? ⟨rb, 0, none⟩ = some (.int .i64 0) := cell_blk hrb1
  have f0 : w1.frozen? ⟨rb, 0, none⟩ = false := frz_blk hrb1
  have c1 : w1.cell? ⟨rb, 1, none⟩ = some (.bool false) := cell_blk hrb1
  have f1 : w1.frozen? ⟨rb, 1, none⟩ = false := frz_blk hrb1
  have c2 : w1.cell? ⟨rb, 2, none⟩ = some (.int .i64 0) := cell_blk hrb1
  have f2 : w1.frozen? ⟨rb, 2, none⟩ = false := frz_blk hrb1
  have c3 : w1.cell? ⟨rb, 3, none⟩ = some (.string ⟨#[]⟩) := cell_blk hrb1
  have f3 : w1.frozen? ⟨rb, 3, none⟩ = false := frz_blk hrb1
  have c4 : w1.cell? ⟨rb, 4, none⟩ = some (.slice none 0 0) := cell_blk hrb1
  have f4 : w1.frozen? ⟨rb, 4, none⟩ = false := frz_blk hrb1
  have HRB1 := Lib.hid hrb1
  have HP1 := Lib.hid hp1
  have HR := Lib.hid (And.intro hr (And.intro hk1 hk2))
  clear hrd hf hrb1 hp1 hr hk1 hk2
  go_wp2_with fail
  have hrW : rb < W.heap.size := lt_blk HRB.out
  have z1 := put5_at0 HRB1.out (.int .i64 kd) (.bool b) (.int .i64 i) (.string t) (.slice ax nx cx)
  obtain ⟨sl, xs, hpb, _⟩ := HP1.out.box
  have z2 := (put5_ne w1 rb 0 (.int .i64 kd) (.bool b) (.int .i64 i) (.string t) (.slice ax nx cx) (k := pb) (by omega)).trans hpb
  have z3 : FP (fun i => i = pb ∨ i = rb) W (put5 w1 rb 0 (.int .i64 kd) (.bool b) (.int .i64 i) (.string t) (.slice ax nx cx)) := (HF.out.mono (fun i hi => .inl hi)).trans (put5_fp (S := fun i => i = rb) w1 _ _ (.int .i64 kd) (.bool b) (.int .i64 i) (.string t) (.slice ax nx cx) rfl) (fun i hi => .inl (.inr hi))
  have z4 : RdV (put5 w1 rb 0 (.int .i64 kd) (.bool b) (.int .i64 i) (.string t) (.slice ax nx cx)) (fun b => W.heap.size ≤ b) [.int .i64 kd, .bool b, .int .i64 i, .string t, .slice ax nx cx] v := RdV.trans' (fun g hg _ => by have hg' : W.heap.size ≤ g := hg; exact ⟨put5_ne _ _ _ _ _ _ _ _ (by omega), hg'⟩) _ _ HRD.out
  change bodyPost _ _ _ _ _ (put5 w1 rb 0 (.int .i64 kd) (.bool b) (.int .i64 i) (.string t) (.slice ax nx cx))
  exact bodyPost_end (v := .tuple #[]) (by simp [results, Tryz.results47]) rfl ⟨rfl, k', _, HR.out.1, HR.out.2.1, HR.out.2.2, ⟨sl, z2⟩, z3, z1, z4⟩
end Go.Proofs.YtnpkdiffpgcbhaaGreatDoor
namespace Go.Proofs.YtnpkdiffpgcbhaaGreatDoor
open Go.RowKit
attribute [local go_sem] Oper.semAt_some
theorem vcaught_good {w : World} {rb : Nat} {s : ByteArray} (hs : s.size ≤ 1099511627776) (hlib : LibOk w) (hrb : w.heap[rb]? = some (.cells #[.int .i64 0, .bool false, .int .i64 0, .string ⟨#[]⟩, .slice none 0 0] 52 (0,0))) {T : List Lx} (hl : lexS s.data.toList = some T) (hT : T ≠ []) {op : GV} (hop : pVal 30 T = some (op, [])) :
  Calls Tryz.prog 46 #[.string s, .func (.func 47) #[] #[.pointer (some ⟨rb, 0, none⟩)]] w fun e w' => e = .returned (.tuple #[.bool true, .bool true]) ∧ FP (fun i => i = rb) w w' ∧ ∃ c, w'.heap[rb]? = some (.cells (List.toArray c) 52 (0,0)) ∧ RdV w' (fun b => w.heap.size ≤ b) c op := by
 have HL := Lib.hid (long_any s ((w.alloc (.cells #[.bool false] 4)).alloc (.cells #[.bool false] 4)) hs)
 have hgood := lexS_good hl (by have : s.data.toList.length = s.size := rfl; omega)
 have HG := Lib.hid hgood
 have HN := Lib.hid hl
 have HO := Lib.hid hop
 have HLB := Lib.hid hlib
 have HRB := Lib.hid hrb
 have hrw := lt_blk hrb
 have hTl : 0 < T.length := List.length_pos_iff.2 hT
 have hmf : ∀ (fn : Fn) (first cap : Array Value) (w : World), (Instr.makeFunc fn first cap).run Tryz.prog w = .ok (.func fn first cap) w := fun _ _ _ _ => rfl
 clear hl hs hgood hlib hrb hop hT
 go_enter_defers Tryz.func46, Tryz.ntmps46
 go_wp2_with fail
 refine HL.out.mono ?_
 rintro e w1 ⟨hb, hm⟩
 rw [HN.out] at hm
 obtain ⟨v, xs, rfl, hown, hrow⟩ := hm
 obtain ⟨ao, cap, rfl⟩ := own_shape1 hown
 have h0 : ((w.alloc (.cells #[.bool false] 4)).alloc (.cells #[.bool false] 4)).heap[w.heap.size]? = some (.cells #[.bool false] 4 (0,0)) := (heap_alloc_ne (by simp)).trans (heap_new_at rfl _)
 have h1 : ((w.alloc (.cells #[.bool false] 4)).alloc (.cells #[.bool false] 4)).heap[w.heap.size + 1]? = some (.cells #[.bool false] 4 (0,0)) := heap_new_at (by simp) _
 have q0 := (hb.block _ (lt_blk h0)).trans h0
 have q1 := (hb.block _ (lt_blk h1)).trans h1
 have hf : FP nob w w1 := (((FP.refl _ w).alloc _).alloc _).trans (FP.ofBelow (S := nob) hb) (fun _ h => h.elim)
 have hwl : w.heap.size + 1 < w1.heap.size := lt_blk q1
 obtain ⟨N, hN⟩ : ∃ N, T.length = N := ⟨_, rfl⟩
 have hp : PAt (w1.alloc (.cells #[.slice ao T.length cap, .int .i64 (0 : Nat)] 135)) w1.heap.size T 0 := by
  have hlb : LibOk w1 := HLB.out.fp hf (fun _ h => h.elim)
  have hsl : SliceAt w1 (fun b => ((w.alloc (.cells #[.bool false] 4)).alloc (.cells #[.bool false] 4)).heap.size ≤ b) (.slice ao T.length cap) T.length (T.length * 4) xs := SliceAt.own hown
  refine ⟨⟨_, xs, heap_new_at rfl _, ((hsl.wide (G := fun g => g < w1.heap.size) (fun g _ hgl => hgl)).frame (fun g hg hgl => heap_alloc_ne (by omega))), hrow⟩, Nat.zero_le _, HG.out, hlb.fp (S := nob) ((FP.refl _ w1).alloc _) (fun _ h => h.elim), hlb.size⟩
 have hrb1 : (w1.alloc (.cells #[.slice ao T.length cap, .int .i64 (0 : Nat)] 135)).heap[rb]? = some (.cells #[.int .i64 0, .bool false, .int .i64 0, .string ⟨#[]⟩, .slice none 0 0] 52 (0,0)) := (heap_alloc_ne (by omega)).trans ((hf.blk _ hrw (fun h => h.elim)).trans HRB.out)
 have hc := vclo_any hp (by omega : rb < w1.heap.size) hrb1
 rw [HO.out] at hc
 rw [hN] at hc
 have HC := Lib.hid hc
 have hN4 : N ≤ 4096 := by rw [← hN]; exact HG.out.len
 have hTN : (N == 0) = false := by rw [beq_eq_false_iff_ne]; omega
 have hf2 : FP nob w (w1.alloc (.cells #[.slice ao N cap, .int .i64 (0 : Nat)] 135)) := hf.alloc _
 have k0 : (w1.alloc (.cells #[.slice ao N cap, .int .i64 (0 : Nat)] 135)).heap[w.heap.size]? = some (.cells #[.bool false] 4 (0,0)) := (heap_alloc_ne (by omega)).trans q0
 have k1 : (w1.alloc (.cells #[.slice ao N cap, .int .i64 (0 : Nat)] 135)).heap[w.heap.size + 1]? = some (.cells #[.bool false] 4 (0,0)) := (heap_alloc_ne (by omega)).trans q1
 have HF := Lib.hid hf2
 have HK0 := Lib.hid k0
 have HK1 := Lib.hid k1
 have HNN := Lib.hid hN
 rw [hN] at hTl ⊢
 have hN0 : ¬ (N = 0) := by omega
 clear hb h0 h1 q0 q1 hf hp hrb1 hc hf2 k0 k1 hN hown hrow
 go_wp2_with fail
 refine HC.out.mono ?_
 rintro e w2 ⟨rfl, k', c, hr, hk1, hk2, ⟨sl, hsl⟩, hf, hrb2, hrd⟩
 have hqa := (hf.blk _ (lt_blk HK0.out) (by omega)).trans HK0.out
 have hqb := (hf.blk _ (lt_blk HK1.out) (by omega)).trans HK1.out
 have QA := Lib.hid hqa
 have QB := Lib.hid hqb
 have HF2 : Hid (FP (fun i => i = rb) w w2) := Lib.hid ((HF.out.mono (fun _ h => h.elim)).trans hf (fun i hi => by rcases hi with h | h; exact .inr (by omega); exact .inl h))
 have HRB2 := Lib.hid hrb2
 have HRD : Hid (RdV w2 (fun b => w1.heap.size < b) c op) := Lib.hid (RdV.trans' (fun g hg _ => ⟨rfl, by have hg' : (w1.alloc (.cells #[.slice ao N cap, .int .i64 (0 : Nat)] 135)).heap.size ≤ g := hg; simp at hg'; omega⟩) _ _ hrd)
 have x1 : w2.cell? ⟨w1.heap.size, 1, none⟩ = some (.int .i64 k') := cell_blk hsl
 clear hqa hqb hf hrb2 hrd hsl
 have hkN : k' = N := by
  have h1 := congrArg List.length hr
  simp only [List.length_nil, List.length_drop] at h1
  rw [← HNN.out]; omega
 subst hkN
 have hcmp : ((k' : Int) == (k' : Int)) = true := by simp
 clear hr hk1 hk2
 have a0 : w2.cell? ⟨w.heap.size, 0, none⟩ = some (.bool false) := cell_blk QA.out
 have a1 : w2.frozen? ⟨w.heap.size, 0, none⟩ = false := frz_blk QA.out
 have b0 : w2.cell? ⟨w.heap.size + 1, 0, none⟩ = some (.bool false) := cell_blk QB.out
 have b1 : w2.frozen? ⟨w.heap.size + 1, 0, none⟩ = false := frz_blk QB.out
 go_wp2_with (go_at_call 57; refine (need_true _).mono ?_; rintro e w9 ⟨rfl, rfl⟩)
 obtain ⟨z0, z1, z2⟩ := two_set QA.out QB.out HF2.out (.bool true) (.bool true)
 have z3 : ((w2.setCell ⟨w.heap.size, 0, none⟩ (.bool true)).setCell ⟨w.heap.size + 1, 0, none⟩ (.bool true)).heap[rb]? = some (.cells (List.toArray c) 52 (0,0)) := (heap_set_ne (by show rb ≠ w.heap.size + 1; omega)).trans ((heap_set_ne (by show rb ≠ w.heap.size; omega)).trans HRB2.out)
 have z4 : RdV ((w2.setCell ⟨w.heap.size, 0, none⟩ (.bool true)).setCell ⟨w.heap.size + 1, 0, none⟩ (.bool true)) (fun b => w.heap.size ≤ b) c op := RdV.trans' (fun g hg _ => by have hg' : w1.heap.size < g := hg; exact ⟨(heap_set_ne (by show g ≠ w.heap.size + 1; omega)).trans (heap_set_ne (by show g ≠ w.heap.size; omega)), by omega⟩) _ _ HRD.out
 generalize (w2.setCell ⟨w.heap.size, 0, none⟩ (.bool true)).setCell ⟨w.heap.size + 1, 0, none⟩ (.bool true) = wf at z0 z1 z2 z3 z4 ⊢
 have r0 : wf.cell? ⟨w.heap.size, 0, none⟩ = some (.bool true) := cell_blk z0
 have r1 : wf.cell? ⟨w.heap.size + 1, 0, none⟩ = some (.bool true) := cell_blk z1
 refine leaves_cons (f := 71) (args := #[.pointer (some ⟨w.heap.size, 0, none⟩), .pointer (some ⟨w.heap.size + 1, 0, none⟩)]) (by simp) (by simp [go_sem]) ?_
 refine (catch_idle ⟨w.heap.size, 0, none⟩ ⟨w.heap.size + 1, 0, none⟩ _).mono ?_
 rintro e u' w9 ⟨rfl, rfl, rfl⟩
 simp [Leaves, settle, results, Tryz.results46, go_sem, r0, r1]
 exact ⟨z2, c, z3, z4⟩
end Go.Proofs.YtnpkdiffpgcbhaaGreatDoor
namespace Go.Proofs.YtnpkdiffpgcbhaaGreatDoor
open Go.RowKit
attribute [local go_sem] Oper.semAt_some
theorem value_good {w : World} {s : ByteArray} (hs : s.size ≤ 65536) (hlib : LibOk w) {T : List Lx} (hl : lexS s.data.toList = some T) (hT : T ≠ []) {v : GV} (hop : pVal 30 T = some (v, [])) :
  Calls Tryz.prog 20 #[.string s] w fun e w' => FP nob w w' ∧ ∃ c : List Value, e = .returned (.tuple #[.agg c.toArray, .int .i64 0]) ∧ RdV w' (fun b => w.heap.size ≤ b) c v := by
 have hrb : ((w.alloc (.cells #[.int .i64 0, .bool false, .int .i64 0, .string ⟨#[]⟩, .slice none 0 0] 52)).alloc (.cells #[.int .i64 0, .bool false, .int .i64 0, .string ⟨#[]⟩, .slice none 0 0] 52)).heap[w.heap.size + 1]? = some (.cells #[.int .i64 0, .bool false, .int .i64 0, .string ⟨#[]⟩, .slice none 0 0] 52 (0,0)) := heap_new_at (by simp) _
 have hrz : ((w.alloc (.cells #[.int .i64 0, .bool false, .int .i64 0, .string ⟨#[]⟩, .slice none 0 0] 52)).alloc (.cells #[.int .i64 0, .bool false, .int .i64 0, .string ⟨#[]⟩, .slice none 0 0] 52)).heap[w.heap.size]? = some (.cells #[.int .i64 0, .bool false, .int .i64 0, .string ⟨#[]⟩, .slice none 0 0] 52 (0,0)) := (heap_alloc_ne (by simp)).trans (heap_new_at rfl _)
 have hlib1 : LibOk ((w.alloc (.cells #[.int .i64 0, .bool false, .int .i64 0, .string ⟨#[]⟩, .slice none 0 0] 52)).alloc (.cells #[.int .i64 0, .bool false, .int .i64 0, .string ⟨#[]⟩, .slice none 0 0] 52)) := hlib.fp (S := nob) (((FP.refl _ w).alloc _).alloc _) (fun _ h => h.elim)
 have hC := vcaught_good (w := (w.alloc (.cells #[.int .i64 0, .bool false, .int .i64 0, .string ⟨#[]⟩, .slice none 0 0] 52)).alloc (.cells #[.int .i64 0, .bool false, .int .i64 0, .string ⟨#[]⟩, .slice none 0 0] 52)) (by omega : s.size ≤ 1099511627776) hlib1 hrb hl hT hop
 have HC := Lib.hid hC
 have HRZ := Lib.hid hrz
 have hmf : ∀ (fn : Fn) (first cap : Array Value) (w : World), (Instr.makeFunc fn first cap).run Tryz.prog w = .ok (.func fn first cap) w := fun _ _ _ _ => rfl
 have hsz : ¬ (65536 : Int) < (s.size : Int) := by omega
 clear hC hrb hrz hlib hlib1 hs hl
 go_enter Tryz.func20, Tryz.ntmps20
 go_wp2_with fail
 refine HC.out.mono ?_
 rintro e w1 ⟨rfl, hf, c, hb, hrd⟩
 obtain ⟨kk, b, i, t, a0, n0, s0, rfl⟩ := rdv_shape hrd
 have hf2 : FP nob w w1 := (((FP.refl _ w).alloc _).alloc _).trans hf (fun i hi => .inr (by omega))
 have hz1 := (hf.blk _ (lt_blk HRZ.out) (by omega)).trans HRZ.out
 have HRD : Hid (RdV w1 (fun b => w.heap.size + 1 < b) [.int .i64 kk, .bool b, .int .i64 i, .string t, .slice a0 n0 s0] v) := Lib.hid (RdV.wide hrd (fun g hg _ => by have hg' : ((w.alloc (.cells #[.int .i64 0, .bool false, .int .i64 0, .string ⟨#[]⟩, .slice none 0 0] 52)).alloc (.cells #[.int .i64 0, .bool false, .int .i64 0, .string ⟨#[]⟩, .slice none 0 0] 52)).heap.size ≤ g := hg; simp at hg'; omega))
 have c0 : w1.cell? ⟨w.heap.size + 1, 0, none⟩ = some (.int .i64 kk) := cell_blk hb
 have c1 : w1.cell? ⟨w.heap.size + 1, 1, none⟩ = some (.bool b) := cell_blk hb
 have c2 : w1.cell? ⟨w.heap.size + 1, 2, none⟩ = some (.int .i64 i) := cell_blk hb
 have c3 : w1.cell? ⟨w.heap.size + 1, 3, none⟩ = some (.string t) := cell_blk hb
 have c4 : w1.cell? ⟨w.heap.size + 1, 4, none⟩ = some (.slice a0 n0 s0) := cell_blk hb
 have z0 : w1.cell? ⟨w.heap.size, 0, none⟩ = some (.int .i64 0) := cell_blk hz1
 have f0 : w1.frozen? ⟨w.heap.size, 0, none⟩ = false := frz_blk hz1
 have z1 : w1.cell? ⟨w.heap.size, 1, none⟩ = some (.bool false) := cell_blk hz1
 have f1 : w1.frozen? ⟨w.heap.size, 1, none⟩ = false := frz_blk hz1
 have z2 : w1.cell? ⟨w.heap.size, 2, none⟩ = some (.int .i64 0) := cell_blk hz1
 have f2 : w1.frozen? ⟨w.heap.size, 2, none⟩ = false := frz_blk hz1
 have z3 : w1.cell? ⟨w.heap.size, 3, none⟩ = some (.string ⟨#[]⟩) := cell_blk hz1
 have f3 : w1.frozen? ⟨w.heap.size, 3, none⟩ = false := frz_blk hz1
 have z4 : w1.cell? ⟨w.heap.size, 4, none⟩ = some (.slice none 0 0) := cell_blk hz1
 have f4 : w1.frozen? ⟨w.heap.size, 4, none⟩ = false := frz_blk hz1
 have HF2 := Lib.hid hf2
 have HZ1 := Lib.hid hz1
 clear hb hf hf2 hrd hz1
 go_wp2_with fail
 have y0 := put5_at0 HZ1.out (.int .i64 kk) (.bool b) (.int .i64 i) (.string t) (.slice a0 n0 s0)
 have y1 : FP nob w (put5 w1 w.heap.size 0 (.int .i64 kk) (.bool b) (.int .i64 i) (.string t) (.slice a0 n0 s0)) := HF2.out.trans (put5_fp (S := fun i => i = w.heap.size) w1 _ _ (.int .i64 kk) (.bool b) (.int .i64 i) (.string t) (.slice a0 n0 s0) rfl) (fun i hi => .inr (by omega))
 have y2 : RdV (put5 w1 w.heap.size 0 (.int .i64 kk) (.bool b) (.int .i64 i) (.string t) (.slice a0 n0 s0)) (fun b => w.heap.size ≤ b) [.int .i64 kk, .bool b, .int .i64 i, .string t, .slice a0 n0 s0] v := RdV.trans' (fun g hg _ => by have hg' : w.heap.size + 1 < g := hg; exact ⟨put5_ne _ _ _ _ _ _ _ _ (by omega), by omega⟩) _ _ HRD.out
 change bodyPost _ _ _ _ _ (put5 w1 w.heap.size 0 (.int .i64 kk) (.bool b) (.int .i64 i) (.string t) (.slice a0 n0 s0))
 generalize put5 w1 w.heap.size 0 (.int .i64 kk) (.bool b) (.int .i64 i) (.string t) (.slice a0 n0 s0) = wf at y0 y1 y2 ⊢
 have r0 : wf.cell? ⟨w.heap.size, 0, none⟩ = some (.int .i64 kk) := cell_blk y0
 have r1 : wf.cell? ⟨w.heap.size, 1, none⟩ = some (.bool b) := cell_blk y0
 have r2 : wf.cell? ⟨w.heap.size, 2, none⟩ = some (.int .i64 i) := cell_blk y0
 have r3 : wf.cell? ⟨w.heap.size, 3, none⟩ = some (.string t) := cell_blk y0
 have r4 : wf.cell? ⟨w.heap.size, 4, none⟩ = some (.slice a0 n0 s0) := cell_blk y0
 refine bodyPost_ret (v := .tuple #[.agg #[.int .i64 kk, .bool b, .int .i64 i, .string t, .slice a0 n0 s0], .int .i64 0]) (by simp [results, Tryz.results20, go_sem, r0, r1, r2, r3, r4]) rfl ?_
 exact ⟨y1, _, rfl, y2⟩
theorem rdv_inv {w : World} {F : Nat → Prop} {c : List Value} {v : GV} (h : RdV w F c v) : ∃ (k : Int) (b : Bool) (i : Int) (t : ByteArray) (l : List GV) (a : Option Addr) (cp : Nat), c = [.int .i64 k, .bool b, .int .i64 i, .string t, .slice a l.length cp] ∧ v = .mk k b i t.data.toList l := by
 cases h with
 | mk k b i t sl xs l hs hl =>
  obtain ⟨a, cp, rfl⟩ := hs.shape
  exact ⟨k, b, i, t, l, a, cp, rfl, rfl⟩
theorem wk_lex : lexS [91, 49, 44, 32, 110, 117, 108, 108, 93] = some [⟨4, [91]⟩, ⟨2, [49]⟩, ⟨4, [44]⟩, ⟨0, [110, 117, 108, 108]⟩, ⟨4, [93]⟩] := by kernel_rfl
theorem wk_val : pVal 30 [⟨4, [91]⟩, ⟨2, [49]⟩, ⟨4, [44]⟩, ⟨0, [110, 117, 108, 108]⟩, ⟨4, [93]⟩] = some (listV [intV 1, nullV], []) := by kernel_rfl
theorem wk_value {w : World} (hlib : LibOk w) : Calls Tryz.prog 20 #[.string ⟨#[91, 49, 44, 32, 110, 117, 108, 108, 93]⟩] w fun e w' => ∃ a c, e = .returned (.tuple #[.agg #[.int .i64 4, .bool false, .int .i64 0, .string ⟨#[]⟩, .slice a 2 c], .int .i64 0]) ∧ FP nob w w' := by
 refine (value_good (s := ⟨#[91, 49, 44, 32, 110, 117, 108, 108, 93]⟩) (by decide) hlib wk_lex (by simp) wk_val).mono ?_
 rintro e w' ⟨hf, c, rfl, hrd⟩
 obtain ⟨k, b, i, t, l, a, cp, rfl, hv⟩ := rdv_inv hrd
 injection hv with e1 e2 e3 e4 e5
 have ht : t = ⟨#[]⟩ := data_inj e4.symm
 subst e1 e2 e3 e5 ht
 exact ⟨a, cp, rfl, hf⟩
theorem wakes_ok {w : World} (hlib : LibOk w) (hPr : ∀ W v, FP nob w W → Got W v wkOps → Calls Tryz.prog 10 #[v] W fun e w' => e = .returned (.tuple #[.string (mk wkP), .int .i64 0]) ∧ FP nob W w') : YesC 9 #[] w :=
 wakes_any hlib hPr (fun _W hW => wk_value (hlib.fp hW (fun _ x => x.elim)))
end Go.Proofs.YtnpkdiffpgcbhaaGreatDoor
namespace Go.Proofs.YtnpkdiffpgcbhaaGreatDoor
theorem okv_wok {d : Nat} {v : GV} (h : OkV d v) : WOk v := by
 induction h with
 | null d => exact .mk _ _ _ _ _ (by decide) (by decide) (by simp) (by simp)
 | bool d b => exact .mk _ _ _ _ _ (by decide) (by decide) (by simp) (by simp)
 | nat d n h => exact .mk _ _ _ _ _ (by omega) (by unfold maxI at h; omega) (by simp) (by simp)
 | neg d n h => exact .mk _ _ _ _ _ (by unfold maxI at h; omega) (by omega) (by simp) (by simp)
 | text d t h => exact .mk _ _ _ _ _ (by decide) (by decide) (by simp) (by simp)
 | fact d n h => exact .mk _ _ _ _ _ (by omega) (by unfold maxI at h; omega) (by simp) (by simp)
 | list d l h hl ih => exact .mk _ _ _ _ _ (by decide) (by decide) (by unfold maxList at hl; exact hl) ih
theorem quote_le (t : Bs) : t.length ≤ (quoteB t).length := by
 unfold quoteB
 have : ∀ l : Bs, l.length ≤ (l.flatMap escQ).length := by
  intro l
  induction l with
  | nil => simp
  | cons c l ih =>
   rw [List.flatMap_cons, List.length_append, List.length_cons]
   have : 1 ≤ (escQ c).length := by
    unfold escQ
    repeat' split
    all_goals simp
   omega
 have := this t
 rw [List.length_cons, List.length_append]
 omega
theorem sets_mem {l : List (Bs × GV)} {g : Bs × GV} (h : g ∈ l) : givB g ∈ setsB l :=
 List.mem_cons_of_mem _ (List.mem_append_left _ (commas_mem (List.mem_map_of_mem (f := fun g : Bs × GV => g.1 ++ wEq ++ wrB g.2) h)))
theorem in_line {o : OpV} {x : Bs} (h : x ∈ spellB o) (hl : (lineG o).length ≤ 65536) : x.length ≤ 65536 := Nat.le_trans (joinSp_mem_len h) hl
theorem pr_of_read {o : OpV} (h : Read o) (sh : ShOp o) (hl : (lineG o).length ≤ 65536) : PrOk o := by
 have e := lineG_ok h.ok
 have hk := h.ok
 refine ⟨⟨⟨sh.set.1, ?_⟩, ⟨sh.args.1, ?_⟩, ?_, ?_, ?_⟩, sh, ?_, ?_, by rw [e]; exact lineF_back h.ok h.few, by rw [e]; exact lineT_no10 h.ok, hl⟩
 ·intro g hg
  cases hk with
  | insert c l _ hs => exact ⟨okv_wok (hs g hg).2, Nat.le_trans (in_line (o := { noOp with kind := 1, cls := c, set := l }) (x := givB g) (List.mem_cons_of_mem _ (List.mem_cons_of_mem _ (sets_mem hg))) hl) (by decide)⟩
  | update n l _ hs => exact ⟨okv_wok (hs g hg).2, Nat.le_trans (in_line (o := { noOp with kind := 2, handle := n, set := l }) (x := givB g) (List.mem_cons_of_mem _ (List.mem_cons_of_mem _ (List.mem_cons_of_mem _ (sets_mem hg)))) hl) (by decide)⟩
  | _ => cases hg
 ·intro a ha
  cases hk with
  | query q l _ hs =>
   rcases hs a ha with ⟨h1, h2⟩ | rfl
   ·refine ⟨okv_wok h2, ?_⟩
    have hm : argB a ∈ spellB { noOp with kind := 7, text := q, args := l } := List.mem_cons_of_mem _ (List.mem_cons_of_mem _ (List.mem_cons_of_mem _ (List.mem_append_left _ (commas_mem (List.mem_map_of_mem ha)))))
    have := in_line hm hl
    unfold argB at this
    rw [if_pos h1] at this
    omega
   ·exact ⟨okv_wok (.null 0), by show (wrB nullV).length ≤ _; rw [nullV, wrB_mk, if_pos rfl]; decide⟩
  | _ => cases ha
 ·cases hk with
  | update n l hn _ => exact ⟨by show -9223372036854775808 ≤ (n : Int); omega, by show (n : Int) ≤ _; unfold maxI at hn; omega⟩
  | delete n hn => exact ⟨by show -9223372036854775808 ≤ (n : Int); omega, by show (n : Int) ≤ _; unfold maxI at hn; omega⟩
  | _ => exact ⟨by show (-9223372036854775808 : Int) ≤ 0; decide, by show (0 : Int) ≤ 9223372036854775807; decide⟩
 ·cases hk with
  | fire n hn => exact ⟨by show -9223372036854775808 ≤ (n : Int); omega, by show (n : Int) ≤ _; omega⟩
  | _ => exact ⟨by show (-9223372036854775808 : Int) ≤ 0; decide, by show (0 : Int) ≤ 9223372036854775807; decide⟩
 ·cases hk with
  | focus t h =>
   have := in_line (o := { noOp with kind := 4, text := t }) (x := quoteB t) (List.mem_cons_of_mem _ List.mem_cons_self) hl
   have := quote_le t
   show t.length ≤ _
   omega
  | flow t b h =>
   have := in_line (o := { noOp with kind := 5, text := t, on := b }) (x := quoteB t) (List.mem_cons_of_mem _ List.mem_cons_self) hl
   have := quote_le t
   show t.length ≤ _
   omega
  | query q l h _ =>
   have := in_line (o := { noOp with kind := 7, text := q, args := l }) (x := q) (List.mem_cons_of_mem _ List.mem_cons_self) hl
   show q.length ≤ _
   omega
  | _ => exact Nat.zero_le _
 ·intro g hg
  cases hk with
  | insert c l _ hs => exact deepG_ok (hs g hg).2 0 (by decide)
  | update n l _ hs => exact deepG_ok (hs g hg).2 0 (by decide)
  | _ => cases hg
 ·intro a ha
  cases hk with
  | query q l _ hs =>
   rcases hs a ha with ⟨_, h2⟩ | rfl
   ·exact deepG_ok h2 0 (by decide)
   ·exact deepG_ok (.null 0) 0 (by decide)
  | _ => cases ha
theorem linesG_text {l : List OpV} (h : ∀ o ∈ l, Read o) : linesG l = textS l := by
 unfold linesG textS
 induction l with
 | nil => rfl
 | cons x l ih =>
  rw [List.flatMap_cons, List.flatMap_cons, ih (fun o ho => h o (List.mem_cons_of_mem _ ho)), lineG_ok (h x List.mem_cons_self).ok]
theorem prok_of_parse {s : Bs} {ops : List OpV} (h : parseS s = .ok ops) (hl : s.length ≤ 20000) : (∀ o ∈ ops, PrOk o) ∧ (linesG ops).length ≤ 65536 ∧ parseS (linesG ops) = .ok ops := by
 obtain ⟨h1, h2, h3⟩ := parseS_read h
 have e := linesG_text h1
 have hlen : (linesG ops).length ≤ 65536 := by rw [e]; omega
 refine ⟨fun o ho => pr_of_read (h1 o ho) (parseS_sh h o ho) ?_, hlen, by rw [e]; exact h3⟩
 have : ∀ (l : List OpV) (o : OpV), o ∈ l → (lineG o).length ≤ (linesG l).length := by
  intro l o hm
  induction l with
  | nil => cases hm
  | cons x l ih =>
   have e : linesG (x :: l) = (lineG x ++ [10]) ++ linesG l := rfl
   rw [e, List.length_append, List.length_append]
   rcases List.mem_cons.1 hm with rfl | hm
   ·omega
   ·have := ih hm; omega
 exact Nat.le_trans (this ops o ho) hlen
end Go.Proofs.YtnpkdiffpgcbhaaGreatDoor
namespace Go.Proofs.YtnpkdiffpgcbhaaGreatDoor
open Go.RowKit
attribute [local go_sem] Oper.semAt_some
theorem print_got {w : World} {s : Bs} {ops : List OpV} {v : Value} (hg : Got w v ops) (h : parseS s = .ok ops) (hl : s.length ≤ 20000) (hlib : LibOk w) :
  Calls Tryz.prog 10 #[v] w fun e w' => e = .returned (.tuple #[.string (mk (linesG ops)), .int .i64 0]) ∧ FP nob w w' := by
 obtain ⟨b, xs, h1, h2⟩ := hg
 obtain ⟨k1, k2, _⟩ := prok_of_parse h hl
 exact print_ok ((SliceAt.own h1).wide (fun _ _ _ => trivial)) h2 (by have := parseS_len h; omega) k1 k2 hlib
theorem wk_lines : linesG wkOps = wkP := by
 have d2 : Lib.decDigits 2 = [50] := by kernel_rfl
 have i3 : Lib.itoa 3 = [51] := by kernel_rfl
 simp [linesG, lineG, spellB, wkOps, wkP, setsB, commas, joinSp, wrB_mk, intV, listV, boolV, factV, nullV, textV, argB, quoteB, escQ, wEq, wInsert, wQuery, wTrue, d2, i3]
theorem wakes_all {w : World} (hlib : LibOk w) : YesC 9 #[] w :=
 wakes_ok hlib (fun W v hW hg => by
  have := print_got hg (parseA_ok wk_parse) (by decide) (hlib.fp hW (fun _ x => x.elim))
  rwa [wk_lines] at this)
end Go.Proofs.YtnpkdiffpgcbhaaGreatDoor
