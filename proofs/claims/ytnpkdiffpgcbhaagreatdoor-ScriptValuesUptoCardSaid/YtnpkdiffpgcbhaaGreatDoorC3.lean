/- Spelled, walked. Conditions: each theorem's own. -/
import Derived.Test.YtnpkdiffpgcbhaaGreatDoorC2
set_option maxRecDepth 100000
set_option maxHeartbeats 3200000
namespace Go.Proofs.YtnpkdiffpgcbhaaGreatDoor
open Go.RowKit
attribute [local go_sem] Oper.semAt_some
structure AOk (a : Bool × GV) : Prop where
 v : WOk a.2
 len : (wrB a.2).length ≤ 1099511627776
structure SpOk (o : OpV) : Prop where
 set : o.set.length ≤ 5000 ∧ ∀ g ∈ o.set, GOk g
 args : o.args.length ≤ 5000 ∧ ∀ a ∈ o.args, AOk a
 h : -9223372036854775808 ≤ o.handle ∧ o.handle ≤ 9223372036854775807
 n : -9223372036854775808 ≤ o.n ∧ o.n ≤ 9223372036854775807
 t : o.text.length ≤ 1099511627776
def SpC (c : List Value) (o : OpV) (w : World) : Prop := Calls Tryz.prog 24 #[.agg c.toArray] w fun e w' => ∃ v' ts, e = .returned v' ∧ SRow w' w.heap.size v' ts ∧ ts.map (·.data.toList) = spellB o ∧ FP nob w w'
section
variable {w : World} {F : Nat → Prop} {cl t : ByteArray} {a0 a1 : Option Addr} {n0 n1 cp0 cp1 : Nat} {hd nn : Int} {on : Bool} {set : List (Bs × GV)} {args : List (Bool × GV)}
theorem spell3 : spellB ⟨3, cl.data.toList, set, hd, t.data.toList, on, nn, args⟩ = [wDelete, [63], Lib.itoa hd] := rfl
theorem spell4 : spellB ⟨4, cl.data.toList, set, hd, t.data.toList, on, nn, args⟩ = [wFocus, quoteB t.data.toList] := rfl
theorem spell5t : spellB ⟨5, cl.data.toList, set, hd, t.data.toList, true, nn, args⟩ = [wFlow, quoteB t.data.toList, wOn] := rfl
theorem spell5f : spellB ⟨5, cl.data.toList, set, hd, t.data.toList, false, nn, args⟩ = [wFlow, quoteB t.data.toList, wOff] := rfl
theorem spell6 : spellB ⟨6, cl.data.toList, set, hd, t.data.toList, on, nn, args⟩ = [wFire, Lib.itoa nn] := rfl
theorem spelled3 (h0 : -9223372036854775808 ≤ hd) (h1 : hd ≤ 9223372036854775807) (hlib : LibOk w) :
  SpC [.int .i64 3, .string cl, .slice a0 n0 cp0, .int .i64 hd, .string t, .bool on, .int .i64 nn, .slice a1 n1 cp1] ⟨3, cl.data.toList, set, hd, t.data.toList, on, nn, args⟩ w := by
 have HI := Lib.hid (fun (W : World) (hW : FP nob w W) => Tryz.strconv_Itoa hd h0 h1 W (hlib.fp hW (fun _ x => x.elim)).tab)
 unfold SpC
 rw [spell3]
 clear hlib
 go_enter Tryz.func24, Tryz.ntmps24
 go_wp2_with fail
 refine (HI.out _ ((FP.refl nob w).alloc _)).mono ?_
 rintro e w1 ⟨rfl, q, os, hg⟩
 have HF1 : Hid (FP nob w w1) := Lib.hid (hg ▸ fp_grow ((FP.refl nob w).alloc _) q os)
 have hrow : SRow (w1.alloc (.cells #[.string ⟨#[100, 101, 108, 101, 116, 101]⟩, .string ⟨#[63]⟩, .string (mk (Lib.itoa hd))] 9)) w.heap.size (.slice (some ⟨w1.heap.size, 0, none⟩) 3 3) [⟨#[100,101,108,101,116,101]⟩, ⟨#[63]⟩, mk (Lib.itoa hd)] := SRow.new w1 _ HF1.out.size _ (by simp) _ rfl 3 rfl
 have HR := Lib.hid hrow
 clear hg hrow
 go_wp2_with fail
 exact bodyPost_ret (v := .slice (some ⟨w1.heap.size, 0, none⟩) 3 3) (by simp [results, Tryz.results24]) rfl ⟨_, _, rfl, HR.out, by simp [wDelete], HF1.out.alloc _⟩
theorem spelled6 (h0 : -9223372036854775808 ≤ nn) (h1 : nn ≤ 9223372036854775807) (hlib : LibOk w) :
  SpC [.int .i64 6, .string cl, .slice a0 n0 cp0, .int .i64 hd, .string t, .bool on, .int .i64 nn, .slice a1 n1 cp1] ⟨6, cl.data.toList, set, hd, t.data.toList, on, nn, args⟩ w := by
 have HI := Lib.hid (fun (W : World) (hW : FP nob w W) => Tryz.strconv_Itoa nn h0 h1 W (hlib.fp hW (fun _ x => x.elim)).tab)
 unfold SpC
 rw [spell6]
 clear hlib
 go_enter Tryz.func24, Tryz.ntmps24
 go_wp2_with fail
 refine (HI.out _ ((FP.refl nob w).alloc _)).mono ?_
 rintro e w1 ⟨rfl, q, os, hg⟩
 have HF1 : Hid (FP nob w w1) := Lib.hid (hg ▸ fp_grow ((FP.refl nob w).alloc _) q os)
 have hrow : SRow (w1.alloc (.cells #[.string ⟨#[102, 105, 114, 101]⟩, .string (mk (Lib.itoa nn))] 9)) w.heap.size (.slice (some ⟨w1.heap.size, 0, none⟩) 2 2) [⟨#[102,105,114,101]⟩, mk (Lib.itoa nn)] := SRow.new w1 _ HF1.out.size _ (by simp) _ rfl 2 rfl
 have HR := Lib.hid hrow
 clear hg hrow
 go_wp2_with fail
 exact bodyPost_ret (v := .slice (some ⟨w1.heap.size, 0, none⟩) 2 2) (by simp [results, Tryz.results24]) rfl ⟨_, _, rfl, HR.out, by simp [wFire], HF1.out.alloc _⟩
theorem spelled4 (ht : t.size ≤ 1099511627776) :
  SpC [.int .i64 4, .string cl, .slice a0 n0 cp0, .int .i64 hd, .string t, .bool on, .int .i64 nn, .slice a1 n1 cp1] ⟨4, cl.data.toList, set, hd, t.data.toList, on, nn, args⟩ w := by
 have HI := Lib.hid (fun (W : World) => quote_any (w := W) ht)
 unfold SpC
 rw [spell4]
 go_enter Tryz.func24, Tryz.ntmps24
 go_wp2_with fail
 refine (HI.out _).mono ?_
 rintro e w1 ⟨rfl, f1⟩
 have HF1 : Hid (FP nob w w1) := Lib.hid (FP.trans (S := nob) ((FP.refl nob w).alloc _) f1 (fun _ x => x.elim))
 have hrow : SRow (w1.alloc (.cells #[.string ⟨#[102, 111, 99, 117, 115]⟩, .string (mk (quoteB t.data.toList))] 9)) w.heap.size (.slice (some ⟨w1.heap.size, 0, none⟩) 2 2) [⟨#[102, 111, 99, 117, 115]⟩, mk (quoteB t.data.toList)] := SRow.new w1 _ HF1.out.size _ (by simp) _ rfl 2 rfl
 have HR := Lib.hid hrow
 clear f1 hrow
 go_wp2_with fail
 exact bodyPost_ret (v := .slice (some ⟨w1.heap.size, 0, none⟩) 2 2) (by simp [results, Tryz.results24]) rfl ⟨_, _, rfl, HR.out, by simp [wFocus], HF1.out.alloc _⟩
theorem spelled5t (ht : t.size ≤ 1099511627776) :
  SpC [.int .i64 5, .string cl, .slice a0 n0 cp0, .int .i64 hd, .string t, .bool true, .int .i64 nn, .slice a1 n1 cp1] ⟨5, cl.data.toList, set, hd, t.data.toList, true, nn, args⟩ w := by
 have HI := Lib.hid (fun (W : World) => quote_any (w := W) ht)
 unfold SpC
 rw [spell5t]
 go_enter Tryz.func24, Tryz.ntmps24
 go_wp2_with fail
 refine (HI.out _).mono ?_
 rintro e w1 ⟨rfl, f1⟩
 have HF1 : Hid (FP nob w w1) := Lib.hid (FP.trans (S := nob) ((FP.refl nob w).alloc _) f1 (fun _ x => x.elim))
 have hrow : SRow (w1.alloc (.cells #[.string ⟨#[102, 108, 111, 119]⟩, .string (mk (quoteB t.data.toList)), .string ⟨#[111, 110]⟩] 9)) w.heap.size (.slice (some ⟨w1.heap.size, 0, none⟩) 3 3) [⟨#[102, 108, 111, 119]⟩, mk (quoteB t.data.toList), ⟨#[111, 110]⟩] := SRow.new w1 _ HF1.out.size _ (by simp) _ rfl 3 rfl
 have HR := Lib.hid hrow
 clear f1 hrow
 go_wp2_with fail
 exact bodyPost_ret (v := .slice (some ⟨w1.heap.size, 0, none⟩) 3 3) (by simp [results, Tryz.results24]) rfl ⟨_, _, rfl, HR.out, by simp [wFlow, wOn], HF1.out.alloc _⟩
theorem spelled5f (ht : t.size ≤ 1099511627776) :
  SpC [.int .i64 5, .string cl, .slice a0 n0 cp0, .int .i64 hd, .string t, .bool false, .int .i64 nn, .slice a1 n1 cp1] ⟨5, cl.data.toList, set, hd, t.data.toList, false, nn, args⟩ w := by
 have HI := Lib.hid (fun (W : World) => quote_any (w := W) ht)
 unfold SpC
 rw [spell5f]
 go_enter Tryz.func24, Tryz.ntmps24
 go_wp2_with fail
 refine (HI.out _).mono ?_
 rintro e w1 ⟨rfl, f1⟩
 have HF1 : Hid (FP nob w w1) := Lib.hid (FP.trans (S := nob) ((FP.refl nob w).alloc _) f1 (fun _ x => x.elim))
 have hrow : SRow (w1.alloc (.cells #[.string ⟨#[102, 108, 111, 119]⟩, .string (mk (quoteB t.data.toList)), .string ⟨#[111, 102, 102]⟩] 9)) w.heap.size (.slice (some ⟨w1.heap.size, 0, none⟩) 3 3) [⟨#[102, 108, 111, 119]⟩, mk (quoteB t.data.toList), ⟨#[111, 102, 102]⟩] := SRow.new w1 _ HF1.out.size _ (by simp) _ rfl 3 rfl
 have HR := Lib.hid hrow
 clear f1 hrow
 go_wp2_with fail
 exact bodyPost_ret (v := .slice (some ⟨w1.heap.size, 0, none⟩) 3 3) (by simp [results, Tryz.results24]) rfl ⟨_, _, rfl, HR.out, by simp [wFlow, wOff], HF1.out.alloc _⟩
theorem spell1 : spellB ⟨1, cl.data.toList, set, hd, t.data.toList, on, nn, args⟩ = wInsert :: cl.data.toList :: setsB set := rfl
theorem spell2 : spellB ⟨2, cl.data.toList, set, hd, t.data.toList, on, nn, args⟩ = wUpdate :: [63] :: Lib.itoa hd :: setsB set := rfl
theorem setsB_len (l : List (Bs × GV)) : (setsB l).length ≤ 2 * l.length + 2 := by
 have : ∀ m : List Bs, (commas m).length ≤ 2 * m.length := by
  intro m
  induction m with
  | nil => simp [commas]
  | cons x m ih =>
   cases m with
   | nil => simp [commas]
   | cons y r =>
    show (x :: [44] :: commas (y :: r)).length ≤ _
    rw [List.length_cons, List.length_cons, List.length_cons]
    omega
 have := this (l.map fun g => g.1 ++ wEq ++ wrB g.2)
 unfold setsB
 rw [List.length_cons, List.length_append]
 rw [List.length_map] at this
 rw [List.length_singleton]
 omega
theorem step_append_srow {w : World} {ops : Array Oper} {o : Oper} {a : Act} {K : Act → World → Prop} {Q : Exit → Act → World → Prop} {E : Prop} (hgd : o.guard = none) (s x : Operand)
  (ho : o.op = .call { callee := .builtin .append, args := #[s, x], argTypes := #[42, 42] })
  (base : Nat) (v : Value) (l m : List ByteArray) (hs : a.eval s = v) (hown : SRow w base v l)
  (y : Value) (hx : a.eval x = y) (b2 : Nat) (h1 : SRow w b2 y m) (hl : l.length + m.length ≤ 1099511627776) (hbase : base ≤ w.heap.size)
  (h : ∀ v' w', SRow w' base v' (l ++ m) → w.grownBy w' v.ownBlock → K (a.put o.dst v') w') :
  if Region.wanted o (yielded ops a.tmps) = true then Oper.wp Tryz.prog o a w K Q else E := by
 have hw : Region.wanted o (yielded ops a.tmps) = true := by simp [Region.wanted, hgd]
 rw [if_pos hw]
 obtain ⟨i, hi, hz0, hz1, hz2⟩ := info_parts infoS
 rcases h1.2 with ⟨rfl, hm0⟩ | ⟨g, cap, cur, rfl, hb, hg, hn, hc, hcs, ht⟩
 ·have hme : m = [] := List.length_eq_zero_iff.1 hm0
  subst hme
  have hrun := run_append_owned_none (P := Tryz.prog) (w := w) base 42 o.type 9 i 1 Tryz.underlying42 hi v l.length _ hown
  unfold Oper.wp
  simp [execOp, ho, resolve, invoke, builtin, hs, hx, hrun, Result.andThen]
  exact h v w (by rw [List.append_nil]; exact hown) ⟨rfl, rfl, rfl, Nat.le_refl _, fun _ _ _ => rfl⟩
 ·refine wp_append_own w s x 42 ho base 9 i (.string ⟨#[]⟩) 1 16 Tryz.underlying42 hi hz0 hz1 hz2 rfl (by decide) v l.length _ hs hown ⟨g, 0, none⟩ m.length cap (m.map Value.string) hx h1.1 ((World.ownsRow.cells h1 (g := g) rfl)) ?_ (by unfold maxLen; omega) (by omega) hbase ?_
  ·intro u hu
   obtain ⟨t, _, rfl⟩ := List.mem_map.1 hu
   rfl
  ·intro v' w' q1 q2 _
   refine h v' w' ?_ q2
   unfold SRow
   rw [List.length_append, List.map_append]
   exact q1
theorem spelled1 {xs : List Value} (hs : SliceAt w F (.slice a0 n0 cp0) set.length (set.length * 6) xs) (hl : RdRow (RdG w F) xs set) (hn : set.length ≤ 5000) (hok : ∀ g ∈ set, GOk g) (hlib : LibOk w) :
    SpC [.int .i64 1, .string cl, .slice a0 n0 cp0, .int .i64 hd, .string t, .bool on, .int .i64 nn, .slice a1 n1 cp1] ⟨1, cl.data.toList, set, hd, t.data.toList, on, nn, args⟩ w := by
  obtain ⟨wa, hwa⟩ : ∃ wa, (w.alloc (.cells #[.int .i64 1, .string cl, .slice a0 n0 cp0, .int .i64 hd, .string t, .bool on, .int .i64 nn, .slice a1 n1 cp1] 58)) = wa := ⟨_, rfl⟩
  have hfa : FP nob w wa := by rw [← hwa]; exact (FP.refl nob w).alloc _
  have hga : wa.heap[w.heap.size]? = some (.cells #[.int .i64 1, .string cl, .slice a0 n0 cp0, .int .i64 hd, .string t, .bool on, .int .i64 nn, .slice a1 n1 cp1] 58 (0,0)) := by rw [← hwa]; exact heap_new_at rfl _
  have p0 : wa.cell? ⟨w.heap.size, 0, none⟩ = some (.int .i64 1) := cell_blk hga
  have p1 : wa.cell? ⟨w.heap.size, 1, none⟩ = some (.string cl) := cell_blk hga
  have p2 : wa.cell? ⟨w.heap.size, 2, none⟩ = some (.slice a0 n0 cp0) := cell_blk hga
  have p3 : wa.cell? ⟨w.heap.size, 3, none⟩ = some (.int .i64 hd) := cell_blk hga
  have p4 : wa.cell? ⟨w.heap.size, 4, none⟩ = some (.string t) := cell_blk hga
  have p5 : wa.cell? ⟨w.heap.size, 5, none⟩ = some (.bool on) := cell_blk hga
  have p6 : wa.cell? ⟨w.heap.size, 6, none⟩ = some (.int .i64 nn) := cell_blk hga
  have p7 : wa.cell? ⟨w.heap.size, 7, none⟩ = some (.slice a1 n1 cp1) := cell_blk hga
  have hszl : w.heap.size < wa.heap.size := lt_blk hga
  have HS := Lib.hid (fun (W : World) (hW : FP nob wa W) => (sets_any (hs.frame (fun g _ hl => (FP.trans (S := nob) hfa hW (fun _ x => False.elim x)).blk g hl (fun x => x.elim))) (hl.imp (fun _ _ _ hc => hc.trans' (fun g hg hl => ⟨(FP.trans (S := nob) hfa hW (fun _ x => False.elim x)).blk g hl (fun x => x.elim), hg⟩))) hn hok (hlib.fp (FP.trans (S := nob) hfa hW (fun _ x => False.elim x)) (fun _ x => x.elim))).mono (fun e w' h => (⟨h, by
      obtain ⟨_, _, _, _, _, f⟩ := h
      have g := FP.trans (S := nob) hW f (fun _ x => False.elim x)
      exact ⟨f, g, g.cell p1, g.cell p2⟩⟩ : (∃ v' ts, e = .returned v' ∧ SRow w' W.heap.size v' ts ∧ ts.map (·.data.toList) = setsB set ∧ FP nob W w') ∧ FP nob W w' ∧ FP nob wa w' ∧ w'.cell? ⟨w.heap.size, 1, none⟩ = some (.string cl) ∧ w'.cell? ⟨w.heap.size, 2, none⟩ = some (.slice a0 n0 cp0))))
  have hfd : FP nob wa wa.drew := FP.ofSame (same_drewN wa 1)
  have hld : FP nob (wa.alloc (.cells #[.string ⟨#[105, 110, 115, 101, 114, 116]⟩, .string cl] 9)) (wa.alloc (.cells #[.string ⟨#[105, 110, 115, 101, 114, 116]⟩, .string cl] 9)).drew := FP.ofSame (same_drewN _ 1)
  have hfl : FP nob wa (wa.alloc (.cells #[.string ⟨#[105, 110, 115, 101, 114, 116]⟩, .string cl] 9)).drew := FP.trans (S := nob) ((FP.refl nob wa).alloc _) hld (fun _ x => False.elim x)
  have hlr : SRow (wa.alloc (.cells #[.string ⟨#[105, 110, 115, 101, 114, 116]⟩, .string cl] 9)).drew w.heap.size (.slice (some ⟨wa.heap.size, 0, none⟩) 2 2) [⟨#[105, 110, 115, 101, 114, 116]⟩, cl] := (SRow.new wa w.heap.size hfa.size [⟨#[105, 110, 115, 101, 114, 116]⟩, cl] (by simp) _ rfl 2 rfl).far hld
  have HFA := Lib.hid hfa
  have HSL := Lib.hid (setsB_len set)
  have HLT := Lib.hid hszl
  have HLR := Lib.hid hlr
  have HFL := Lib.hid hfl
  have HFD := Lib.hid hfd
  have HN5 := Lib.hid hn
  unfold SpC
  rw [spell1]
  clear hs hl hok hlib hfa hga hszl hld hlr hfl hfd
  go_enter Tryz.func24, Tryz.ntmps24
  go_upto_region 3 with fail
  clear hwa
  go_region_held3 (fun w' => w'.cell? ⟨w.heap.size, 1, none⟩ = some (.string cl) ∧ w'.cell? ⟨w.heap.size, 2, none⟩ = some (.slice a0 n0 cp0)) (go_keep) ((first | (go_at_call 51; refine (HS.out _ (by first | exact HFD.out | exact HFL.out)).mono ?_; rintro e w2 ⟨⟨v3, ts, rfl, hr3, hx3, f3⟩, f3', fa3, z1, z2⟩; have HX3 := Lib.hid hx3; have hxl := congrArg List.length hx3; rw [List.length_map] at hxl; have HXL := Lib.hid hxl; clear hx3 hxl) | (refine step_append_srow rfl (.tmp 12) (.tmp 15) rfl w.heap.size (.slice (some ⟨wa.heap.size, 0, none⟩) 2 2) [⟨#[105, 110, 115, 101, 114, 116]⟩, cl] ts rfl (HLR.out.far f3) v3 rfl _ hr3 (by have := HXL.out; have := HSL.out; have := HN5.out; simp; omega) (Nat.le_trans HFA.out.size fa3.size) ?_; intro v5 w5 hr5 g5; have t1 := World.grownBy.cell g5 z1 (fun e => by have e' : w.heap.size = wa.heap.size := Option.some.inj (e : some w.heap.size = some wa.heap.size); have := HLT.out; omega); have t2 := World.grownBy.cell g5 z2 (fun e => by have e' : w.heap.size = wa.heap.size := Option.some.inj (e : some w.heap.size = some wa.heap.size); have := HLT.out; omega); have F5 := Lib.hid (FP.grown (FP.trans (S := nob) HFA.out fa3 (fun _ x => False.elim x)) g5 (fun k hk => Or.inr (by have e' : wa.heap.size = k := Option.some.inj (hk : some wa.heap.size = some k); have := HLT.out; omega))); have HR5 := Lib.hid hr5; clear hr5 g5) | (refine step_append_srow rfl (.tmp 12) (.tmp 15) rfl w.heap.size (.slice (some ⟨w2.heap.size, 0, none⟩) 2 2) [⟨#[105, 110, 115, 101, 114, 116]⟩, cl] ts rfl (SRow.new w2 w.heap.size (Nat.le_trans HFA.out.size fa3.size) [⟨#[105, 110, 115, 101, 114, 116]⟩, cl] (by simp) _ rfl 2 rfl) v3 rfl _ (hr3.far ((FP.refl nob w2).alloc _)) (by have := HXL.out; have := HSL.out; have := HN5.out; simp; omega) (((FP.trans (S := nob) HFA.out fa3 (fun _ x => False.elim x)).alloc _).size) ?_; intro v5 w5 hr5 g5; have t1 := World.grownBy.cell g5 (((FP.refl nob w2).alloc _).cell z1) (fun e => by have e' : w.heap.size = w2.heap.size := Option.some.inj (e : some w.heap.size = some w2.heap.size); have := HLT.out; have := fa3.size; omega); have t2 := World.grownBy.cell g5 (((FP.refl nob w2).alloc _).cell z2) (fun e => by have e' : w.heap.size = w2.heap.size := Option.some.inj (e : some w.heap.size = some w2.heap.size); have := HLT.out; have := fa3.size; omega); have F5 := Lib.hid (FP.grown ((FP.trans (S := nob) HFA.out fa3 (fun _ x => False.elim x)).alloc _) g5 (fun k hk => Or.inr (by have e' : w2.heap.size = k := Option.some.inj (hk : some w2.heap.size = some k); have := HLT.out; have := fa3.size; omega))); have HR5 := Lib.hid hr5; clear hr5 g5)))
  all_goals
    go_wp2_with fail
    exact bodyPost_ret (v := v5) (by simp [results, Tryz.results24]) rfl ⟨_, _, rfl, HR5.out, by rw [List.map_append, HX3.out]; rfl, F5.out⟩
end
end Go.Proofs.YtnpkdiffpgcbhaaGreatDoor
namespace Go.Proofs.YtnpkdiffpgcbhaaGreatDoor
open Go.RowKit
attribute [local go_sem] Oper.semAt_some
section
variable {w : World} {F : Nat → Prop} {cl t : ByteArray} {a0 a1 : Option Addr} {n0 n1 cp0 cp1 : Nat} {hd nn : Int} {on : Bool} {set : List (Bs × GV)} {args : List (Bool × GV)}
theorem spelled2 {xs : List Value} (hs : SliceAt w F (.slice a0 n0 cp0) set.length (set.length * 6) xs) (hl : RdRow (RdG w F) xs set) (hn : set.length ≤ 5000) (hok : ∀ g ∈ set, GOk g) (h0 : -9223372036854775808 ≤ hd) (h1 : hd ≤ 9223372036854775807) (hlib : LibOk w) :
    SpC [.int .i64 2, .string cl, .slice a0 n0 cp0, .int .i64 hd, .string t, .bool on, .int .i64 nn, .slice a1 n1 cp1] ⟨2, cl.data.toList, set, hd, t.data.toList, on, nn, args⟩ w := by
  obtain ⟨wa, hwa⟩ : ∃ wa, (w.alloc (.cells #[.int .i64 2, .string cl, .slice a0 n0 cp0, .int .i64 hd, .string t, .bool on, .int .i64 nn, .slice a1 n1 cp1] 58)) = wa := ⟨_, rfl⟩
  have hfa : FP nob w wa := by rw [← hwa]; exact (FP.refl nob w).alloc _
  have hga : wa.heap[w.heap.size]? = some (.cells #[.int .i64 2, .string cl, .slice a0 n0 cp0, .int .i64 hd, .string t, .bool on, .int .i64 nn, .slice a1 n1 cp1] 58 (0,0)) := by rw [← hwa]; exact heap_new_at rfl _
  have p0 : wa.cell? ⟨w.heap.size, 0, none⟩ = some (.int .i64 2) := cell_blk hga
  have p1 : wa.cell? ⟨w.heap.size, 1, none⟩ = some (.string cl) := cell_blk hga
  have p2 : wa.cell? ⟨w.heap.size, 2, none⟩ = some (.slice a0 n0 cp0) := cell_blk hga
  have p3 : wa.cell? ⟨w.heap.size, 3, none⟩ = some (.int .i64 hd) := cell_blk hga
  have p4 : wa.cell? ⟨w.heap.size, 4, none⟩ = some (.string t) := cell_blk hga
  have p5 : wa.cell? ⟨w.heap.size, 5, none⟩ = some (.bool on) := cell_blk hga
  have p6 : wa.cell? ⟨w.heap.size, 6, none⟩ = some (.int .i64 nn) := cell_blk hga
  have p7 : wa.cell? ⟨w.heap.size, 7, none⟩ = some (.slice a1 n1 cp1) := cell_blk hga
  have hszl : w.heap.size < wa.heap.size := lt_blk hga
  have HS := Lib.hid (fun (W : World) (hW : FP nob wa W) => (sets_any (hs.frame (fun g _ hl => (FP.trans (S := nob) hfa hW (fun _ x => False.elim x)).blk g hl (fun x => x.elim))) (hl.imp (fun _ _ _ hc => hc.trans' (fun g hg hl => ⟨(FP.trans (S := nob) hfa hW (fun _ x => False.elim x)).blk g hl (fun x => x.elim), hg⟩))) hn hok (hlib.fp (FP.trans (S := nob) hfa hW (fun _ x => False.elim x)) (fun _ x => x.elim))).mono (fun e w' h => (⟨h, by
      obtain ⟨_, _, _, _, _, f⟩ := h
      have g := FP.trans (S := nob) hW f (fun _ x => False.elim x)
      exact ⟨f, g, g.cell p3, g.cell p2⟩⟩ : (∃ v' ts, e = .returned v' ∧ SRow w' W.heap.size v' ts ∧ ts.map (·.data.toList) = setsB set ∧ FP nob W w') ∧ FP nob W w' ∧ FP nob wa w' ∧ w'.cell? ⟨w.heap.size, 3, none⟩ = some (.int .i64 hd) ∧ w'.cell? ⟨w.heap.size, 2, none⟩ = some (.slice a0 n0 cp0))))
  have hfd : FP nob wa wa.drew := FP.ofSame (same_drewN wa 1)
  have HI := Lib.hid (fun (W : World) (hW : FP nob wa W) => Tryz.strconv_Itoa hd h0 h1 W (hlib.fp (FP.trans (S := nob) hfa hW (fun _ x => False.elim x)) (fun _ x => x.elim)).tab)
  have HFA := Lib.hid hfa
  have HSL := Lib.hid (setsB_len set)
  have HLT := Lib.hid hszl
  have HFD := Lib.hid hfd
  have HN5 := Lib.hid hn
  unfold SpC
  rw [spell2]
  clear hs hl hok hlib hfa hga hszl hfd h0 h1
  go_enter Tryz.func24, Tryz.ntmps24
  go_upto_region 5 with fail
  clear hwa
  go_region_held3 (fun w' => w'.cell? ⟨w.heap.size, 3, none⟩ = some (.int .i64 hd) ∧ w'.cell? ⟨w.heap.size, 2, none⟩ = some (.slice a0 n0 cp0)) (go_keep) ((first | (go_at_call 35; refine (HI.out _ HFD.out).mono ?_; rintro e w1 ⟨rfl, q, os, hg⟩; have fw1 : FP nob wa w1 := hg ▸ fp_grow HFD.out q os; have y1 := fw1.cell p3; have y2 := fw1.cell p2; have fl1 : FP nob wa (w1.alloc (.cells #[.string ⟨#[117, 112, 100, 97, 116, 101]⟩, .string ⟨#[63]⟩, .string (mk (Lib.itoa hd))] 9)) := fw1.alloc _; have hl1 : SRow (w1.alloc (.cells #[.string ⟨#[117, 112, 100, 97, 116, 101]⟩, .string ⟨#[63]⟩, .string (mk (Lib.itoa hd))] 9)) w.heap.size (.slice (some ⟨w1.heap.size, 0, none⟩) 3 3) [⟨#[117, 112, 100, 97, 116, 101]⟩, ⟨#[63]⟩, mk (Lib.itoa hd)] := SRow.new w1 w.heap.size (Nat.le_trans HFA.out.size fw1.size) [⟨#[117, 112, 100, 97, 116, 101]⟩, ⟨#[63]⟩, mk (Lib.itoa hd)] (by simp) _ rfl 3 rfl; have FW1 := Lib.hid fw1; have FL1 := Lib.hid fl1; have HL1 := Lib.hid hl1; clear hg fw1 fl1 hl1) | (go_at_call 51; refine (HS.out _ (by first | exact FW1.out | exact FL1.out | exact FP.trans (S := nob) FW1.out (FP.ofSame (same_drewN _ 1)) (fun _ x => False.elim x) | exact FP.trans (S := nob) FL1.out (FP.ofSame (same_drewN _ 1)) (fun _ x => False.elim x))).mono ?_; rintro e w2 ⟨⟨v3, ts, rfl, hr3, hx3, f3⟩, f3', fa3, z1, z2⟩; have HX3 := Lib.hid hx3; have hxl := congrArg List.length hx3; rw [List.length_map] at hxl; have HXL := Lib.hid hxl; clear hx3 hxl) | (refine step_append_srow rfl (.tmp 22) (.tmp 25) rfl w.heap.size (.slice (some ⟨w1.heap.size, 0, none⟩) 3 3) [⟨#[117, 112, 100, 97, 116, 101]⟩, ⟨#[63]⟩, mk (Lib.itoa hd)] ts rfl (SRow.far (by first | exact HL1.out | exact HL1.out.far (FP.ofSame (same_drewN _ 1))) f3) v3 rfl _ hr3 (by have := HXL.out; have := HSL.out; have := HN5.out; simp; omega) (Nat.le_trans HFA.out.size fa3.size) ?_; intro v5 w5 hr5 g5; have t1 := World.grownBy.cell g5 z1 (fun e => by have e' : w.heap.size = w1.heap.size := Option.some.inj (e : some w.heap.size = some w1.heap.size); have := HLT.out; have := FW1.out.size; omega); have t2 := World.grownBy.cell g5 z2 (fun e => by have e' : w.heap.size = w1.heap.size := Option.some.inj (e : some w.heap.size = some w1.heap.size); have := HLT.out; have := FW1.out.size; omega); have F5 := Lib.hid (FP.grown (FP.trans (S := nob) HFA.out fa3 (fun _ x => False.elim x)) g5 (fun k hk => Or.inr (by have e' : w1.heap.size = k := Option.some.inj (hk : some w1.heap.size = some k); have := HLT.out; have := FW1.out.size; omega))); have HR5 := Lib.hid hr5; clear hr5 g5) | (refine step_append_srow rfl (.tmp 22) (.tmp 25) rfl w.heap.size (.slice (some ⟨w2.heap.size, 0, none⟩) 3 3) [⟨#[117, 112, 100, 97, 116, 101]⟩, ⟨#[63]⟩, mk (Lib.itoa hd)] ts rfl (SRow.new w2 w.heap.size (Nat.le_trans HFA.out.size fa3.size) [⟨#[117, 112, 100, 97, 116, 101]⟩, ⟨#[63]⟩, mk (Lib.itoa hd)] (by simp) _ rfl 3 rfl) v3 rfl _ (hr3.far ((FP.refl nob w2).alloc _)) (by have := HXL.out; have := HSL.out; have := HN5.out; simp; omega) (((FP.trans (S := nob) HFA.out fa3 (fun _ x => False.elim x)).alloc _).size) ?_; intro v5 w5 hr5 g5; have t1 := World.grownBy.cell g5 (((FP.refl nob w2).alloc _).cell z1) (fun e => by have e' : w.heap.size = w2.heap.size := Option.some.inj (e : some w.heap.size = some w2.heap.size); have := HLT.out; have := fa3.size; omega); have t2 := World.grownBy.cell g5 (((FP.refl nob w2).alloc _).cell z2) (fun e => by have e' : w.heap.size = w2.heap.size := Option.some.inj (e : some w.heap.size = some w2.heap.size); have := HLT.out; have := fa3.size; omega); have F5 := Lib.hid (FP.grown ((FP.trans (S := nob) HFA.out fa3 (fun _ x => False.elim x)).alloc _) g5 (fun k hk => Or.inr (by have e' : w2.heap.size = k := Option.some.inj (hk : some w2.heap.size = some k); have := HLT.out; have := fa3.size; omega))); have HR5 := Lib.hid hr5; clear hr5 g5)))
  all_goals
    go_wp2_with fail
    exact bodyPost_ret (v := v5) (by simp [results, Tryz.results24]) rfl ⟨_, _, rfl, HR5.out, by rw [List.map_append, HX3.out]; rfl, F5.out⟩
end
end Go.Proofs.YtnpkdiffpgcbhaaGreatDoor
namespace Go.Proofs.YtnpkdiffpgcbhaaGreatDoor
open Go.RowKit
attribute [local go_sem] Oper.semAt_some
theorem lit_new (w : World) (ts : List ByteArray) (hl : ts.length ≤ 1000) (base : Nat) (hb : base ≤ w.heap.size) {g : Nat} (hg : w.heap.size = g) : SRow (w.alloc (.cells (ts.map Value.string).toArray 9)) base (.slice (some ⟨g, 0, none⟩) ts.length ts.length) ts := by
 subst hg
 exact SRow.new w base hb ts hl _ rfl _ rfl
theorem SRow.al {w : World} {base : Nat} {v : Value} {ts : List ByteArray} (h : SRow w base v ts) (o : Obj) : SRow (w.alloc o) base v ts := h.far ((FP.refl nob w).alloc o)
theorem SRow.dr {w : World} {base : Nat} {v : Value} {ts : List ByteArray} (h : SRow w base v ts) : SRow w.drew base v ts := h.far (FP.ofSame (same_drewN w 1))
theorem keep1 {cur w3 w5 : World} {B b g n : Nat} {v3 : Value} {ts T : List ByteArray} (h : SRow cur b (.slice (some ⟨g, 0, none⟩) n n) ts) (g5 : cur.grownBy w5 v3.ownBlock) (r3 : SRow w3 B v3 T) (hne : g < B ∨ w3.heap.size ≤ g) : SRow w5 b (.slice (some ⟨g, 0, none⟩) n n) ts :=
 World.ownsRow.kept h g5 (Or.inr (fun e => by
  have := World.ownsRow.lt r3 g (e.symm.trans rfl)
  omega))
theorem FP.dr {a w : World} (h : FP nob a w) : FP nob a w.drew := h.trans (FP.ofSame (same_drewN w 1) : FP nob w w.drew) (fun _ x => False.elim x)
section
variable {w : World} {F : Nat → Prop} {cl t : ByteArray} {a0 a1 : Option Addr} {n0 n1 cp0 cp1 : Nat} {hd nn : Int} {on : Bool} {set : List (Bs × GV)} {args : List (Bool × GV)}
theorem spell7 : spellB ⟨7, cl.data.toList, set, hd, t.data.toList, on, nn, args⟩ = wQuery :: t.data.toList :: [40] :: (commas (args.map argB) ++ [[41]]) := rfl
theorem spelled7 {xs : List Value} (hs : SliceAt w F (.slice a1 args.length cp1) args.length (args.length * 6) xs) (hl : RdRow (RdO w F) xs args) (hn : args.length ≤ 5000) (hok : ∀ a ∈ args, AOk a) (hlib : LibOk w) :
  SpC [.int .i64 7, .string cl, .slice a0 n0 cp0, .int .i64 hd, .string t, .bool on, .int .i64 nn, .slice a1 args.length cp1] ⟨7, cl.data.toList, set, hd, t.data.toList, on, nn, args⟩ w := by
 obtain ⟨n, hnn⟩ : ∃ n, args.length = n := ⟨_, rfl⟩
 rw [hnn] at hs hn
 have HS := Lib.hid hs
 have HL := Lib.hid hl
 have HN := Lib.hid hnn
 have HO := Lib.hid hok
 have HLB := Lib.hid hlib
 obtain ⟨wa, hwa⟩ : ∃ wa, (w.alloc (.cells #[.int .i64 7, .string cl, .slice a0 n0 cp0, .int .i64 hd, .string t, .bool on, .int .i64 nn, .slice a1 n cp1] 58)) = wa := ⟨_, rfl⟩
 have hfa : FP nob w wa := by rw [← hwa]; exact (FP.refl nob w).alloc _
 have hga : wa.heap[w.heap.size]? = some (.cells #[.int .i64 7, .string cl, .slice a0 n0 cp0, .int .i64 hd, .string t, .bool on, .int .i64 nn, .slice a1 n cp1] 58 (0,0)) := by rw [← hwa]; exact heap_new_at rfl _
 have p0 : wa.cell? ⟨w.heap.size, 0, none⟩ = some (.int .i64 7) := cell_blk hga
 have p1 : wa.cell? ⟨w.heap.size, 1, none⟩ = some (.string cl) := cell_blk hga
 have p2 : wa.cell? ⟨w.heap.size, 2, none⟩ = some (.slice a0 n0 cp0) := cell_blk hga
 have p3 : wa.cell? ⟨w.heap.size, 3, none⟩ = some (.int .i64 hd) := cell_blk hga
 have p4 : wa.cell? ⟨w.heap.size, 4, none⟩ = some (.string t) := cell_blk hga
 have p5 : wa.cell? ⟨w.heap.size, 5, none⟩ = some (.bool on) := cell_blk hga
 have p6 : wa.cell? ⟨w.heap.size, 6, none⟩ = some (.int .i64 nn) := cell_blk hga
 have p7 : wa.cell? ⟨w.heap.size, 7, none⟩ = some (.slice a1 n cp1) := cell_blk hga
 have hszl : w.heap.size < wa.heap.size := lt_blk hga
 have HFA := Lib.hid hfa
 have HLT := Lib.hid hszl
 have HP4 := Lib.hid p4
 unfold SpC
 rw [spell7]
 rw [hnn]
 clear hs hl hnn hok hlib hfa hga hszl
 go_enter Tryz.func24, Tryz.ntmps24
 go_wp2_with fail
 clear hwa p0 p1 p2 p3 p4 p5 p6 p7
 go_loopg [62, 3] (n + 1) (fun m i v wr => ∃ (k : Nat) (acc : List ByteArray), i = .int .i64 (k : Nat) ∧ k ≤ n ∧ n - k < m ∧ n ≤ 5000 ∧ Hid (acc = (args.take k).map (fun g => mk (argB g))) ∧ acc.length ≤ k ∧ Hid (BAt wa v acc wr))
 case atStart => exact ⟨0, [], rfl, Nat.zero_le _, by omega, hn, Lib.hid rfl, by simp, Lib.hid ⟨FP.refl nob wa, SRow.nil _ _⟩⟩
 case round =>
  obtain ⟨q, acc, rfl, hk, hm, hn, HA, hal, HB⟩ := hrel
  by_cases hlt : q < n
  ·have hi0 : (0 : Int) ≤ (q : Int) := by omega
   have hi1 : (q : Int) < (n : Int) := by omega
   have hw1 : IntKind.i64.wrap ((q : Int) + 1) = (q : Int) + 1 := IntWalk.i64_in _ (by omega)
   have hFW : FP nob w wr := FP.trans (S := nob) HFA.out HB.out.fp (fun _ x => x.elim)
   have hfr : ∀ b, b < w.heap.size → wr.heap[b]? = w.heap[b]? := fun b hl => hFW.blk b hl (fun x => x.elim)
   obtain ⟨g0, o0, cp0', he0, hle0, _, _, hc0⟩ := (HS.out.frame (fun g _ hl => hfr g hl)).cell (by omega)
   injection he0 with he1 he2 he3
   subst he1 he3
   clear he2
   have hv : args[q]? = some (args[q]'(by rw [HN.out]; exact hlt)) := List.getElem?_eq_getElem _
   have hmem : args[q]'(by rw [HN.out]; exact hlt) ∈ args := List.getElem_mem _
   generalize args[q]'(by rw [HN.out]; exact hlt) = g1 at hv hmem
   obtain ⟨c, hrc, hxc⟩ := HL.out.get (fun _ _ h => h.len) hv
   cases hrc with
   | mk f d v1 hrd =>
    obtain ⟨kk, bb, ii, tt, e0, l0, z0, rfl⟩ := rdv_shape hrd
    have x0 : wr.cell? ⟨g0, o0 + q * 6, none⟩ = some (.bool f) := by rw [show o0 + q * 6 = o0 + (q * 6 + 0) from rfl]; exact hc0 _ _ (hxc 0 (by omega))
    have x1 : wr.cell? ⟨g0, o0 + q * 6 + 1, none⟩ = some (.int .i64 kk) := by rw [Nat.add_assoc]; exact hc0 _ _ (hxc 1 (by omega))
    have x2 : wr.cell? ⟨g0, o0 + q * 6 + 2, none⟩ = some (.bool bb) := by rw [Nat.add_assoc]; exact hc0 _ _ (hxc 2 (by omega))
    have x3 : wr.cell? ⟨g0, o0 + q * 6 + 3, none⟩ = some (.int .i64 ii) := by rw [Nat.add_assoc]; exact hc0 _ _ (hxc 3 (by omega))
    have x4 : wr.cell? ⟨g0, o0 + q * 6 + 4, none⟩ = some (.string tt) := by rw [Nat.add_assoc]; exact hc0 _ _ (hxc 4 (by omega))
    have x5 : wr.cell? ⟨g0, o0 + q * 6 + 5, none⟩ = some (.slice e0 l0 z0) := by rw [Nat.add_assoc]; exact hc0 _ _ (hxc 5 (by omega))
    have hao := HO.out _ hmem
    have hq := written_any v1 hao.v hao.len (wr.alloc (.cells #[.bool f, .int .i64 kk, .bool bb, .int .i64 ii, .string tt, .slice e0 l0 z0] 66)) F _ (HLB.out.fp (hFW.alloc _) (fun _ x => x.elim)) (hrd.frame (fun g _ hl => (hFW.alloc _).blk g hl (fun x => x.elim)))
    unfold WrC at hq
    have HQ := Lib.hid hq
    have HV := Lib.hid hv
    have HBW := Lib.hid (HB.out.far ((FP.refl nob wr).alloc (.cells #[.bool f, .int .i64 kk, .bool bb, .int .i64 ii, .string tt, .slice e0 l0 z0] 66)))
    clear hq hao hrd hv hmem hfr hFW hc0 hxc
    cases f with
    | true =>
     go_wp2_with fail
     refine HQ.out.mono ?_
     rintro e w2 ⟨rfl, f2⟩
     have HB2 := Lib.hid (HBW.out.far f2)
     clear f2
     go_wp2_with (at_builtin; refine wpList_append_bat rfl (.tmp 68) (.tmp 72) rfl _ acc rfl HB2 (mk (wrB v1)) rfl (by omega) ?_)
     intro v3 w3 HB3
     go_wp2_with fail
     go_roundg (n - (q + 1) + 1)
     case measure => omega
     case rel => exact ⟨q + 1, _, rfl, by omega, by omega, hn, Lib.hid (by rw [HA.out, List.take_add_one, HV.out]; simp [argB]), by simp; omega, HB3⟩
    | false =>
     obtain ⟨wx, hwx⟩ : ∃ wx, (wr.alloc (.cells #[.bool false, .int .i64 kk, .bool bb, .int .i64 ii, .string tt, .slice e0 l0 z0] 66)) = wx := ⟨_, rfl⟩
     have y0 : wx.cell? ⟨wr.heap.size, 0, none⟩ = some (.bool false) := by rw [← hwx]; exact cell_blk (heap_new_at rfl _)
     rw [hwx] at HBW
     go_wp2_with (at_builtin; refine wpList_append_bat rfl (.tmp 74) (.tmp 75) rfl _ acc rfl HBW ⟨#[42]⟩ rfl (by omega) ?_)
     intro v3 w3 HB3
     go_wp2_with fail
     go_roundg (n - (q + 1) + 1)
     case measure => omega
     case rel => exact ⟨q + 1, _, rfl, by omega, by omega, hn, Lib.hid (by rw [HA.out, List.take_add_one, HV.out]; simp [argB]), by simp; omega, HB3⟩
  ·have hi1 : ¬ (q : Int) < (n : Int) := by omega
   have hke : q = n := by omega
   have HKE := Lib.hid hke
   clear hke
   obtain ⟨wo, hwo⟩ : ∃ wo, wo = wr := ⟨_, rfl⟩
   subst hwo
   have x4 := (HB.out.fp).cell HP4.out
   have HS0 : Hid (w.heap.size ≤ wo.heap.size) := Lib.hid (Nat.le_trans (Nat.le_of_lt HLT.out) HB.out.fp.size)
   have hcl : (commasA acc).length ≤ 2 * acc.length := by rw [← commasF_eq]; exact commasF_len _ _
   have HS1 : Hid (w.heap.size < wo.heap.size) := Lib.hid (Nat.lt_of_lt_of_le HLT.out HB.out.fp.size)
   have HFW : Hid (FP nob w wo) := Lib.hid (FP.trans (S := nob) HFA.out HB.out.fp (fun _ x => x.elim))
   have HX : Hid (([⟨#[113, 117, 101, 114, 121]⟩, t, ⟨#[40]⟩] ++ (commasA acc ++ [⟨#[41]⟩]) : List ByteArray).map (·.data.toList) = wQuery :: t.data.toList :: [40] :: (commas (args.map argB) ++ [[41]])) := Lib.hid (by
    have e : acc.map (·.data.toList) = args.map argB := by
     rw [HA.out, HKE.out, ← HN.out, List.take_length, List.map_map]
     exact List.map_congr_left (fun v _ => mk_data _)
    rw [List.map_append, List.map_append, commasA_map, e]
    rfl)
   have HC := Lib.hid (fun (W : World) (hW : FP nob wo W) => (between_any (HB.out.row.far hW) (by omega)).mono (fun e w' h => (by
    obtain ⟨v', e1, r, g⟩ := h
    have k := FP.trans (S := nob) hW g (fun _ x => False.elim x)
    exact ⟨v', e1, r, g, k, k.cell x4⟩ : ∃ v', e = .returned v' ∧ SRow w' W.heap.size v' (commasA acc) ∧ FP nob W w' ∧ FP nob wo w' ∧ w'.cell? ⟨w.heap.size, 4, none⟩ = some (.string t))))
   go_upto_region 25 with fail
   go_region_held3 (fun w' => w'.cell? ⟨w.heap.size, 4, none⟩ = some (.string t)) (go_keep) ((first | (go_at_call 53; refine (HC.out _ (by first | exact (FP.refl nob wo).dr | exact ((FP.refl nob wo).alloc _).dr | exact (((FP.refl nob wo).alloc _).alloc _).dr)).mono ?_; rintro e w3 ⟨v3, rfl, r3, g3, f3, z4⟩) | (refine step_append_srow rfl (.tmp 82) (.tmp 83) rfl _ v3 (commasA acc) [⟨#[41]⟩] rfl (by first | exact r3 | exact r3.al _ | exact (r3.al _).al _) _ rfl 0 (by first | exact (lit_new w3 [⟨#[41]⟩] (by simp) 0 (Nat.zero_le _) (by simp)) | exact (lit_new (w3.alloc (.cells #[.string ⟨#[113, 117, 101, 114, 121]⟩, .string t, .string ⟨#[40]⟩] 9)) [⟨#[41]⟩] (by simp) 0 (Nat.zero_le _) (by simp)) | exact SRow.al (lit_new w3 [⟨#[41]⟩] (by simp) 0 (Nat.zero_le _) (by simp)) _ | exact (SRow.dr (lit_new wo [⟨#[41]⟩] (by simp) 0 (Nat.zero_le _) (by simp))).far g3 | exact ((SRow.dr (lit_new wo [⟨#[41]⟩] (by simp) 0 (Nat.zero_le _) (by simp))).far g3).al _ | exact (SRow.dr (lit_new (wo.alloc (.cells #[.string ⟨#[113, 117, 101, 114, 121]⟩, .string t, .string ⟨#[40]⟩] 9)) [⟨#[41]⟩] (by simp) 0 (Nat.zero_le _) (by simp))).far g3 | exact (SRow.dr (SRow.al (lit_new wo [⟨#[41]⟩] (by simp) 0 (Nat.zero_le _) (by simp)) _)).far g3) (by simp; omega) (by first | exact g3.size | exact (g3.alloc _).size | exact ((g3.alloc _).alloc _).size) ?_; intro v5 w5 r5 g5; have F5 : Hid (FP nob wo w5) := Lib.hid (FP.grown (by first | exact f3 | exact f3.alloc _ | exact (f3.alloc _).alloc _) g5 (fun k hk => Or.inr (by have := (World.ownsRow.lt r3 k hk).1; simp at this; omega))); have z5 := F5.out.cell x4) | (refine step_append_srow rfl (.tmp 80) (.tmp 84) rfl w.heap.size _ [⟨#[113, 117, 101, 114, 121]⟩, t, ⟨#[40]⟩] (commasA acc ++ [⟨#[41]⟩]) rfl (by first | exact (lit_new w5 [⟨#[113, 117, 101, 114, 121]⟩, t, ⟨#[40]⟩] (by simp) w.heap.size (by first | exact HS0.out | exact Nat.le_trans HS0.out f3.size | exact Nat.le_trans HS0.out (f3.alloc _).size | exact Nat.le_trans HS0.out ((FP.refl nob wo).alloc _).size | exact Nat.le_trans HS0.out F5.out.size) (by simp)) | exact keep1 (lit_new w3 [⟨#[113, 117, 101, 114, 121]⟩, t, ⟨#[40]⟩] (by simp) w.heap.size (by first | exact HS0.out | exact Nat.le_trans HS0.out f3.size | exact Nat.le_trans HS0.out (f3.alloc _).size | exact Nat.le_trans HS0.out ((FP.refl nob wo).alloc _).size | exact Nat.le_trans HS0.out F5.out.size) (by simp)) g5 r3 (Or.inr (Nat.le_refl _)) | exact keep1 (SRow.al (lit_new w3 [⟨#[113, 117, 101, 114, 121]⟩, t, ⟨#[40]⟩] (by simp) w.heap.size (by first | exact HS0.out | exact Nat.le_trans HS0.out f3.size | exact Nat.le_trans HS0.out (f3.alloc _).size | exact Nat.le_trans HS0.out ((FP.refl nob wo).alloc _).size | exact Nat.le_trans HS0.out F5.out.size) (by simp)) _) g5 r3 (Or.inr (Nat.le_refl _)) | exact keep1 (lit_new (w3.alloc (.cells #[.string ⟨#[41]⟩] 9)) [⟨#[113, 117, 101, 114, 121]⟩, t, ⟨#[40]⟩] (by simp) w.heap.size (by first | exact HS0.out | exact Nat.le_trans HS0.out f3.size | exact Nat.le_trans HS0.out (f3.alloc _).size | exact Nat.le_trans HS0.out ((FP.refl nob wo).alloc _).size | exact Nat.le_trans HS0.out F5.out.size) (by simp)) g5 r3 (Or.inr (by simp <;> omega)) | exact keep1 (SRow.al ((SRow.dr (lit_new wo [⟨#[113, 117, 101, 114, 121]⟩, t, ⟨#[40]⟩] (by simp) w.heap.size (by first | exact HS0.out | exact Nat.le_trans HS0.out f3.size | exact Nat.le_trans HS0.out (f3.alloc _).size | exact Nat.le_trans HS0.out ((FP.refl nob wo).alloc _).size | exact Nat.le_trans HS0.out F5.out.size) (by simp))).far g3) _) g5 r3 (Or.inl (by simp <;> omega)) | exact keep1 ((SRow.dr (SRow.al (lit_new wo [⟨#[113, 117, 101, 114, 121]⟩, t, ⟨#[40]⟩] (by simp) w.heap.size (by first | exact HS0.out | exact Nat.le_trans HS0.out f3.size | exact Nat.le_trans HS0.out (f3.alloc _).size | exact Nat.le_trans HS0.out ((FP.refl nob wo).alloc _).size | exact Nat.le_trans HS0.out F5.out.size) (by simp)) _)).far g3) g5 r3 (Or.inl (by simp <;> omega)) | exact keep1 ((SRow.dr (lit_new (wo.alloc (.cells #[.string ⟨#[41]⟩] 9)) [⟨#[113, 117, 101, 114, 121]⟩, t, ⟨#[40]⟩] (by simp) w.heap.size (by first | exact HS0.out | exact Nat.le_trans HS0.out f3.size | exact Nat.le_trans HS0.out (f3.alloc _).size | exact Nat.le_trans HS0.out ((FP.refl nob wo).alloc _).size | exact Nat.le_trans HS0.out F5.out.size) (by simp))).far g3) g5 r3 (Or.inl (by simp <;> omega))) v5 rfl _ (by first | exact r5 | exact r5.al _) (by simp; omega) (by first | exact Nat.le_trans HS0.out F5.out.size | exact Nat.le_trans HS0.out (F5.out.alloc _).size) ?_; intro v7 w7 r7 g7; have z7 := World.grownBy.cell g7 (by first | exact z5 | exact ((FP.refl nob w5).alloc _).cell z5) (fun e => by have e' := Option.some.inj e; simp at e'; have := HS1.out; have := f3.size; have := F5.out.size; omega); have F7 := Lib.hid (FP.grown (by first | exact FP.trans (S := nob) HFW.out F5.out (fun _ x => False.elim x) | exact (FP.trans (S := nob) HFW.out F5.out (fun _ x => False.elim x)).alloc _) g7 (fun k hk => Or.inr (by have e' := Option.some.inj hk; simp at e'; have := HS1.out; have := f3.size; have := F5.out.size; omega))); have R7 := Lib.hid r7; clear r7 g7)))
   all_goals
    go_wp2_with fail
    exact bodyPost_ret (v := v7) (by simp [results, Tryz.results24]) rfl ⟨_, _, rfl, R7.out, HX.out, F7.out⟩
end
end Go.Proofs.YtnpkdiffpgcbhaaGreatDoor
namespace Go.Proofs.YtnpkdiffpgcbhaaGreatDoor
open Go.RowKit
attribute [local go_sem] Oper.semAt_some
theorem spelled_none {w : World} {cl t : ByteArray} {a0 a1 : Option Addr} {n0 n1 cp0 cp1 : Nat} {k hd nn : Int} {on : Bool} {set : List (Bs × GV)} {args : List (Bool × GV)} (h1 : k ≠ 1) (h2 : k ≠ 2) (h3 : k ≠ 3) (h4 : k ≠ 4) (h5 : k ≠ 5) (h6 : k ≠ 6) (h7 : k ≠ 7) :
  SpC [.int .i64 k, .string cl, .slice a0 n0 cp0, .int .i64 hd, .string t, .bool on, .int .i64 nn, .slice a1 n1 cp1] ⟨k, cl.data.toList, set, hd, t.data.toList, on, nn, args⟩ w := by
 have e : spellB ⟨k, cl.data.toList, set, hd, t.data.toList, on, nn, args⟩ = [] := by
  unfold spellB
  rw [if_neg h1, if_neg h2, if_neg h3, if_neg h4, if_neg h5, if_neg h6, if_neg h7]
 unfold SpC
 rw [e]
 have e1 : (k == 1) = false := by simpa using h1
 have e2 : (k == 2) = false := by simpa using h2
 have e3 : (k == 3) = false := by simpa using h3
 have e4 : (k == 4) = false := by simpa using h4
 have e5 : (k == 5) = false := by simpa using h5
 have e6 : (k == 6) = false := by simpa using h6
 have e7 : (k == 7) = false := by simpa using h7
 clear e h1 h2 h3 h4 h5 h6 h7
 go_enter Tryz.func24, Tryz.ntmps24
 go_wp2_with fail
 exact bodyPost_ret (v := .slice none 0 0) (by simp [results, Tryz.results24]) rfl ⟨_, [], rfl, SRow.nil _ _, rfl, (FP.refl nob w).alloc _⟩
theorem spelled_any {w : World} {F : Nat → Prop} {c : List Value} {o : OpV} (h : RdOp w F c o) (hok : SpOk o) (hlib : LibOk w) : SpC c o w := by
 cases h with
 | mk k cl ss h t on n ss2 xs ys set args hs hsl ha hal =>
  obtain ⟨a0, c0, rfl⟩ := hs.shape
  obtain ⟨a1, c1, rfl⟩ := ha.shape
  have ht : t.size ≤ 1099511627776 := hok.t
  by_cases h1 : k = 1
  ·subst h1; exact spelled1 hs hsl hok.set.1 hok.set.2 hlib
  by_cases h2 : k = 2
  ·subst h2; exact spelled2 hs hsl hok.set.1 hok.set.2 hok.h.1 hok.h.2 hlib
  by_cases h3 : k = 3
  ·subst h3; exact spelled3 hok.h.1 hok.h.2 hlib
  by_cases h4 : k = 4
  ·subst h4; exact spelled4 ht
  by_cases h5 : k = 5
  ·subst h5
   cases on with
   | true => exact spelled5t ht
   | false => exact spelled5f ht
  by_cases h6 : k = 6
  ·subst h6; exact spelled6 hok.n.1 hok.n.2 hlib
  by_cases h7 : k = 7
  ·subst h7; exact spelled7 ha hal hok.args.1 hok.args.2 hlib
  exact spelled_none h1 h2 h3 h4 h5 h6 h7
end Go.Proofs.YtnpkdiffpgcbhaaGreatDoor
