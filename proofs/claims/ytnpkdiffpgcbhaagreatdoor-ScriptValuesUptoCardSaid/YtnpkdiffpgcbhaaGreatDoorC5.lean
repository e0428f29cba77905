/- Print and Size, of anything, walked. Conditions: each theorem's own. -/
import Derived.Test.YtnpkdiffpgcbhaaGreatDoorC4
import Derived.Test.YtnpkdiffpgcbhaaGreatDoorC3
import Derived.Test.YtnpkdiffpgcbhaaGreatDoorC2
set_option maxRecDepth 100000
set_option maxHeartbeats 3200000
namespace Go.Proofs.YtnpkdiffpgcbhaaGreatDoor
open Go.RowKit
attribute [local go_sem] Oper.semAt_some
structure PrOk (o : OpV) : Prop where
 sp : SpOk o
 sh : ShOp o
 d1 : ∀ g ∈ o.set, deepG 0 g.2 = true
 d2 : ∀ a ∈ o.args, deepG 0 a.2 = true
 ln : lineF (lineG o) = some (some o)
 nl : ∀ c ∈ lineG o, c ≠ 10
 len : (lineG o).length ≤ 65536
def linesG (l : List OpV) : Bs := l.flatMap fun o => lineG o ++ [10]
theorem bld_far {w w' : World} {B b : Nat} {bs : List Value} (h : Lib.IsBuilder 72 5 B b bs w) (hf : FP nob w w') : Lib.IsBuilder 72 5 B b bs w' := by
 have one : ∀ p, Lib.BuilderAt 72 5 B b p bs w → Lib.BuilderAt 72 5 B b p bs w' := by
  rintro p ⟨h1, v, h2, h3, h4⟩
  exact ⟨h1, v, (hf.blk b (lt_blk h2) (fun x => x.elim)).trans h2, own_far h3 hf, h4⟩
 exact h.imp (one _) (one _)
theorem QAt.far {w wl wl' : World} {B : Nat} {acc : Bs} (h : QAt w wl B acc) (hf : FP nob wl wl') : QAt w wl' B acc :=
 ⟨bld_far h.bld hf, h.bel.trans (hf.below (fun _ x => x.elim) (by have := h.siz; have := h.bel.size; omega)), h.siz⟩
theorem QAt.fp {w wl : World} {B : Nat} {acc : Bs} (h : QAt w wl B acc) : FP nob w wl := by
 have := h.bel
 rw [h.siz] at this
 exact FP.ofBelow this
theorem qat_string {w wl : World} {B : Nat} {acc : Bs} (h : QAt w wl B acc) (s : ByteArray) (hlen : acc.length + s.size ≤ 140737488355328) :
  Calls Tryz.prog 28 #[.pointer (some ⟨B, 0, none⟩), .string s] wl fun e w' => e = .returned (.tuple #[.int .i64 s.size, .nilIface]) ∧ QAt w w' B (acc ++ s.data.toList) := by
 refine (bld_string B B (Lib.byteCells acc) s wl h.bld (by rw [byteCells_length]; exact hlen) (by have := h.siz; have := h.bel.size; omega)).mono ?_
 rintro e w' ⟨rfl, h1, h2⟩
 refine ⟨rfl, ?_, h.bel.trans h2, h.siz⟩
 have e : Lib.byteCells (acc ++ s.data.toList) = Lib.byteCells acc ++ Lib.strCells s := by unfold Lib.byteCells Lib.strCells; simp
 rw [e]
 exact .inr h1
theorem qat_len {w wl : World} {B : Nat} {acc : Bs} (h : QAt w wl B acc) : Calls Tryz.prog 29 #[.pointer (some ⟨B, 0, none⟩)] wl fun e w' => e = .returned (.int .i64 acc.length) ∧ w' = wl := by
 have := Tryz.Builder_Len B B (Lib.byteCells acc) wl h.bld
 rwa [byteCells_length] at this
theorem joinSp_count : ∀ (l : List Bs), l.length ≤ (joinSp l).length + 1
 | [] => by simp
 | [t] => by simp
 | t :: u :: r => by
  have := joinSp_count (u :: r)
  rw [joinSp_cons _ (by simp)]
  simp only [List.length_append, List.length_cons] at *
  omega
theorem PrOk.ne {o : OpV} (h : PrOk o) : spellB o ≠ [] := by
 intro e
 have := h.ln
 unfold lineG at this
 rw [e] at this
 exact absurd this (by rw [show joinSp [] = [] from rfl, lineF_nil]; simp)
theorem no10 : ∀ {l : Bs}, (∀ c ∈ l, c ≠ 10) → Lib.indexByte l 10 = -1
 | [], _ => rfl
 | b :: l, h => by
  have h1 : b ≠ 10 := h b List.mem_cons_self
  have h2 := no10 (l := l) (fun c hc => h c (List.mem_cons_of_mem _ hc))
  simp [Lib.indexByte, h1, h2]
theorem linesG_take (l : List OpV) (k : Nat) : (linesG (l.take k)).length ≤ (linesG l).length := by
 have : linesG l = linesG (l.take k) ++ linesG (l.drop k) := by unfold linesG; rw [← List.flatMap_append, List.take_append_drop]
 rw [this, List.length_append]
 omega
theorem print_ok {w : World} {F : Nat → Prop} {sl : Value} {xs : List Value} {ops : List OpV} (hs : SliceAt w F sl ops.length (ops.length * 8) xs) (hl : RdRow (RdOp w F) xs ops) (hn : ops.length ≤ 65536) (hok : ∀ o ∈ ops, PrOk o) (hlen : (linesG ops).length ≤ 65536) (hlib : LibOk w) :
  Calls Tryz.prog 10 #[sl] w fun e w' => e = .returned (.tuple #[.string (mk (linesG ops)), .int .i64 0]) ∧ FP nob w w' := by
 obtain ⟨a0, cap0, rfl⟩ := hs.shape
 obtain ⟨n, hnn⟩ : ∃ n, ops.length = n := ⟨_, rfl⟩
 rw [hnn] at hs hn ⊢
 have HS := Lib.hid hs
 have HL := Lib.hid hl
 have HN := Lib.hid hnn
 have HO := Lib.hid hok
 have HLEN := Lib.hid hlen
 have HLB := Lib.hid hlib
 have hq0 : QAt w (w.alloc (.cells #[.pointer none, .slice none 0 0] 72)) w.heap.size [] := ⟨Lib.fresh_isBuilder 72 5 w, (Below.refl _ _).alloc (Nat.le_refl _) _, rfl⟩
 have HQ0 := Lib.hid hq0
 obtain ⟨B, hB⟩ : ∃ B, w.heap.size = B := ⟨_, rfl⟩
 have HB := Lib.hid hB
 have hn' : ¬ (65536 : Int) < (n : Int) := by omega
 clear hs hl hnn hok hlen hlib hq0
 go_enter Tryz.func10, Tryz.ntmps10
 go_wp2_with fail
 clear hB
 go_loopg [20] (n + 1) (fun m i wr => ∃ (k : Nat) (acc : Bs), i = .int .i64 (k : Nat) ∧ k ≤ n ∧ n - k < m ∧ n ≤ 65536 ∧ Hid (acc = linesG (ops.take k)) ∧ Hid (QAt w wr B acc))
 case atStart => exact ⟨0, [], rfl, Nat.zero_le _, by omega, hn, Lib.hid rfl, by rw [← HB.out]; exact HQ0⟩
 case round =>
  obtain ⟨k, acc, rfl, hk, hm, hn, HA, HQ⟩ := hrel
  obtain ⟨wo, hwo⟩ : ∃ wo, wo = wr := ⟨_, rfl⟩
  subst hwo
  by_cases hlt : k < n
  ·have hi0 : (0 : Int) ≤ (k : Int) := by omega
   have hi1 : (k : Int) < (n : Int) := by omega
   have hw1 : IntKind.i64.wrap ((k : Int) + 1) = (k : Int) + 1 := IntWalk.i64_in _ (by omega)
   have hfo := HQ.out.fp
   obtain ⟨g0, o0, cp0, he0, hle0, _, _, hc0⟩ := (HS.out.frame (fun g _ hl => hfo.blk g hl (fun x => x.elim))).cell (by omega)
   cases he0
   have hv : ops[k]? = some (ops[k]'(by rw [HN.out]; exact hlt)) := List.getElem?_eq_getElem _
   have hmem : ops[k]'(by rw [HN.out]; exact hlt) ∈ ops := List.getElem_mem _
   generalize ops[k]'(by rw [HN.out]; exact hlt) = o at hv hmem
   obtain ⟨c, hrc, hxc⟩ := HL.out.get (fun _ _ h => h.len) hv
   have HPO' := Lib.hid (HO.out o hmem)
   have HV' := Lib.hid hv
   have HRC' := Lib.hid hrc
   clear hv hmem
   cases hrc with
   | mk kd cl ss hd tx on nn ss2 xs2 ys2 set args hss hsl haa hal =>
    obtain ⟨a1, c1, rfl⟩ := hss.shape
    obtain ⟨a2, c2, rfl⟩ := haa.shape
    obtain ⟨o, ho⟩ : ∃ o, (⟨kd, cl.data.toList, set, hd, tx.data.toList, on, nn, args⟩ : OpV) = o := ⟨_, rfl⟩
    have HPO : Hid (PrOk ⟨kd, cl.data.toList, set, hd, tx.data.toList, on, nn, args⟩) := HPO'
    have hset : o.set = set := by rw [← ho]
    have hargs : o.args = args := by rw [← ho]
    rw [ho] at HPO' HV' HRC'
    obtain ⟨ns, hns⟩ : ∃ ns, set.length = ns := ⟨_, rfl⟩
    obtain ⟨na, hna⟩ : ∃ na, args.length = na := ⟨_, rfl⟩
    rw [hns, hna] at hxc HRC'
    have HNS := Lib.hid hns
    have HNA := Lib.hid hna
    have HSS := Lib.hid hss
    have HSL := Lib.hid hsl
    have HAA := Lib.hid haa
    have HAL := Lib.hid hal
    have hls : ns ≤ 5000 := hns ▸ HPO.out.sh.set.1
    have hla : na ≤ 5000 := hna ▸ HPO.out.sh.args.1
    rw [hns] at HSS
    rw [hna] at HAA
    have x0 : wo.cell? ⟨g0, o0 + k * 8, none⟩ = some (.int .i64 kd) := by rw [show o0 + k * 8 = o0 + (k * 8 + 0) from rfl]; exact hc0 _ _ (hxc 0 (by omega))
    have x1 : wo.cell? ⟨g0, o0 + k * 8 + 1, none⟩ = some (.string cl) := by rw [Nat.add_assoc]; exact hc0 _ _ (hxc 1 (by omega))
    have x2 : wo.cell? ⟨g0, o0 + k * 8 + 2, none⟩ = some (.slice a1 ns c1) := by rw [Nat.add_assoc]; exact hc0 _ _ (hxc 2 (by omega))
    have x3 : wo.cell? ⟨g0, o0 + k * 8 + 3, none⟩ = some (.int .i64 hd) := by rw [Nat.add_assoc]; exact hc0 _ _ (hxc 3 (by omega))
    have x4 : wo.cell? ⟨g0, o0 + k * 8 + 4, none⟩ = some (.string tx) := by rw [Nat.add_assoc]; exact hc0 _ _ (hxc 4 (by omega))
    have x5 : wo.cell? ⟨g0, o0 + k * 8 + 5, none⟩ = some (.bool on) := by rw [Nat.add_assoc]; exact hc0 _ _ (hxc 5 (by omega))
    have x6 : wo.cell? ⟨g0, o0 + k * 8 + 6, none⟩ = some (.int .i64 nn) := by rw [Nat.add_assoc]; exact hc0 _ _ (hxc 6 (by omega))
    have x7 : wo.cell? ⟨g0, o0 + k * 8 + 7, none⟩ = some (.slice a2 na c2) := by rw [Nat.add_assoc]; exact hc0 _ _ (hxc 7 (by omega))
    obtain ⟨wb, hwb⟩ : ∃ wb, wo.alloc (.cells #[.int .i64 kd, .string cl, .slice a1 ns c1, .int .i64 hd, .string tx, .bool on, .int .i64 nn, .slice a2 na c2] 58) = wb := ⟨_, rfl⟩
    have hfb : FP nob wo wb := by rw [← hwb]; exact (FP.refl nob wo).alloc _
    have hgb : wb.heap[wo.heap.size]? = some (.cells #[.int .i64 kd, .string cl, .slice a1 ns c1, .int .i64 hd, .string tx, .bool on, .int .i64 nn, .slice a2 na c2] 58 (0,0)) := by rw [← hwb]; exact heap_new_at rfl _
    have p0 : wb.cell? ⟨wo.heap.size, 0, none⟩ = some (.int .i64 kd) := cell_blk hgb
    have p1 : wb.cell? ⟨wo.heap.size, 1, none⟩ = some (.string cl) := cell_blk hgb
    have p2 : wb.cell? ⟨wo.heap.size, 2, none⟩ = some (.slice a1 ns c1) := cell_blk hgb
    have p3 : wb.cell? ⟨wo.heap.size, 3, none⟩ = some (.int .i64 hd) := cell_blk hgb
    have p4 : wb.cell? ⟨wo.heap.size, 4, none⟩ = some (.string tx) := cell_blk hgb
    have p5 : wb.cell? ⟨wo.heap.size, 5, none⟩ = some (.bool on) := cell_blk hgb
    have p6 : wb.cell? ⟨wo.heap.size, 6, none⟩ = some (.int .i64 nn) := cell_blk hgb
    have p7 : wb.cell? ⟨wo.heap.size, 7, none⟩ = some (.slice a2 na c2) := cell_blk hgb
    have HFO := Lib.hid hfb
    have HFB : Hid (FP nob w wb) := Lib.hid (FP.trans (S := nob) hfo hfb (fun _ x => x.elim))
    have HGB := Lib.hid hgb
    have HP7 := Lib.hid p7
    clear hfo hfb hgb hc0 hxc hss hsl haa hal hns hna ho hset hargs
    go_wp2_with fail
    clear x0 x1 x2 x3 x4 x5 x6 x7 p0 p1 p2 p3 p4 p5 p6 p7 hwb
    go_loopg [27] (ns + 1) (fun m i wr => ∃ (j : Nat), i = .int .i64 (j : Nat) ∧ j ≤ ns ∧ ns - j < m ∧ ns ≤ 5000 ∧ Hid (FP nob wb wr))
    case atStart => exact ⟨0, rfl, Nat.zero_le _, by omega, by assumption, Lib.hid (FP.refl nob wb)⟩
    case round =>
     obtain ⟨j, rfl, hj, hjm, hj5, HJ1⟩ := hrel
     by_cases hjl : j < ns
     ·have hji0 : (0 : Int) ≤ (j : Int) := by omega
      have hji1 : (j : Int) < (ns : Int) := by omega
      have hjw : IntKind.i64.wrap ((j : Int) + 1) = (j : Int) + 1 := IntWalk.i64_in _ (by omega)
      have hfw : FP nob w wr := FP.trans (S := nob) HFB.out HJ1.out (fun _ x => x.elim)
      obtain ⟨g2, r2, cp2, he2, hle2, _, _, hd0⟩ := (HSS.out.frame (fun g _ hl => hfw.blk g hl (fun x => x.elim))).cell (by omega)
      injection he2 with he3 he4 he5
      subst he3 he5
      clear he4
      have hv : set[j]? = some (set[j]'(by rw [HNS.out]; exact hjl)) := List.getElem?_eq_getElem _
      have hmem : set[j]'(by rw [HNS.out]; exact hjl) ∈ set := List.getElem_mem _
      generalize set[j]'(by rw [HNS.out]; exact hjl) = g1 at hv hmem
      obtain ⟨d, hrd, hyc⟩ := HSL.out.get (fun _ _ h => h.len) hv
      cases hrd with
      | mk f dc v1 hrv =>
       obtain ⟨kk, bb, ii, tt, e0, l0, z0, rfl⟩ := rdv_shape hrv
       have y0 : wr.cell? ⟨g2, r2 + j * 6, none⟩ = some (.string f) := by rw [show r2 + j * 6 = r2 + (j * 6 + 0) from rfl]; exact hd0 _ _ (hyc 0 (by omega))
       have y1 : wr.cell? ⟨g2, r2 + j * 6 + 1, none⟩ = some (.int .i64 kk) := by rw [Nat.add_assoc]; exact hd0 _ _ (hyc 1 (by omega))
       have y2 : wr.cell? ⟨g2, r2 + j * 6 + 2, none⟩ = some (.bool bb) := by rw [Nat.add_assoc]; exact hd0 _ _ (hyc 2 (by omega))
       have y3 : wr.cell? ⟨g2, r2 + j * 6 + 3, none⟩ = some (.int .i64 ii) := by rw [Nat.add_assoc]; exact hd0 _ _ (hyc 3 (by omega))
       have y4 : wr.cell? ⟨g2, r2 + j * 6 + 4, none⟩ = some (.string tt) := by rw [Nat.add_assoc]; exact hd0 _ _ (hyc 4 (by omega))
       have y5 : wr.cell? ⟨g2, r2 + j * 6 + 5, none⟩ = some (.slice e0 l0 z0) := by rw [Nat.add_assoc]; exact hd0 _ _ (hyc 5 (by omega))
       have hdp := deep_any v1 (HPO.out.sh.set.2 _ hmem) 0 (wr.alloc (.cells #[.string f, .int .i64 kk, .bool bb, .int .i64 ii, .string tt, .slice e0 l0 z0] 54)) F _ (by omega) (hrv.frame (fun g _ hl => (hfw.alloc _).blk g hl (fun x => x.elim)))
       unfold DepC at hdp
       rw [HPO.out.d1 _ hmem] at hdp
       have HDP : Hid (Calls Tryz.prog 22 #[.agg #[.int .i64 kk, .bool bb, .int .i64 ii, .string tt, .slice e0 l0 z0], .int .i64 0] (wr.alloc (.cells #[.string f, .int .i64 kk, .bool bb, .int .i64 ii, .string tt, .slice e0 l0 z0] 54)) fun e w' => e = .returned (.bool true) ∧ FP nob (wr.alloc (.cells #[.string f, .int .i64 kk, .bool bb, .int .i64 ii, .string tt, .slice e0 l0 z0] 54)) w') := Lib.hid hdp
       clear hdp hrv hyc hd0 hfw hv hmem
       go_wp2_with fail
       refine HDP.out.mono ?_
       rintro e w2 ⟨rfl, f2⟩
       have HJ' : Hid (FP nob wb w2) := Lib.hid (FP.trans (S := nob) (HJ1.out.alloc _) f2 (fun _ x => x.elim))
       clear f2
       go_wp2_with fail
       go_roundg (ns - (j + 1) + 1)
       case measure => omega
       case rel => exact ⟨j + 1, rfl, by omega, by omega, hj5, HJ'⟩
     ·have hji1 : ¬ (j : Int) < (ns : Int) := by omega
      clear hj hjm
      have q7 := HJ1.out.cell HP7.out
      go_wp2_with fail
      go_loopg [39] (na + 1) (fun m i wr => ∃ (j : Nat), i = .int .i64 (j : Nat) ∧ j ≤ na ∧ na - j < m ∧ na ≤ 5000 ∧ Hid (FP nob wb wr))
      case atStart => exact ⟨0, rfl, Nat.zero_le _, by omega, by assumption, HJ1⟩
      case round =>
       obtain ⟨j, rfl, hj, hjm, hj5, HJ2⟩ := hrel
       by_cases hjl : j < na
       ·have hji0 : (0 : Int) ≤ (j : Int) := by omega
        have hji1 : (j : Int) < (na : Int) := by omega
        have hjw : IntKind.i64.wrap ((j : Int) + 1) = (j : Int) + 1 := IntWalk.i64_in _ (by omega)
        have hfw : FP nob w wr := FP.trans (S := nob) HFB.out HJ2.out (fun _ x => x.elim)
        obtain ⟨g2, r2, cp2, he2, hle2, _, _, hd0⟩ := (HAA.out.frame (fun g _ hl => hfw.blk g hl (fun x => x.elim))).cell (by omega)
        injection he2 with he3 he4 he5
        subst he3 he5
        clear he4
        have hv : args[j]? = some (args[j]'(by rw [HNA.out]; exact hjl)) := List.getElem?_eq_getElem _
        have hmem : args[j]'(by rw [HNA.out]; exact hjl) ∈ args := List.getElem_mem _
        generalize args[j]'(by rw [HNA.out]; exact hjl) = g1 at hv hmem
        obtain ⟨d, hrd, hyc⟩ := HAL.out.get (fun _ _ h => h.len) hv
        cases hrd with
        | mk f dc v1 hrv =>
         obtain ⟨kk, bb, ii, tt, e0, l0, z0, rfl⟩ := rdv_shape hrv
         have y0 : wr.cell? ⟨g2, r2 + j * 6, none⟩ = some (.bool f) := by rw [show r2 + j * 6 = r2 + (j * 6 + 0) from rfl]; exact hd0 _ _ (hyc 0 (by omega))
         have y1 : wr.cell? ⟨g2, r2 + j * 6 + 1, none⟩ = some (.int .i64 kk) := by rw [Nat.add_assoc]; exact hd0 _ _ (hyc 1 (by omega))
         have y2 : wr.cell? ⟨g2, r2 + j * 6 + 2, none⟩ = some (.bool bb) := by rw [Nat.add_assoc]; exact hd0 _ _ (hyc 2 (by omega))
         have y3 : wr.cell? ⟨g2, r2 + j * 6 + 3, none⟩ = some (.int .i64 ii) := by rw [Nat.add_assoc]; exact hd0 _ _ (hyc 3 (by omega))
         have y4 : wr.cell? ⟨g2, r2 + j * 6 + 4, none⟩ = some (.string tt) := by rw [Nat.add_assoc]; exact hd0 _ _ (hyc 4 (by omega))
         have y5 : wr.cell? ⟨g2, r2 + j * 6 + 5, none⟩ = some (.slice e0 l0 z0) := by rw [Nat.add_assoc]; exact hd0 _ _ (hyc 5 (by omega))
         have hdp := deep_any v1 (HPO.out.sh.args.2 _ hmem) 0 (wr.alloc (.cells #[.bool f, .int .i64 kk, .bool bb, .int .i64 ii, .string tt, .slice e0 l0 z0] 66)) F _ (by omega) (hrv.frame (fun g _ hl => (hfw.alloc _).blk g hl (fun x => x.elim)))
         unfold DepC at hdp
         rw [HPO.out.d2 _ hmem] at hdp
         have HDP : Hid (Calls Tryz.prog 22 #[.agg #[.int .i64 kk, .bool bb, .int .i64 ii, .string tt, .slice e0 l0 z0], .int .i64 0] (wr.alloc (.cells #[.bool f, .int .i64 kk, .bool bb, .int .i64 ii, .string tt, .slice e0 l0 z0] 66)) fun e w' => e = .returned (.bool true) ∧ FP nob (wr.alloc (.cells #[.bool f, .int .i64 kk, .bool bb, .int .i64 ii, .string tt, .slice e0 l0 z0] 66)) w') := Lib.hid hdp
         clear hdp hrv hyc hd0 hfw hv hmem
         go_wp2_with fail
         refine HDP.out.mono ?_
         rintro e w2 ⟨rfl, f2⟩
         have HJ' : Hid (FP nob wb w2) := Lib.hid (FP.trans (S := nob) (HJ2.out.alloc _) f2 (fun _ x => x.elim))
         clear f2
         go_wp2_with fail
         go_roundg (na - (j + 1) + 1)
         case measure => omega
         case rel => exact ⟨j + 1, rfl, by omega, by omega, hj5, HJ'⟩
       ·have hji1 : ¬ (j : Int) < (na : Int) := by omega
        clear hj hjm
        have u0' : wr.cell? ⟨wo.heap.size, 0, none⟩ = some (.int .i64 kd) := HJ2.out.cell (cell_blk HGB.out)
        have u1' : wr.cell? ⟨wo.heap.size, 1, none⟩ = some (.string cl) := HJ2.out.cell (cell_blk HGB.out)
        have u2' : wr.cell? ⟨wo.heap.size, 2, none⟩ = some (.slice a1 ns c1) := HJ2.out.cell (cell_blk HGB.out)
        have u3' : wr.cell? ⟨wo.heap.size, 3, none⟩ = some (.int .i64 hd) := HJ2.out.cell (cell_blk HGB.out)
        have u4' : wr.cell? ⟨wo.heap.size, 4, none⟩ = some (.string tx) := HJ2.out.cell (cell_blk HGB.out)
        have u5' : wr.cell? ⟨wo.heap.size, 5, none⟩ = some (.bool on) := HJ2.out.cell (cell_blk HGB.out)
        have u6' : wr.cell? ⟨wo.heap.size, 6, none⟩ = some (.int .i64 nn) := HJ2.out.cell (cell_blk HGB.out)
        have u7' : wr.cell? ⟨wo.heap.size, 7, none⟩ = some (.slice a2 na c2) := HJ2.out.cell (cell_blk HGB.out)
        have hfw : FP nob w wr := FP.trans (S := nob) HFB.out HJ2.out (fun _ x => x.elim)
        have HSP := Lib.hid (spelled_any (RdOp.trans' (fun g hg hl => ⟨hfw.blk g hl (fun x => x.elim), hg⟩) HRC'.out) HPO'.out.sp (HLB.out.fp hfw (fun _ x => x.elim)))
        have HFW := Lib.hid hfw
        clear hfw
        go_wp2_with fail
        refine HSP.out.mono ?_
        rintro e w2 ⟨v2, ts, rfl, hr2, hx2, f2⟩
        have hts : ts ≠ [] := fun e => HPO'.out.ne (by rw [← hx2, e]; rfl)
        have htl : ts.length ≤ 1000000000000 := by
         have h1 := congrArg List.length hx2
         rw [List.length_map] at h1
         have h2 := joinSp_count (spellB o)
         have h3 : (joinSp (spellB o)).length ≤ 65536 := HPO'.out.len
         omega
        have hjn := join_row hr2 hts htl (by rw [hx2]; exact Nat.le_trans HPO'.out.len (by decide))
        rw [hx2] at hjn
        obtain ⟨sv, hsv⟩ : ∃ sv, mk (lineG o) = sv := ⟨_, rfl⟩
        have hjn : Calls Tryz.prog 23 #[v2, .string ⟨#[32]⟩] w2 fun e w' => e = .returned (.string sv) ∧ FP nob w2 w' := by rw [← hsv]; exact hjn
        have HJN := Lib.hid hjn
        have hsd : sv.data.toList = lineG o := by rw [← hsv]
        have hss : sv.size ≤ 65536 := by have := HPO'.out.len; rw [← hsd] at this; exact this
        have HSD := Lib.hid hsd
        have HF2 : Hid (FP nob wb w2) := Lib.hid (FP.trans (S := nob) HJ2.out f2 (fun _ x => x.elim))
        clear hr2 hx2 f2 hts htl hjn hsv hsd
        go_wp2_with fail
        refine HJN.out.mono ?_
        rintro e w3 ⟨rfl, f3⟩
        have HF3 : Hid (FP nob wb w3) := Lib.hid (FP.trans (S := nob) HF2.out f3 (fun _ x => x.elim))
        have hlw : LibOk w3 := HLB.out.fp (FP.trans (S := nob) HFB.out HF3.out (fun _ x => x.elim)) (fun _ x => x.elim)
        have hla := line_any (w := w3) (s := sv) (by omega) hlw
        rw [HSD.out, HPO'.out.ln] at hla
        have HLA := Lib.hid hla
        clear f3 hlw hla
        go_wp2_with fail
        refine HLA.out.mono ?_
        rintro e w4 ⟨f4, c4, rfl, hr4⟩
        obtain ⟨kk, cl4, a4, n4, s4, hh4, t4, on4, nn4, a5, n5, s5, rfl⟩ := rdop_shape hr4
        have HF4 : Hid (FP nob wb w4) := Lib.hid (FP.trans (S := nob) HF3.out f4 (fun _ x => x.elim))
        have HR4 := Lib.hid hr4
        clear f4 hr4
        have hco : ∀ W, Calls Tryz.prog 26 #[.string sv, .string ⟨#[10]⟩] W fun e w' => e = .returned (.bool false) ∧ w' = W := fun W => by
         have := Tryz.strings_Contains_one sv 10 W
         rw [HSD.out, no10 HPO'.out.nl] at this
         exact this
        have HCO := Lib.hid hco
        have hfx : FP nob w (w4.alloc (.cells #[.int .i64 kk, .string cl4, .slice a4 n4 s4, .int .i64 hh4, .string t4, .bool on4, .int .i64 nn4, .slice a5 n5 s5] 58)) := FP.trans (S := nob) HFB.out (HF4.out.alloc _) (fun _ x => x.elim)
        have HSM := Lib.hid (same_ops (w := w4.alloc (.cells #[.int .i64 kk, .string cl4, .slice a4 n4 s4, .int .i64 hh4, .string t4, .bool on4, .int .i64 nn4, .slice a5 n5 s5] 58)) (RdOp.trans' (fun g hg hl => ⟨hfx.blk g hl (fun x => x.elim), hg⟩) HRC'.out) (RdOp.trans' (fun g hg hl => ⟨((FP.refl nob w4).alloc _).blk g hl (fun x => x.elim), hg⟩) HR4.out) HPO'.out.sh)
        have HQ4 := Lib.hid (HQ.out.far (FP.trans (S := nob) HFO.out (HF4.out.alloc (.cells #[.int .i64 kk, .string cl4, .slice a4 n4 s4, .int .i64 hh4, .string t4, .bool on4, .int .i64 nn4, .slice a5 n5 s5] 58)) (fun _ x => x.elim)))
        have hal' : acc.length ≤ 65536 := by rw [HA.out]; exact Nat.le_trans (linesG_take _ _) HLEN.out
        have hcat : ¬ 9223372036854775807 < sv.size + 1 := by omega
        obtain ⟨wx, hwx⟩ : ∃ wx, w4.alloc (.cells #[.int .i64 kk, .string cl4, .slice a4 n4 s4, .int .i64 hh4, .string t4, .bool on4, .int .i64 nn4, .slice a5 n5 s5] 58) = wx := ⟨_, rfl⟩
        have hx4 : FP nob w4 wx := by rw [← hwx]; exact (FP.refl nob w4).alloc _
        have hgx : wx.heap[w4.heap.size]? = some (.cells #[.int .i64 kk, .string cl4, .slice a4 n4 s4, .int .i64 hh4, .string t4, .bool on4, .int .i64 nn4, .slice a5 n5 s5] 58 (0,0)) := by rw [← hwx]; exact heap_new_at rfl _
        rw [hwx] at HSM HQ4
        have t0' : wx.cell? ⟨wo.heap.size, 0, none⟩ = some (.int .i64 kd) := hx4.cell (HF4.out.cell (cell_blk HGB.out))
        have t1' : wx.cell? ⟨wo.heap.size, 1, none⟩ = some (.string cl) := hx4.cell (HF4.out.cell (cell_blk HGB.out))
        have t2' : wx.cell? ⟨wo.heap.size, 2, none⟩ = some (.slice a1 ns c1) := hx4.cell (HF4.out.cell (cell_blk HGB.out))
        have t3' : wx.cell? ⟨wo.heap.size, 3, none⟩ = some (.int .i64 hd) := hx4.cell (HF4.out.cell (cell_blk HGB.out))
        have t4' : wx.cell? ⟨wo.heap.size, 4, none⟩ = some (.string tx) := hx4.cell (HF4.out.cell (cell_blk HGB.out))
        have t5' : wx.cell? ⟨wo.heap.size, 5, none⟩ = some (.bool on) := hx4.cell (HF4.out.cell (cell_blk HGB.out))
        have t6' : wx.cell? ⟨wo.heap.size, 6, none⟩ = some (.int .i64 nn) := hx4.cell (HF4.out.cell (cell_blk HGB.out))
        have t7' : wx.cell? ⟨wo.heap.size, 7, none⟩ = some (.slice a2 na c2) := hx4.cell (HF4.out.cell (cell_blk HGB.out))
        have b0' : wx.cell? ⟨w4.heap.size, 0, none⟩ = some (.int .i64 kk) := cell_blk hgx
        have b1' : wx.cell? ⟨w4.heap.size, 1, none⟩ = some (.string cl4) := cell_blk hgx
        have b2' : wx.cell? ⟨w4.heap.size, 2, none⟩ = some (.slice a4 n4 s4) := cell_blk hgx
        have b3' : wx.cell? ⟨w4.heap.size, 3, none⟩ = some (.int .i64 hh4) := cell_blk hgx
        have b4' : wx.cell? ⟨w4.heap.size, 4, none⟩ = some (.string t4) := cell_blk hgx
        have b5' : wx.cell? ⟨w4.heap.size, 5, none⟩ = some (.bool on4) := cell_blk hgx
        have b6' : wx.cell? ⟨w4.heap.size, 6, none⟩ = some (.int .i64 nn4) := cell_blk hgx
        have b7' : wx.cell? ⟨w4.heap.size, 7, none⟩ = some (.slice a5 n5 s5) := cell_blk hgx
        clear hco hfx hx4 hgx
        go_wp2_with fail
        refine (HCO.out _).mono ?_
        rintro e w5 ⟨rfl, rfl⟩
        go_wp2_with fail
        refine HSM.out.mono ?_
        rintro e w6 ⟨rfl, f6⟩
        have HQ6 := Lib.hid (HQ4.out.far f6)
        clear f6
        go_wp2_with fail
        have hz : acc.length + (sv ++ ⟨#[10]⟩ : ByteArray).size ≤ 140737488355328 := by
         have : (sv ++ ⟨#[10]⟩ : ByteArray).size = sv.size + 1 := by rw [ByteArray.size_append]; rfl
         omega
        have HW := qat_string HQ6.out (sv ++ ⟨#[10]⟩) hz
        refine HW.mono ?_
        rintro e w7 ⟨rfl, hq7⟩
        have HQ7 := Lib.hid hq7
        clear hq7
        go_wp2_with fail
        go_roundg (n - (k + 1) + 1)
        case measure => omega
        case rel => exact ⟨k + 1, _, rfl, by omega, by omega, hn, Lib.hid (by rw [HA.out, List.take_add_one, HV'.out, cat_data, HSD.out]; simp [linesG]), HQ7⟩
  ·have hi1 : ¬ (k : Int) < (n : Int) := by omega
   have hke : k = n := by omega
   have HKE := Lib.hid hke
   clear hke
   have hall : acc = linesG ops := by
    have := HA.out
    rwa [HKE.out, ← HN.out, List.take_length] at this
   have HALL := Lib.hid hall
   have hacl : ¬ (65536 : Int) < (acc.length : Int) := by rw [hall]; have := HLEN.out; omega
   clear hall
   go_wp2_with fail
   refine (qat_len HQ.out).mono ?_
   rintro e w2 ⟨rfl, rfl⟩
   go_wp2_with fail
   refine (Tryz.Builder_String_any B B acc _ HQ.out.bld (by have := HQ.out.siz; have := HQ.out.bel.size; omega)).mono ?_
   rintro e w3 ⟨rfl, hbel⟩
   have HBEL := Lib.hid (HQ.out.bel.trans hbel)
   clear hbel
   go_wp2_with fail
   have hb := HBEL.out
   rw [← HB.out] at hb
   exact bodyPost_ret (v := .tuple #[.string (mk acc), .int .i64 0]) (by simp [results, Tryz.results10]) rfl (And.intro (by rw [HALL.out]) (FP.ofBelow hb))
end Go.Proofs.YtnpkdiffpgcbhaaGreatDoor
namespace Go.Proofs.YtnpkdiffpgcbhaaGreatDoor
open Go.RowKit
attribute [local go_sem] Oper.semAt_some
structure PrIn (o : OpV) : Prop where
 sp : SpOk o
 sh : ShOp o
 len : (lineG o).length ≤ 16777216
def Takes (o : OpV) : Prop := (∀ g ∈ o.set, deepG 0 g.2 = true) ∧ (∀ a ∈ o.args, deepG 0 a.2 = true) ∧ lineF (lineG o) = some (some o) ∧ ∀ c ∈ lineG o, c ≠ 10
def PrintOut (ops : List OpV) (e : Ending) : Prop :=
 (ops.length ≤ 65536 ∧ (∀ o ∈ ops, Takes o) ∧ (linesG ops).length ≤ 65536 ∧ e = .returned (.tuple #[.string (mk (linesG ops)), .int .i64 0])) ∨
 (ops.length ≤ 65536 ∧ (∀ o ∈ ops, Takes o) ∧ 65536 < (linesG ops).length ∧ e = .returned (.tuple #[.string ⟨#[]⟩, .int .i64 21])) ∨
 ((65536 < ops.length ∨ ∃ o ∈ ops, ¬ Takes o) ∧ e = .returned (.tuple #[.string ⟨#[]⟩, .int .i64 1]))
def PrintPost (ops : List OpV) (w : World) (e : Ending) (w' : World) : Prop := FP nob w w' ∧ PrintOut ops e
theorem take_all {α : Type} {P : α → Prop} {l : List α} {j : Nat} {a : α} (h : l[j]? = some a) (h0 : ∀ x ∈ l.take j, P x) (ha : P a) : ∀ x ∈ l.take (j + 1), P x := by
 intro x hx
 rw [List.take_add_one, h, List.mem_append] at hx
 rcases hx with hx | hx
 ·exact h0 x hx
 ·simp at hx; subst hx; exact ha
theorem linesG_le {M : Nat} : ∀ (l : List OpV), (∀ o ∈ l, (lineG o).length ≤ M) → (linesG l).length ≤ l.length * (M + 1)
 | [], _ => Nat.zero_le _
 | o :: l, h => by
  have e : linesG (o :: l) = (lineG o ++ [10]) ++ linesG l := rfl
  have h1 := h o List.mem_cons_self
  have h2 := linesG_le l (fun x hx => h x (List.mem_cons_of_mem _ hx))
  simp only [e, List.length_append, List.length_cons, List.length_nil, Nat.succ_mul]
  omega
theorem has10 : ∀ {l : Bs}, ¬ (∀ c ∈ l, c ≠ 10) → 0 ≤ Lib.indexByte l 10
 | [], h => absurd (fun _ hc => by cases hc) h
 | b :: l, h => by
  by_cases h1 : b = 10
  ·subst h1; simp [Lib.indexByte]
  ·have h2 := has10 (l := l) (fun hl => h (fun c hc => by rcases List.mem_cons.1 hc with rfl | hc; exact h1; exact hl c hc))
   have e1 : (b == 10) = false := by simpa using h1
   have e2 : (Lib.indexByte l 10 == -1) = false := by rw [beq_eq_false_iff_ne]; omega
   simp only [Lib.indexByte, e1, e2, Bool.false_eq_true, if_false]
   omega
theorem join_rows {w : World} {base : Nat} {v : Value} {ts : List ByteArray} (h : SRow w base v ts) (hn : ts.length ≤ 1000000000000) (hl : (joinSp (ts.map (·.data.toList))).length ≤ 1099511627776) :
  Calls Tryz.prog 23 #[v, .string ⟨#[32]⟩] w fun e w' => e = .returned (.string (mk (joinSp (ts.map (·.data.toList))))) ∧ FP nob w w' := by
 by_cases h0 : ts = []
 ·subst h0
  obtain ⟨a, c, rfl⟩ : ∃ a c, v = .slice a 0 c := by
   obtain ⟨_, h1⟩ := h
   rcases h1 with ⟨rfl, _⟩ | ⟨g, cap, cur, rfl, _⟩
   ·exact ⟨_, _, rfl⟩
   ·exact ⟨_, _, rfl⟩
  refine (Tryz.strings_Join_none a c ⟨#[32]⟩ w).mono ?_
  rintro e w' ⟨rfl, rfl⟩
  exact ⟨rfl, FP.refl nob _⟩
 ·exact join_row h h0 hn hl
theorem print_gen {w : World} {F : Nat → Prop} {sl : Value} {xs : List Value} {ops : List OpV} (hs : SliceAt w F sl ops.length (ops.length * 8) xs) (hl : RdRow (RdOp w F) xs ops) (hok : ∀ o ∈ ops, PrIn o) (hlib : LibOk w) :
  Calls Tryz.prog 10 #[sl] w (PrintPost ops w) := by
 obtain ⟨a0, cap0, rfl⟩ := hs.shape
 obtain ⟨n, hnn⟩ : ∃ n, ops.length = n := ⟨_, rfl⟩
 rw [hnn] at hs ⊢
 by_cases hn : n ≤ 65536
 case neg =>
  have hn' : (65536 : Int) < (n : Int) := by omega
  have HBG := Lib.hid (show 65536 < ops.length by omega)
  clear hs hl hok hlib hn hnn
  go_enter Tryz.func10, Tryz.ntmps10
  go_wp2_with fail
  exact bodyPost_ret (v := .tuple #[.string ⟨#[]⟩, .int .i64 1]) (by simp [results, Tryz.results10]) rfl ⟨FP.refl nob w, .inr (.inr ⟨.inl HBG.out, rfl⟩)⟩
 have hlen : (linesG ops).length ≤ 1099511693312 := by
  have h1 := linesG_le (M := 16777216) ops (fun o ho => (hok o ho).len)
  rw [hnn] at h1
  have h2 : n * (16777216 + 1) ≤ 65536 * (16777216 + 1) := Nat.mul_le_mul_right _ hn
  omega
 have HS := Lib.hid hs
 have HL := Lib.hid hl
 have HN := Lib.hid hnn
 have HO := Lib.hid hok
 have HLEN := Lib.hid hlen
 have HLB := Lib.hid hlib
 have hq0 : QAt w (w.alloc (.cells #[.pointer none, .slice none 0 0] 72)) w.heap.size [] := ⟨Lib.fresh_isBuilder 72 5 w, (Below.refl _ _).alloc (Nat.le_refl _) _, rfl⟩
 have HQ0 := Lib.hid hq0
 obtain ⟨B, hB⟩ : ∃ B, w.heap.size = B := ⟨_, rfl⟩
 have HB := Lib.hid hB
 have hn' : ¬ (65536 : Int) < (n : Int) := by omega
 clear hs hl hnn hok hlen hlib hq0
 go_enter Tryz.func10, Tryz.ntmps10
 go_wp2_with fail
 clear hB
 go_loopg [20] (n + 1) (fun m i wr => ∃ (k : Nat) (acc : Bs), i = .int .i64 (k : Nat) ∧ k ≤ n ∧ n - k < m ∧ n ≤ 65536 ∧ Hid (acc = linesG (ops.take k)) ∧ Hid (QAt w wr B acc) ∧ Hid (∀ o ∈ ops.take k, Takes o))
 case atStart => exact ⟨0, [], rfl, Nat.zero_le _, by omega, hn, Lib.hid rfl, by rw [← HB.out]; exact HQ0, Lib.hid (by simp)⟩
 case round =>
  obtain ⟨k, acc, rfl, hk, hm, hn, HA, HQ, HT⟩ := hrel
  obtain ⟨wo, hwo⟩ : ∃ wo, wo = wr := ⟨_, rfl⟩
  subst hwo
  by_cases hlt : k < n
  ·have hi0 : (0 : Int) ≤ (k : Int) := by omega
   have hi1 : (k : Int) < (n : Int) := by omega
   have hw1 : IntKind.i64.wrap ((k : Int) + 1) = (k : Int) + 1 := IntWalk.i64_in _ (by omega)
   have hfo := HQ.out.fp
   obtain ⟨g0, o0, cp0, he0, hle0, _, _, hc0⟩ := (HS.out.frame (fun g _ hl => hfo.blk g hl (fun x => x.elim))).cell (by omega)
   cases he0
   have hv : ops[k]? = some (ops[k]'(by rw [HN.out]; exact hlt)) := List.getElem?_eq_getElem _
   have hmem : ops[k]'(by rw [HN.out]; exact hlt) ∈ ops := List.getElem_mem _
   generalize ops[k]'(by rw [HN.out]; exact hlt) = o at hv hmem
   obtain ⟨c, hrc, hxc⟩ := HL.out.get (fun _ _ h => h.len) hv
   have HPO' := Lib.hid (HO.out o hmem)
   have HMO' := Lib.hid hmem
   have HV' := Lib.hid hv
   have HRC' := Lib.hid hrc
   clear hv hmem
   cases hrc with
   | mk kd cl ss hd tx on nn ss2 xs2 ys2 set args hss hsl haa hal =>
    obtain ⟨a1, c1, rfl⟩ := hss.shape
    obtain ⟨a2, c2, rfl⟩ := haa.shape
    obtain ⟨o, ho⟩ : ∃ o, (⟨kd, cl.data.toList, set, hd, tx.data.toList, on, nn, args⟩ : OpV) = o := ⟨_, rfl⟩
    have HPO : Hid (PrIn ⟨kd, cl.data.toList, set, hd, tx.data.toList, on, nn, args⟩) := HPO'
    have hset : o.set = set := by rw [← ho]
    have hargs : o.args = args := by rw [← ho]
    have HMO := HMO'
    rw [ho] at HPO' HV' HRC' HMO
    clear HMO'
    have HSET := Lib.hid hset
    have HARG := Lib.hid hargs
    obtain ⟨ns, hns⟩ : ∃ ns, set.length = ns := ⟨_, rfl⟩
    obtain ⟨na, hna⟩ : ∃ na, args.length = na := ⟨_, rfl⟩
    rw [hns, hna] at hxc HRC'
    have HNS := Lib.hid hns
    have HNA := Lib.hid hna
    have HSS := Lib.hid hss
    have HSL := Lib.hid hsl
    have HAA := Lib.hid haa
    have HAL := Lib.hid hal
    have hls : ns ≤ 5000 := hns ▸ HPO.out.sh.set.1
    have hla : na ≤ 5000 := hna ▸ HPO.out.sh.args.1
    rw [hns] at HSS
    rw [hna] at HAA
    have x0 : wo.cell? ⟨g0, o0 + k * 8, none⟩ = some (.int .i64 kd) := by rw [show o0 + k * 8 = o0 + (k * 8 + 0) from rfl]; exact hc0 _ _ (hxc 0 (by omega))
    have x1 : wo.cell? ⟨g0, o0 + k * 8 + 1, none⟩ = some (.string cl) := by rw [Nat.add_assoc]; exact hc0 _ _ (hxc 1 (by omega))
    have x2 : wo.cell? ⟨g0, o0 + k * 8 + 2, none⟩ = some (.slice a1 ns c1) := by rw [Nat.add_assoc]; exact hc0 _ _ (hxc 2 (by omega))
    have x3 : wo.cell? ⟨g0, o0 + k * 8 + 3, none⟩ = some (.int .i64 hd) := by rw [Nat.add_assoc]; exact hc0 _ _ (hxc 3 (by omega))
    have x4 : wo.cell? ⟨g0, o0 + k * 8 + 4, none⟩ = some (.string tx) := by rw [Nat.add_assoc]; exact hc0 _ _ (hxc 4 (by omega))
    have x5 : wo.cell? ⟨g0, o0 + k * 8 + 5, none⟩ = some (.bool on) := by rw [Nat.add_assoc]; exact hc0 _ _ (hxc 5 (by omega))
    have x6 : wo.cell? ⟨g0, o0 + k * 8 + 6, none⟩ = some (.int .i64 nn) := by rw [Nat.add_assoc]; exact hc0 _ _ (hxc 6 (by omega))
    have x7 : wo.cell? ⟨g0, o0 + k * 8 + 7, none⟩ = some (.slice a2 na c2) := by rw [Nat.add_assoc]; exact hc0 _ _ (hxc 7 (by omega))
    obtain ⟨wb, hwb⟩ : ∃ wb, wo.alloc (.cells #[.int .i64 kd, .string cl, .slice a1 ns c1, .int .i64 hd, .string tx, .bool on, .int .i64 nn, .slice a2 na c2] 58) = wb := ⟨_, rfl⟩
    have hfb : FP nob wo wb := by rw [← hwb]; exact (FP.refl nob wo).alloc _
    have hgb : wb.heap[wo.heap.size]? = some (.cells #[.int .i64 kd, .string cl, .slice a1 ns c1, .int .i64 hd, .string tx, .bool on, .int .i64 nn, .slice a2 na c2] 58 (0,0)) := by rw [← hwb]; exact heap_new_at rfl _
    have p0 : wb.cell? ⟨wo.heap.size, 0, none⟩ = some (.int .i64 kd) := cell_blk hgb
    have p1 : wb.cell? ⟨wo.heap.size, 1, none⟩ = some (.string cl) := cell_blk hgb
    have p2 : wb.cell? ⟨wo.heap.size, 2, none⟩ = some (.slice a1 ns c1) := cell_blk hgb
    have p3 : wb.cell? ⟨wo.heap.size, 3, none⟩ = some (.int .i64 hd) := cell_blk hgb
    have p4 : wb.cell? ⟨wo.heap.size, 4, none⟩ = some (.string tx) := cell_blk hgb
    have p5 : wb.cell? ⟨wo.heap.size, 5, none⟩ = some (.bool on) := cell_blk hgb
    have p6 : wb.cell? ⟨wo.heap.size, 6, none⟩ = some (.int .i64 nn) := cell_blk hgb
    have p7 : wb.cell? ⟨wo.heap.size, 7, none⟩ = some (.slice a2 na c2) := cell_blk hgb
    have HFO := Lib.hid hfb
    have HFB : Hid (FP nob w wb) := Lib.hid (FP.trans (S := nob) hfo hfb (fun _ x => x.elim))
    have HGB := Lib.hid hgb
    have HP7 := Lib.hid p7
    clear hfo hfb hgb hc0 hxc hss hsl haa hal hns hna ho hset hargs
    go_wp2_with fail
    clear x0 x1 x2 x3 x4 x5 x6 x7 p0 p1 p2 p3 p4 p5 p6 p7 hwb
    go_loopg [27] (ns + 1) (fun m i wr => ∃ (j : Nat), i = .int .i64 (j : Nat) ∧ j ≤ ns ∧ ns - j < m ∧ ns ≤ 5000 ∧ Hid (FP nob wb wr) ∧ Hid (∀ g ∈ set.take j, deepG 0 g.2 = true))
    case atStart => exact ⟨0, rfl, Nat.zero_le _, by omega, by assumption, Lib.hid (FP.refl nob wb), Lib.hid (by simp)⟩
    case round =>
     obtain ⟨j, rfl, hj, hjm, hj5, HJ1, HD1⟩ := hrel
     by_cases hjl : j < ns
     ·have hji0 : (0 : Int) ≤ (j : Int) := by omega
      have hji1 : (j : Int) < (ns : Int) := by omega
      have hjw : IntKind.i64.wrap ((j : Int) + 1) = (j : Int) + 1 := IntWalk.i64_in _ (by omega)
      have hfw : FP nob w wr := FP.trans (S := nob) HFB.out HJ1.out (fun _ x => x.elim)
      obtain ⟨g2, r2, cp2, he2, hle2, _, _, hd0⟩ := (HSS.out.frame (fun g _ hl => hfw.blk g hl (fun x => x.elim))).cell (by omega)
      injection he2 with he3 he4 he5
      subst he3 he5
      clear he4
      have hv : set[j]? = some (set[j]'(by rw [HNS.out]; exact hjl)) := List.getElem?_eq_getElem _
      have hmem : set[j]'(by rw [HNS.out]; exact hjl) ∈ set := List.getElem_mem _
      generalize set[j]'(by rw [HNS.out]; exact hjl) = g1 at hv hmem
      obtain ⟨d, hrd, hyc⟩ := HSL.out.get (fun _ _ h => h.len) hv
      cases hrd with
      | mk f dc v1 hrv =>
       obtain ⟨kk, bb, ii, tt, e0, l0, z0, rfl⟩ := rdv_shape hrv
       have y0 : wr.cell? ⟨g2, r2 + j * 6, none⟩ = some (.string f) := by rw [show r2 + j * 6 = r2 + (j * 6 + 0) from rfl]; exact hd0 _ _ (hyc 0 (by omega))
       have y1 : wr.cell? ⟨g2, r2 + j * 6 + 1, none⟩ = some (.int .i64 kk) := by rw [Nat.add_assoc]; exact hd0 _ _ (hyc 1 (by omega))
       have y2 : wr.cell? ⟨g2, r2 + j * 6 + 2, none⟩ = some (.bool bb) := by rw [Nat.add_assoc]; exact hd0 _ _ (hyc 2 (by omega))
       have y3 : wr.cell? ⟨g2, r2 + j * 6 + 3, none⟩ = some (.int .i64 ii) := by rw [Nat.add_assoc]; exact hd0 _ _ (hyc 3 (by omega))
       have y4 : wr.cell? ⟨g2, r2 + j * 6 + 4, none⟩ = some (.string tt) := by rw [Nat.add_assoc]; exact hd0 _ _ (hyc 4 (by omega))
       have y5 : wr.cell? ⟨g2, r2 + j * 6 + 5, none⟩ = some (.slice e0 l0 z0) := by rw [Nat.add_assoc]; exact hd0 _ _ (hyc 5 (by omega))
       have hdp := deep_any v1 (HPO.out.sh.set.2 _ hmem) 0 (wr.alloc (.cells #[.string f, .int .i64 kk, .bool bb, .int .i64 ii, .string tt, .slice e0 l0 z0] 54)) F _ (by omega) (hrv.frame (fun g _ hl => (hfw.alloc _).blk g hl (fun x => x.elim)))
       unfold DepC at hdp
       obtain ⟨r1, hr1⟩ : ∃ r, deepG 0 v1 = r := ⟨_, rfl⟩
       rw [hr1] at hdp
       have HR1 := Lib.hid hr1
       have HV1 := Lib.hid (And.intro hv hmem)
       clear hr1
       have HDP : Hid (Calls Tryz.prog 22 #[.agg #[.int .i64 kk, .bool bb, .int .i64 ii, .string tt, .slice e0 l0 z0], .int .i64 0] (wr.alloc (.cells #[.string f, .int .i64 kk, .bool bb, .int .i64 ii, .string tt, .slice e0 l0 z0] 54)) fun e w' => e = .returned (.bool r1) ∧ FP nob (wr.alloc (.cells #[.string f, .int .i64 kk, .bool bb, .int .i64 ii, .string tt, .slice e0 l0 z0] 54)) w') := Lib.hid hdp
       clear hdp hrv hyc hd0 hfw hv hmem
       go_wp2_with fail
       refine HDP.out.mono ?_
       rintro e w2 ⟨rfl, f2⟩
       have HJ' : Hid (FP nob wb w2) := Lib.hid (FP.trans (S := nob) (HJ1.out.alloc _) f2 (fun _ x => x.elim))
       clear f2
       cases r1 with
       | true =>
        go_wp2_with fail
        go_roundg (ns - (j + 1) + 1)
        case measure => omega
        case rel => exact ⟨j + 1, rfl, by omega, by omega, hj5, HJ', Lib.hid (take_all HV1.out.1 HD1.out HR1.out)⟩
       | false =>
        go_wp2_with fail
        refine bodyPost_ret (v := .tuple #[.string ⟨#[]⟩, .int .i64 1]) (by simp [results, Tryz.results10]) rfl ⟨FP.trans (S := nob) HFB.out HJ'.out (fun _ x => x.elim), .inr (.inr ⟨.inr ⟨_, HMO.out, fun tk => ?_⟩, rfl⟩)⟩
        have h0 := tk.1 _ (by rw [HSET.out]; exact HV1.out.2)
        rw [HR1.out] at h0
        cases h0
     ·have hji1 : ¬ (j : Int) < (ns : Int) := by omega
      have hsa : ∀ g ∈ set, deepG 0 g.2 = true := by
       have he : j = ns := by omega
       have h := HD1.out
       rwa [he, ← HNS.out, List.take_length] at h
      have HSA := Lib.hid hsa
      clear hsa HD1
      clear hj hjm
      have q7 := HJ1.out.cell HP7.out
      go_wp2_with fail
      go_loopg [39] (na + 1) (fun m i wr => ∃ (j : Nat), i = .int .i64 (j : Nat) ∧ j ≤ na ∧ na - j < m ∧ na ≤ 5000 ∧ Hid (FP nob wb wr) ∧ Hid (∀ g ∈ set, deepG 0 g.2 = true) ∧ Hid (∀ g ∈ args.take j, deepG 0 g.2 = true))
      case atStart => exact ⟨0, rfl, Nat.zero_le _, by omega, by assumption, HJ1, HSA, Lib.hid (by simp)⟩
      case round =>
       clear HSA
       obtain ⟨j, rfl, hj, hjm, hj5, HJ2, HSA, HD2⟩ := hrel
       by_cases hjl : j < na
       ·have hji0 : (0 : Int) ≤ (j : Int) := by omega
        have hji1 : (j : Int) < (na : Int) := by omega
        have hjw : IntKind.i64.wrap ((j : Int) + 1) = (j : Int) + 1 := IntWalk.i64_in _ (by omega)
        have hfw : FP nob w wr := FP.trans (S := nob) HFB.out HJ2.out (fun _ x => x.elim)
        obtain ⟨g2, r2, cp2, he2, hle2, _, _, hd0⟩ := (HAA.out.frame (fun g _ hl => hfw.blk g hl (fun x => x.elim))).cell (by omega)
        injection he2 with he3 he4 he5
        subst he3 he5
        clear he4
        have hv : args[j]? = some (args[j]'(by rw [HNA.out]; exact hjl)) := List.getElem?_eq_getElem _
        have hmem : args[j]'(by rw [HNA.out]; exact hjl) ∈ args := List.getElem_mem _
        generalize args[j]'(by rw [HNA.out]; exact hjl) = g1 at hv hmem
        obtain ⟨d, hrd, hyc⟩ := HAL.out.get (fun _ _ h => h.len) hv
        cases hrd with
        | mk f dc v1 hrv =>
         obtain ⟨kk, bb, ii, tt, e0, l0, z0, rfl⟩ := rdv_shape hrv
         have y0 : wr.cell? ⟨g2, r2 + j * 6, none⟩ = some (.bool f) := by rw [show r2 + j * 6 = r2 + (j * 6 + 0) from rfl]; exact hd0 _ _ (hyc 0 (by omega))
         have y1 : wr.cell? ⟨g2, r2 + j * 6 + 1, none⟩ = some (.int .i64 kk) := by rw [Nat.add_assoc]; exact hd0 _ _ (hyc 1 (by omega))
         have y2 : wr.cell? ⟨g2, r2 + j * 6 + 2, none⟩ = some (.bool bb) := by rw [Nat.add_assoc]; exact hd0 _ _ (hyc 2 (by omega))
         have y3 : wr.cell? ⟨g2, r2 + j * 6 + 3, none⟩ = some (.int .i64 ii) := by rw [Nat.add_assoc]; exact hd0 _ _ (hyc 3 (by omega))
         have y4 : wr.cell? ⟨g2, r2 + j * 6 + 4, none⟩ = some (.string tt) := by rw [Nat.add_assoc]; exact hd0 _ _ (hyc 4 (by omega))
         have y5 : wr.cell? ⟨g2, r2 + j * 6 + 5, none⟩ = some (.slice e0 l0 z0) := by rw [Nat.add_assoc]; exact hd0 _ _ (hyc 5 (by omega))
         have hdp := deep_any v1 (HPO.out.sh.args.2 _ hmem) 0 (wr.alloc (.cells #[.bool f, .int .i64 kk, .bool bb, .int .i64 ii, .string tt, .slice e0 l0 z0] 66)) F _ (by omega) (hrv.frame (fun g _ hl => (hfw.alloc _).blk g hl (fun x => x.elim)))
         unfold DepC at hdp
         obtain ⟨r1, hr1⟩ : ∃ r, deepG 0 v1 = r := ⟨_, rfl⟩
         rw [hr1] at hdp
         have HR1 := Lib.hid hr1
         have HV1 := Lib.hid (And.intro hv hmem)
         clear hr1
         have HDP : Hid (Calls Tryz.prog 22 #[.agg #[.int .i64 kk, .bool bb, .int .i64 ii, .string tt, .slice e0 l0 z0], .int .i64 0] (wr.alloc (.cells #[.bool f, .int .i64 kk, .bool bb, .int .i64 ii, .string tt, .slice e0 l0 z0] 66)) fun e w' => e = .returned (.bool r1) ∧ FP nob (wr.alloc (.cells #[.bool f, .int .i64 kk, .bool bb, .int .i64 ii, .string tt, .slice e0 l0 z0] 66)) w') := Lib.hid hdp
         clear hdp hrv hyc hd0 hfw hv hmem
         go_wp2_with fail
         refine HDP.out.mono ?_
         rintro e w2 ⟨rfl, f2⟩
         have HJ' : Hid (FP nob wb w2) := Lib.hid (FP.trans (S := nob) (HJ2.out.alloc _) f2 (fun _ x => x.elim))
         clear f2
         cases r1 with
         | true =>
          go_wp2_with fail
          go_roundg (na - (j + 1) + 1)
          case measure => omega
          case rel => exact ⟨j + 1, rfl, by omega, by omega, hj5, HJ', HSA, Lib.hid (take_all HV1.out.1 HD2.out HR1.out)⟩
         | false =>
          go_wp2_with fail
          refine bodyPost_ret (v := .tuple #[.string ⟨#[]⟩, .int .i64 1]) (by simp [results, Tryz.results10]) rfl ⟨FP.trans (S := nob) HFB.out HJ'.out (fun _ x => x.elim), .inr (.inr ⟨.inr ⟨_, HMO.out, fun tk => ?_⟩, rfl⟩)⟩
          have h0 := tk.2.1 _ (by rw [HARG.out]; exact HV1.out.2)
          rw [HR1.out] at h0
          cases h0
       ·have hji1 : ¬ (j : Int) < (na : Int) := by omega
        have hsb : ∀ g ∈ args, deepG 0 g.2 = true := by
         have he : j = na := by omega
         have h := HD2.out
         rwa [he, ← HNA.out, List.take_length] at h
        have HSB := Lib.hid hsb
        clear hsb HD2
        clear hj hjm
        have u0' : wr.cell? ⟨wo.heap.size, 0, none⟩ = some (.int .i64 kd) := HJ2.out.cell (cell_blk HGB.out)
        have u1' : wr.cell? ⟨wo.heap.size, 1, none⟩ = some (.string cl) := HJ2.out.cell (cell_blk HGB.out)
        have u2' : wr.cell? ⟨wo.heap.size, 2, none⟩ = some (.slice a1 ns c1) := HJ2.out.cell (cell_blk HGB.out)
        have u3' : wr.cell? ⟨wo.heap.size, 3, none⟩ = some (.int .i64 hd) := HJ2.out.cell (cell_blk HGB.out)
        have u4' : wr.cell? ⟨wo.heap.size, 4, none⟩ = some (.string tx) := HJ2.out.cell (cell_blk HGB.out)
        have u5' : wr.cell? ⟨wo.heap.size, 5, none⟩ = some (.bool on) := HJ2.out.cell (cell_blk HGB.out)
        have u6' : wr.cell? ⟨wo.heap.size, 6, none⟩ = some (.int .i64 nn) := HJ2.out.cell (cell_blk HGB.out)
        have u7' : wr.cell? ⟨wo.heap.size, 7, none⟩ = some (.slice a2 na c2) := HJ2.out.cell (cell_blk HGB.out)
        have hfw : FP nob w wr := FP.trans (S := nob) HFB.out HJ2.out (fun _ x => x.elim)
        have HSP := Lib.hid (spelled_any (RdOp.trans' (fun g hg hl => ⟨hfw.blk g hl (fun x => x.elim), hg⟩) HRC'.out) HPO'.out.sp (HLB.out.fp hfw (fun _ x => x.elim)))
        have HFW := Lib.hid hfw
        clear hfw
        go_wp2_with fail
        refine HSP.out.mono ?_
        rintro e w2 ⟨v2, ts, rfl, hr2, hx2, f2⟩
        have htl : ts.length ≤ 1000000000000 := by
         have h1 := congrArg List.length hx2
         rw [List.length_map] at h1
         have h2 := joinSp_count (spellB o)
         have h3 : (joinSp (spellB o)).length ≤ 16777216 := HPO'.out.len
         omega
        have hjn := join_rows hr2 htl (by rw [hx2]; exact Nat.le_trans HPO'.out.len (by decide))
        rw [hx2] at hjn
        obtain ⟨sv, hsv⟩ : ∃ sv, mk (lineG o) = sv := ⟨_, rfl⟩
        have hjn : Calls Tryz.prog 23 #[v2, .string ⟨#[32]⟩] w2 fun e w' => e = .returned (.string sv) ∧ FP nob w2 w' := by rw [← hsv]; exact hjn
        have HJN := Lib.hid hjn
        have hsd : sv.data.toList = lineG o := by rw [← hsv]
        have hss : sv.size ≤ 16777216 := by have := HPO'.out.len; rw [← hsd] at this; exact this
        have HSD := Lib.hid hsd
        have HF2 : Hid (FP nob wb w2) := Lib.hid (FP.trans (S := nob) HJ2.out f2 (fun _ x => x.elim))
        clear hr2 hx2 f2 htl hjn hsv hsd
        go_wp2_with fail
        refine HJN.out.mono ?_
        rintro e w3 ⟨rfl, f3⟩
        have HF3 : Hid (FP nob wb w3) := Lib.hid (FP.trans (S := nob) HF2.out f3 (fun _ x => x.elim))
        have hlw : LibOk w3 := HLB.out.fp (FP.trans (S := nob) HFB.out HF3.out (fun _ x => x.elim)) (fun _ x => x.elim)
        have hla := line_any (w := w3) (s := sv) (by omega) hlw
        rw [HSD.out] at hla
        obtain ⟨res, hres⟩ : ∃ r, lineF (lineG o) = r := ⟨_, rfl⟩
        rw [hres] at hla
        have HRES := Lib.hid hres
        clear hres
        have HLA := Lib.hid hla
        clear f3 hlw hla
        go_wp2_with fail
        rcases res with _ | _ | back
        case none =>
         refine HLA.out.mono ?_
         rintro e w4 ⟨f4, rfl⟩
         have HF4 : Hid (FP nob w w4) := Lib.hid (FP.trans (S := nob) (FP.trans (S := nob) HFB.out HF3.out (fun _ x => x.elim)) f4 (fun _ x => x.elim))
         clear f4
         go_wp2_with fail
         refine bodyPost_ret (v := .tuple #[.string ⟨#[]⟩, .int .i64 1]) (by simp [results, Tryz.results10]) rfl ⟨by first | exact HF4.out | exact HF4.out.alloc _, .inr (.inr ⟨.inr ⟨_, HMO.out, fun tk => ?_⟩, rfl⟩)⟩
         have h0 := tk.2.2.1
         rw [HRES.out] at h0
         cases h0
        case some.none =>
         refine HLA.out.mono ?_
         rintro e w4 ⟨f4, rfl⟩
         have HF4 : Hid (FP nob w w4) := Lib.hid (FP.trans (S := nob) (FP.trans (S := nob) HFB.out HF3.out (fun _ x => x.elim)) f4 (fun _ x => x.elim))
         clear f4
         go_wp2_with fail
         refine bodyPost_ret (v := .tuple #[.string ⟨#[]⟩, .int .i64 1]) (by simp [results, Tryz.results10]) rfl ⟨by first | exact HF4.out | exact HF4.out.alloc _, .inr (.inr ⟨.inr ⟨_, HMO.out, fun tk => ?_⟩, rfl⟩)⟩
         have h0 := tk.2.2.1
         rw [HRES.out] at h0
         cases h0
        refine HLA.out.mono ?_
        rintro e w4 ⟨f4, c4, rfl, hr4⟩
        obtain ⟨kk, cl4, a4, n4, s4, hh4, t4, on4, nn4, a5, n5, s5, rfl⟩ := rdop_shape hr4
        have HF4 : Hid (FP nob wb w4) := Lib.hid (FP.trans (S := nob) HF3.out f4 (fun _ x => x.elim))
        have HR4 := Lib.hid hr4
        clear f4 hr4
        obtain ⟨rn, hrn⟩ : ∃ r, decide (0 ≤ Lib.indexByte (lineG o) 10) = r := ⟨_, rfl⟩
        have hco : ∀ W, Calls Tryz.prog 26 #[.string sv, .string ⟨#[10]⟩] W fun e w' => e = .returned (.bool rn) ∧ w' = W := fun W => by
         have := Tryz.strings_Contains_one sv 10 W
         rw [HSD.out, hrn] at this
         exact this
        have HRN := Lib.hid hrn
        clear hrn
        have HCO := Lib.hid hco
        have hfx : FP nob w (w4.alloc (.cells #[.int .i64 kk, .string cl4, .slice a4 n4 s4, .int .i64 hh4, .string t4, .bool on4, .int .i64 nn4, .slice a5 n5 s5] 58)) := FP.trans (S := nob) HFB.out (HF4.out.alloc _) (fun _ x => x.elim)
        have HSM := Lib.hid (same_gen (w := w4.alloc (.cells #[.int .i64 kk, .string cl4, .slice a4 n4 s4, .int .i64 hh4, .string t4, .bool on4, .int .i64 nn4, .slice a5 n5 s5] 58)) (RdOp.trans' (fun g hg hl => ⟨hfx.blk g hl (fun x => x.elim), hg⟩) HRC'.out) (RdOp.trans' (fun g hg hl => ⟨((FP.refl nob w4).alloc _).blk g hl (fun x => x.elim), hg⟩) HR4.out) HPO'.out.sh)
        have HQ4 := Lib.hid (HQ.out.far (FP.trans (S := nob) HFO.out (HF4.out.alloc (.cells #[.int .i64 kk, .string cl4, .slice a4 n4 s4, .int .i64 hh4, .string t4, .bool on4, .int .i64 nn4, .slice a5 n5 s5] 58)) (fun _ x => x.elim)))
        have hal' : acc.length ≤ 1099511693312 := by rw [HA.out]; exact Nat.le_trans (linesG_take _ _) HLEN.out
        have hcat : ¬ 9223372036854775807 < sv.size + 1 := by omega
        obtain ⟨wx, hwx⟩ : ∃ wx, w4.alloc (.cells #[.int .i64 kk, .string cl4, .slice a4 n4 s4, .int .i64 hh4, .string t4, .bool on4, .int .i64 nn4, .slice a5 n5 s5] 58) = wx := ⟨_, rfl⟩
        have hx4 : FP nob w4 wx := by rw [← hwx]; exact (FP.refl nob w4).alloc _
        have hgx : wx.heap[w4.heap.size]? = some (.cells #[.int .i64 kk, .string cl4, .slice a4 n4 s4, .int .i64 hh4, .string t4, .bool on4, .int .i64 nn4, .slice a5 n5 s5] 58 (0,0)) := by rw [← hwx]; exact heap_new_at rfl _
        rw [hwx] at HSM HQ4
        have HFX : Hid (FP nob w wx) := Lib.hid (hwx ▸ hfx)
        have t0' : wx.cell? ⟨wo.heap.size, 0, none⟩ = some (.int .i64 kd) := hx4.cell (HF4.out.cell (cell_blk HGB.out))
        have t1' : wx.cell? ⟨wo.heap.size, 1, none⟩ = some (.string cl) := hx4.cell (HF4.out.cell (cell_blk HGB.out))
        have t2' : wx.cell? ⟨wo.heap.size, 2, none⟩ = some (.slice a1 ns c1) := hx4.cell (HF4.out.cell (cell_blk HGB.out))
        have t3' : wx.cell? ⟨wo.heap.size, 3, none⟩ = some (.int .i64 hd) := hx4.cell (HF4.out.cell (cell_blk HGB.out))
        have t4' : wx.cell? ⟨wo.heap.size, 4, none⟩ = some (.string tx) := hx4.cell (HF4.out.cell (cell_blk HGB.out))
        have t5' : wx.cell? ⟨wo.heap.size, 5, none⟩ = some (.bool on) := hx4.cell (HF4.out.cell (cell_blk HGB.out))
        have t6' : wx.cell? ⟨wo.heap.size, 6, none⟩ = some (.int .i64 nn) := hx4.cell (HF4.out.cell (cell_blk HGB.out))
        have t7' : wx.cell? ⟨wo.heap.size, 7, none⟩ = some (.slice a2 na c2) := hx4.cell (HF4.out.cell (cell_blk HGB.out))
        have b0' : wx.cell? ⟨w4.heap.size, 0, none⟩ = some (.int .i64 kk) := cell_blk hgx
        have b1' : wx.cell? ⟨w4.heap.size, 1, none⟩ = some (.string cl4) := cell_blk hgx
        have b2' : wx.cell? ⟨w4.heap.size, 2, none⟩ = some (.slice a4 n4 s4) := cell_blk hgx
        have b3' : wx.cell? ⟨w4.heap.size, 3, none⟩ = some (.int .i64 hh4) := cell_blk hgx
        have b4' : wx.cell? ⟨w4.heap.size, 4, none⟩ = some (.string t4) := cell_blk hgx
        have b5' : wx.cell? ⟨w4.heap.size, 5, none⟩ = some (.bool on4) := cell_blk hgx
        have b6' : wx.cell? ⟨w4.heap.size, 6, none⟩ = some (.int .i64 nn4) := cell_blk hgx
        have b7' : wx.cell? ⟨w4.heap.size, 7, none⟩ = some (.slice a5 n5 s5) := cell_blk hgx
        clear hco hfx hx4 hgx
        go_wp2_with fail
        refine (HCO.out _).mono ?_
        rintro e w5 ⟨rfl, rfl⟩
        cases rn
        case true =>
         go_wp2_with fail
         refine bodyPost_ret (v := .tuple #[.string ⟨#[]⟩, .int .i64 1]) (by simp [results, Tryz.results10]) rfl ⟨by first | exact HFX.out | exact HFX.out.alloc _, .inr (.inr ⟨.inr ⟨_, HMO.out, fun tk => ?_⟩, rfl⟩)⟩
         have h0 := no10 tk.2.2.2
         have h1 := of_decide_eq_true HRN.out
         omega
        obtain ⟨rs, hrs⟩ : ∃ r, eqO o back = r := ⟨_, rfl⟩
        rw [hrs] at HSM
        have HRS := Lib.hid hrs
        clear hrs
        go_wp2_with fail
        refine HSM.out.mono ?_
        rintro e w6 ⟨rfl, f6⟩
        cases rs
        case false =>
         have HF6 : Hid (FP nob w w6) := Lib.hid (FP.trans (S := nob) HFX.out f6 (fun _ x => x.elim))
         clear f6
         go_wp2_with fail
         refine bodyPost_ret (v := .tuple #[.string ⟨#[]⟩, .int .i64 1]) (by simp [results, Tryz.results10]) rfl ⟨HF6.out, .inr (.inr ⟨.inr ⟨_, HMO.out, fun tk => ?_⟩, rfl⟩)⟩
         have h0 := tk.2.2.1
         rw [HRES.out] at h0
         injection h0 with h0
         injection h0 with h0
         have h1 := (eqO_iff o back).2 h0.symm
         rw [HRS.out] at h1
         cases h1
        have HQ6 := Lib.hid (HQ4.out.far f6)
        clear f6
        go_wp2_with fail
        have hz : acc.length + (sv ++ ⟨#[10]⟩ : ByteArray).size ≤ 140737488355328 := by
         have : (sv ++ ⟨#[10]⟩ : ByteArray).size = sv.size + 1 := by rw [ByteArray.size_append]; rfl
         omega
        have HW := qat_string HQ6.out (sv ++ ⟨#[10]⟩) hz
        refine HW.mono ?_
        rintro e w7 ⟨rfl, hq7⟩
        have HQ7 := Lib.hid hq7
        clear hq7
        go_wp2_with fail
        go_roundg (n - (k + 1) + 1)
        case measure => omega
        case rel => exact ⟨k + 1, _, rfl, by omega, by omega, hn, Lib.hid (by rw [HA.out, List.take_add_one, HV'.out, cat_data, HSD.out]; simp [linesG]), HQ7, Lib.hid (take_all HV'.out HT.out ⟨by rw [HSET.out]; exact HSA.out, by rw [HARG.out]; exact HSB.out, by rw [HRES.out, (eqO_iff o back).1 HRS.out], fun c hc e => by have h1 := of_decide_eq_false HRN.out; exact h1 (has10 (fun h => h c hc e))⟩)⟩
  ·have hi1 : ¬ (k : Int) < (n : Int) := by omega
   have hke : k = n := by omega
   have HKE := Lib.hid hke
   clear hke
   have hall : acc = linesG ops := by
    have := HA.out
    rwa [HKE.out, ← HN.out, List.take_length] at this
   have HALL := Lib.hid hall
   have hta : ∀ o ∈ ops, Takes o := by
    have := HT.out
    rwa [HKE.out, ← HN.out, List.take_length] at this
   have HTA := Lib.hid hta
   have HNL : Hid (ops.length ≤ 65536) := Lib.hid (by rw [HN.out]; exact hn)
   clear hta
   by_cases hac : acc.length ≤ 65536
   ·have hacl : ¬ (65536 : Int) < (acc.length : Int) := by omega
    have HAC := Lib.hid hac
    clear hall hac
    go_wp2_with fail
    refine (qat_len HQ.out).mono ?_
    rintro e w2 ⟨rfl, rfl⟩
    go_wp2_with fail
    refine (Tryz.Builder_String_any B B acc _ HQ.out.bld (by have := HQ.out.siz; have := HQ.out.bel.size; omega)).mono ?_
    rintro e w3 ⟨rfl, hbel⟩
    have HBEL := Lib.hid (HQ.out.bel.trans hbel)
    clear hbel
    go_wp2_with fail
    have hb := HBEL.out
    rw [← HB.out] at hb
    exact bodyPost_ret (v := .tuple #[.string (mk acc), .int .i64 0]) (by simp [results, Tryz.results10]) rfl ⟨FP.ofBelow hb, .inl ⟨HNL.out, HTA.out, by rw [← HALL.out]; exact HAC.out, by rw [HALL.out]⟩⟩
   ·have hacl : (65536 : Int) < (acc.length : Int) := by omega
    have HAC := Lib.hid (Nat.lt_of_not_le hac)
    clear hall hac
    go_wp2_with fail
    refine (qat_len HQ.out).mono ?_
    rintro e w2 ⟨rfl, rfl⟩
    go_wp2_with fail
    exact bodyPost_ret (v := .tuple #[.string ⟨#[]⟩, .int .i64 21]) (by simp [results, Tryz.results10]) rfl ⟨HQ.out.fp, .inr (.inl ⟨HNL.out, HTA.out, by rw [← HALL.out]; exact HAC.out, rfl⟩)⟩
theorem takes_iff {o : OpV} : Takes o ↔ Read o := by
 constructor
 ·intro h
  exact (lineF_read h.2.2.1).1
 ·intro h
  have h1 := takes_read.2 h
  have hk := h.ok
  refine ⟨?_, ?_, h1.2.2.1, h1.2.2.2⟩
  ·intro g hg
   cases hk with
   | insert c l _ hs => exact deepG_ok (hs g hg).2 0 (by decide)
   | update n l _ hs => exact deepG_ok (hs g hg).2 0 (by decide)
   | _ => cases hg
  ·intro a ha
   cases hk with
   | query q l _ hs =>
    rcases hs a ha with ⟨_, h2⟩ | rfl
    ·exact deepG_ok h2 0 (by decide)
    ·exact deepG_ok (.null 0) 0 (by decide)
   | _ => cases ha
end Go.Proofs.YtnpkdiffpgcbhaaGreatDoor
namespace Go.Proofs.YtnpkdiffpgcbhaaGreatDoor
open Go.RowKit
attribute [local go_sem] Oper.semAt_some
def gList : GV → List GV
 | .mk _ _ _ _ l => l
def gText : GV → Bs
 | .mk _ _ _ t _ => t
def sizeN : Nat → List GV → Nat
 | 0, _ => 1048576
 | f + 1, l => (l.map fun v => 1 + (gText v).length / 64 + sizeN f (gList v)).sum
def bulkG : GV → Nat
 | .mk _ _ _ t l => 2 + t.length + (l.attach.map fun x => bulkG x.1).sum
decreasing_by
 all_goals simp_wf
 have := List.sizeOf_lt_of_mem x.2
 omega
def bulkL (l : List GV) : Nat := (l.map bulkG).sum
theorem bulkG_mk (k : Int) (b : Bool) (i : Int) (t : Bs) (l : List GV) : bulkG (.mk k b i t l) = 2 + t.length + bulkL l := by
 rw [bulkG, bulkL, attach_map l bulkG]
theorem le_sum {l : List Nat} {x : Nat} (h : x ∈ l) : x ≤ l.sum := by
 induction l with
 | nil => cases h
 | cons a l ih =>
  rw [List.sum_cons]
  rcases List.mem_cons.1 h with rfl | h
  ·omega
  ·have := ih h; omega
theorem bulk_mem {l : List GV} {v : GV} (h : v ∈ l) : bulkG v ≤ bulkL l := le_sum (List.mem_map_of_mem h)
theorem bulk_two (v : GV) : 2 + (gText v).length + bulkL (gList v) = bulkG v := by
 cases v with
 | mk k b i t l => rw [bulkG_mk]; rfl
theorem bulk_len (l : List GV) : 2 * l.length ≤ bulkL l := by
 induction l with
 | nil => exact Nat.zero_le _
 | cons v l ih =>
  have e : bulkL (v :: l) = bulkG v + bulkL l := rfl
  have := bulk_two v
  rw [e, List.length_cons]
  omega
theorem size_bulk (f : Nat) : ∀ l, sizeN f l ≤ 1048576 * (1 + bulkL l) := by
 induction f with
 | zero => intro l; show 1048576 ≤ _; omega
 | succ f ih =>
  intro l
  show (l.map fun v => 1 + (gText v).length / 64 + sizeN f (gList v)).sum ≤ _
  induction l with
  | nil => exact Nat.zero_le _
  | cons v l ih2 =>
   have e : bulkL (v :: l) = bulkG v + bulkL l := rfl
   have h1 := bulk_two v
   have h2 := ih (gList v)
   rw [List.map_cons, List.sum_cons, e]
   omega
theorem sum_take {α : Type} (g : α → Nat) : ∀ {l : List α} {k : Nat} {a : α}, l[k]? = some a → ((l.take (k + 1)).map g).sum = ((l.take k).map g).sum + g a ∧ ((l.take (k + 1)).map g).sum ≤ (l.map g).sum := by
 intro l k a h
 have h1 : ((l.take (k + 1)).map g).sum = ((l.take k).map g).sum + g a := by rw [List.take_add_one, h]; simp
 refine ⟨h1, ?_⟩
 have h2 : (l.map g).sum = ((l.take (k + 1)).map g).sum + ((l.drop (k + 1)).map g).sum := by rw [← List.sum_append, ← List.map_append, List.take_append_drop]
 omega
theorem wrap4 {a t z : Nat} (h : a + 1 + t / 64 + z ≤ 1152921504606846976) : IntKind.i64.wrap (IntKind.i64.wrap (IntKind.i64.wrap ((a : Int) + 1) + IntKind.i64.wrap ((t : Int) / 64)) + (z : Int)) = ((a + 1 + t / 64 + z : Nat) : Int) := by
 have e1 : IntKind.i64.wrap ((a : Int) + 1) = (a : Int) + 1 := IntWalk.i64_in _ (by omega)
 have e2 : IntKind.i64.wrap ((t : Int) / 64) = (t : Int) / 64 := IntWalk.i64_in _ (by omega)
 have e3 : IntKind.i64.wrap ((a : Int) + 1 + (t : Int) / 64) = (a : Int) + 1 + (t : Int) / 64 := IntWalk.i64_in _ (by omega)
 rw [e1, e2, e3, IntWalk.i64_in _ (by omega)]
 omega
def SizC (f : Nat) (l : List GV) : Prop := ∀ (w : World) (F : Nat → Prop) (s : Value) (xs : List Value), SliceAt w F s l.length (l.length * 5) xs → RdVs w F xs l → bulkL l ≤ 1073741824 → f ≤ 101 →
 Calls Tryz.prog 44 #[s, .int .i64 (101 - f : Int)] w fun e w' => e = .returned (.int .i64 (sizeN f l)) ∧ FP nob w w'
theorem size_zero (l : List GV) : SizC 0 l := by
 intro w F s xs hs hl _ _
 clear hs hl
 show Calls Tryz.prog 44 #[s, .int .i64 101] w _
 go_enter Tryz.func44, Tryz.ntmps44
 go_wp2_with fail
 exact bodyPost_ret (v := .int .i64 1048576) (by simp [results, Tryz.results44]) rfl ⟨rfl, FP.refl nob w⟩
theorem size_step {f : Nat} {l : List GV} (ih : ∀ v ∈ l, ∀ (w : World) (F : Nat → Prop) (s : Value) (xs : List Value), SliceAt w F s (gList v).length ((gList v).length * 5) xs → RdVs w F xs (gList v) → Calls Tryz.prog 44 #[s, .int .i64 (101 - f : Int)] w fun e w' => e = .returned (.int .i64 (sizeN f (gList v))) ∧ FP nob w w')
  {w : World} {F : Nat → Prop} {s : Value} {xs : List Value} (hs : SliceAt w F s l.length (l.length * 5) xs) (hl : RdVs w F xs l) (hn : l.length ≤ 1099511627776) (ht : ∀ v ∈ l, (gText v).length ≤ 1099511627776) (hb : sizeN (f + 1) l ≤ 1152921504606846976) (hf : f ≤ 100) :
  Calls Tryz.prog 44 #[s, .int .i64 (101 - (f + 1 : Nat) : Int)] w fun e w' => e = .returned (.int .i64 (sizeN (f + 1) l)) ∧ FP nob w w' := by
 obtain ⟨a0, cap0, rfl⟩ := hs.shape
 obtain ⟨n, hnn⟩ : ∃ n, l.length = n := ⟨_, rfl⟩
 rw [hnn] at hs hn ⊢
 obtain ⟨d, hd⟩ : ∃ d : Int, (101 - (f + 1 : Nat) : Int) = d := ⟨_, rfl⟩
 rw [hd]
 have hd1 : IntKind.i64.wrap (d + 1) = d + 1 := IntWalk.i64_in _ (by omega)
 have hd2 : ¬ d > 100 := by omega
 have hd3 : d + 1 = (101 - f : Int) := by omega
 rw [← hd3] at ih
 have HS := Lib.hid hs
 have HL := Lib.hid hl
 have HI := Lib.hid ih
 have HN := Lib.hid hnn
 have HT := Lib.hid ht
 have hsz : sizeN (f + 1) l = (l.map fun v => 1 + (gText v).length / 64 + sizeN f (gList v)).sum := rfl
 obtain ⟨g, hg⟩ : ∃ g : GV → Nat, g = fun v => 1 + (gText v).length / 64 + sizeN f (gList v) := ⟨_, rfl⟩
 rw [← hg] at hsz
 rw [hsz] at hb ⊢
 have HG := Lib.hid hg
 have HB := Lib.hid hb
 clear hs hl ih hnn ht hsz hg hb hd hd3 hf
 go_enter Tryz.func44, Tryz.ntmps44
 go_wp2_with fail
 go_loopg [5, 6] (n + 1) (fun m nv i wr => ∃ (k a : Nat), i = .int .i64 (k : Nat) ∧ nv = .int .i64 (a : Nat) ∧ k ≤ n ∧ n - k < m ∧ n ≤ 1099511627776 ∧ a ≤ 1152921504606846976 ∧ Hid (a = ((l.take k).map g).sum) ∧ Hid (FP nob w wr))
 case atStart => exact ⟨0, 0, rfl, rfl, Nat.zero_le _, by omega, hn, by omega, Lib.hid (by simp), Lib.hid (FP.refl nob w)⟩
 case round =>
  obtain ⟨k, a, rfl, rfl, hk, hm, hn, ha, HA, HF⟩ := hrel
  by_cases hlt : k < n
  ·have hi0 : (0 : Int) ≤ (k : Int) := by omega
   have hi1 : (k : Int) < (n : Int) := by omega
   have hw1 : IntKind.i64.wrap ((k : Int) + 1) = (k : Int) + 1 := IntWalk.i64_in _ (by omega)
   have hfr : ∀ b, b < w.heap.size → wr.heap[b]? = w.heap[b]? := fun b hl => HF.out.blk b hl (fun x => x.elim)
   obtain ⟨g0, o0, cp0, he0, hle0, _, _, hc0⟩ := (HS.out.frame (fun g _ hl => hfr g hl)).cell (by omega)
   cases he0
   have hv : l[k]? = some (l[k]'(by rw [HN.out]; exact hlt)) := List.getElem?_eq_getElem _
   have hmem : l[k]'(by rw [HN.out]; exact hlt) ∈ l := List.getElem_mem _
   generalize l[k]'(by rw [HN.out]; exact hlt) = v at hv hmem
   obtain ⟨c, hrc, hxc⟩ := (HL.out.frame (fun g _ hl => hfr g hl)).get hv
   have hst := sum_take g hv
   have htt := HT.out v hmem
   have hih := HI.out v hmem
   have HGV : Hid (g v = 1 + (gText v).length / 64 + sizeN f (gList v)) := Lib.hid (by rw [HG.out])
   cases hrc with
   | mk kk bb ii tt sl ys l2 hs2 hl2 =>
    obtain ⟨a2, c2, rfl⟩ := hs2.shape
    have x3 : wr.cell? ⟨g0, o0 + k * 5 + 3, none⟩ = some (.string tt) := by rw [Nat.add_assoc]; exact hc0 _ _ (hxc 3 (by omega))
    have x4 : wr.cell? ⟨g0, o0 + k * 5 + 4, none⟩ = some (.slice a2 l2.length c2) := by rw [Nat.add_assoc]; exact hc0 _ _ (hxc 4 (by omega))
    have hts : tt.size ≤ 1099511627776 := htt
    obtain ⟨z, hz⟩ : ∃ z, sizeN f l2 = z := ⟨_, rfl⟩
    have hgv : g (GV.mk kk bb ii tt.data.toList l2) = 1 + tt.size / 64 + z := by rw [HGV.out, ← hz]; rfl
    obtain ⟨t1, t2⟩ := hst
    rw [hgv] at t1
    have hbb := HB.out
    have haa := HA.out
    have hnew : a + 1 + tt.size / 64 + z = ((l.take (k + 1)).map g).sum := by omega
    have hnb : a + 1 + tt.size / 64 + z ≤ 1152921504606846976 := by omega
    have HNEW := Lib.hid (And.intro hnew hnb)
    have HQQ := Lib.hid (wrap4 (a := a) (t := tt.size) (z := z) hnb)
    have hcall : ∀ W, FP nob wr W → Calls Tryz.prog 44 #[.slice a2 l2.length c2, .int .i64 (d + 1)] W fun e w' => e = .returned (.int .i64 z) ∧ FP nob W w' ∧ w'.cell? ⟨g0, o0 + k * 5 + 3, none⟩ = some (.string tt) ∧ w'.cell? ⟨g0, o0 + k * 5 + 4, none⟩ = some (.slice a2 l2.length c2) := fun W hW => by
     have hr := hih W F (.slice a2 l2.length c2) ys (hs2.frame (fun g _ hl => hW.blk g hl (fun x => x.elim))) (hl2.frame (fun g _ hl => hW.blk g hl (fun x => x.elim)))
     rw [show sizeN f (gList (GV.mk kk bb ii tt.data.toList l2)) = z from hz] at hr
     exact hr.mono fun e w' h => ⟨h.1, h.2, h.2.cell (hW.cell x3), h.2.cell (hW.cell x4)⟩
    have HC := Lib.hid (hcall wr.drew (FP.ofSame (same_drewN wr 1)))
    have HV := Lib.hid hv
    clear hcall hih hs2 hl2 hc0 hxc hv hmem hfr t1 t2 hbb haa hnew hnb hgv hz htt
    go_upto_region 7 with fail
    go_region_held3 (fun w' => w'.cell? ⟨g0, o0 + k * 5 + 3, none⟩ = some (.string tt) ∧ w'.cell? ⟨g0, o0 + k * 5 + 4, none⟩ = some (.slice a2 l2.length c2)) (go_keep) ((go_at_call 44; refine HC.out.mono ?_; rintro e w2 ⟨rfl, hf, y0, y1⟩))
    have HF2 : Hid (FP nob w w2) := Lib.hid (FP.trans (S := nob) HF.out (FP.trans (S := nob) (FP.ofSame (same_drewN wr 1)) hf (fun _ x => x.elim)) (fun _ x => x.elim))
    clear hf
    go_wp2_with fail
    go_roundg (n - (k + 1) + 1)
    case measure => omega
    case rel => exact ⟨k + 1, a + 1 + tt.size / 64 + z, rfl, by rw [HQQ.out], by omega, by omega, hn, HNEW.out.2, Lib.hid HNEW.out.1, HF2⟩
  ·have hi1 : ¬ (k : Int) < (n : Int) := by omega
   have hke : k = n := by omega
   have hall : a = (l.map g).sum := by
    have := HA.out
    rwa [hke, ← HN.out, List.take_length] at this
   have HALL := Lib.hid hall
   clear hke hall
   go_wp2_with fail
   exact bodyPost_ret (v := .int .i64 a) (by simp [results, Tryz.results44]) rfl ⟨by rw [HALL.out], HF.out⟩
theorem size_any (f : Nat) : ∀ l, SizC f l := by
 induction f with
 | zero => exact size_zero
 | succ f ih =>
  intro l w F s xs hs hl hb hf
  have h1 := bulk_len l
  have h2 := size_bulk (f + 1) l
  refine size_step (fun v hv W G s2 ys k1 k2 => ih (gList v) W G s2 ys k1 k2 ?_ (by omega)) hs hl (by omega) (fun v hv => ?_) (by omega) (by omega)
  ·have := bulk_two v
   have := bulk_mem hv
   omega
  ·have := bulk_two v
   have := bulk_mem hv
   omega
theorem size_top {w : World} {F : Nat → Prop} {s : Value} {xs : List Value} {l : List GV} (hs : SliceAt w F s l.length (l.length * 5) xs) (hl : RdVs w F xs l) (hb : bulkL l ≤ 1073741824) :
  Calls Tryz.prog 17 #[s] w fun e w' => e = .returned (.int .i64 (sizeN 101 l)) ∧ FP nob w w' := by
 have HC := Lib.hid (size_any 101 l w F s xs hs hl hb (by omega))
 clear hs hl hb
 go_enter Tryz.func17, Tryz.ntmps17
 go_wp2_with fail
 refine HC.out.mono ?_
 rintro e w1 ⟨rfl, hf⟩
 have HF := Lib.hid hf
 clear hf
 go_wp2_with fail
 exact bodyPost_ret (v := .int .i64 (sizeN 101 l)) (by simp [results, Tryz.results17]) rfl ⟨rfl, HF.out⟩
end Go.Proofs.YtnpkdiffpgcbhaaGreatDoor
