/- EqOps, walked. Conditions: each theorem's own. -/
import Derived.Test.YtnpkdiffpgcbhaaGreatDoorS47
set_option maxRecDepth 100000
set_option maxHeartbeats 3200000
namespace Go.Proofs.YtnpkdiffpgcbhaaGreatDoor
open Go.RowKit
attribute [local go_sem] Oper.semAt_some
theorem box_cells (w : World) (cs ds : Array Value) (T U : TypeId) (i : Nat) : ((w.alloc (.cells cs T)).alloc (.cells ds U)).cell? ⟨w.heap.size, i, none⟩ = cs[i]? ∧ ((w.alloc (.cells cs T)).alloc (.cells ds U)).cell? ⟨w.heap.size + 1, i, none⟩ = ds[i]? := by
 refine ⟨?_, ?_⟩
 ·have e : ((w.heap.push (Obj.cells cs T)).push (Obj.cells ds U))[w.heap.size]? = some (.cells cs T) := by simp [Array.getElem?_push]
  simp only [World.cell?, World.alloc]; rw [e]; rfl
 ·have e : ((w.heap.push (Obj.cells cs T)).push (Obj.cells ds U))[w.heap.size + 1]? = some (.cells ds U) := by
   have e := @Array.getElem?_push_size _ (w.heap.push (Obj.cells cs T)) (Obj.cells ds U)
   rwa [Array.size_push] at e
  simp only [World.cell?, World.alloc]; rw [e]; rfl
theorem ops_any {w : World} {F F' : Nat → Prop} {s0 s1 : Value} {ops : List OpV} {xs ys : List Value} (h0 : SliceAt w F s0 ops.length (ops.length * 8) xs) (h1 : RdRow (RdOp w F) xs ops) (h2 : SliceAt w F' s1 ops.length (ops.length * 8) ys) (h3 : RdRow (RdOp w F') ys ops)
  (hsh : ∀ o ∈ ops, ShOp o) (hnb : ops.length ≤ 4611686018427387904) : YesC 15 #[s0, s1] w := by
 obtain ⟨a0, cap0, rfl⟩ := h0.shape
 obtain ⟨a1, cap1, rfl⟩ := h2.shape
 obtain ⟨n, hn⟩ : ∃ n, ops.length = n := ⟨_, rfl⟩
 rw [hn] at h0 h2 hnb ⊢
 have HS := Lib.hid hsh
 have H0 := Lib.hid h0
 have H1 := Lib.hid h1
 have H2 := Lib.hid h2
 have H3 := Lib.hid h3
 have HN := Lib.hid hn
 clear hsh h0 h1 h2 h3 hn
 unfold YesC at *
 go_enter Tryz.func15, Tryz.ntmps15
 go_wp2_with fail
 go_loopg [5, 6, 7, 8, 9] (n + 1) (fun m i x y k1 k2 wr => ∃ k : Nat, i = .int .i64 (k : Nat) ∧ k ≤ n ∧ n - k < m ∧ n ≤ 4611686018427387904 ∧ Hid (FP nob w wr))
 case atStart => exact ⟨0, rfl, Nat.zero_le _, by omega, hnb, Lib.hid (FP.refl _ _)⟩
 case round =>
  obtain ⟨k, rfl, hk, hm, hnb, hF⟩ := hrel
  obtain ⟨wo, hwo⟩ : ∃ wo, wo = wr := ⟨_, rfl⟩
  subst hwo
  by_cases hlt : k < n
  ·have hi0 : (0 : Int) ≤ (k : Int) := by omega
   have hi1 : (k : Int) < (n : Int) := by omega
   have hw1 : IntKind.i64.wrap ((k : Int) + 1) = (k : Int) + 1 := IntWalk.i64_in _ (by omega)
   have hn0 : n ≠ 0 := by omega
   have hfr : ∀ b, b < w.heap.size → wo.heap[b]? = w.heap[b]? := fun b hl => hF.out.blk b hl (fun x => x.elim)
   obtain ⟨g0, o0, cp0, he0, hle0, _, _, hc0⟩ := (H0.out.frame (fun g _ hl => hfr g hl)).cell hn0
   obtain ⟨g1, o1, cp1, he1, hle1, _, _, hc1⟩ := (H2.out.frame (fun g _ hl => hfr g hl)).cell hn0
   cases he0
   cases he1
   have hv : ops[k]? = some (ops[k]'(by rw [HN.out]; exact hlt)) := List.getElem?_eq_getElem _
   have hmem : ops[k]'(by rw [HN.out]; exact hlt) ∈ ops := List.getElem_mem _
   generalize ops[k]'(by rw [HN.out]; exact hlt) = o at hv hmem
   obtain ⟨c, hrc, hxc⟩ := H1.out.get (fun _ _ h => h.len) hv
   obtain ⟨c', hrc', hyc⟩ := H3.out.get (fun _ _ h => h.len) hv
   have HSO := Lib.hid (HS.out o hmem)
   obtain ⟨kd, cl, hd, tx, on, nn, b0, p0, d0, q0, b1, p1, d1, q1, us, vs, us', vs', rfl, rfl, OA, OB⟩ := hrc.two hrc'
   have x0 : wo.cell? ⟨g0, o0 + k * 8, none⟩ = some (.int .i64 kd) := by rw [show o0 + k * 8 = o0 + (k * 8 + 0) from rfl]; exact hc0 _ _ (hxc 0 (by omega))
   have y0 : wo.cell? ⟨g1, o1 + k * 8, none⟩ = some (.int .i64 kd) := by rw [show o1 + k * 8 = o1 + (k * 8 + 0) from rfl]; exact hc1 _ _ (hyc 0 (by omega))
   have x1 : wo.cell? ⟨g0, o0 + k * 8 + 1, none⟩ = some (.string cl) := by rw [Nat.add_assoc]; exact hc0 _ _ (hxc 1 (by omega))
   have y1 : wo.cell? ⟨g1, o1 + k * 8 + 1, none⟩ = some (.string cl) := by rw [Nat.add_assoc]; exact hc1 _ _ (hyc 1 (by omega))
   have x2 : wo.cell? ⟨g0, o0 + k * 8 + 2, none⟩ = some (.slice b0 o.set.length p0) := by rw [Nat.add_assoc]; exact hc0 _ _ (hxc 2 (by omega))
   have y2 : wo.cell? ⟨g1, o1 + k * 8 + 2, none⟩ = some (.slice b1 o.set.length p1) := by rw [Nat.add_assoc]; exact hc1 _ _ (hyc 2 (by omega))
   have x3 : wo.cell? ⟨g0, o0 + k * 8 + 3, none⟩ = some (.int .i64 hd) := by rw [Nat.add_assoc]; exact hc0 _ _ (hxc 3 (by omega))
   have y3 : wo.cell? ⟨g1, o1 + k * 8 + 3, none⟩ = some (.int .i64 hd) := by rw [Nat.add_assoc]; exact hc1 _ _ (hyc 3 (by omega))
   have x4 : wo.cell? ⟨g0, o0 + k * 8 + 4, none⟩ = some (.string tx) := by rw [Nat.add_assoc]; exact hc0 _ _ (hxc 4 (by omega))
   have y4 : wo.cell? ⟨g1, o1 + k * 8 + 4, none⟩ = some (.string tx) := by rw [Nat.add_assoc]; exact hc1 _ _ (hyc 4 (by omega))
   have x5 : wo.cell? ⟨g0, o0 + k * 8 + 5, none⟩ = some (.bool on) := by rw [Nat.add_assoc]; exact hc0 _ _ (hxc 5 (by omega))
   have y5 : wo.cell? ⟨g1, o1 + k * 8 + 5, none⟩ = some (.bool on) := by rw [Nat.add_assoc]; exact hc1 _ _ (hyc 5 (by omega))
   have x6 : wo.cell? ⟨g0, o0 + k * 8 + 6, none⟩ = some (.int .i64 nn) := by rw [Nat.add_assoc]; exact hc0 _ _ (hxc 6 (by omega))
   have y6 : wo.cell? ⟨g1, o1 + k * 8 + 6, none⟩ = some (.int .i64 nn) := by rw [Nat.add_assoc]; exact hc1 _ _ (hyc 6 (by omega))
   have x7 : wo.cell? ⟨g0, o0 + k * 8 + 7, none⟩ = some (.slice d0 o.args.length q0) := by rw [Nat.add_assoc]; exact hc0 _ _ (hxc 7 (by omega))
   have y7 : wo.cell? ⟨g1, o1 + k * 8 + 7, none⟩ = some (.slice d1 o.args.length q1) := by rw [Nat.add_assoc]; exact hc1 _ _ (hyc 7 (by omega))
   have HOA := Lib.hid OA
   have HOB := Lib.hid OB
   clear hc0 hc1 hxc hyc hrc hrc' hv hmem hfr OA OB
   obtain ⟨ns, hns⟩ : ∃ ns, o.set.length = ns := ⟨_, rfl⟩
   obtain ⟨na, hna⟩ : ∃ na, o.args.length = na := ⟨_, rfl⟩
   rw [hns] at x2 y2
   rw [hna] at x7 y7
   have hls : ns ≤ 5000 := hns ▸ HSO.out.set.1
   have hla : na ≤ 5000 := hna ▸ HSO.out.args.1
   have HNS := Lib.hid hns
   have HNA := Lib.hid hna
   clear hns hna
   go_wp2_with fail
   go_loopg [8] (ns + 1) (fun m i wr => ∃ j : Nat, i = .int .i64 (j : Nat) ∧ j ≤ ns ∧ ns - j < m ∧ Hid (FP nob w wr) ∧ Hid (wr.cell? ⟨wo.heap.size, 2, none⟩ = some (.slice b0 ns p0) ∧ wr.cell? ⟨wo.heap.size + 1, 2, none⟩ = some (.slice b1 ns p1) ∧ wr.cell? ⟨wo.heap.size, 7, none⟩ = some (.slice d0 na q0) ∧ wr.cell? ⟨wo.heap.size + 1, 7, none⟩ = some (.slice d1 na q1)))
   case atStart =>
    refine ⟨0, rfl, Nat.zero_le _, by omega, Lib.hid (FP.trans (S := nob) hF.out (((FP.refl nob wo).alloc _).alloc _) (fun _ x => False.elim x)), Lib.hid ?_⟩
    exact ⟨(box_cells _ _ _ _ _ _).1, (box_cells _ _ _ _ _ _).2, (box_cells _ _ _ _ _ _).1, (box_cells _ _ _ _ _ _).2⟩
   case round =>
    obtain ⟨j, rfl, hj, hjm, hF1, HBX⟩ := hrel
    by_cases hjl : j < ns
    ·have hji0 : (0 : Int) ≤ (j : Int) := by omega
     have hji1 : (j : Int) < (ns : Int) := by omega
     have hjw : IntKind.i64.wrap ((j : Int) + 1) = (j : Int) + 1 := IntWalk.i64_in _ (by omega)
     have hfr : ∀ b, b < w.heap.size → wr.heap[b]? = w.heap[b]? := fun b hl => hF1.out.blk b hl (fun x => x.elim)
     obtain ⟨g2, r2, g3, r3, f, e, e', pp, hpm, rfl, hle2, rfl, hle3, R0, R1, u0, v0, hu, hv⟩ := (HOA.out.frame hfr).field (HOB.out.frame hfr) (i := j) (by rw [HNS.out]; exact hjl)
     have HQ := Lib.hid (fun (W : World) (hW : FP nob wr W) => same_any pp.2 (HSO.out.set.2 pp hpm) W _ _ e e' (R0.frame (fun g _ hl => hW.blk g hl (fun x => x.elim))) (R1.frame (fun g _ hl => hW.blk g hl (fun x => x.elim))))
     obtain ⟨kk, bb, ii, t, e0, l0, z0, e1, l1, z1, rfl, rfl⟩ := R0.two R1
     rw [HNS.out] at hle2 hle3
     obtain ⟨zx, zy, zx7, zy7⟩ := HBX.out
     have u1 := hu 0 _ rfl
     have v1 := hv 0 _ rfl
     have u2 := hu 1 _ rfl
     have v2 := hv 1 _ rfl
     have u3 := hu 2 _ rfl
     have v3 := hv 2 _ rfl
     have u4 := hu 3 _ rfl
     have v4 := hv 3 _ rfl
     have u5 := hu 4 _ rfl
     have v5 := hv 4 _ rfl
     clear hu hv R0 R1 hfr hpm
     have hqd : Calls Tryz.prog 21 #[.agg #[.int .i64 kk, .bool bb, .int .i64 ii, .string t, .slice e0 l0 z0], .agg #[.int .i64 kk, .bool bb, .int .i64 ii, .string t, .slice e1 l1 z1]] wr.drew (fun e w' => e = .returned (.bool true) ∧ FP nob wr.drew w' ∧ w'.cell? ⟨wo.heap.size, 2, none⟩ = some (.slice (some ⟨g2, r2, none⟩) ns p0) ∧ w'.cell? ⟨wo.heap.size + 1, 2, none⟩ = some (.slice (some ⟨g3, r3, none⟩) ns p1) ∧ w'.cell? ⟨g2, r2 + j * 6, none⟩ = some (.string f) ∧ w'.cell? ⟨g2, r2 + j * 6 + 1, none⟩ = some (.int .i64 kk) ∧ w'.cell? ⟨g2, r2 + j * 6 + 1 + 1, none⟩ = some (.bool bb) ∧ w'.cell? ⟨g2, r2 + j * 6 + 1 + 2, none⟩ = some (.int .i64 ii) ∧ w'.cell? ⟨g2, r2 + j * 6 + 1 + 3, none⟩ = some (.string t) ∧ w'.cell? ⟨g2, r2 + j * 6 + 1 + 4, none⟩ = some (.slice e0 l0 z0) ∧ w'.cell? ⟨g3, r3 + j * 6, none⟩ = some (.string f) ∧ w'.cell? ⟨g3, r3 + j * 6 + 1, none⟩ = some (.int .i64 kk) ∧ w'.cell? ⟨g3, r3 + j * 6 + 1 + 1, none⟩ = some (.bool bb) ∧ w'.cell? ⟨g3, r3 + j * 6 + 1 + 2, none⟩ = some (.int .i64 ii) ∧ w'.cell? ⟨g3, r3 + j * 6 + 1 + 3, none⟩ = some (.string t) ∧ w'.cell? ⟨g3, r3 + j * 6 + 1 + 4, none⟩ = some (.slice e1 l1 z1)) := (HQ.out wr.drew (FP.ofSame (same_drewN wr 1))).mono (fun e w' h => ⟨h.1, h.2, h.2.cell zx, h.2.cell zy, h.2.cell u0, h.2.cell u1, h.2.cell u2, h.2.cell u3, h.2.cell u4, h.2.cell u5, h.2.cell v0, h.2.cell v1, h.2.cell v2, h.2.cell v3, h.2.cell v4, h.2.cell v5⟩)
     have HQD := Lib.hid hqd
     clear hqd
     go_upto_region 13 with fail
     go_region_held3 (fun w' => w'.cell? ⟨wo.heap.size, 2, none⟩ = some (.slice (some ⟨g2, r2, none⟩) ns p0) ∧ w'.cell? ⟨wo.heap.size + 1, 2, none⟩ = some (.slice (some ⟨g3, r3, none⟩) ns p1) ∧ w'.cell? ⟨g2, r2 + j * 6, none⟩ = some (.string f) ∧ w'.cell? ⟨g2, r2 + j * 6 + 1, none⟩ = some (.int .i64 kk) ∧ w'.cell? ⟨g2, r2 + j * 6 + 1 + 1, none⟩ = some (.bool bb) ∧ w'.cell? ⟨g2, r2 + j * 6 + 1 + 2, none⟩ = some (.int .i64 ii) ∧ w'.cell? ⟨g2, r2 + j * 6 + 1 + 3, none⟩ = some (.string t) ∧ w'.cell? ⟨g2, r2 + j * 6 + 1 + 4, none⟩ = some (.slice e0 l0 z0) ∧ w'.cell? ⟨g3, r3 + j * 6, none⟩ = some (.string f) ∧ w'.cell? ⟨g3, r3 + j * 6 + 1, none⟩ = some (.int .i64 kk) ∧ w'.cell? ⟨g3, r3 + j * 6 + 1 + 1, none⟩ = some (.bool bb) ∧ w'.cell? ⟨g3, r3 + j * 6 + 1 + 2, none⟩ = some (.int .i64 ii) ∧ w'.cell? ⟨g3, r3 + j * 6 + 1 + 3, none⟩ = some (.string t) ∧ w'.cell? ⟨g3, r3 + j * 6 + 1 + 4, none⟩ = some (.slice e1 l1 z1)) (go_keep) ((go_at_call 21; refine HQD.out.mono ?_; rintro e w2 ⟨rfl, hf, y0, y1, y2, y3, y4, y5, y6, y7, y8, y9, y10, y11, y12, y13⟩))
     have hwr : FP nob wr w2 := FP.trans (S := nob) (FP.ofSame (same_drewN wr 1)) hf (fun _ x => False.elim x)
     have HF2 : Hid (FP nob w w2) := Lib.hid (FP.trans (S := nob) hF1.out hwr (fun _ x => False.elim x))
     have HB2 := Lib.hid (And.intro (hwr.cell zx) (And.intro (hwr.cell zy) (And.intro (hwr.cell zx7) (hwr.cell zy7))))
     clear hf hwr
     go_wp2_with fail
     go_roundg (ns - (j + 1) + 1)
     case measure => omega
     case rel => exact ⟨j + 1, rfl, by omega, by omega, HF2, HB2⟩
    ·have hji1 : ¬ (j : Int) < (ns : Int) := by omega
     obtain ⟨zx, zy, zx7, zy7⟩ := HBX.out
     go_wp2_with fail
     go_loopg [9] (na + 1) (fun m i wr => ∃ j : Nat, i = .int .i64 (j : Nat) ∧ j ≤ na ∧ na - j < m ∧ Hid (FP nob w wr) ∧ Hid (wr.cell? ⟨wo.heap.size, 2, none⟩ = some (.slice b0 ns p0) ∧ wr.cell? ⟨wo.heap.size + 1, 2, none⟩ = some (.slice b1 ns p1) ∧ wr.cell? ⟨wo.heap.size, 7, none⟩ = some (.slice d0 na q0) ∧ wr.cell? ⟨wo.heap.size + 1, 7, none⟩ = some (.slice d1 na q1)))
     case atStart => exact ⟨0, rfl, Nat.zero_le _, by omega, hF1, HBX⟩
     case round =>
      clear hj hjm hji1 zx zy zx7 zy7 hF1 HBX
      obtain ⟨j, rfl, hj, hjm, hF1, HBX⟩ := hrel
      by_cases hjl : j < na
      ·have hji0 : (0 : Int) ≤ (j : Int) := by omega
       have hji1 : (j : Int) < (na : Int) := by omega
       have hjw : IntKind.i64.wrap ((j : Int) + 1) = (j : Int) + 1 := IntWalk.i64_in _ (by omega)
       have hfr : ∀ b, b < w.heap.size → wr.heap[b]? = w.heap[b]? := fun b hl => hF1.out.blk b hl (fun x => x.elim)
       obtain ⟨g2, r2, g3, r3, f, e, e', pp, hpm, rfl, hle2, rfl, hle3, R0, R1, u0, v0, hu, hv⟩ := (HOA.out.frame hfr).arg (HOB.out.frame hfr) (i := j) (by rw [HNA.out]; exact hjl)
       have HQ := Lib.hid (fun (W : World) (hW : FP nob wr W) => same_any pp.2 (HSO.out.args.2 pp hpm) W _ _ e e' (R0.frame (fun g _ hl => hW.blk g hl (fun x => x.elim))) (R1.frame (fun g _ hl => hW.blk g hl (fun x => x.elim))))
       obtain ⟨kk, bb, ii, t, e0, l0, z0, e1, l1, z1, rfl, rfl⟩ := R0.two R1
       rw [HNA.out] at hle2 hle3
       obtain ⟨zx2, zy2, zx, zy⟩ := HBX.out
       have u1 := hu 0 _ rfl
       have v1 := hv 0 _ rfl
       have u2 := hu 1 _ rfl
       have v2 := hv 1 _ rfl
       have u3 := hu 2 _ rfl
       have v3 := hv 2 _ rfl
       have u4 := hu 3 _ rfl
       have v4 := hv 3 _ rfl
       have u5 := hu 4 _ rfl
       have v5 := hv 4 _ rfl
       clear hu hv R0 R1 hfr hpm
       have hqd : Calls Tryz.prog 21 #[.agg #[.int .i64 kk, .bool bb, .int .i64 ii, .string t, .slice e0 l0 z0], .agg #[.int .i64 kk, .bool bb, .int .i64 ii, .string t, .slice e1 l1 z1]] wr.drew (fun e w' => e = .returned (.bool true) ∧ FP nob wr.drew w' ∧ w'.cell? ⟨wo.heap.size, 7, none⟩ = some (.slice (some ⟨g2, r2, none⟩) na q0) ∧ w'.cell? ⟨wo.heap.size + 1, 7, none⟩ = some (.slice (some ⟨g3, r3, none⟩) na q1) ∧ w'.cell? ⟨g2, r2 + j * 6, none⟩ = some (.bool f) ∧ w'.cell? ⟨g2, r2 + j * 6 + 1, none⟩ = some (.int .i64 kk) ∧ w'.cell? ⟨g2, r2 + j * 6 + 1 + 1, none⟩ = some (.bool bb) ∧ w'.cell? ⟨g2, r2 + j * 6 + 1 + 2, none⟩ = some (.int .i64 ii) ∧ w'.cell? ⟨g2, r2 + j * 6 + 1 + 3, none⟩ = some (.string t) ∧ w'.cell? ⟨g2, r2 + j * 6 + 1 + 4, none⟩ = some (.slice e0 l0 z0) ∧ w'.cell? ⟨g3, r3 + j * 6, none⟩ = some (.bool f) ∧ w'.cell? ⟨g3, r3 + j * 6 + 1, none⟩ = some (.int .i64 kk) ∧ w'.cell? ⟨g3, r3 + j * 6 + 1 + 1, none⟩ = some (.bool bb) ∧ w'.cell? ⟨g3, r3 + j * 6 + 1 + 2, none⟩ = some (.int .i64 ii) ∧ w'.cell? ⟨g3, r3 + j * 6 + 1 + 3, none⟩ = some (.string t) ∧ w'.cell? ⟨g3, r3 + j * 6 + 1 + 4, none⟩ = some (.slice e1 l1 z1)) := (HQ.out wr.drew (FP.ofSame (same_drewN wr 1))).mono (fun e w' h => ⟨h.1, h.2, h.2.cell zx, h.2.cell zy, h.2.cell u0, h.2.cell u1, h.2.cell u2, h.2.cell u3, h.2.cell u4, h.2.cell u5, h.2.cell v0, h.2.cell v1, h.2.cell v2, h.2.cell v3, h.2.cell v4, h.2.cell v5⟩)
       have HQD := Lib.hid hqd
       clear hqd
       go_upto_region 18 with fail
       go_region_held3 (fun w' => w'.cell? ⟨wo.heap.size, 7, none⟩ = some (.slice (some ⟨g2, r2, none⟩) na q0) ∧ w'.cell? ⟨wo.heap.size + 1, 7, none⟩ = some (.slice (some ⟨g3, r3, none⟩) na q1) ∧ w'.cell? ⟨g2, r2 + j * 6, none⟩ = some (.bool f) ∧ w'.cell? ⟨g2, r2 + j * 6 + 1, none⟩ = some (.int .i64 kk) ∧ w'.cell? ⟨g2, r2 + j * 6 + 1 + 1, none⟩ = some (.bool bb) ∧ w'.cell? ⟨g2, r2 + j * 6 + 1 + 2, none⟩ = some (.int .i64 ii) ∧ w'.cell? ⟨g2, r2 + j * 6 + 1 + 3, none⟩ = some (.string t) ∧ w'.cell? ⟨g2, r2 + j * 6 + 1 + 4, none⟩ = some (.slice e0 l0 z0) ∧ w'.cell? ⟨g3, r3 + j * 6, none⟩ = some (.bool f) ∧ w'.cell? ⟨g3, r3 + j * 6 + 1, none⟩ = some (.int .i64 kk) ∧ w'.cell? ⟨g3, r3 + j * 6 + 1 + 1, none⟩ = some (.bool bb) ∧ w'.cell? ⟨g3, r3 + j * 6 + 1 + 2, none⟩ = some (.int .i64 ii) ∧ w'.cell? ⟨g3, r3 + j * 6 + 1 + 3, none⟩ = some (.string t) ∧ w'.cell? ⟨g3, r3 + j * 6 + 1 + 4, none⟩ = some (.slice e1 l1 z1)) (go_keep) ((go_at_call 21; refine HQD.out.mono ?_; rintro e w2 ⟨rfl, hf, y0, y1, y2, y3, y4, y5, y6, y7, y8, y9, y10, y11, y12, y13⟩))
       have hwr : FP nob wr w2 := FP.trans (S := nob) (FP.ofSame (same_drewN wr 1)) hf (fun _ x => False.elim x)
       have HF2 : Hid (FP nob w w2) := Lib.hid (FP.trans (S := nob) hF1.out hwr (fun _ x => False.elim x))
       have HB2 := Lib.hid (And.intro (hwr.cell zx2) (And.intro (hwr.cell zy2) (And.intro (hwr.cell zx) (hwr.cell zy))))
       clear hf hwr
       go_wp2_with fail
       go_roundg (na - (j + 1) + 1)
       case measure => omega
       case rel => exact ⟨j + 1, rfl, by omega, by omega, HF2, HB2⟩
      ·have hji1 : ¬ (j : Int) < (na : Int) := by omega
       obtain ⟨zx2, zy2, zx, zy⟩ := HBX.out
       go_wp2_with fail
       go_roundg (n - (k + 1) + 1)
       case measure => omega
       case rel => exact ⟨k + 1, rfl, by omega, by omega, hnb, hF1⟩
  ·have hi1 : ¬ (k : Int) < (n : Int) := by omega
   go_wp2_with fail
   exact bodyPost_ret (v := .bool true) (by simp [results, Tryz.results15]) rfl (And.intro rfl hF.out)
end Go.Proofs.YtnpkdiffpgcbhaaGreatDoor
