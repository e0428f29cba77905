/- The walk of proctorlaw12.TupleEach: it returns true for every Script. -/
import Derived.Test.YtkaldclkpdjalaaManyWalk
import Derived.Test.YtkaldclkpdjalaaOpen
import Derived.Test.YtkaldclkpdjalaaSetsWalk
import Derived.Deep.RegionHeld3
namespace Go.Proofs.Ytkaldclkpdjalaa
open Go.RowKit

theorem TI.same {w w' : World} {base b last : Nat} {count : Int} {vi : Nat → Option Int} (h : TI w base b last count vi) (hh : w'.heap = w.heap) : TI w' base b last count vi := by
  obtain ⟨pv, ps, h⟩ := h
  exact ⟨pv, ps, h.same hh⟩

/-- A box of the arena's pointer. -/
def Boxp (W : World) (B b : Nat) : Prop := W.heap[B]? = some (.cells #[.pointer (some ⟨b,0,none⟩)] 47 (0,0))
theorem Boxp.cell {W : World} {B b : Nat} (h : Boxp W B b) : W.cell? ⟨B,0,none⟩ = some (.pointer (some ⟨b,0,none⟩)) := by rw [cell_blk h]; rfl
theorem Boxp.tf {W W' : World} {B b base : Nat} (h : Boxp W B b) (hf : TF base AI.tags W W') : Boxp W' B b := hf.blk _ _ h (.inr rfl)
theorem Boxi.tf {W W' : World} {B base : Nat} {x : Int} (h : Boxi W B x) (hf : TF base AI.tags W W') : Boxi W' B x := hf.blk _ _ h (.inr rfl)
theorem Boxp.set {W : World} {B b C : Nat} {x : Int} (h : Boxp W B b) (hC : Boxi W C x) (v : Value) : Boxp (W.setCell ⟨C,0,none⟩ v) B b := by
  unfold Boxp Boxi at *
  rw [heap_set_ne (by intro e; simp only at e; subst e; rw [h] at hC; simp at hC)]; exact h
theorem Boxp.cells {W W' : World} {B b : Nat} (h : Boxp W B b) (hk : ∀ (k : Nat) (o : Obj), W.heap[k]? = some o → o.isCells = true → W'.heap[k]? = some o) : Boxp W' B b := hk _ _ h rfl

set_option maxHeartbeats 400000 in
theorem each1_yield (id v c : Int) (Bs : Nat) (w : World) (h0 : 0 ≤ c) (h1 : c ≤ 1000) (hb : w.cell? ⟨Bs,0,none⟩ = some (.int .i64 c)) (hf : w.frozen? ⟨Bs,0,none⟩ = false) :
    Calls Try.prog 30 #[.int .i64 id, .int .i64 v, .pointer (some ⟨Bs,0,none⟩)] w fun e w' => e = .returned (.bool (decide (c + 1 < 3))) ∧ w.setCell ⟨Bs,0,none⟩ (.int .i64 (c + 1)) = w' := by
  by_cases h : c + 1 < 3
  · have hd : decide (c + 1 < 3) = true := by simpa using h
    rw [hd]
    clear hd
    go_enter Try.func30, Try.ntmps30
    go_wp2
    go_ret
    exact ⟨rfl, rfl⟩
  · have hd : decide (c + 1 < 3) = false := by simpa using h
    rw [hd]
    clear hd
    go_enter Try.func30, Try.ntmps30
    go_wp2
    go_ret
    exact ⟨rfl, rfl⟩

set_option maxHeartbeats 400000 in
theorem each_nil (b : Nat) (w : World) : Calls Try.prog 29 #[.pointer (some ⟨b,0,none⟩), .nilFunc] w fun e w' => e = .returned (.tuple #[]) ∧ (w.alloc (.cells #[.pointer (some ⟨b,0,none⟩)] 47)).alloc (.cells #[.nilFunc] 52) = w' := by
  have hnil : ∀ W : World, (binOp .eql 52 .nilFunc .nilFunc).run Try.prog W = .ok (.bool true) W := fun _ => by kernel_rfl
  go_enter Try.func29, Try.ntmps29
  go_wp2
  refine bodyPost_ret (results_none rfl _ _ _) rfl ?_
  exact ⟨rfl, rfl⟩

def e2cnt (id n : Int) (vi : Nat → Option Int) (count : Int) : Int := if id < n ∧ (gi vi (id + 1)).isSome = true then count - 1 + 1 else count + 1
def e2vi (id n : Int) (vi : Nat → Option Int) : Nat → Option Int := if id < n ∧ (gi vi (id + 1)).isSome = true then ui vi (id + 1) none else vi
theorem e2_yes {id n : Int} {vi : Nat → Option Int} {count y : Int} (h : id < n) (hg : gi vi (id + 1) = some y) : e2cnt id n vi count = count - 1 + 1 ∧ e2vi id n vi = ui vi (id + 1) none := by
  unfold e2cnt e2vi; rw [hg, if_pos ⟨h, rfl⟩, if_pos ⟨h, rfl⟩]; exact ⟨rfl, rfl⟩
theorem e2_no {id n : Int} {vi : Nat → Option Int} {count : Int} (h : ¬ id < n ∨ gi vi (id + 1) = none) : e2cnt id n vi count = count + 1 ∧ e2vi id n vi = vi := by
  unfold e2cnt e2vi
  rcases h with h | h
  · rw [if_neg (fun x => h x.1), if_neg (fun x => h x.1)]; exact ⟨rfl, rfl⟩
  · rw [h, if_neg (by simp), if_neg (by simp)]; exact ⟨rfl, rfl⟩

set_option maxRecDepth 100000 in
set_option maxHeartbeats 800000 in
theorem each2_yield (id v t n : Int) (Bt Bn Ba base b last : Nat) (count : Int) (vi : Nat → Option Int) (w : World) (h0 : 0 ≤ t) (h1 : t ≤ 1000) (hv : 0 ≤ v) (hi : 0 ≤ id) (hi2 : id ≤ 1000) (hne : ¬ Bt = Bn)
    (ht : Boxi w Bt t) (hn : Boxi w Bn n) (ha : Boxp w Ba b) (hT : TI w base b last count vi) (hl : last < 1000000) (hc1 : -1000000 < count) (hc2 : count < 1000000) (hbase : base ≤ w.heap.size) :
    Calls Try.prog 31 #[.int .i64 id, .int .i64 v, .pointer (some ⟨Bt,0,none⟩), .pointer (some ⟨Bn,0,none⟩), .pointer (some ⟨Ba,0,none⟩)] w fun e w' => e = .returned (.bool true) ∧
      TI w' base b (last + 1) (e2cnt id n vi count) (ui (e2vi id n vi) ((last : Int) + 1) (some (-1))) ∧
      TF base AI.tags (w.setCell ⟨Bt,0,none⟩ (.int .i64 (t + 1))) w' := by
  have k1 := ht.cell
  have f1 := ht.frz
  have k2 := hn.cell
  have k3 := ha.cell
  have hne' : ¬ Ba = Bt := by
    intro e; subst e; unfold Boxp at ha; unfold Boxi at ht; rw [ha] at ht; simp at ht
  have hn' := hn.other (fun e => hne e.symm) (.int .i64 (t + 1))
  have ha' := ha.set ht (.int .i64 (t + 1))
  have hT' := hT.box ht (.int .i64 (t + 1))
  have hsz : (w.setCell ⟨Bt,0,none⟩ (.int .i64 (t + 1))).heap.size = w.heap.size := size_set _ _ _
  have HT' := Lib.hid hT'
  have HN' := Lib.hid hn'
  have HA' := Lib.hid ha'
  have HS := Lib.hid hsz
  clear hT hT' hn' ha' hsz
  by_cases hlt : id < n
  · have HLT := Lib.hid hlt
    cases hg : (gi vi (id + 1)) with
    | none =>
      have HG := Lib.hid hg
      clear hg
      go_enter Try.func31, Try.ntmps31
      go_wp2_with fail
      refine (drop_i HT'.out (id + 1) (by omega) (by omega) (by omega)).mono ?_
      rintro e w2 ⟨rfl, ha2, hf2⟩
      rw [HG.out] at ha2 ⊢
      have HA2 : Hid (TI w2 base b last count vi) := ha2
      have kk := (HA'.out.tf hf2).cell
      have HF2 := Lib.hid hf2
      clear ha2 hf2
      go_wp2_with fail
      refine (put_i HA2.out (-1) (by omega) (by omega) (by omega) (by have := HF2.out.size; rw [HS.out] at this; omega)).mono ?_
      rintro e w3 ⟨rfl, ha3, hf3⟩
      have HA3 := Lib.hid ha3
      have HF3 := Lib.hid (HF2.out.trans hf3)
      clear ha3 hf3
      go_wp2_with fail
      go_ret
      refine ⟨rfl, ?_, HF3.out⟩
      obtain ⟨q1, q2⟩ := e2_no (n := n) (count := count) (.inr HG.out)
      rw [q1, q2]; exact HA3.out
    | some y =>
      have HG := Lib.hid hg
      clear hg
      go_enter Try.func31, Try.ntmps31
      go_wp2_with fail
      refine (drop_i HT'.out (id + 1) (by omega) (by omega) (by omega)).mono ?_
      rintro e w2 ⟨rfl, ha2, hf2⟩
      rw [HG.out] at ha2 ⊢
      have HA2 : Hid (TI w2 base b last (count - 1) (ui vi (id + 1) none)) := ha2
      have kk := (HA'.out.tf hf2).cell
      have HF2 := Lib.hid hf2
      clear ha2 hf2
      go_wp2_with fail
      refine (put_i HA2.out (-1) (by omega) (by omega) (by omega) (by have := HF2.out.size; rw [HS.out] at this; omega)).mono ?_
      rintro e w3 ⟨rfl, ha3, hf3⟩
      have HA3 := Lib.hid ha3
      have HF3 := Lib.hid (HF2.out.trans hf3)
      clear ha3 hf3
      go_wp2_with fail
      go_ret
      refine ⟨rfl, ?_, HF3.out⟩
      obtain ⟨q1, q2⟩ := e2_yes (count := count) HLT.out HG.out
      rw [q1, q2]; exact HA3.out
  · have HLT := Lib.hid hlt
    go_enter Try.func31, Try.ntmps31
    have kk := HA'.out.cell
    go_wp2_with fail
    refine (put_i HT'.out (-1) (by omega) (by omega) (by omega) (by rw [HS.out]; omega)).mono ?_
    rintro e w3 ⟨rfl, ha3, hf3⟩
    have HA3 := Lib.hid ha3
    have HF3 := Lib.hid hf3
    clear ha3 hf3
    go_wp2_with fail
    go_ret
    refine ⟨rfl, ?_, HF3.out⟩
    obtain ⟨q1, q2⟩ := e2_no (id := id) (n := n) (vi := vi) (count := count) (.inl (by have := HLT.out; omega))
    rw [q1, q2]; exact HA3.out

/-- The first Each: it stops behind the third one. -/
theorem each1_any (w : World) (base b n Bs B0 Bn Ba : Nat) (hn : n ≤ 200) (hT : TI w base b n n (upto n)) (hs : Boxi w Bs 0) (hbn : Boxi w Bn n) (hba : Boxp w Ba b) (hne : ¬ Bs = Bn) (h1 : B0 ≤ Bs) :
    Calls Try.prog 29 #[.pointer (some ⟨b,0,none⟩), .func (.func 30) #[] #[.pointer (some ⟨Bs,0,none⟩)]] w fun e w' =>
      e = .returned (.tuple #[]) ∧ TI w' base b n n (upto n) ∧ Boxi w' Bs (if n < 3 then n else 3) ∧ Boxi w' Bn n ∧ Boxp w' Ba b ∧ Below B0 w w' := by
  have hls := hs.lt
  refine (AI.each_any b 30 base n _ w (fun s W => ∃ p, s = ⟨p, n, n, upto n⟩ ∧ p ≤ n ∧ p ≤ 2 ∧ TI W base b n n (upto n) ∧ Boxi W Bs p ∧ Boxi W Bn n ∧ Boxp W Ba b ∧ Below B0 w W)
    (fun W => 3 ≤ n ∧ TI W base b n n (upto n) ∧ Boxi W Bs 3 ∧ Boxi W Bn n ∧ Boxp W Ba b ∧ Below B0 w W) (by omega)
    (enters_of Try.func30 (by kernel_rfl) rfl) ?_ ?_ ?_ ?_ ?_ ⟨0, n, n, upto n⟩ rfl rfl ⟨0, rfl, by omega, by omega, hT, hs, hbn, hba, Below.refl _ _⟩).mono ?_
  · rintro _ W ⟨p, rfl, hp, hp2, h, _⟩
    exact ⟨h, Nat.le_refl _, by simp only; omega⟩
  · rintro _ W ⟨p, rfl, hp, hp2, h, hb, hbn, hba, hbl⟩ hlt hv
    simp only at hlt hv
    unfold upto at hv
    rw [if_pos hlt] at hv; simp at hv
  · rintro _ A B row ⟨p, rfl, hp, hp2, h, hb, hbn, hba, hbl⟩ hg hr
    have hold : ∀ (k : Nat) (o : Obj), A.heap[k]? = some o → o.isCells = true → B.heap[k]? = some o := fun (k : Nat) (o : Obj) hk hc => (grownBy_keeps_cells hg (fun r e => (hr r e).2) hk hc).trans hk
    exact ⟨p, rfl, hp, hp2, Ar.cells h hold, hb.cells hold, hbn.cells hold, hba.cells hold, hbl.grown hg (by have := hbl.size; omega) (fun k e => by have := (hr k e).1; omega)⟩
  · rintro _ A B row ⟨h3, h, hb, hbn, hba, hbl⟩ hg hr
    have hold : ∀ (k : Nat) (o : Obj), A.heap[k]? = some o → o.isCells = true → B.heap[k]? = some o := fun (k : Nat) (o : Obj) hk hc => (grownBy_keeps_cells hg (fun r e => (hr r e).2) hk hc).trans hk
    exact ⟨h3, Ar.cells h hold, hb.cells hold, hbn.cells hold, hba.cells hold, hbl.grown hg (by have := hbl.size; omega) (fun k e => by have := (hr k e).1; omega)⟩
  · rintro _ W x ⟨p, rfl, hp, hp2, h, hb, hbn, hba, hbl⟩ hlt hv
    simp only at hlt hv ⊢
    refine (each1_yield ((p : Int) + 1) x p Bs W (by omega) (by omega) hb.cell hb.frz).mono ?_
    rintro e W' ⟨rfl, rfl⟩
    refine ⟨?_, ?_, ?_⟩
    · by_cases hd : (p : Int) + 1 < 3
      · refine .inl ⟨by rw [decide_eq_true hd], ⟨p + 1, n, n, upto n⟩, rfl, p + 1, rfl, by omega, by omega, h.box hb _, hb.set _, hbn.other (fun e => hne e.symm) _, hba.set hb _, hbl.setCell (p := ⟨Bs,0,none⟩) h1 _⟩
      · have hp3 : (p : Int) + 1 = 3 := by omega
        refine .inr ⟨by rw [decide_eq_false hd], by omega, h.box hb _, by rw [← hp3]; exact hb.set _, hbn.other (fun e => hne e.symm) _, hba.set hb _, hbl.setCell (p := ⟨Bs,0,none⟩) h1 _⟩
    · simp [World.setCell]
    · intro k o hk ho _
      rw [heap_set_ne (by simp; omega)]; exact ho
  · rintro e w' ⟨rfl, h⟩
    rcases h with ⟨_, hpos, p, rfl, hp, hp2, h, hb, hbn, hba, hbl⟩ | ⟨h3, h, hb, hbn, hba, hbl⟩
    · simp only at hpos
      subst hpos
      exact ⟨rfl, h, by rw [if_pos (by omega)]; exact hb, hbn, hba, hbl⟩
    · exact ⟨rfl, h, by rw [if_neg (by omega)]; exact hb, hbn, hba, hbl⟩

/-- What the second Each has made of the arena when p places are behind it. -/
def mid (n p : Nat) : Nat → Option Int := fun m => if m < n then (if m % 2 = 0 ∨ p < m then some (m : Int) else none) else if m < n + (p + 1) / 2 then some (-1) else none
def midc (n p : Nat) : Int := (n : Int) - (min ((p + 1) / 2) (n / 2) : Nat) + ((p + 1) / 2 : Nat)
theorem mid_zero (n : Nat) : mid n 0 = upto n := by
  funext m
  unfold mid upto
  by_cases h : m < n
  · rw [if_pos h, if_pos h, if_pos (by omega)]
  · rw [if_neg h, if_neg h, if_neg (by omega)]
theorem told_wrap (n : Nat) (hn : n ≤ 200) : (n : Int) - (n : Int) / 2 + ((n : Int) + 1) / 2 = IntKind.i64.wrap (IntKind.i64.wrap ((n : Int) - IntKind.i64.wrap ((n : Int) / 2)) + ((n : Int) + 1) / 2) := by
  have e2 : IntKind.i64.wrap ((n : Int) / 2) = (n : Int) / 2 := IntWalk.i64_in _ (by omega)
  rw [e2]
  have e3 : IntKind.i64.wrap ((n : Int) - (n : Int) / 2) = (n : Int) - (n : Int) / 2 := IntWalk.i64_in _ (by omega)
  rw [e3]
  exact (IntWalk.i64_in _ (by omega)).symm
theorem midc_self (n : Nat) : midc n n = (n : Int) - (n : Int) / 2 + (((n + 1) / 2 : Nat) : Int) := by unfold midc; omega
theorem midc_zero (n : Nat) : midc n 0 = n := by unfold midc; omega
theorem mid_skip (n p : Nat) (hp : p < n) (h : mid n p p = none) : mid n (p + 1) = mid n p ∧ midc n (p + 1) = midc n p ∧ (p + 1 + 1) / 2 = (p + 1) / 2 := by
  unfold mid at h
  rw [if_pos hp] at h
  have hodd : ¬ (p % 2 = 0 ∨ p < p) := by intro hc; rw [if_pos hc] at h; simp at h
  have e1 : (p + 1 + 1) / 2 = (p + 1) / 2 := by omega
  refine ⟨?_, by unfold midc; rw [e1], e1⟩
  funext m
  unfold mid
  rw [e1]
  by_cases hm : m < n
  · rw [if_pos hm, if_pos hm]
    by_cases hc : m % 2 = 0 ∨ p < m
    · rw [if_pos hc, if_pos (by omega)]
    · rw [if_neg hc, if_neg (by omega)]
  · rw [if_neg hm, if_neg hm]
theorem mid_told (n p : Nat) (x : Int) (hp : p < n) (h : mid n p p = some x) : p % 2 = 0 ∧ x = p := by
  unfold mid at h
  rw [if_pos hp] at h
  by_cases hc : p % 2 = 0 ∨ p < p
  · rw [if_pos hc] at h; simp at h; exact ⟨by omega, h.symm⟩
  · rw [if_neg hc] at h; simp at h
theorem mid_step (n p : Nat) (hp : p < n) (he : p % 2 = 0) :
    ui (e2vi ((p : Int) + 1) n (mid n p)) (((n + (p + 1) / 2 : Nat) : Int) + 1) (some (-1)) = mid n (p + 1) ∧ e2cnt ((p : Int) + 1) n (mid n p) (midc n p) = midc n (p + 1) ∧ (p + 1 + 1) / 2 = (p + 1) / 2 + 1 := by
  have e1 : (p + 1 + 1) / 2 = (p + 1) / 2 + 1 := by omega
  by_cases hlt : p + 1 < n
  · have hg : gi (mid n p) ((p : Int) + 1 + 1) = some ((p : Int) + 1) := by
      unfold gi mid
      rw [if_pos (by omega), show ((p : Int) + 1 + 1 - 1).toNat = p + 1 by omega, if_pos hlt, if_pos (by omega)]
      congr 1
    obtain ⟨q1, q2⟩ := e2_yes (id := (p : Int) + 1) (n := n) (count := midc n p) (by omega) hg
    refine ⟨?_, ?_, e1⟩
    · rw [q2]
      funext m
      unfold ui mid
      rw [show (((n + (p + 1) / 2 : Nat) : Int) + 1 - 1).toNat = n + (p + 1) / 2 by omega, show ((p : Int) + 1 + 1 - 1).toNat = p + 1 by omega, e1]
      by_cases h1 : m = n + (p + 1) / 2
      · rw [if_pos h1, if_neg (by omega), if_pos (by omega)]
      · rw [if_neg h1]
        by_cases h2 : m = p + 1
        · rw [if_pos h2, if_pos (by omega), if_neg (by omega)]
        · rw [if_neg h2]
          by_cases hm : m < n
          · rw [if_pos hm, if_pos hm]
            by_cases hc : m % 2 = 0 ∨ p < m
            · rw [if_pos hc, if_pos (by omega)]
            · rw [if_neg hc, if_neg (by omega)]
          · rw [if_neg hm, if_neg hm]
            by_cases hc : m < n + (p + 1) / 2
            · rw [if_pos hc, if_pos (by omega)]
            · rw [if_neg hc, if_neg (by omega)]
    · rw [q1]; unfold midc; rw [e1]; omega
  · obtain ⟨q1, q2⟩ := e2_no (id := (p : Int) + 1) (n := n) (vi := mid n p) (count := midc n p) (.inl (by omega))
    refine ⟨?_, ?_, e1⟩
    · rw [q2]
      funext m
      unfold ui mid
      rw [show (((n + (p + 1) / 2 : Nat) : Int) + 1 - 1).toNat = n + (p + 1) / 2 by omega, e1]
      by_cases h1 : m = n + (p + 1) / 2
      · rw [if_pos h1, if_neg (by omega), if_pos (by omega)]
      · rw [if_neg h1]
        by_cases hm : m < n
        · rw [if_pos hm, if_pos hm]
          by_cases hc : m % 2 = 0 ∨ p < m
          · rw [if_pos hc, if_pos (by omega)]
          · rw [if_neg hc, if_neg (by omega)]
        · rw [if_neg hm, if_neg hm]
          by_cases hc : m < n + (p + 1) / 2
          · rw [if_pos hc, if_pos (by omega)]
          · rw [if_neg hc, if_neg (by omega)]
    · rw [q1]; unfold midc; rw [e1]; omega

/-- The second Each: what is dropped ahead of its turn, and what is put meanwhile, is not told. -/
theorem each2_any (w : World) (base b n Bt B0 Bn Bs Ba : Nat) (s0 : Int) (hn : n ≤ 200) (hT : TI w base b n n (upto n)) (ht : Boxi w Bt 0) (hbs : Boxi w Bs s0) (hbn : Boxi w Bn n) (hba : Boxp w Ba b) (hne : ¬ Bt = Bn) (hns : ¬ Bt = Bs) (h1 : B0 ≤ Bt) (hb0 : B0 ≤ base) (hbase : base ≤ w.heap.size) :
    Calls Try.prog 29 #[.pointer (some ⟨b,0,none⟩), .func (.func 31) #[] #[.pointer (some ⟨Bt,0,none⟩), .pointer (some ⟨Bn,0,none⟩), .pointer (some ⟨Ba,0,none⟩)]] w fun e w' =>
      e = .returned (.tuple #[]) ∧ TI w' base b (n + (n + 1) / 2) (midc n n) (mid n n) ∧ Boxi w' Bt ((n + 1) / 2 : Nat) ∧ Boxi w' Bs s0 ∧ Boxi w' Bn n ∧ Boxp w' Ba b ∧ Below B0 w w' := by
  have hls := ht.lt
  refine (AI.each_any b 31 base n _ w (fun s W => ∃ p, s = ⟨p, n + (p + 1) / 2, midc n p, mid n p⟩ ∧ p ≤ n ∧ TI W base b (n + (p + 1) / 2) (midc n p) (mid n p) ∧ Boxi W Bt ((p + 1) / 2 : Nat) ∧ Boxi W Bs s0 ∧ Boxi W Bn n ∧ Boxp W Ba b ∧ Below B0 w W)
    (fun _ => False) (by omega)
    (enters_of Try.func31 (by kernel_rfl) rfl) ?_ ?_ ?_ ?_ ?_ ⟨0, n, n, upto n⟩ rfl rfl ⟨0, by rw [mid_zero, midc_zero]; rfl, by omega, by rw [mid_zero, midc_zero]; exact hT, (by rw [show (((0 + 1) / 2 : Nat) : Int) = 0 from rfl]; exact ht), hbs, hbn, hba, Below.refl _ _⟩).mono ?_
  · rintro _ W ⟨p, rfl, hp, h, _⟩
    exact ⟨h, by simp only; omega, by simp only; omega⟩
  · rintro _ W ⟨p, rfl, hp, h, hb, hbs, hbn, hba, hbl⟩ hlt hv
    simp only at hlt hv
    obtain ⟨q1, q2, q3⟩ := mid_skip n p hlt hv
    exact ⟨p + 1, by rw [q1, q2, q3], by omega, by rw [q1, q2, q3]; exact h, by rw [q3]; exact hb, hbs, hbn, hba, hbl⟩
  · rintro _ A B row ⟨p, rfl, hp, h, hb, hbs, hbn, hba, hbl⟩ hg hr
    have hold : ∀ (k : Nat) (o : Obj), A.heap[k]? = some o → o.isCells = true → B.heap[k]? = some o := fun (k : Nat) (o : Obj) hk hc => (grownBy_keeps_cells hg (fun r e => (hr r e).2) hk hc).trans hk
    exact ⟨p, rfl, hp, Ar.cells h hold, hb.cells hold, hbs.cells hold, hbn.cells hold, hba.cells hold, hbl.grown hg (by have := hbl.size; omega) (fun k e => by have := (hr k e).1; omega)⟩
  · intro _ A B row h _ _; exact h
  · rintro _ W x ⟨p, rfl, hp, h, hb, hbs, hbn, hba, hbl⟩ hlt hv
    simp only at hlt hv ⊢
    obtain ⟨he, rfl⟩ := mid_told n p x hlt hv
    obtain ⟨q1, q2, q3⟩ := mid_step n p hlt he
    have hbW : base ≤ W.heap.size := by have := hbl.size; omega
    refine (each2_yield ((p : Int) + 1) p _ n Bt Bn Ba base b _ _ _ W (by omega) (by omega) (by omega) (by omega) (by omega) hne hb hbn hba h (by omega) (by unfold midc; omega) (by unfold midc; omega) hbW).mono ?_
    rintro e W' ⟨rfl, hT', hf'⟩
    rw [q1, q2] at hT'
    have hb' : Boxi W' Bt ((p + 1 + 1) / 2 : Nat) := by
      rw [q3]; exact (hb.set _).tf hf'
    have hsz : (W.setCell ⟨Bt,0,none⟩ (.int .i64 (((p + 1) / 2 : Nat) + 1))).heap.size = W.heap.size := size_set _ _ _
    refine ⟨.inl ⟨rfl, ⟨p + 1, n + (p + 1 + 1) / 2, midc n (p + 1), mid n (p + 1)⟩, rfl, p + 1, rfl, by omega, by rw [show n + (p + 1 + 1) / 2 = n + (p + 1) / 2 + 1 by omega]; exact hT', hb', (hbs.other (fun e => hns e.symm) _).tf hf', (hbn.other (fun e => hne e.symm) _).tf hf', (hba.set hb _).tf hf', ?_⟩, ?_, ?_⟩
    · exact (hbl.setCell (p := ⟨Bt,0,none⟩) h1 _).trans ((hf'.low hb0).below (by rw [hsz]; omega))
    · have := hf'.size; rw [hsz] at this; exact this
    · intro k o hk ho htag
      exact hf'.blk k o (by rw [heap_set_ne (by simp; omega)]; exact ho) (.inr htag)
  · rintro e w' ⟨rfl, h⟩
    rcases h with ⟨_, hpos, p, rfl, hp, h, hb, hbs, hbn, hba, hbl⟩ | h
    · simp only at hpos
      subst hpos
      exact ⟨rfl, h, hb, hbs, hbn, hba, hbl⟩
    · exact h.elim


set_option maxRecDepth 100000 in
set_option maxHeartbeats 1600000 in
theorem each_walk (w : World) (v : Value) (La : Option Addr) (ln lc : Nat) (Aa : Option Addr) (an ac : Nat) (D I : Nat → Int) (S : Nat → ByteArray) (Q : Nat → Int) (hs : ScriptAt w v La ln lc Aa an ac D I S Q) :
    Calls Try.prog 5 #[v] w fun e w' => e = .returned (.bool true) ∧ Below w.heap.size w w' := by
  have hv := hs.shape
  have hlm := hs.lmax
  clear hs
  subst hv
  go_enter Try.func5, Try.ntmps5
  go_wp2_with fail
  refine (new_i _ (w.heap.size + 1) (by simp)).mono ?_
  rintro e w1 ⟨rfl, ha1, hf1⟩
  have es : (w.alloc (.cells #[.slice La ln lc, .slice Aa an ac] 25)).heap.size = w.heap.size + 1 := by simp
  rw [es] at ha1 ⊢
  have hsz : w.heap.size < w1.heap.size := by have := hf1.size; rw [es] at this; exact this
  have hbox : w1.cell? ⟨w.heap.size, 0, none⟩ = some (.slice La ln lc) := by
    rw [hf1.cell_old (by omega) (by simp)]; exact World.cell?_alloc_at _ _ _ _ rfl
  have HF1 := Lib.hid hf1
  have HA1 := Lib.hid ha1
  clear es ha1 hf1
  by_cases hgt : (200 : Int) < ln
  · go_wp2_with fail
    obtain ⟨n, hn⟩ : ∃ n : Nat, (n : Int) = 200 := ⟨200, rfl⟩
    rw [← hn]
    have hn2 : n ≤ 200 := by omega
    clear hn
    have hba1 : Boxp ((w1.alloc (.cells #[.pointer (some ⟨w.heap.size + 1,0,none⟩)] 47)).alloc (.cells #[.int .i64 n] 3)) w1.heap.size (w.heap.size + 1) := by
      unfold Boxp; rw [Below.heap_alloc _ _ _ (by simp)]; exact heap_new_at rfl _
    have hbn1 : Boxi ((w1.alloc (.cells #[.pointer (some ⟨w.heap.size + 1,0,none⟩)] 47)).alloc (.cells #[.int .i64 n] 3)) (w1.heap.size + 1) n := heap_new_at (by simp) _
    have hT1 : TI ((w1.alloc (.cells #[.pointer (some ⟨w.heap.size + 1,0,none⟩)] 47)).alloc (.cells #[.int .i64 n] 3)) (w.heap.size + 1) (w.heap.size + 1) 0 0 (fun _ => none) :=
      Ar.frame HA1.out (base' := 0) (ts := []) (((TF.refl _ _ _).alloc _).alloc _) rfl rfl rfl
    have hs2 : w1.heap.size + 2 ≤ ((w1.alloc (.cells #[.pointer (some ⟨w.heap.size + 1,0,none⟩)] 47)).alloc (.cells #[.int .i64 n] 3)).heap.size := by simp
    obtain ⟨w2, hw2⟩ : ∃ w2, (w1.alloc (.cells #[.pointer (some ⟨w.heap.size + 1,0,none⟩)] 47)).alloc (.cells #[.int .i64 n] 3) = w2 := ⟨_, rfl⟩
    have hb2 : Below w.heap.size w w2 := by
      rw [← hw2]
      have a1 : Below w.heap.size w (w.alloc (.cells #[.slice La ln lc, .slice Aa an ac] 25)) := (Below.refl _ _).alloc (Nat.le_refl _) _
      exact ((a1.trans ((HF1.out.below (by simp)).mono (by omega))).alloc (by omega) _).alloc (by simp; omega) _
    rw [hw2] at hba1 hbn1 hT1 hs2 ⊢
    have HBA := Lib.hid hba1
    have HBN := Lib.hid hbn1
    have HT1 := Lib.hid hT1
    have HB2 := Lib.hid hb2
    clear hba1 hbn1 hT1 hw2 hb2 HF1 HA1 hbox
    go_loopw [5] (fun i wr => ∃ k : Nat, k ≤ n ∧ i = .int .i64 k ∧ Hid (TI wr (w.heap.size + 1) (w.heap.size + 1) k k (upto k)) ∧ Hid (TF (w.heap.size + 1) AI.tags w2 wr)) (fun i _ => n - (intOf i).toNat)
    case atStart => exact ⟨0, by omega, rfl, by rw [upto_zero]; exact HT1, TF.refl _ _ _⟩
    case round =>
      obtain ⟨k, hk, rfl, hak, hfk⟩ := hrel
      have ka := (HBA.out.tf hfk.out).cell
      have kn := (HBN.out.tf hfk.out).cell
      have hsr := hfk.out.size
      by_cases hlt : k < n
      · go_wp2_with fail
        refine (put_i hak.out (k : Int) (by omega) (by omega) (by omega) (by omega)).mono ?_
        rintro e w3 ⟨rfl, ha3, hf3⟩
        rw [upto_succ] at ha3
        have HA3 := Lib.hid ha3
        have HF3 := Lib.hid (hfk.out.trans hf3)
        clear ha3 hf3
        go_wp2_with fail
        go_roundw
        case rel => exact ⟨k + 1, by omega, by go_num, HA3, HF3⟩
        case measure => simp [intOf]; omega
      · have hkn : k = n := by omega
        have HKN := Lib.hid hkn
        have hB3 : Below w.heap.size w wr := HB2.out.trans ((hfk.out.below (by omega)).mono (by omega))
        have HBR := Lib.hid hB3
        have hT4 : TI wr (w.heap.size + 1) (w.heap.size + 1) n n (upto n) := by have := hak.out; rw [hkn] at this; exact this
        have HT4 := Lib.hid hT4
        have HBA4 := Lib.hid (HBA.out.tf hfk.out)
        have HBN4 := Lib.hid (HBN.out.tf hfk.out)
        have hq1 : w1.heap.size < wr.heap.size := by omega
        have hq2 : w1.heap.size + 1 < wr.heap.size := by omega
        clear hkn hB3 hT4 HBA HBN HT1 HB2 hak hfk
        go_wp2_with fail
        have hst : Boxi (wr.alloc (.cells #[.int .i64 0] 3)) wr.heap.size 0 := heap_new_at rfl _
        have hT5 : TI (wr.alloc (.cells #[.int .i64 0] 3)) (w.heap.size + 1) (w.heap.size + 1) n n (upto n) := Ar.frame HT4.out (base' := 0) (ts := []) ((TF.refl _ _ _).alloc _) rfl rfl rfl
        have hba5 : Boxp (wr.alloc (.cells #[.int .i64 0] 3)) w1.heap.size (w.heap.size + 1) := by unfold Boxp; rw [Below.heap_alloc _ _ _ (lt_blk HBA4.out)]; exact HBA4.out
        have hbn5 : Boxi (wr.alloc (.cells #[.int .i64 0] 3)) (w1.heap.size + 1) n := by unfold Boxi; rw [Below.heap_alloc _ _ _ (lt_blk HBN4.out)]; exact HBN4.out
        refine (each1_any _ (w.heap.size + 1) (w.heap.size + 1) n wr.heap.size w.heap.size (w1.heap.size + 1) w1.heap.size hn2 hT5 hst hbn5 hba5 (by omega) (by omega)).mono ?_
        rintro e w4 ⟨rfl, hT6, hs6, hn6, ha6, hb6⟩
        have ka6 := ha6.cell
        have HT6 := Lib.hid hT6
        have HS6 := Lib.hid hs6
        have HN6 := Lib.hid hn6
        have HA6 := Lib.hid ha6
        have hsz4 : wr.heap.size < w4.heap.size := by have := hb6.size; simp at this; omega
        have hq3 : w1.heap.size < w4.heap.size := by omega
        have hq4 : w1.heap.size + 1 < w4.heap.size := by omega
        have HB6 : Hid (Below w.heap.size w w4) := (HBR.out.alloc (by omega) _).trans hb6
        clear hst hT5 hba5 hbn5 hT6 hs6 hn6 ha6 hb6
        go_wp2_with fail
        have hst : Boxi (w4.alloc (.cells #[.int .i64 0] 3)) w4.heap.size 0 := heap_new_at rfl _
        have hT5 : TI (w4.alloc (.cells #[.int .i64 0] 3)) (w.heap.size + 1) (w.heap.size + 1) n n (upto n) := Ar.frame HT6.out (base' := 0) (ts := []) ((TF.refl _ _ _).alloc _) rfl rfl rfl
        have hba5 : Boxp (w4.alloc (.cells #[.int .i64 0] 3)) w1.heap.size (w.heap.size + 1) := by unfold Boxp; rw [Below.heap_alloc _ _ _ (lt_blk HA6.out)]; exact HA6.out
        have hbn5 : Boxi (w4.alloc (.cells #[.int .i64 0] 3)) (w1.heap.size + 1) n := by unfold Boxi; rw [Below.heap_alloc _ _ _ (lt_blk HN6.out)]; exact HN6.out
        have hbs5 : Boxi (w4.alloc (.cells #[.int .i64 0] 3)) wr.heap.size (if n < 3 then n else 3) := by unfold Boxi; rw [Below.heap_alloc _ _ _ (lt_blk HS6.out)]; exact HS6.out
        refine (each2_any _ (w.heap.size + 1) (w.heap.size + 1) n w4.heap.size w.heap.size (w1.heap.size + 1) wr.heap.size w1.heap.size _ hn2 hT5 hst hbs5 hbn5 hba5 (by omega) (by omega) (by omega) (by omega) (by simp; omega)).mono ?_
        rintro e w5 ⟨rfl, hT7, ht7, hs7, hn7, ha7, hb7⟩
        have ka7 := ha7.cell
        have HT7 := Lib.hid hT7
        have HTT7 := Lib.hid ht7
        have HS7 := Lib.hid hs7
        have HN7 := Lib.hid hn7
        have HA7 := Lib.hid ha7
        have hsz5 : w4.heap.size < w5.heap.size := by have := hb7.size; simp at this; omega
        have hq5 : w1.heap.size < w5.heap.size := by omega
        have hq6 : w1.heap.size + 1 < w5.heap.size := by omega
        have hq7 : wr.heap.size < w5.heap.size := by omega
        have HB7 : Hid (Below w.heap.size w w5) := (HB6.out.alloc (by omega) _).trans hb7
        clear hst hT5 hba5 hbn5 hbs5 hT7 ht7 hs7 hn7 ha7 hb7 HT6 HS6 HN6 HA6 HB6 ka6
        go_wp2_with fail
        refine (each_nil (w.heap.size + 1) w5).mono ?_
        rintro e w6 ⟨rfl, rfl⟩
        have kn8 := HN7.out.cell
        have kt8 := HTT7.out.cell
        have ks8 := HS7.out.cell
        have hln : w1.heap.size + 1 < w5.heap.size := lt_blk HN7.out
        have hmx : ((n : Int) + 1) / 2 = (((n + 1) / 2 : Nat) : Int) := by omega
        have HMX := Lib.hid hmx
        have hT8 : TI ((w5.alloc (.cells #[.pointer (some ⟨w.heap.size + 1,0,none⟩)] 47)).alloc (.cells #[.nilFunc] 52)) (w.heap.size + 1) (w.heap.size + 1) (n + (n + 1) / 2) ((n : Int) - (n : Int) / 2 + (((n + 1) / 2 : Nat) : Int)) (mid n n) := by
          rw [← midc_self]
          exact Ar.frame HT7.out (base' := 0) (ts := []) (((TF.refl _ _ _).alloc _).alloc _) rfl rfl rfl
        have HT8 := Lib.hid hT8
        clear hT8
        have HB9 : Hid (Below w.heap.size w ((w5.alloc (.cells #[.pointer (some ⟨w.heap.size + 1,0,none⟩)] 47)).alloc (.cells #[.nilFunc] 52))) := (HB7.out.alloc (by omega) _).alloc (by simp; omega) _
        by_cases h3 : n < 3
        · rw [if_pos h3] at ks8
          have g1 : decide ((n : Int) < 3) = true := by simp; omega
          clear hmx
          go_wp2_with fail
          have hE : (n : Int) - (n : Int) / 2 + ((n : Int) + 1) / 2 = IntKind.i64.wrap (IntKind.i64.wrap ((n : Int) - IntKind.i64.wrap ((n : Int) / 2)) + ((n : Int) + 1) / 2) := told_wrap n hn2
          go_region_held3 (fun w' => w'.cell? ⟨w1.heap.size, 0, none⟩ = some (.pointer (some ⟨w.heap.size + 1, 0, none⟩)) ∧ w'.cell? ⟨w1.heap.size + 1, 0, none⟩ = some (.int .i64 (n : Int)) ∧ w'.cell? ⟨w4.heap.size, 0, none⟩ = some (.int .i64 (((n : Int) + 1) / 2))) (go_keep)
            (first | (go_at_call 32; refine (len_i (TI.same (w := (w5.alloc (.cells #[.pointer (some ⟨w.heap.size + 1,0,none⟩)] 47)).alloc (.cells #[.nilFunc] 52)) HT8.out (by exact rfl))).mono ?_; rintro e w' ⟨rfl, rfl⟩) | (go_at_call 23; refine (wakes_any _).mono ?_; rintro e w' ⟨rfl, hb⟩; have s1 : w'.cell? ⟨w1.heap.size, 0, none⟩ = some (.pointer (some ⟨w.heap.size + 1, 0, none⟩)) := (hb.cell (p := ⟨w1.heap.size, 0, none⟩) (by simp; omega)).trans (by go_simp); have s2 : w'.cell? ⟨w1.heap.size + 1, 0, none⟩ = some (.int .i64 (n : Int)) := (hb.cell (p := ⟨w1.heap.size + 1, 0, none⟩) (by simp; omega)).trans (by go_simp); have s3 : w'.cell? ⟨w4.heap.size, 0, none⟩ = some (.int .i64 (((n : Int) + 1) / 2)) := (hb.cell (p := ⟨w4.heap.size, 0, none⟩) (by simp; omega)).trans (by go_simp); have HBB := Lib.hid hb; clear hb))
          go_wp2
          go_ret
          exact ⟨rfl, (HB9.out.drew).trans (HBB.out.mono (by simp; omega))⟩
        · rw [if_neg h3] at ks8
          have g1 : decide ((n : Int) < 3) = false := by simp; omega
          have g2 : (3 : Int) ≤ n := by omega
          clear hmx
          go_wp2_with fail
          have hE : (n : Int) - (n : Int) / 2 + ((n : Int) + 1) / 2 = IntKind.i64.wrap (IntKind.i64.wrap ((n : Int) - IntKind.i64.wrap ((n : Int) / 2)) + ((n : Int) + 1) / 2) := told_wrap n hn2
          go_region_held3 (fun w' => w'.cell? ⟨w1.heap.size, 0, none⟩ = some (.pointer (some ⟨w.heap.size + 1, 0, none⟩)) ∧ w'.cell? ⟨w1.heap.size + 1, 0, none⟩ = some (.int .i64 (n : Int)) ∧ w'.cell? ⟨w4.heap.size, 0, none⟩ = some (.int .i64 (((n : Int) + 1) / 2))) (go_keep)
            (first | (go_at_call 32; refine (len_i (TI.same (w := (w5.alloc (.cells #[.pointer (some ⟨w.heap.size + 1,0,none⟩)] 47)).alloc (.cells #[.nilFunc] 52)) HT8.out (by exact rfl))).mono ?_; rintro e w' ⟨rfl, rfl⟩) | (go_at_call 23; refine (wakes_any _).mono ?_; rintro e w' ⟨rfl, hb⟩; have s1 : w'.cell? ⟨w1.heap.size, 0, none⟩ = some (.pointer (some ⟨w.heap.size + 1, 0, none⟩)) := (hb.cell (p := ⟨w1.heap.size, 0, none⟩) (by simp; omega)).trans (by go_simp); have s2 : w'.cell? ⟨w1.heap.size + 1, 0, none⟩ = some (.int .i64 (n : Int)) := (hb.cell (p := ⟨w1.heap.size + 1, 0, none⟩) (by simp; omega)).trans (by go_simp); have s3 : w'.cell? ⟨w4.heap.size, 0, none⟩ = some (.int .i64 (((n : Int) + 1) / 2)) := (hb.cell (p := ⟨w4.heap.size, 0, none⟩) (by simp; omega)).trans (by go_simp); have HBB := Lib.hid hb; clear hb))
          go_wp2
          go_ret
          exact ⟨rfl, (HB9.out.drew).trans (HBB.out.mono (by simp; omega))⟩

  · obtain ⟨n, rfl⟩ : ∃ n, n = ln := ⟨_, rfl⟩
    have hgd : decide ((200 : Int) < n) = false := by simp; omega
    go_wp2_with fail
    have hn2 : n ≤ 200 := by omega
    clear hgd
    have hba1 : Boxp ((w1.alloc (.cells #[.pointer (some ⟨w.heap.size + 1,0,none⟩)] 47)).alloc (.cells #[.int .i64 n] 3)) w1.heap.size (w.heap.size + 1) := by
      unfold Boxp; rw [Below.heap_alloc _ _ _ (by simp)]; exact heap_new_at rfl _
    have hbn1 : Boxi ((w1.alloc (.cells #[.pointer (some ⟨w.heap.size + 1,0,none⟩)] 47)).alloc (.cells #[.int .i64 n] 3)) (w1.heap.size + 1) n := heap_new_at (by simp) _
    have hT1 : TI ((w1.alloc (.cells #[.pointer (some ⟨w.heap.size + 1,0,none⟩)] 47)).alloc (.cells #[.int .i64 n] 3)) (w.heap.size + 1) (w.heap.size + 1) 0 0 (fun _ => none) :=
      Ar.frame HA1.out (base' := 0) (ts := []) (((TF.refl _ _ _).alloc _).alloc _) rfl rfl rfl
    have hs2 : w1.heap.size + 2 ≤ ((w1.alloc (.cells #[.pointer (some ⟨w.heap.size + 1,0,none⟩)] 47)).alloc (.cells #[.int .i64 n] 3)).heap.size := by simp
    obtain ⟨w2, hw2⟩ : ∃ w2, (w1.alloc (.cells #[.pointer (some ⟨w.heap.size + 1,0,none⟩)] 47)).alloc (.cells #[.int .i64 n] 3) = w2 := ⟨_, rfl⟩
    have hb2 : Below w.heap.size w w2 := by
      rw [← hw2]
      have a1 : Below w.heap.size w (w.alloc (.cells #[.slice La n lc, .slice Aa an ac] 25)) := (Below.refl _ _).alloc (Nat.le_refl _) _
      exact ((a1.trans ((HF1.out.below (by simp)).mono (by omega))).alloc (by omega) _).alloc (by simp; omega) _
    rw [hw2] at hba1 hbn1 hT1 hs2 ⊢
    have HBA := Lib.hid hba1
    have HBN := Lib.hid hbn1
    have HT1 := Lib.hid hT1
    have HB2 := Lib.hid hb2
    clear hba1 hbn1 hT1 hw2 hb2 HF1 HA1 hbox
    go_loopw [5] (fun i wr => ∃ k : Nat, k ≤ n ∧ i = .int .i64 k ∧ Hid (TI wr (w.heap.size + 1) (w.heap.size + 1) k k (upto k)) ∧ Hid (TF (w.heap.size + 1) AI.tags w2 wr)) (fun i _ => n - (intOf i).toNat)
    case atStart => exact ⟨0, by omega, rfl, by rw [upto_zero]; exact HT1, TF.refl _ _ _⟩
    case round =>
      obtain ⟨k, hk, rfl, hak, hfk⟩ := hrel
      have ka := (HBA.out.tf hfk.out).cell
      have kn := (HBN.out.tf hfk.out).cell
      have hsr := hfk.out.size
      by_cases hlt : k < n
      · go_wp2_with fail
        refine (put_i hak.out (k : Int) (by omega) (by omega) (by omega) (by omega)).mono ?_
        rintro e w3 ⟨rfl, ha3, hf3⟩
        rw [upto_succ] at ha3
        have HA3 := Lib.hid ha3
        have HF3 := Lib.hid (hfk.out.trans hf3)
        clear ha3 hf3
        go_wp2_with fail
        go_roundw
        case rel => exact ⟨k + 1, by omega, by go_num, HA3, HF3⟩
        case measure => simp [intOf]; omega
      · have hkn : k = n := by omega
        have HKN := Lib.hid hkn
        have hB3 : Below w.heap.size w wr := HB2.out.trans ((hfk.out.below (by omega)).mono (by omega))
        have HBR := Lib.hid hB3
        have hT4 : TI wr (w.heap.size + 1) (w.heap.size + 1) n n (upto n) := by have := hak.out; rw [hkn] at this; exact this
        have HT4 := Lib.hid hT4
        have HBA4 := Lib.hid (HBA.out.tf hfk.out)
        have HBN4 := Lib.hid (HBN.out.tf hfk.out)
        have hq1 : w1.heap.size < wr.heap.size := by omega
        have hq2 : w1.heap.size + 1 < wr.heap.size := by omega
        clear hkn hB3 hT4 HBA HBN HT1 HB2 hak hfk
        go_wp2_with fail
        have hst : Boxi (wr.alloc (.cells #[.int .i64 0] 3)) wr.heap.size 0 := heap_new_at rfl _
        have hT5 : TI (wr.alloc (.cells #[.int .i64 0] 3)) (w.heap.size + 1) (w.heap.size + 1) n n (upto n) := Ar.frame HT4.out (base' := 0) (ts := []) ((TF.refl _ _ _).alloc _) rfl rfl rfl
        have hba5 : Boxp (wr.alloc (.cells #[.int .i64 0] 3)) w1.heap.size (w.heap.size + 1) := by unfold Boxp; rw [Below.heap_alloc _ _ _ (lt_blk HBA4.out)]; exact HBA4.out
        have hbn5 : Boxi (wr.alloc (.cells #[.int .i64 0] 3)) (w1.heap.size + 1) n := by unfold Boxi; rw [Below.heap_alloc _ _ _ (lt_blk HBN4.out)]; exact HBN4.out
        refine (each1_any _ (w.heap.size + 1) (w.heap.size + 1) n wr.heap.size w.heap.size (w1.heap.size + 1) w1.heap.size hn2 hT5 hst hbn5 hba5 (by omega) (by omega)).mono ?_
        rintro e w4 ⟨rfl, hT6, hs6, hn6, ha6, hb6⟩
        have ka6 := ha6.cell
        have HT6 := Lib.hid hT6
        have HS6 := Lib.hid hs6
        have HN6 := Lib.hid hn6
        have HA6 := Lib.hid ha6
        have hsz4 : wr.heap.size < w4.heap.size := by have := hb6.size; simp at this; omega
        have hq3 : w1.heap.size < w4.heap.size := by omega
        have hq4 : w1.heap.size + 1 < w4.heap.size := by omega
        have HB6 : Hid (Below w.heap.size w w4) := (HBR.out.alloc (by omega) _).trans hb6
        clear hst hT5 hba5 hbn5 hT6 hs6 hn6 ha6 hb6
        go_wp2_with fail
        have hst : Boxi (w4.alloc (.cells #[.int .i64 0] 3)) w4.heap.size 0 := heap_new_at rfl _
        have hT5 : TI (w4.alloc (.cells #[.int .i64 0] 3)) (w.heap.size + 1) (w.heap.size + 1) n n (upto n) := Ar.frame HT6.out (base' := 0) (ts := []) ((TF.refl _ _ _).alloc _) rfl rfl rfl
        have hba5 : Boxp (w4.alloc (.cells #[.int .i64 0] 3)) w1.heap.size (w.heap.size + 1) := by unfold Boxp; rw [Below.heap_alloc _ _ _ (lt_blk HA6.out)]; exact HA6.out
        have hbn5 : Boxi (w4.alloc (.cells #[.int .i64 0] 3)) (w1.heap.size + 1) n := by unfold Boxi; rw [Below.heap_alloc _ _ _ (lt_blk HN6.out)]; exact HN6.out
        have hbs5 : Boxi (w4.alloc (.cells #[.int .i64 0] 3)) wr.heap.size (if n < 3 then n else 3) := by unfold Boxi; rw [Below.heap_alloc _ _ _ (lt_blk HS6.out)]; exact HS6.out
        refine (each2_any _ (w.heap.size + 1) (w.heap.size + 1) n w4.heap.size w.heap.size (w1.heap.size + 1) wr.heap.size w1.heap.size _ hn2 hT5 hst hbs5 hbn5 hba5 (by omega) (by omega) (by omega) (by omega) (by simp; omega)).mono ?_
        rintro e w5 ⟨rfl, hT7, ht7, hs7, hn7, ha7, hb7⟩
        have ka7 := ha7.cell
        have HT7 := Lib.hid hT7
        have HTT7 := Lib.hid ht7
        have HS7 := Lib.hid hs7
        have HN7 := Lib.hid hn7
        have HA7 := Lib.hid ha7
        have hsz5 : w4.heap.size < w5.heap.size := by have := hb7.size; simp at this; omega
        have hq5 : w1.heap.size < w5.heap.size := by omega
        have hq6 : w1.heap.size + 1 < w5.heap.size := by omega
        have hq7 : wr.heap.size < w5.heap.size := by omega
        have HB7 : Hid (Below w.heap.size w w5) := (HB6.out.alloc (by omega) _).trans hb7
        clear hst hT5 hba5 hbn5 hbs5 hT7 ht7 hs7 hn7 ha7 hb7 HT6 HS6 HN6 HA6 HB6 ka6
        go_wp2_with fail
        refine (each_nil (w.heap.size + 1) w5).mono ?_
        rintro e w6 ⟨rfl, rfl⟩
        have kn8 := HN7.out.cell
        have kt8 := HTT7.out.cell
        have ks8 := HS7.out.cell
        have hln : w1.heap.size + 1 < w5.heap.size := lt_blk HN7.out
        have hmx : ((n : Int) + 1) / 2 = (((n + 1) / 2 : Nat) : Int) := by omega
        have HMX := Lib.hid hmx
        have hT8 : TI ((w5.alloc (.cells #[.pointer (some ⟨w.heap.size + 1,0,none⟩)] 47)).alloc (.cells #[.nilFunc] 52)) (w.heap.size + 1) (w.heap.size + 1) (n + (n + 1) / 2) ((n : Int) - (n : Int) / 2 + (((n + 1) / 2 : Nat) : Int)) (mid n n) := by
          rw [← midc_self]
          exact Ar.frame HT7.out (base' := 0) (ts := []) (((TF.refl _ _ _).alloc _).alloc _) rfl rfl rfl
        have HT8 := Lib.hid hT8
        clear hT8
        have HB9 : Hid (Below w.heap.size w ((w5.alloc (.cells #[.pointer (some ⟨w.heap.size + 1,0,none⟩)] 47)).alloc (.cells #[.nilFunc] 52))) := (HB7.out.alloc (by omega) _).alloc (by simp; omega) _
        by_cases h3 : n < 3
        · rw [if_pos h3] at ks8
          have g1 : decide ((n : Int) < 3) = true := by simp; omega
          clear hmx
          go_wp2_with fail
          have hE : (n : Int) - (n : Int) / 2 + ((n : Int) + 1) / 2 = IntKind.i64.wrap (IntKind.i64.wrap ((n : Int) - IntKind.i64.wrap ((n : Int) / 2)) + ((n : Int) + 1) / 2) := told_wrap n hn2
          go_region_held3 (fun w' => w'.cell? ⟨w1.heap.size, 0, none⟩ = some (.pointer (some ⟨w.heap.size + 1, 0, none⟩)) ∧ w'.cell? ⟨w1.heap.size + 1, 0, none⟩ = some (.int .i64 (n : Int)) ∧ w'.cell? ⟨w4.heap.size, 0, none⟩ = some (.int .i64 (((n : Int) + 1) / 2))) (go_keep)
            (first | (go_at_call 32; refine (len_i (TI.same (w := (w5.alloc (.cells #[.pointer (some ⟨w.heap.size + 1,0,none⟩)] 47)).alloc (.cells #[.nilFunc] 52)) HT8.out (by exact rfl))).mono ?_; rintro e w' ⟨rfl, rfl⟩) | (go_at_call 23; refine (wakes_any _).mono ?_; rintro e w' ⟨rfl, hb⟩; have s1 : w'.cell? ⟨w1.heap.size, 0, none⟩ = some (.pointer (some ⟨w.heap.size + 1, 0, none⟩)) := (hb.cell (p := ⟨w1.heap.size, 0, none⟩) (by simp; omega)).trans (by go_simp); have s2 : w'.cell? ⟨w1.heap.size + 1, 0, none⟩ = some (.int .i64 (n : Int)) := (hb.cell (p := ⟨w1.heap.size + 1, 0, none⟩) (by simp; omega)).trans (by go_simp); have s3 : w'.cell? ⟨w4.heap.size, 0, none⟩ = some (.int .i64 (((n : Int) + 1) / 2)) := (hb.cell (p := ⟨w4.heap.size, 0, none⟩) (by simp; omega)).trans (by go_simp); have HBB := Lib.hid hb; clear hb))
          go_wp2
          go_ret
          exact ⟨rfl, (HB9.out.drew).trans (HBB.out.mono (by simp; omega))⟩
        · rw [if_neg h3] at ks8
          have g1 : decide ((n : Int) < 3) = false := by simp; omega
          have g2 : (3 : Int) ≤ n := by omega
          clear hmx
          go_wp2_with fail
          have hE : (n : Int) - (n : Int) / 2 + ((n : Int) + 1) / 2 = IntKind.i64.wrap (IntKind.i64.wrap ((n : Int) - IntKind.i64.wrap ((n : Int) / 2)) + ((n : Int) + 1) / 2) := told_wrap n hn2
          go_region_held3 (fun w' => w'.cell? ⟨w1.heap.size, 0, none⟩ = some (.pointer (some ⟨w.heap.size + 1, 0, none⟩)) ∧ w'.cell? ⟨w1.heap.size + 1, 0, none⟩ = some (.int .i64 (n : Int)) ∧ w'.cell? ⟨w4.heap.size, 0, none⟩ = some (.int .i64 (((n : Int) + 1) / 2))) (go_keep)
            (first | (go_at_call 32; refine (len_i (TI.same (w := (w5.alloc (.cells #[.pointer (some ⟨w.heap.size + 1,0,none⟩)] 47)).alloc (.cells #[.nilFunc] 52)) HT8.out (by exact rfl))).mono ?_; rintro e w' ⟨rfl, rfl⟩) | (go_at_call 23; refine (wakes_any _).mono ?_; rintro e w' ⟨rfl, hb⟩; have s1 : w'.cell? ⟨w1.heap.size, 0, none⟩ = some (.pointer (some ⟨w.heap.size + 1, 0, none⟩)) := (hb.cell (p := ⟨w1.heap.size, 0, none⟩) (by simp; omega)).trans (by go_simp); have s2 : w'.cell? ⟨w1.heap.size + 1, 0, none⟩ = some (.int .i64 (n : Int)) := (hb.cell (p := ⟨w1.heap.size + 1, 0, none⟩) (by simp; omega)).trans (by go_simp); have s3 : w'.cell? ⟨w4.heap.size, 0, none⟩ = some (.int .i64 (((n : Int) + 1) / 2)) := (hb.cell (p := ⟨w4.heap.size, 0, none⟩) (by simp; omega)).trans (by go_simp); have HBB := Lib.hid hb; clear hb))
          go_wp2
          go_ret
          exact ⟨rfl, (HB9.out.drew).trans (HBB.out.mono (by simp; omega))⟩

end Go.Proofs.Ytkaldclkpdjalaa
