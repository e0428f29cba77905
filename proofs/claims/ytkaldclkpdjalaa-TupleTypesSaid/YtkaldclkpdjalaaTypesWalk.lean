/- The walk of proctorlaw12.TupleTypes: it returns true for every Script. -/
import Derived.Test.YtkaldclkpdjalaaAL
import Derived.Test.YtkaldclkpdjalaaAR
import Derived.Test.YtkaldclkpdjalaaWakes
import Derived.Test.YtkaldclkpdjalaaOpen
import Derived.Test.YtkaldclkpdjalaaEqI
import Derived.Deep.RegionHeld3
namespace Go.Proofs.Ytkaldclkpdjalaa
open Go.RowKit

abbrev all9 : List TypeId := [65, 72, 76, 68, 77, 80, 71, 81, 84]
theorem TF.sub9 {base : Nat} {ts us : List TypeId} {w w' : World} (h : TF base ts w w') (hs : ∀ t, t ∈ ts → t ∈ us) : TF base us w w' := h.mono fun _ ho => tagged_sub ho hs
theorem TF.cell9 {base : Nat} {ts : List TypeId} {w w' : World} (h : TF base ts w w') {b o : Nat} (hb : b < base) (hlt : b < w.heap.size) : w'.cell? ⟨b, o, none⟩ = w.cell? ⟨b, o, none⟩ :=
  World.cell?_of_block (w := w) (by
    have := h.blk b w.heap[b] (by rw [Array.getElem?_eq_getElem hlt]) (.inl hb)
    rw [this, Array.getElem?_eq_getElem hlt])
theorem Ar.alloc9 {AT PT PG sz : Nat} {w : World} {base b last : Nat} {count : Int} {val : Nat → Option (List Value)} (h : Ar AT PT PG sz w base b last count val) (o : Obj) : Ar AT PT PG sz (w.alloc o) base b last count val :=
  h.frame ((TF.refl base [] w).alloc o) rfl rfl rfl

/-- Is a number there? -/
def prs (val : Nat → Option (List Value)) (id : Int) : Bool := decide (1 ≤ id) && (val (id - 1).toNat).isSome
def vDrop (val : Nat → Option (List Value)) (id : Int) : Nat → Option (List Value) := if prs val id = true then upd val (id - 1).toNat none else val
def cDrop (val : Nat → Option (List Value)) (count id : Int) : Int := if prs val id = true then count - 1 else count
theorem prs_of {val : Nat → Option (List Value)} {id : Int} (h : prs val id = true) : 1 ≤ id ∧ (val (id - 1).toNat).isSome = true := by
  unfold prs at h; simpa using h
theorem prs_not {val : Nat → Option (List Value)} {id : Int} (h : prs val id = false) : id < 1 ∨ val (id - 1).toNat = none := by
  unfold prs at h
  by_cases h1 : 1 ≤ id
  · rw [decide_eq_true h1, Bool.true_and] at h
    exact .inr (by cases hv : val (id - 1).toNat with | none => rfl | some x => rw [hv] at h; simp at h)
  · exact .inl (by omega)

theorem dropS {w : World} {base b last : Nat} {count : Int} {val : Nat → Option (List Value)} (h : AS.Arn w base b last count val) (id : Int) (p : Bool) (hp : prs val id = p) (hl : last < 1099511627776) (hc1 : -1099511627776 < count) (hc2 : count < 1099511627776) :
    Calls Try.prog 17 #[.pointer (some ⟨b, 0, none⟩), .int .i64 id] w fun e w' => e = .returned (.bool p) ∧ AS.Arn w' base b last (cDrop val count id) (vDrop val id) ∧ TF base AS.tags w w' := by
  cases p with
  | true =>
    obtain ⟨h1, h2⟩ := prs_of hp
    unfold vDrop cDrop; rw [if_pos hp, if_pos hp]
    exact AS.drop_some h id hl hc1 hc2 h1 (by
      first | exact h2 | exact Option.isSome_iff_exists.1 h2)
  | false =>
    unfold vDrop cDrop; rw [if_neg (by simp [hp]), if_neg (by simp [hp])]
    refine (AS.drop_none h id hl (prs_not hp)).mono ?_
    rintro e w' ⟨h1, rfl⟩
    exact ⟨h1, h, TF.refl _ _ _⟩
theorem dropL {w : World} {base b last : Nat} {count : Int} {val : Nat → Option (List Value)} (h : AL.Arn w base b last count val) (id : Int) (p : Bool) (hp : prs val id = p) (hl : last < 1099511627776) (hc1 : -1099511627776 < count) (hc2 : count < 1099511627776) :
    Calls Try.prog 18 #[.pointer (some ⟨b, 0, none⟩), .int .i64 id] w fun e w' => e = .returned (.bool p) ∧ AL.Arn w' base b last (cDrop val count id) (vDrop val id) ∧ TF base AL.tags w w' := by
  cases p with
  | true =>
    obtain ⟨h1, h2⟩ := prs_of hp
    unfold vDrop cDrop; rw [if_pos hp, if_pos hp]
    exact AL.drop_some h id hl hc1 hc2 h1 h2
  | false =>
    unfold vDrop cDrop; rw [if_neg (by simp [hp]), if_neg (by simp [hp])]
    refine (AL.drop_none h id hl (prs_not hp)).mono ?_
    rintro e w' ⟨h1, rfl⟩
    exact ⟨h1, h, TF.refl _ _ _⟩
theorem dropR {w : World} {base b last : Nat} {count : Int} {val : Nat → Option (List Value)} (h : AR.Arn w base b last count val) (id : Int) (p : Bool) (hp : prs val id = p) (hl : last < 1099511627776) (hc1 : -1099511627776 < count) (hc2 : count < 1099511627776) :
    Calls Try.prog 19 #[.pointer (some ⟨b, 0, none⟩), .int .i64 id] w fun e w' => e = .returned (.bool p) ∧ AR.Arn w' base b last (cDrop val count id) (vDrop val id) ∧ TF base AR.tags w w' := by
  cases p with
  | true =>
    obtain ⟨h1, h2⟩ := prs_of hp
    unfold vDrop cDrop; rw [if_pos hp, if_pos hp]
    exact AR.drop_some h id hl hc1 hc2 h1 h2
  | false =>
    unfold vDrop cDrop; rw [if_neg (by simp [hp]), if_neg (by simp [hp])]
    refine (AR.drop_none h id hl (prs_not hp)).mono ?_
    rintro e w' ⟨h1, rfl⟩
    exact ⟨h1, h, TF.refl _ _ _⟩

/-- The three arenas hold the same numbers. -/
structure Three (w : World) (base ba bb bc last : Nat) (count : Int) (va vb vc : Nat → Option (List Value)) : Prop where
  a : AS.Arn w base ba last count va
  b : AL.Arn w base bb last count vb
  c : AR.Arn w base bc last count vc
  pb : ∀ m, (vb m).isSome = (va m).isSome
  pc : ∀ m, (vc m).isSome = (va m).isSome
theorem prs_eq {va vb : Nat → Option (List Value)} (h : ∀ m, (vb m).isSome = (va m).isSome) (id : Int) : prs vb id = prs va id := by unfold prs; rw [h]
theorem isSome_drop {va vb : Nat → Option (List Value)} (h : ∀ m, (vb m).isSome = (va m).isSome) (id : Int) (m : Nat) : (vDrop vb id m).isSome = (vDrop va id m).isSome := by
  unfold vDrop; rw [prs_eq h]
  split
  · unfold upd; split
    · rfl
    · exact h m
  · exact h m
theorem isSome_upd {va vb : Nat → Option (List Value)} (h : ∀ m, (vb m).isSome = (va m).isSome) (l : Nat) (x y : List Value) (m : Nat) : (upd vb l (some x) m).isSome = (upd va l (some y) m).isSome := by
  unfold upd; split
  · rfl
  · exact h m
theorem cDrop_eq {va vb : Nat → Option (List Value)} (h : ∀ m, (vb m).isSome = (va m).isSome) (count id : Int) : cDrop vb count id = cDrop va count id := by unfold cDrop; rw [prs_eq h]
theorem cDrop_bd (va : Nat → Option (List Value)) (count id : Int) : count - 1 ≤ cDrop va count id ∧ cDrop va count id ≤ count := by unfold cDrop; split <;> omega
theorem upd_last (val : Nat → Option (List Value)) (last : Nat) (x : List Value) : upd val last (some x) ((last : Int) + 1 - 1).toNat = some x := by
  unfold upd; rw [if_pos (by omega)]

theorem Ar.same9 {AT PT PG sz : Nat} {w w' : World} {base b last : Nat} {count : Int} {val : Nat → Option (List Value)} (h : Ar AT PT PG sz w base b last count val) (hs : w'.heap = w.heap) : Ar AT PT PG sz w' base b last count val := by
  obtain ⟨pv, ps, h⟩ := h
  exact ⟨pv, ps, h.same hs⟩
theorem types_end {w w0 w1 w2 : World} (hb0 : Below w.heap.size w w0) (hz : w0.heap.size = w.heap.size + 1) (hf : TF (w.heap.size + 1) all9 w0 w1) (h2 : Below w1.heap.size w1 w2) : Below w.heap.size w w2 := by
  have s1 := hf.size
  exact (hb0.trans ((hf.below (by omega)).mono (by omega))).trans (h2.mono (by omega))

set_option maxHeartbeats 400000 in
theorem eq_one {w : World} {a b : Nat} {x : Int} (h1 : w.cell? ⟨a, 0, none⟩ = some (.int .i64 x)) (h2 : w.cell? ⟨b, 0, none⟩ = some (.int .i64 x)) (ca cb : Nat) :
    Calls Try.prog 16 #[.slice (some ⟨a, 0, none⟩) 1 ca, .slice (some ⟨b, 0, none⟩) 1 cb] w fun e w' => e = .returned (.bool true) ∧ ∃ q, w' = w.drewN q := by
  have := eqints_any (w := w) (ao := some ⟨a, 0, none⟩) (bo := some ⟨b, 0, none⟩) (ca := ca) (cb := cb) (xs := [x]) (ys := [x])
    (fun _ => ⟨a, 0, rfl, fun j hj => by simp at hj; subst hj; exact h1⟩) (fun _ => ⟨b, 0, rfl, fun j hj => by simp at hj; subst hj; exact h2⟩) (by simp) (by simp)
  rw [eqB_true rfl] at this
  exact this

set_option maxRecDepth 100000 in
set_option maxHeartbeats 1600000 in
theorem types_walk (w : World) (v : Value) (La : Option Addr) (ln lc : Nat) (Aa : Option Addr) (an ac : Nat) (D I : Nat → Int) (S : Nat → ByteArray) (Q : Nat → Int) (hs : ScriptAt w v La ln lc Aa an ac D I S Q) :
    Calls Try.prog 3 #[v] w fun e w' => e = .returned (.bool true) ∧ Below w.heap.size w w' := by
  have HS := Lib.hid hs
  have hv := hs.shape
  have hlm := hs.lmax
  clear hs
  subst hv
  obtain ⟨w0, hw0⟩ : ∃ w0, w.alloc (.cells #[.slice La ln lc, .slice Aa an ac] 25) = w0 := ⟨_, rfl⟩
  have hz0 : w0.heap.size = w.heap.size + 1 := by rw [← hw0]; simp
  have HOLD0 : Hid (∀ b o, b < w.heap.size → w0.cell? ⟨b, o, none⟩ = w.cell? ⟨b, o, none⟩) := fun b o hb => by rw [← hw0]; exact World.cell?_alloc_past _ _ _ hb
  have HBOX0 : Hid (w0.cell? ⟨w.heap.size, 0, none⟩ = some (.slice La ln lc)) := by rw [← hw0]; exact World.cell?_alloc_at _ _ _ _ rfl
  have HB0 : Hid (Below w.heap.size w w0) := by rw [← hw0]; exact (Below.refl _ _).alloc (Nat.le_refl _) _
  have HZ0 := Lib.hid hz0
  go_enter Try.func3, Try.ntmps3
  go_wp2_with fail
  clear hw0 hz0
  refine (AS.new_any w0 (w.heap.size + 1) (by rw [HZ0.out]; exact Nat.le_refl _)).mono ?_
  rintro e w1 ⟨rfl, ha1, hf1⟩
  rw [HZ0.out] at ha1 ⊢
  have hz1 : w.heap.size + 1 ≤ w1.heap.size := by have := hf1.size; rw [HZ0.out] at this; exact this
  have HA1 := Lib.hid ha1
  have HF1 := Lib.hid hf1
  clear ha1 hf1
  go_wp2_with fail
  refine (AL.new_any w1 (w.heap.size + 1) hz1).mono ?_
  rintro e w2 ⟨rfl, hb2, hf2⟩
  obtain ⟨bb, hbb⟩ : ∃ bb, w1.heap.size = bb := ⟨_, rfl⟩
  rw [hbb] at hb2 ⊢
  have hz2 : w.heap.size + 1 ≤ w2.heap.size := by have := hf2.size; omega
  have HA2 := Lib.hid (HA1.out.frame hf2 rfl rfl rfl)
  have HB2 := Lib.hid hb2
  have HF2 := Lib.hid ((HF1.out.sub9 (us := all9) (by decide)).trans (hf2.sub9 (by decide)))
  clear hb2 hf2 hbb hz1 HA1 HF1
  go_wp2_with fail
  refine (AR.new_any w2 (w.heap.size + 1) hz2).mono ?_
  rintro e w3 ⟨rfl, hc3, hf3⟩
  obtain ⟨bc, hbc⟩ : ∃ bc, w2.heap.size = bc := ⟨_, rfl⟩
  rw [hbc] at hc3 ⊢
  have HT3 : Hid (Three w3 (w.heap.size + 1) (w.heap.size + 1) bb bc 0 0 (fun _ => none) (fun _ => none) (fun _ => none)) := ⟨HA2.out.frame hf3 rfl rfl rfl, HB2.out.frame hf3 rfl rfl rfl, hc3, fun _ => rfl, fun _ => rfl⟩
  have HF3 := Lib.hid (HF2.out.trans (hf3.sub9 (by decide)))
  clear hc3 hf3 hbc hz2 HA2 HB2 HF2
  go_wp2_with fail
  go_loopw [6] (fun i wr => ∃ (k last : Nat) (count : Int) (va vb vc : Nat → Option (List Value)), k ≤ ln ∧ k ≤ 100 ∧ i = .int .i64 k ∧ last ≤ k ∧ -(k:Int) ≤ count ∧ count ≤ k ∧ Hid (Three wr (w.heap.size + 1) (w.heap.size + 1) bb bc last count va vb vc) ∧ Hid (TF (w.heap.size + 1) all9 w0 wr)) (fun i _ => 100 - (intOf i).toNat)
  case atStart => exact ⟨0, 0, 0, _, _, _, by omega, by omega, rfl, by omega, by omega, by omega, HT3, HF3⟩
  case round =>
    obtain ⟨k, last, count, va, vb, vc, hk1, hk2, rfl, hl, hc1, hc2, HT, HF⟩ := hrel
    have hbox : wr.cell? ⟨w.heap.size, 0, none⟩ = some (.slice La ln lc) := by
      rw [HF.out.cell9 (by omega) (by rw [HZ0.out]; omega)]; exact HBOX0.out
    have hold : ∀ b o, b < w.heap.size → wr.cell? ⟨b, o, none⟩ = w.cell? ⟨b, o, none⟩ := fun b o hb => by
      rw [HF.out.cell9 (by omega) (by rw [HZ0.out]; omega)]; exact HOLD0.out b o hb
    have hzr : w.heap.size + 1 ≤ wr.heap.size := by have := HF.out.size; rw [HZ0.out] at this; exact this
    have HOLD := Lib.hid hold
    clear hold
    by_cases hlt : k < ln
    · by_cases hlt2 : k < 100
      · obtain ⟨bL, oL, hLa, hbL, hcells⟩ := HS.out.ops (by omega)
        obtain ⟨c0, c1, c2⟩ := hcells k hlt
        rw [← HOLD.out _ _ hbL] at c0 c1 c2
        subst hLa
        clear hcells
        by_cases hd : (D k == 0) = true
        · go_wp2_with fail
          refine (AS.put_any HT.out.a (S k) (by omega) (by omega) (by omega) hzr).mono ?_
          rintro e x1 ⟨rfl, ha1, hf1⟩
          have m1 : ∀ b o, b < w.heap.size + 1 → x1.cell? ⟨b, o, none⟩ = wr.cell? ⟨b, o, none⟩ := fun b o hb => hf1.cell9 hb (by omega)
          rw [← m1 _ _ (by omega)] at hbox c0 c1 c2
          have hz1 : w.heap.size + 1 ≤ x1.heap.size := by have := hf1.size; omega
          have HA1 := Lib.hid ha1
          have HB1 := Lib.hid (HT.out.b.frame hf1 rfl rfl rfl)
          have HC1 := Lib.hid (HT.out.c.frame hf1 rfl rfl rfl)
          have HPB := Lib.hid HT.out.pb
          have HPC := Lib.hid HT.out.pc
          have HF1 := Lib.hid (HF.out.trans (hf1.sub9 (us := all9) (by decide)))
          clear ha1 hf1 m1 HT HF HOLD hd
          go_wp2_with fail
          refine (AL.put_any (HB1.out.alloc9 _) _ _ _ (by omega) (by omega) (by omega) (by simp; omega)).mono ?_
          rintro e x2 ⟨rfl, hb2, hf2⟩
          have hl2 := hf2.blk _ _ (heap_alloc_new x1 _) (.inr rfl)
          have m2 : ∀ b o, b < w.heap.size + 1 → x2.cell? ⟨b, o, none⟩ = x1.cell? ⟨b, o, none⟩ := fun b o hb => by
            rw [hf2.cell9 hb (by simp; omega)]; exact World.cell?_alloc_past _ _ _ (by show b < _; omega)
          rw [← m2 _ _ (by omega)] at hbox c0 c1 c2
          have hz2 : w.heap.size + 1 ≤ x2.heap.size := by have := hf2.size; simp at this; omega
          have HA2 := Lib.hid ((HA1.out.alloc9 _).frame hf2 rfl rfl rfl)
          have HB2 := Lib.hid hb2
          have HC2 := Lib.hid ((HC1.out.alloc9 _).frame hf2 rfl rfl rfl)
          have HF2 := Lib.hid (HF1.out.trans (((TF.refl _ _ _).alloc _).trans (hf2.sub9 (us := all9) (by decide))))
          obtain ⟨lb, hlb⟩ : ∃ lb, x1.heap.size = lb := ⟨_, rfl⟩
          rw [hlb] at hl2 HB2 ⊢
          have HL2 := Lib.hid hl2
          clear hb2 hf2 m2 HA1 HB1 HC1 HF1 hlb hl2 hz1
          go_wp2_with fail
          refine (AR.put_any HC2.out (k : Int) (S k) (by omega) (by omega) (by omega) hz2).mono ?_
          rintro e x3 ⟨rfl, hc3, hf3⟩
          have HL3 := Lib.hid (hf3.blk _ _ HL2.out (.inr rfl))
          have m3 : ∀ b o, b < w.heap.size + 1 → x3.cell? ⟨b, o, none⟩ = x2.cell? ⟨b, o, none⟩ := fun b o hb => hf3.cell9 hb (by omega)
          rw [← m3 _ _ (by omega)] at hbox c0 c1 c2
          have hz3 : w.heap.size + 1 ≤ x3.heap.size := by have := hf3.size; omega
          have HA3 := Lib.hid (HA2.out.frame hf3 rfl rfl rfl)
          have HB3 := Lib.hid (HB2.out.frame hf3 rfl rfl rfl)
          have HC3 := Lib.hid hc3
          have HF3 := Lib.hid (HF2.out.trans (hf3.sub9 (us := all9) (by decide)))
          clear hc3 hf3 m3 HA2 HB2 HC2 HF2 HL2 hz2
          go_wp2_with fail
          refine (AR.get_some HC3.out ((last : Int) + 1) (by omega) (by omega) (k : Int) (S k) (upd_last _ _ _)).mono ?_
          rintro e x4 ⟨rfl, hf4⟩
          have hl4 := hf4.blk _ _ HL3.out (.inr rfl)
          have m4 : ∀ b o, b < w.heap.size + 1 → x4.cell? ⟨b, o, none⟩ = x3.cell? ⟨b, o, none⟩ := fun b o hb => hf4.cell9 hb (by omega)
          rw [← m4 _ _ (by omega)] at hbox c0 c1 c2
          have hz4 : w.heap.size + 1 ≤ x4.heap.size := by have := hf4.size; omega
          have HA4 := Lib.hid (HA3.out.frame hf4 rfl rfl rfl)
          have HB4 := Lib.hid (HB3.out.frame hf4 rfl rfl rfl)
          have HC4 := Lib.hid (HC3.out.frame hf4 rfl rfl rfl)
          have HF4 := Lib.hid (HF3.out.trans (hf4.sub9 (us := all9) (by decide)))
          have c5 : x4.cell? ⟨lb, 0, none⟩ = some (.int .i64 k) := by rw [cell_blk hl4]; rfl
          have hlb : lb < x4.heap.size := lt_blk hl4
          clear hf4 m4 HA3 HB3 HC3 HF3 HL3 hz3 hl4
          go_wp2_with fail
          refine (AL.get_some (w := x4.alloc _) (HB4.out.alloc9 _) ((last : Int) + 1) (by omega) (by omega) _ _ _ (upd_last _ _ _)).mono ?_
          rintro e x5 ⟨rfl, rfl⟩
          obtain ⟨x6, hx6⟩ : ∃ x6, x4.alloc (.cells #[.int .i64 (k : Int), .string (S k)] 32) = x6 := ⟨_, rfl⟩
          have hbox6 : x6.cell? ⟨w.heap.size, 0, none⟩ = some (.slice (some ⟨bL, oL, none⟩) ln lc) := by rw [← hx6]; exact (World.cell?_alloc_past _ _ _ (by show w.heap.size < _; omega)).trans hbox
          have c26 : x6.cell? ⟨bL, oL + k * 3 + 2, none⟩ = some (.string (S k)) := by rw [← hx6]; exact (World.cell?_alloc_past _ _ _ (by show bL < _; omega)).trans c2
          have c56 : x6.cell? ⟨lb, 0, none⟩ = some (.int .i64 k) := by rw [← hx6]; exact (World.cell?_alloc_past _ _ _ hlb).trans c5
          obtain ⟨vq, hvq⟩ : ∃ vq, x4.heap.size = vq := ⟨_, rfl⟩
          have d0 : x6.cell? ⟨vq, 0, none⟩ = some (.int .i64 k) := by rw [← hx6, ← hvq]; rw [cell_blk (heap_alloc_new x4 _)]; rfl
          have d1 : x6.cell? ⟨vq, 1, none⟩ = some (.string (S k)) := by rw [← hx6, ← hvq]; rw [cell_blk (heap_alloc_new x4 _)]; rfl
          have hz6 : x6.heap.size = vq + 1 := by rw [← hx6, ← hvq]; simp
          have hs1 : w.heap.size < vq := by omega
          have hs2 : bL < vq := by omega
          have hs3 : lb < vq := by omega
          have HA6 : Hid (AS.Arn x6 (w.heap.size + 1) (w.heap.size + 1) (last + 1) (count + 1) (upd va last (some [.string (S k)]))) := by rw [← hx6]; exact HA4.out.alloc9 _
          have HB6 : Hid (AL.Arn x6 (w.heap.size + 1) bb (last + 1) (count + 1) (upd vb last (some [.slice (some ⟨lb, 0, none⟩) 1 1]))) := by rw [← hx6]; exact HB4.out.alloc9 _
          have HC6 : Hid (AR.Arn x6 (w.heap.size + 1) bc (last + 1) (count + 1) (upd vc last (some [.int .i64 (k : Int), .string (S k)]))) := by rw [← hx6]; exact HC4.out.alloc9 _
          have HF6 : Hid (TF (w.heap.size + 1) all9 w0 x6) := by rw [← hx6]; exact HF4.out.alloc _
          rw [hx6, hvq]
          have hs4 : w.heap.size < x6.heap.size := by omega
          have hs5 : bL < x6.heap.size := by omega
          have hs6 : lb < x6.heap.size := by omega
          have hs7 : vq < x6.heap.size := by omega
          clear hbox c0 c1 c2 c5 hlb hx6 hvq hz6 hz4 HA4 HB4 HC4 HF4 hs1 hs2 hs3
          go_wp2_with fail
          go_region_held3 (fun w' => w'.cell? ⟨w.heap.size, 0, none⟩ = some (.slice (some ⟨bL, oL, none⟩) ln lc) ∧ w'.cell? ⟨bL, oL + k * 3 + 2, none⟩ = some (.string (S k)) ∧ w'.cell? ⟨vq, 0, none⟩ = some (.int .i64 k) ∧ w'.cell? ⟨vq, 1, none⟩ = some (.string (S k)) ∧ w'.cell? ⟨lb, 0, none⟩ = some (.int .i64 k)) (go_keep)
            (first | (go_at_call 16; refine (eq_one (x := (k : Int)) (by go_simp) (by go_simp) _ _).mono ?_; rintro e w' ⟨rfl, q, rfl⟩))
          go_wp2_with fail
          go_roundw
          case rel => exact ⟨k + 1, last + 1, count + 1, _, _, _, by omega, by omega, by go_num, by omega, by omega, by omega, ⟨Ar.same9 (w := x6.alloc _) (HA6.out.alloc9 _) rfl, Ar.same9 (w := x6.alloc _) (HB6.out.alloc9 _) rfl, Ar.same9 (w := x6.alloc _) (HC6.out.alloc9 _) rfl, isSome_upd HPB.out _ _ _, isSome_upd HPC.out _ _ _⟩, TF.same (HF6.out.alloc _) ⟨rfl, rfl, rfl, rfl⟩⟩
          case measure => simp [intOf]; omega
        · have hd' : (D k == 0) = false := by simpa using hd
          obtain ⟨p, hp⟩ : ∃ p, prs va (I k) = p := ⟨_, rfl⟩
          have hpb : prs vb (I k) = p := (prs_eq HT.out.pb _).trans hp
          have hpc : prs vc (I k) = p := (prs_eq HT.out.pc _).trans hp
          have HP := Lib.hid hp
          have HPB := Lib.hid hpb
          have HPC := Lib.hid hpc
          have hcb : cDrop vb count (I k) = cDrop va count (I k) := cDrop_eq HT.out.pb _ _
          have hcc : cDrop vc count (I k) = cDrop va count (I k) := cDrop_eq HT.out.pc _ _
          have hcd := cDrop_bd va count (I k)
          have HCB := Lib.hid hcb
          have HCC := Lib.hid hcc
          clear hp hpb hpc HOLD hcb hcc c2 hd
          go_wp2_with fail
          go_region_held3 (fun w' => w'.cell? ⟨w.heap.size, 0, none⟩ = some (.slice (some ⟨bL, oL, none⟩) ln lc) ∧ w'.cell? ⟨bL, oL + k * 3 + 1, none⟩ = some (.int .i64 (I k))) (go_keep)
            (first | (go_at_call 17; refine (dropS (Ar.same9 (w := wr) HT.out.a (by exact rfl)) (I k) p HP.out (by omega) (by omega) (by omega)).mono ?_; rintro e x1 ⟨rfl, ha1, hf1⟩; have s1 : x1.cell? ⟨w.heap.size, 0, none⟩ = some (.slice (some ⟨bL, oL, none⟩) ln lc) := (hf1.cell9 (by omega) (by show _ < wr.heap.size; omega)).trans hbox; have s2 : x1.cell? ⟨bL, oL + k * 3 + 1, none⟩ = some (.int .i64 (I k)) := (hf1.cell9 (by omega) (by show _ < wr.heap.size; omega)).trans c1; have hz1 : w.heap.size + 1 ≤ x1.heap.size := Nat.le_trans hzr hf1.size; have HA1 := Lib.hid ha1; have HB1 := Lib.hid (Ar.frame (Ar.same9 HT.out.b (by exact rfl)) hf1 rfl rfl rfl); have HC1 := Lib.hid (Ar.frame (Ar.same9 HT.out.c (by exact rfl)) hf1 rfl rfl rfl); have HF1 := Lib.hid ((TF.same HF.out (by exact ⟨rfl, rfl, rfl, rfl⟩)).trans (hf1.sub9 (us := all9) (by decide))); clear ha1 hf1) | (go_at_call 18; refine (dropL (Ar.same9 (w := x1) HB1.out (by exact rfl)) (I k) p HPB.out (by omega) (by omega) (by omega)).mono ?_; rintro e x2 ⟨rfl, hb2, hf2⟩; have s3 : x2.cell? ⟨w.heap.size, 0, none⟩ = some (.slice (some ⟨bL, oL, none⟩) ln lc) := (hf2.cell9 (by omega) (by show _ < x1.heap.size; omega)).trans s1; have s4 : x2.cell? ⟨bL, oL + k * 3 + 1, none⟩ = some (.int .i64 (I k)) := (hf2.cell9 (by omega) (by show _ < x1.heap.size; omega)).trans s2; have hz2 : w.heap.size + 1 ≤ x2.heap.size := Nat.le_trans hz1 hf2.size; have HB2 := Lib.hid hb2; have HA2 := Lib.hid (Ar.frame (Ar.same9 HA1.out (by exact rfl)) hf2 rfl rfl rfl); have HC2 := Lib.hid (Ar.frame (Ar.same9 HC1.out (by exact rfl)) hf2 rfl rfl rfl); have HF2 := Lib.hid ((TF.same HF1.out (by exact ⟨rfl, rfl, rfl, rfl⟩)).trans (hf2.sub9 (us := all9) (by decide))); clear hb2 hf2))
          go_wp2_with fail
          refine (dropR (Ar.same9 (w := x2) HC2.out (by exact rfl)) (I k) p HPC.out (by omega) (by omega) (by omega)).mono ?_
          rintro e x3 ⟨rfl, hc3, hf3⟩
          have hb3 := Ar.frame (Ar.same9 HB2.out (by exact rfl)) hf3 rfl rfl rfl
          rw [HCB.out] at hb3
          rw [HCC.out] at hc3
          have HT4 : Hid (Three x3 (w.heap.size + 1) (w.heap.size + 1) bb bc last (cDrop va count (I k)) (vDrop va (I k)) (vDrop vb (I k)) (vDrop vc (I k))) :=
            ⟨Ar.frame (Ar.same9 HA2.out (by exact rfl)) hf3 rfl rfl rfl, hb3, hc3, isSome_drop HT.out.pb _, isSome_drop HT.out.pc _⟩
          have HF4 := Lib.hid ((TF.same HF2.out (by exact ⟨rfl, rfl, rfl, rfl⟩)).trans (hf3.sub9 (us := all9) (by decide)))
          clear hb3 hc3 hf3
          go_wp2_with fail
          go_roundw
          case rel => exact ⟨k + 1, last, cDrop va count (I k), _, _, _, by omega, by omega, by go_num, by omega, by omega, by omega, HT4, HF4⟩
          case measure => simp [intOf]; omega
      · have hlt2' : decide ((k : Int) < 100) = false := by simp; omega
        go_wp2_with fail
        refine (AS.len_any HT.out.a).mono ?_
        rintro e x1 ⟨rfl, rfl⟩
        go_wp2_with fail
        refine (AL.len_any HT.out.b).mono ?_
        rintro e x1 ⟨rfl, rfl⟩
        go_wp2_with fail
        refine (AL.len_any HT.out.b).mono ?_
        rintro e x1 ⟨rfl, rfl⟩
        go_wp2_with fail
        refine (AR.len_any HT.out.c).mono ?_
        rintro e x1 ⟨rfl, rfl⟩
        go_wp2_with fail
        refine (wakes_any _).mono ?_
        rintro e x2 ⟨rfl, hb⟩
        go_wp2_with fail
        go_ret
        exact ⟨rfl, types_end HB0.out HZ0.out HF.out hb⟩
    · go_wp2_with fail
      refine (AS.len_any HT.out.a).mono ?_
      rintro e x1 ⟨rfl, rfl⟩
      go_wp2_with fail
      refine (AL.len_any HT.out.b).mono ?_
      rintro e x1 ⟨rfl, rfl⟩
      go_wp2_with fail
      refine (AL.len_any HT.out.b).mono ?_
      rintro e x1 ⟨rfl, rfl⟩
      go_wp2_with fail
      refine (AR.len_any HT.out.c).mono ?_
      rintro e x1 ⟨rfl, rfl⟩
      go_wp2_with fail
      refine (wakes_any _).mono ?_
      rintro e x2 ⟨rfl, hb⟩
      go_wp2_with fail
      go_ret
      exact ⟨rfl, types_end HB0.out HZ0.out HF.out hb⟩

end Go.Proofs.Ytkaldclkpdjalaa
