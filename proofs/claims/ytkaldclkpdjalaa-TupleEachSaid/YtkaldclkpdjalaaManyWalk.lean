/- The walk of proctorlaw12.TupleMany: two hundred thousand tuples come and go; it returns true. -/
import Derived.Test.YtkaldclkpdjalaaEachI
import Derived.Test.YtkaldclkpdjalaaWakes
namespace Go.Proofs.Ytkaldclkpdjalaa
open Go.RowKit

/-- The last ten of k numbers. -/
def win (k : Nat) : Nat → Option Int := fun m => if m < k ∧ k ≤ m + 10 then some ((m : Int) + 1) else none
theorem win_zero : win 0 = fun _ => none := by funext m; simp [win]
theorem win_put (k : Nat) (hk : k < 10) : ui (win k) ((k : Int) + 1) (some ((k : Int) + 1)) = win (k + 1) := by
  funext m
  unfold ui win
  rw [show ((k : Int) + 1 - 1).toNat = k by omega]
  by_cases h : m = k
  · subst h; rw [if_pos rfl, if_pos (by omega)]
  · rw [if_neg h]
    by_cases h2 : m < k
    · rw [if_pos (by omega), if_pos (by omega)]
    · rw [if_neg (by omega), if_neg (by omega)]
theorem win_step (k : Nat) (hk : 10 ≤ k) : ui (ui (win k) ((k : Int) + 1) (some ((k : Int) + 1))) ((k : Int) + 1 - 10) none = win (k + 1) := by
  funext m
  unfold ui win
  rw [show ((k : Int) + 1 - 1).toNat = k by omega, show ((k : Int) + 1 - 10 - 1).toNat = k - 10 by omega]
  by_cases h0 : m = k - 10
  · rw [if_pos h0, if_neg (by omega)]
  · rw [if_neg h0]
    by_cases h : m = k
    · subst h; rw [if_pos rfl, if_pos (by omega)]
    · rw [if_neg h]
      by_cases h2 : m < k ∧ k ≤ m + 10
      · rw [if_pos h2, if_pos (by omega)]
      · rw [if_neg h2, if_neg (by omega)]
theorem win_old (k : Nat) (hk : 10 ≤ k) : gi (ui (win k) ((k : Int) + 1) (some ((k : Int) + 1))) ((k : Int) + 1 - 10) = some ((k : Int) - 9) := by
  unfold gi ui win
  rw [if_pos (by omega), show ((k : Int) + 1 - 1).toNat = k by omega, show ((k : Int) + 1 - 10 - 1).toNat = k - 10 by omega, if_neg (by omega), if_pos (by omega)]
  congr 1; omega

def manyM (i : Value) : Nat := 200001 - (intOf i).toNat
theorem manyM_lt {k : Nat} (h : (k : Int) + 1 ≤ 200000) : manyM (.int .i64 ((k : Int) + 1 + 1)) < manyM (.int .i64 ((k : Int) + 1)) := by
  show 200001 - ((k : Int) + 1 + 1).toNat < 200001 - ((k : Int) + 1).toNat
  omega
set_option maxRecDepth 100000 in
set_option maxHeartbeats 400000 in
theorem many_yield (id v n sum : Int) (Bn Bs : Nat) (w : World) (hn0 : 0 ≤ n) (hn : n ≤ 1000000) (hs0 : -1000000 ≤ sum) (hs : sum ≤ 1000000) (hv : 0 ≤ v) (hv' : v ≤ 1000000) (hi : 0 ≤ id) (hi' : id ≤ 1000000) (hne : ¬ Bn = Bs)
    (h1 : w.cell? ⟨Bn, 0, none⟩ = some (.int .i64 n)) (h2 : w.cell? ⟨Bs, 0, none⟩ = some (.int .i64 sum)) (f1 : w.frozen? ⟨Bn, 0, none⟩ = false) (f2 : w.frozen? ⟨Bs, 0, none⟩ = false) :
    Calls Try.prog 33 #[.int .i64 id, .int .i64 v, .pointer (some ⟨Bn,0,none⟩), .pointer (some ⟨Bs,0,none⟩)] w fun e w' => e = .returned (.bool true) ∧
      (w.setCell ⟨Bn,0,none⟩ (.int .i64 (n + 1))).setCell ⟨Bs,0,none⟩ (.int .i64 (sum + v - id)) = w' := by
  go_enter Try.func33, Try.ntmps33
  go_wp2
  go_ret
  exact ⟨rfl, rfl⟩

theorem Ar.cells {AT PT PG sz : Nat} {w w' : World} {base b last : Nat} {count : Int} {val : Nat → Option (List Value)} (h : Ar AT PT PG sz w base b last count val)
    (hk : ∀ (k : Nat) (o : Obj), w.heap[k]? = some o → o.isCells = true → w'.heap[k]? = some o) : Ar AT PT PG sz w' base b last count val := by
  obtain ⟨pv, ps, h⟩ := h
  refine ⟨pv, ps, h.hb, hk _ _ h.blk rfl, ⟨h.row.1, ?_⟩, h.len, ?_, h.nopage, h.uniq, h.out⟩
  · rcases h.row.2 with hn | ⟨g, cap, cur, e1, e2, e3, e4⟩
    · exact .inl hn
    · exact .inr ⟨g, cap, cur, e1, e2, hk _ _ e3 rfl, e4⟩
  · intro j B hj
    obtain ⟨e1, e2⟩ := h.page j B hj
    refine ⟨e1, e2.heap ?_⟩
    obtain ⟨cs, there, e3, _⟩ := e2
    rw [e3]; exact hk _ _ e3 rfl

/-- A box of an int. -/
def Boxi (W : World) (B : Nat) (x : Int) : Prop := W.heap[B]? = some (.cells #[.int .i64 x] 3 (0,0))
theorem Boxi.cell {W : World} {B : Nat} {x : Int} (h : Boxi W B x) : W.cell? ⟨B,0,none⟩ = some (.int .i64 x) := by rw [cell_blk h]; rfl
theorem Boxi.frz {W : World} {B : Nat} {x : Int} (h : Boxi W B x) : W.frozen? ⟨B,0,none⟩ = false := frz_blk h
theorem Boxi.cells {W W' : World} {B : Nat} {x : Int} (h : Boxi W B x) (hk : ∀ (k : Nat) (o : Obj), W.heap[k]? = some o → o.isCells = true → W'.heap[k]? = some o) : Boxi W' B x := hk _ _ h rfl
theorem Boxi.set {W : World} {B : Nat} {x : Int} (h : Boxi W B x) (y : Int) : Boxi (W.setCell ⟨B,0,none⟩ (.int .i64 y)) B y := by
  unfold Boxi at h ⊢; rw [heap_set h, if_pos rfl]; rfl
theorem Boxi.other {W : World} {B C : Nat} {x : Int} (h : Boxi W B x) (hne : B ≠ C) (v : Value) : Boxi (W.setCell ⟨C,0,none⟩ v) B x := by
  unfold Boxi at h ⊢; rw [heap_set_ne (by exact hne)]; exact h
theorem Boxi.lt {W : World} {B : Nat} {x : Int} (h : Boxi W B x) : B < W.heap.size := lt_blk h
/-- A store into a box turns that block alone. -/
theorem TI.box {w : World} {base b last : Nat} {count : Int} {vi : Nat → Option Int} (h : TI w base b last count vi) {B : Nat} {x : Int} (hB : Boxi w B x) (v : Value) : TI (w.setCell ⟨B,0,none⟩ v) base b last count vi :=
  Ar.frame h (base' := 0) (ts := [3]) ((TF.refl _ _ _).set v (Nat.zero_le _) hB rfl) rfl rfl rfl

/-- A fact kept from every search. -/
structure Kept (p : Prop) : Prop where
  out : p
set_option maxRecDepth 100000 in
theorem many_each (w : World) (base b N Bn Bs B0 : Nat) (hN : 10 ≤ N) (hN2 : N ≤ 900000) (hT : TI w base b N 10 (win N)) (hn : Boxi w Bn 0) (hs : Boxi w Bs 0) (hne : ¬ Bn = Bs) (h1 : B0 ≤ Bn) (h2 : B0 ≤ Bs) :
    Calls Try.prog 29 #[.pointer (some ⟨b,0,none⟩), .func (.func 33) #[] #[.pointer (some ⟨Bn,0,none⟩), .pointer (some ⟨Bs,0,none⟩)]] w fun e w' =>
      e = .returned (.tuple #[]) ∧ TI w' base b N 10 (win N) ∧ Boxi w' Bn 10 ∧ Boxi w' Bs 0 ∧ Below B0 w w' := by
  have hln := hn.lt
  have hls := hs.lt
  refine (AI.each_any b 33 base N _ w (fun s W => ∃ p, s = ⟨p, N, 10, win N⟩ ∧ p ≤ N ∧ TI W base b N 10 (win N) ∧ Boxi W Bn ((p + 10 - N : Nat) : Int) ∧ Boxi W Bs 0 ∧ Below B0 w W) (fun _ => False) (by omega)
    (enters_of Try.func33 (by kernel_rfl) rfl) ?_ ?_ ?_ ?_ ?_ ⟨0, N, 10, win N⟩ rfl rfl ⟨0, rfl, by omega, hT, by rw [show 0 + 10 - N = 0 by omega]; exact hn, hs, Below.refl _ _⟩).mono ?_
  · rintro _ W ⟨p, rfl, hp, h, _⟩
    exact ⟨h, Nat.le_refl _, by simp only; omega⟩
  · rintro _ W ⟨p, rfl, hp, h, hb, hbs, hbl⟩ hlt hv
    simp only at hlt hv
    refine ⟨p + 1, rfl, by omega, h, ?_, hbs, hbl⟩
    unfold win at hv
    have : ¬ (p < N ∧ N ≤ p + 10) := by
      intro hc; rw [if_pos hc] at hv; simp at hv
    rw [show p + 1 + 10 - N = p + 10 - N by omega]; exact hb
  · rintro _ A B row ⟨p, rfl, hp, h, hb, hbs, hbl⟩ hg hr
    have hold : ∀ (k : Nat) (o : Obj), A.heap[k]? = some o → o.isCells = true → B.heap[k]? = some o := fun (k : Nat) (o : Obj) hk hc => (grownBy_keeps_cells hg (fun r e => (hr r e).2) hk hc).trans hk
    exact ⟨p, rfl, hp, Ar.cells h hold, hb.cells hold, hbs.cells hold, hbl.grown hg (by have := hbl.size; omega) (fun k e => by have := (hr k e).1; omega)⟩
  · intro _ A B row h _ _; exact h
  · rintro _ W x ⟨p, rfl, hp, h, hb, hbs, hbl⟩ hlt hv
    simp only at hlt hv ⊢
    unfold win at hv
    have hc : p < N ∧ N ≤ p + 10 := by
      by_cases hc : p < N ∧ N ≤ p + 10
      · exact hc
      · rw [if_neg hc] at hv; simp at hv
    rw [if_pos hc] at hv
    simp only [Option.some.injEq] at hv
    subst hv
    refine (many_yield ((p : Int) + 1) ((p : Int) + 1) _ 0 Bn Bs W (by omega) (by omega) (by omega) (by omega) (by omega) (by omega) (by omega) (by omega) hne hb.cell hbs.cell hb.frz hbs.frz).mono ?_
    rintro e W' ⟨rfl, rfl⟩
    refine ⟨.inl ⟨rfl, ⟨p + 1, N, 10, win N⟩, rfl, p + 1, rfl, by omega, ?_, ?_, ?_, ?_⟩, ?_, ?_⟩
    · exact (h.box hb _).box (hbs.other (fun e => hne e.symm) _) _
    · rw [show ((p + 1 + 10 - N : Nat) : Int) = ((p + 10 - N : Nat) : Int) + 1 by omega]
      exact (hb.set _).other hne _
    · rw [show (0 : Int) + ((p : Int) + 1) - ((p : Int) + 1) = 0 by omega]
      exact (hbs.other (fun e => hne e.symm) _).set _
    · exact (hbl.setCell (p := ⟨Bn,0,none⟩) h1 _).setCell (p := ⟨Bs,0,none⟩) h2 _
    · simp [World.setCell]
    · intro k o hk ho _
      rw [heap_set_ne (by simp; omega), heap_set_ne (by simp; omega)]; exact ho
  · rintro e w' ⟨rfl, h⟩
    rcases h with ⟨_, hpos, p, rfl, hp, h, hb, hbs, hbl⟩ | h
    · simp only at hpos
      subst hpos
      rw [show ((p + 10 - p : Nat) : Int) = 10 by omega] at hb
      exact ⟨rfl, h, hb, hbs, hbl⟩
    · exact h.elim

theorem wrap_of {x : Int} (h : -9223372036854775808 ≤ x ∧ x ≤ 9223372036854775807) : wrap64 x = x := IntWalk.wrap64_in x h

set_option maxRecDepth 100000 in
set_option maxHeartbeats 1600000 in
theorem many_walk (w : World) : Calls Try.prog 6 #[] w fun e w' => e = .returned (.bool true) ∧ Below w.heap.size w w' := by
  go_enter Try.func6, Try.ntmps6
  go_wp2_with fail
  refine (new_i _ w.heap.size (Nat.le_refl _)).mono ?_
  rintro e w1 ⟨rfl, ha1, hf1⟩
  have HF1 := Lib.hid hf1
  have HA1 := Lib.hid ha1
  clear ha1 hf1
  go_wp2_with fail
  go_loopw [2] (fun i wr => ∃ k : Nat, Kept ((k : Int) ≤ 200000) ∧ i = .int .i64 ((k : Int) + 1) ∧ Hid (TI wr w.heap.size w.heap.size k ((min k 10 : Nat) : Int) (win k)) ∧ Hid (TF w.heap.size AI.tags w wr)) (fun i _ => manyM i)
  case atStart => exact ⟨0, ⟨by omega⟩, by simp, by rw [win_zero]; exact HA1.out, HF1⟩
  case round =>
    obtain ⟨k, hk, rfl, hak, hfk⟩ := hrel
    have hsz := hfk.out.size
    by_cases hlt : (k : Int) + 1 ≤ 200000
    · have HLT : Kept ((k : Int) + 1 ≤ 200000) := ⟨hlt⟩
      go_wp2_with fail
      clear hlt
      have hw1 : wrap64 ((k : Int) + 1 + 1) = (k : Int) + 1 + 1 := wrap_of (by have := HLT.out; omega)
      have hw2 : wrap64 ((k : Int) + 1 - 10) = (k : Int) + 1 - 10 := wrap_of (by have := HLT.out; omega)
      refine (put_i hak.out ((k : Int) + 1) (by have := hk.out; omega) (by omega) (by omega) hsz).mono ?_
      rintro e w2 ⟨rfl, ha2, hf2⟩
      by_cases h10 : (k : Int) + 1 ≤ 10
      · rw [win_put k (by omega), show (((min k 10 : Nat) : Int) + 1) = ((min (k + 1) 10 : Nat) : Int) by omega] at ha2
        have HA2 := Lib.hid ha2
        have HF2 := Lib.hid (hfk.out.trans hf2)
        clear ha2 hf2 hsz
        go_wp2_with fail
        refine (len_i HA2.out).mono ?_
        rintro e w3 ⟨rfl, rfl⟩
        have hle : ((min (k + 1) 10 : Nat) : Int) ≤ 10 := by omega
        go_wp2_with fail
        go_roundw
        case rel => exact ⟨k + 1, ⟨by have := HLT.out; omega⟩, by go_num, HA2, HF2⟩
        case measure => exact manyM_lt HLT.out
      · have h10' : (10 : Int) < (k : Int) + 1 := by omega
        have hold := win_old k (by omega)
        have HOLD := Lib.hid hold
        clear hold h10
        go_wp2_with fail
        refine (drop_i ha2 ((k : Int) + 1 - 10) (by have := hk.out; omega) (by omega) (by omega)).mono ?_
        rintro e w3 ⟨rfl, ha3, hf3⟩
        rw [HOLD.out] at ha3 ⊢
        simp only [Option.isSome_some, if_true] at ha3
        rw [win_step k (by omega), show (((min k 10 : Nat) : Int) + 1 - 1) = ((min (k + 1) 10 : Nat) : Int) by omega] at ha3
        have HA3 := Lib.hid ha3
        have HF3 := Lib.hid ((hfk.out.trans hf2).trans hf3)
        clear ha2 hf2 ha3 hf3 hsz
        go_wp2_with fail
        refine (len_i HA3.out).mono ?_
        rintro e w4 ⟨rfl, rfl⟩
        have hle : ((min (k + 1) 10 : Nat) : Int) ≤ 10 := by omega
        go_wp2_with fail
        go_roundw
        case rel => exact ⟨k + 1, ⟨by have := HLT.out; omega⟩, by rw [hw1]; go_num, HA3, HF3⟩
        case measure => rw [hw1]; exact manyM_lt HLT.out
    · have HK : Kept (k = 200000) := ⟨by have := hk.out; omega⟩
      go_wp2_with fail
      clear hlt
      have hb1 : Boxi ((wr.alloc (.cells #[.int .i64 0] 3)).alloc (.cells #[.int .i64 0] 3)) wr.heap.size 0 := by
        unfold Boxi; rw [Below.heap_alloc _ _ _ (by simp)]; exact heap_new_at rfl _
      have hb2 : Boxi ((wr.alloc (.cells #[.int .i64 0] 3)).alloc (.cells #[.int .i64 0] 3)) (wr.heap.size + 1) 0 := heap_new_at (by simp) _
      have hT : TI wr w.heap.size w.heap.size k 10 (win k) := by
        have := hak.out
        rw [show ((min k 10 : Nat) : Int) = 10 by have := HK.out; omega] at this; exact this
      have hT2 : TI ((wr.alloc (.cells #[.int .i64 0] 3)).alloc (.cells #[.int .i64 0] 3)) w.heap.size w.heap.size k 10 (win k) :=
        Ar.frame hT (base' := 0) (ts := []) (((TF.refl _ _ _).alloc _).alloc _) rfl rfl rfl
      refine (many_each _ w.heap.size w.heap.size k wr.heap.size (wr.heap.size + 1) w.heap.size (by have := HK.out; omega) (by have := HK.out; omega) hT2 hb1 hb2 (by omega) hsz (by omega)).mono ?_
      rintro e w2 ⟨rfl, ht2, hbn, hbs, hbl⟩
      have kn := hbn.cell
      have ks := hbs.cell
      have HBL := Lib.hid hbl
      have HT2 := Lib.hid ht2
      clear hb1 hb2 hT hT2 hbn hbs hbl ht2
      go_wp2_with fail
      refine (get_i HT2.out 5 (by have := HK.out; omega)).mono ?_
      rintro e w3 ⟨rfl, rfl⟩
      have h5 : gi (win k) 5 = none := by
        unfold gi win; rw [if_pos (by omega), if_neg (by have := HK.out; omega)]
      rw [h5]
      go_wp2_with fail
      refine (wakes_any _).mono ?_
      rintro e w3 ⟨rfl, hb3⟩
      have HB3 := Lib.hid hb3
      clear hb3
      go_wp2_with fail
      go_ret
      refine ⟨rfl, ?_⟩
      have s1 := hfk.out.below (Nat.le_refl _)
      have s2 := HBL.out.size
      simp at s2
      exact ((s1.trans (((Below.refl _ wr).alloc hsz _).alloc (by simp; omega) _)).trans HBL.out).trans (HB3.out.mono (by omega))
end Go.Proofs.Ytkaldclkpdjalaa
