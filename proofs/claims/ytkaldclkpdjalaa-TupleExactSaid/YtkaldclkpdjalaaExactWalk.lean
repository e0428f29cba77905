/- The walk of proctorlaw12.TupleExact: it returns true for every Script. -/
import Derived.Test.YtkaldclkpdjalaaExactK
import Derived.Test.YtkaldclkpdjalaaWakes
import Derived.Deep.RegionHeld3
import Derived.Deep.RegionLaw
import Derived.Deep.DeepCutAuto
import Derived.BigQuiet
namespace Go.Proofs.Ytkaldclkpdjalaa
open Go.RowKit

def Bx (W : World) (B : Nat) (t : TypeId) (u : Value) : Prop := W.heap[B]? = some (.cells #[u] t (0,0))
theorem Bx.cell {W : World} {B : Nat} {t : TypeId} {u : Value} (h : Bx W B t u) : W.cell? ⟨B,0,none⟩ = some u := by rw [cell_blk h]; rfl
theorem Bx.frz {W : World} {B : Nat} {t : TypeId} {u : Value} (h : Bx W B t u) : W.frozen? ⟨B,0,none⟩ = false := frz_blk h
theorem Bx.lt {W : World} {B : Nat} {t : TypeId} {u : Value} (h : Bx W B t u) : B < W.heap.size := lt_blk h
theorem Bx.set {W : World} {B : Nat} {t : TypeId} {u : Value} (h : Bx W B t u) (v : Value) : Bx (W.setCell ⟨B,0,none⟩ v) B t v := by
  unfold Bx at *; rw [heap_set h, if_pos rfl]; rfl
theorem Bx.other {W : World} {B C : Nat} {t : TypeId} {u : Value} (h : Bx W B t u) (hne : B ≠ C) (v : Value) : Bx (W.setCell ⟨C,0,none⟩ v) B t u := by
  unfold Bx at *; rw [heap_set_ne hne]; exact h
theorem Bx.ne {W : World} {B C : Nat} {t t' : TypeId} {u u' : Value} (h : Bx W B t u) (h' : Bx W C t' u') (hne : t ≠ t') : B ≠ C := by
  rintro rfl; unfold Bx at *; rw [h] at h'; simp at h'; exact hne h'.2
theorem Bx.tf {W W' : World} {B base : Nat} {t : TypeId} {u : Value} {us : List TypeId} (h : Bx W B t u) (hf : TF base us W W') (ht : us.contains t = false) : Bx W' B t u := hf.blk _ _ h (.inr ht)
theorem Bx.alloc {W : World} {B : Nat} {t : TypeId} {u : Value} (h : Bx W B t u) (o : Obj) : Bx (W.alloc o) B t u := by
  unfold Bx; rw [Below.heap_alloc _ _ _ (lt_blk h)]; exact h
theorem Bx.same {W W' : World} {B : Nat} {t : TypeId} {u : Value} (h : Bx W B t u) (hh : W'.heap = W.heap) : Bx W' B t u := by unfold Bx; rw [hh]; exact h
theorem TS.setbx {W : World} {base b last : Nat} {count : Int} {vi : Nat → Option ByteArray} {B : Nat} {t : TypeId} {u : Value} (h : TS W base b last count vi) (hB : Bx W B t u) (v : Value)
    (h1 : [t].contains 65 = false) (h2 : [t].contains 72 = false) (h3 : [t].contains 76 = false) : TS (W.setCell ⟨B,0,none⟩ v) base b last count vi :=
  Ar.frame h (base' := 0) (ts := [t]) ((TF.refl _ _ _).set v (Nat.zero_le _) hB (by simp)) h1 h2 h3
theorem TS.cells {W W' : World} {base b last : Nat} {count : Int} {vi : Nat → Option ByteArray} (h : TS W base b last count vi) (hk : ∀ (k : Nat) (o : Obj), W.heap[k]? = some o → o.isCells = true → W'.heap[k]? = some o) : TS W' base b last count vi := by
  obtain ⟨pv, ps, h⟩ := h
  refine ⟨pv, ps, h.hb, hk _ _ h.blk rfl, ⟨h.row.1, ?_⟩, h.len, ?_, h.nopage, h.uniq, h.out⟩
  · rcases h.row.2 with hn | ⟨g, cap, cur, e1, e2, e3, e4⟩
    · exact .inl hn
    · exact .inr ⟨g, cap, cur, e1, e2, hk _ _ e3 rfl, e4⟩
  · intro j B hj
    obtain ⟨e1, e2⟩ := h.page j B hj
    refine ⟨e1, e2.heap ?_⟩
    obtain ⟨cs, there, e3, _⟩ := e2
    rw [e3]; exact hk _ _ e3 rfl

theorem has_q {W : World} {base kb : Nat} {xs : List ByteArray} {ts : List Bool} {sv tv : Value} (h : Kp W base kb xs ts sv tv) (hn : ts.length ≤ 1000) (id : Int) (b : Bool) (hb' : hb ts id = b) :
    Calls Try.prog 34 #[.pointer (some ⟨kb,0,none⟩), .int .i64 id] W fun e w' => e = .returned (.bool b) ∧ ∃ n, w' = W.drewN n :=
  (has_any h hn id).mono fun e w' ⟨h1, h2⟩ => ⟨by rw [h1, hb'], 0, h2.symm⟩
theorem TS.same {W W' : World} {base b last : Nat} {count : Int} {vi : Nat → Option ByteArray} (h : TS W base b last count vi) (hh : W'.heap = W.heap) : TS W' base b last count vi := by
  obtain ⟨pv, ps, h⟩ := h
  exact ⟨pv, ps, h.same hh⟩

/-- All that the last loop says of a state. -/
structure Told (w0 W : World) (base b kb n : Nat) (xs : List ByteArray) (ts : List Bool) (sv tv : Value) (Bf Bl Bp Bm B0 p : Nat) : Prop where
  le : p ≤ n
  arena : TS W base b n (cntA ts) (av xs ts)
  kp : Kp W base kb xs ts sv tv
  fine : Bx W Bf 4 (.bool true)
  last : ∃ l : Int, l ≤ p ∧ Bx W Bl 3 (.int .i64 l)
  ptr : Bx W Bp 54 (.pointer (some ⟨kb,0,none⟩))
  m : Bx W Bm 3 (.int .i64 (cnt ts p))
  below : Below B0 w0 W

theorem Told.cells {w0 W W' : World} {base b kb n : Nat} {xs : List ByteArray} {ts : List Bool} {sv tv : Value} {Bf Bl Bp Bm B0 p : Nat} (h : Told w0 W base b kb n xs ts sv tv Bf Bl Bp Bm B0 p)
    (hk : ∀ (k : Nat) (o : Obj), W.heap[k]? = some o → o.isCells = true → W'.heap[k]? = some o) (hb : Below B0 w0 W') : Told w0 W' base b kb n xs ts sv tv Bf Bl Bp Bm B0 p := by
  obtain ⟨l, hl, hL⟩ := h.last
  exact ⟨h.le, h.arena.cells hk, h.kp.keep fun k cs t _ ho => hk _ _ ho rfl, hk _ _ h.fine rfl, ⟨l, hl, hk _ _ hL rfl⟩, hk _ _ h.ptr rfl, hk _ _ h.m rfl, hb⟩

theorem each_exact (w : World) {base b kb n : Nat} {xs : List ByteArray} {ts : List Bool} {sv tv : Value} {Bf Bl Bp Bm B0 : Nat} (hn : ts.length = n) (hn2 : n ≤ 1000) (h : Told w w base b kb n xs ts sv tv Bf Bl Bp Bm B0 0)
    (hlm : Bl ≠ Bm) (hft : tv.ownBlock ≠ some Bf) (h1 : B0 ≤ Bf) (h2 : B0 ≤ Bl) (h3 : B0 ≤ Bm) :
    Calls Try.prog 37 #[.pointer (some ⟨b,0,none⟩), .func (.func 38) #[] #[.pointer (some ⟨Bf,0,none⟩), .pointer (some ⟨Bl,0,none⟩), .pointer (some ⟨Bp,0,none⟩), .pointer (some ⟨Bm,0,none⟩)]] w fun e w' =>
      e = .returned (.tuple #[]) ∧ Told w w' base b kb n xs ts sv tv Bf Bl Bp Bm B0 n := by
  have hlf := h.fine.lt
  have hll : Bl < w.heap.size := by obtain ⟨l, _, hL⟩ := h.last; exact hL.lt
  have hlm' := h.m.lt
  refine (AS.each_any b 38 base n _ w (fun s W => ∃ p, s = ⟨p, n, cntA ts, av xs ts⟩ ∧ Told w W base b kb n xs ts sv tv Bf Bl Bp Bm B0 p)
    (fun _ => False) (by omega)
    (enters_of Try.func38 (by kernel_rfl) rfl) ?_ ?_ ?_ ?_ ?_ ⟨0, n, cntA ts, av xs ts⟩ rfl rfl ⟨0, rfl, h⟩).mono ?_
  · rintro _ W ⟨p, rfl, h⟩
    exact ⟨h.arena, Nat.le_refl _, by simp only; omega⟩
  · rintro _ W ⟨p, rfl, h⟩ hlt hv
    simp only at hlt hv
    refine ⟨p + 1, rfl, by omega, h.arena, h.kp, h.fine, ?_, h.ptr, ?_, h.below⟩
    · obtain ⟨l, hl, hL⟩ := h.last; exact ⟨l, by omega, hL⟩
    · have hb : ts[p]? = some (ts[p]'(by omega)) := List.getElem?_eq_getElem (by omega)
      have hbf : ts[p]'(by omega) = false := by
        unfold av at hv
        rw [hb] at hv
        cases hx : ts[p]'(by omega) with
        | false => rfl
        | true =>
          rw [hx, if_pos rfl] at hv
          have := h.kp.len
          rw [List.getElem?_eq_getElem (by omega)] at hv; simp at hv
      rw [cnt_succ ts p false (by rw [hb, hbf])]; exact h.m
  · rintro _ A B row ⟨p, rfl, h⟩ hg hr
    have hold : ∀ (k : Nat) (o : Obj), A.heap[k]? = some o → o.isCells = true → B.heap[k]? = some o := fun (k : Nat) (o : Obj) hk hc => (grownBy_keeps_cells hg (fun r e => (hr r e).2) hk hc).trans hk
    exact ⟨p, rfl, h.cells hold (h.below.grown hg (by have := h.below.size; omega) (fun k e => by have := (hr k e).1; omega))⟩
  · intro _ A B row h _ _; exact h
  · rintro _ W x ⟨p, rfl, h⟩ hlt hv
    simp only at hlt hv ⊢
    obtain ⟨l, hl, hL⟩ := h.last
    have hav : xs[p]? = some x ∧ ts[p]? = some true := by
      unfold av at hv
      by_cases hc : ts[p]? = some true
      · rw [if_pos hc] at hv; exact ⟨hv, hc⟩
      · rw [if_neg hc] at hv; simp at hv
    have hhb : hb ts ((p : Int) + 1) = true := hb_in (by omega) (by rw [show ((p : Int) + 1 - 1).toNat = p by omega]; exact hav.2)
    have hcl := cnt_le ts p
    have nfl : Bf ≠ Bl := h.fine.ne hL (by decide)
    have nfm : Bf ≠ Bm := h.fine.ne h.m (by decide)
    have npf : Bp ≠ Bf := h.ptr.ne h.fine (by decide)
    have npl : Bp ≠ Bl := h.ptr.ne hL (by decide)
    have npm : Bp ≠ Bm := h.ptr.ne h.m (by decide)
    refine (exact_yield h.kp (by omega) p x hav.1 hhb Bf Bl Bp Bm l (cnt ts p) (by omega) (by omega) (by omega) h.fine.cell hL.cell h.m.cell h.ptr.cell h.fine.frz hL.frz h.m.frz nfl nfm hlm).mono ?_
    rintro e W' ⟨rfl, rfl⟩
    have a1 := h.arena.setbx h.fine (.bool true) rfl rfl rfl
    have kf1 : Kp (W.setCell ⟨Bf,0,none⟩ (.bool true)) base kb xs ts sv tv := h.kp.set_far
      (by rintro rfl; have h1 := h.fine; have h2 := h.kp.blk; unfold Bx at h1; rw [h1] at h2; simp at h2)
      (own_ne (AT := 4) (PT := 9) (by decide) h.fine h.kp.rs) hft _
    have f1 := h.fine.set (.bool true)
    have l1 := hL.other nfl.symm (.bool true)
    have p1 := h.ptr.other npf (.bool true)
    have m1 := h.m.other nfm.symm (.bool true)
    have a2 := a1.setbx l1 (.int .i64 ((p : Int) + 1)) rfl rfl rfl
    have kf2 := kf1.set_far (B := Bl)
      (by rintro rfl; have h1 := l1; have h2 := kf1.blk; unfold Bx at h1; rw [h1] at h2; simp at h2)
      (own_ne (AT := 3) (PT := 9) (by decide) l1 kf1.rs) (own_ne (AT := 3) (PT := 4) (by decide) l1 kf1.rt) (.int .i64 ((p : Int) + 1))
    have f2 := f1.other nfl (.int .i64 ((p : Int) + 1))
    have l2 := l1.set (.int .i64 ((p : Int) + 1))
    have p2 := p1.other npl (.int .i64 ((p : Int) + 1))
    have m2 := m1.other hlm.symm (.int .i64 ((p : Int) + 1))
    have a3 := a2.setbx m2 (.int .i64 (cnt ts p + 1)) rfl rfl rfl
    have kf3 := kf2.set_far (B := Bm)
      (by rintro rfl; have h1 := m2; have h2 := kf2.blk; unfold Bx at h1; rw [h1] at h2; simp at h2)
      (own_ne (AT := 3) (PT := 9) (by decide) m2 kf2.rs) (own_ne (AT := 3) (PT := 4) (by decide) m2 kf2.rt) (.int .i64 (cnt ts p + 1))
    have hcs := cnt_succ ts p true hav.2
    rw [if_pos rfl] at hcs
    refine ⟨.inl ⟨rfl, ⟨p + 1, n, cntA ts, av xs ts⟩, rfl, p + 1, rfl, ⟨by omega, a3, kf3, f2.other nfm _, ⟨_, by omega, l2.other hlm _⟩, p2.other npm _, by rw [hcs]; exact m2.set _, ?_⟩⟩, ?_, ?_⟩
    · exact ((h.below.setCell (p := ⟨Bf,0,none⟩) h1 _).setCell (p := ⟨Bl,0,none⟩) h2 _).setCell (p := ⟨Bm,0,none⟩) h3 _
    · simp [World.setCell]
    · intro k o hk ho _
      rw [heap_set_ne (by simp; omega), heap_set_ne (by simp; omega), heap_set_ne (by simp; omega)]; exact ho
  · rintro e w' ⟨rfl, h⟩
    rcases h with ⟨_, hpos, p, rfl, h⟩ | h
    · simp only at hpos
      subst hpos
      exact ⟨rfl, h⟩
    · exact h.elim

theorem TF.sub {base : Nat} {ts us : List TypeId} {w w' : World} (h : TF base ts w w') (hs : ∀ t, t ∈ ts → t ∈ us) : TF base us w w' := h.mono fun _ ho => tagged_sub ho hs
theorem TF.old {base : Nat} {ts : List TypeId} {w w' : World} (h : TF base ts w w') {b o : Nat} (hb : b < base) (hlt : b < w.heap.size) : w'.cell? ⟨b, o, none⟩ = w.cell? ⟨b, o, none⟩ :=
  World.cell?_of_block (w := w) (by
    have := h.blk b w.heap[b] (by rw [Array.getElem?_eq_getElem hlt]) (.inl hb)
    rw [this, Array.getElem?_eq_getElem hlt])
abbrev allT : List TypeId := [65, 72, 76, 58, 9, 4]
theorem kp_nil {W : World} {base kb : Nat} (h : W.heap[kb]? = some (.cells #[.slice none 0 0, .slice none 0 0] 58 (0,0))) (hb : base ≤ kb) : Kp W base kb [] [] (.slice none 0 0) (.slice none 0 0) :=
  ⟨rfl, h, World.ownsRow_nil _ _ _ _, World.ownsRow_nil _ _ _ _, hb⟩

/-- What stands behind the first append of a Put. -/
def PostS (base kb : Nat) (xs : List ByteArray) (ts : List Bool) (tv : Value) (w wx : World) : Prop :=
  ∃ sv', wx.heap[kb]? = some (.cells #[sv', tv] 58 (0,0)) ∧ wx.ownsRow base 9 1 sv' xs.length (xs.map .string) ∧ wx.ownsRow base 4 1 tv ts.length (ts.map .bool) ∧ TF base [58,9,4] w wx

/-- What stands behind the second one. -/
def PostT (base kb : Nat) (xs : List ByteArray) (ts : List Bool) (w wx : World) : Prop :=
  ∃ sv' tv', wx.heap[kb]? = some (.cells #[sv', tv'] 58 (0,0)) ∧ wx.ownsRow base 9 1 sv' xs.length (xs.map .string) ∧ wx.ownsRow base 4 1 tv' ts.length (ts.map .bool) ∧ TF base [58,9,4] w wx

set_option maxRecDepth 100000 in
set_option maxHeartbeats 60000000 in
theorem exact_walk (w : World) (v : Value) (La : Option Addr) (ln lc : Nat) (Aa : Option Addr) (an ac : Nat) (D I : Nat → Int) (S : Nat → ByteArray) (Q : Nat → Int) (hs : ScriptAt w v La ln lc Aa an ac D I S Q) :
    Calls Try.prog 7 #[v] w fun e w' => e = .returned (.bool true) ∧ Below w.heap.size w w' := by
  have HS := Lib.hid hs
  have hv := hs.shape
  have hlm := hs.lmax
  have ham := hs.amax
  clear hs
  subst hv
  go_enter Try.func7, Try.ntmps7
  go_wp2_with fail
  refine (new_s _ (w.heap.size + 1) (by simp)).mono ?_
  rintro e w1 ⟨rfl, ha1, hf1⟩
  have es : (w.alloc (.cells #[.slice La ln lc, .slice Aa an ac] 25)).heap.size = w.heap.size + 1 := by simp
  rw [es] at ha1 ⊢
  have hsz : w.heap.size < w1.heap.size := by have := hf1.size; rw [es] at this; exact this
  have HF1 := Lib.hid hf1
  have HA1 := Lib.hid ha1
  clear es ha1 hf1
  go_wp2_with fail
  obtain ⟨w2, hw2⟩ : ∃ w2, (w1.alloc (.cells #[.slice none 0 0, .slice none 0 0] 58)).alloc (.cells #[.pointer (some ⟨w1.heap.size,0,none⟩)] 54) = w2 := ⟨_, rfl⟩
  have hk2 : Kp w2 (w.heap.size + 1) w1.heap.size [] [] (.slice none 0 0) (.slice none 0 0) := by
    rw [← hw2]; exact kp_nil (by rw [Below.heap_alloc _ _ _ (by simp)]; exact heap_new_at rfl _) (by omega)
  have hp2 : Bx w2 (w1.heap.size + 1) 54 (.pointer (some ⟨w1.heap.size,0,none⟩)) := by
    rw [← hw2]; exact heap_new_at (by simp) _
  have hs2 : w1.heap.size + 2 = w2.heap.size := by rw [← hw2]; simp
  have hT2 : TS w2 (w.heap.size + 1) (w.heap.size + 1) 0 0 (av [] []) := by
    rw [← hw2, av_nil]; exact Ar.frame HA1.out (base' := 0) (ts := []) (((TF.refl _ _ _).alloc _).alloc _) rfl rfl rfl
  have hF2 : TF (w.heap.size + 1) allT (w.alloc (.cells #[.slice La ln lc, .slice Aa an ac] 25)) w2 := by
    rw [← hw2]; exact ((HF1.out.sub (us := allT) (by decide)).alloc _).alloc _
  rw [hw2]
  have HK2 := Lib.hid hk2
  have HP2 := Lib.hid hp2
  have HT2 := Lib.hid hT2
  have HF2 := Lib.hid hF2
  obtain ⟨kb, hkb⟩ : ∃ kb, w1.heap.size = kb := ⟨_, rfl⟩
  rw [hkb] at hs2 HK2 HP2 hsz ⊢
  clear hw2 hk2 hp2 hT2 hF2 HF1 HA1 hkb
  go_loopw [5, 6] (fun nv i wr => ∃ (k : Nat) (xs : List ByteArray) (ts : List Bool) (sv tv : Value), k ≤ 400 ∧ k ≤ ln ∧ ts.length ≤ k ∧ nv = .int .i64 (cntA ts) ∧ i = .int .i64 k ∧
      Hid (TS wr (w.heap.size + 1) (w.heap.size + 1) ts.length (cntA ts) (av xs ts)) ∧ Hid (Kp wr (w.heap.size + 1) kb xs ts sv tv) ∧ Hid (TF (w.heap.size + 1) allT w2 wr)) (fun _ i _ => 400 - (intOf i).toNat)
  case atStart => exact ⟨0, [], [], _, _, by omega, by omega, by simp, rfl, rfl, HT2, HK2, TF.refl _ _ _⟩
  case round =>
    obtain ⟨k, xs, ts, sv, tv, hk1, hk2, htl, rfl, rfl, hak, hkp, hfk⟩ := hrel
    have hsr := hfk.out.size
    have hbox : wr.cell? ⟨w.heap.size, 0, none⟩ = some (.slice La ln lc) := by
      rw [hfk.out.old (by omega) (by omega), HF2.out.old (by omega) (by simp)]; exact World.cell?_alloc_at _ _ _ _ rfl
    have hbox1 : wr.cell? ⟨w.heap.size, 1, none⟩ = some (.slice Aa an ac) := by
      rw [hfk.out.old (by omega) (by omega), HF2.out.old (by omega) (by simp)]; exact World.cell?_alloc_at _ _ _ _ rfl
    have hold : ∀ b o, b < w.heap.size → wr.cell? ⟨b, o, none⟩ = w.cell? ⟨b, o, none⟩ := fun b o hb => by
      rw [hfk.out.old (by omega) (by omega), HF2.out.old (by omega) (by simp; omega)]; exact World.cell?_alloc_past _ _ _ hb
    have hptr := (HP2.out.tf hfk.out rfl).cell
    have hkpl := hkp.out.len
    have hq1 : kb + 1 < wr.heap.size := by omega
    have hq2 : kb < wr.heap.size := by omega
    have hq3 : w.heap.size < wr.heap.size := by omega
    have HOLD := Lib.hid hold
    clear hold
    by_cases hlt : k < ln
    · by_cases hlt2 : k < 400
      · obtain ⟨bL, oL, hLa, hbL, hcells⟩ := HS.out.ops (by omega)
        obtain ⟨c0, c1, c2⟩ := hcells k hlt
        rw [← HOLD.out _ _ hbL] at c0 c1 c2
        subst hLa
        have hq4 : bL < wr.heap.size := by omega
        clear hcells
        go_wp2_with fail
        refine (has_any (hkp.out.alloc _) (by omega) (I k)).mono ?_
        rintro e w3 ⟨rfl, rfl⟩
        obtain ⟨w3, hw3⟩ : ∃ w3, wr.alloc (.cells #[.int .i64 (D k), .int .i64 (I k), .string (S k)] 34) = w3 := ⟨_, rfl⟩
        have hkp3 : Kp w3 (w.heap.size + 1) kb xs ts sv tv := by rw [← hw3]; exact hkp.out.alloc _
        have hak3 : TS w3 (w.heap.size + 1) (w.heap.size + 1) ts.length (cntA ts) (av xs ts) := by
          rw [← hw3]; exact Ar.frame hak.out (base' := 0) (ts := []) ((TF.refl _ _ _).alloc _) rfl rfl rfl
        have hfk3 : TF (w.heap.size + 1) allT w2 w3 := by rw [← hw3]; exact hfk.out.alloc _
        have hs3 : wr.heap.size < w3.heap.size := by rw [← hw3]; simp
        have hob : w3.heap[wr.heap.size]? = some (.cells #[.int .i64 (D k), .int .i64 (I k), .string (S k)] 34 (0,0)) := by rw [← hw3]; exact heap_new_at rfl _
        have kx3 : w3.cell? ⟨kb + 1, 0, none⟩ = some (.pointer (some ⟨kb,0,none⟩)) := by rw [← hw3, World.cell?_alloc_past _ _ _ hq1]; exact hptr
        have o0 : w3.cell? ⟨wr.heap.size, 0, none⟩ = some (.int .i64 (D k)) := by rw [cell_blk hob]; rfl
        have o1 : w3.cell? ⟨wr.heap.size, 1, none⟩ = some (.int .i64 (I k)) := by rw [cell_blk hob]; rfl
        have o2 : w3.cell? ⟨wr.heap.size, 2, none⟩ = some (.string (S k)) := by rw [cell_blk hob]; rfl
        rw [hw3]
        generalize hobn : wr.heap.size = ob at *
        have HKP3 := Lib.hid hkp3
        have HAK3 := Lib.hid hak3
        have HFK3 := Lib.hid hfk3
        have HOB := Lib.hid hob
        have KX3 := Lib.hid kx3
        clear hw3 hkp3 hak3 hfk3 hak hkp hfk c0 c1 c2 hptr hbox hbox1 HOLD hob hobn
        by_cases hd0 : (D k == 0) = true
        · go_wp2_with fail
          obtain ⟨i9, hi9, hz9, hz91, hz92⟩ := info_parts (P := Try.prog) (e := 9) (z := .string ⟨#[]⟩) (size := 1) (bytes := 16) (by kernel_rfl)
          have kk0 : w3.cell? ⟨kb, 0, none⟩ = some sv := by rw [cell_blk HKP3.out.blk]; rfl
          have hml : xs.length + 1 ≤ maxLen := by show _ ≤ 2 ^ 63 - 1; omega
          have hne1 : sv.ownBlock ≠ some (kb + 1) := own_ne (AT := 54) (PT := 9) (by decide) (by have := HP2.out.tf HFK3.out rfl; exact this) HKP3.out.rs
          have hne2 : sv.ownBlock ≠ some kb := own_ne (AT := 58) (PT := 9) (by decide) HKP3.out.blk HKP3.out.rs
          have hne3 : sv.ownBlock ≠ some ob := own_ne (AT := 34) (PT := 9) (by decide) HOB.out HKP3.out.rs
          have hrs := HKP3.out.rs
          have hfa : ∀ o, (w3.alloc o).drew.cell? ⟨kb + 1, 0, none⟩ = some (.pointer (some ⟨kb, 0, none⟩)) ∧ (w3.alloc o).drew.cell? ⟨kb, 0, none⟩ = some sv ∧ (w3.alloc o).drew.cell? ⟨ob, 2, none⟩ = some (.string (S k)) ∧ (w3.alloc o).drew.frozen? ⟨kb, 0, none⟩ = false := fun o =>
            ⟨(World.cell?_alloc_past _ _ _ (by show kb + 1 < _; omega)).trans kx3, (World.cell?_alloc_past _ _ _ (by show kb < _; omega)).trans kk0, (World.cell?_alloc_past _ _ _ (by show ob < _; omega)).trans o2, frz_blk (w := w3.alloc _) ((heap_alloc_ne (by omega)).trans HKP3.out.blk)⟩
          have hft : ∀ o w4, (w3.alloc o).drew.grownBy w4 sv.ownBlock → w4.cell? ⟨kb + 1, 0, none⟩ = some (.pointer (some ⟨kb, 0, none⟩)) ∧ w4.cell? ⟨kb, 0, none⟩ = some sv ∧ w4.cell? ⟨ob, 2, none⟩ = some (.string (S k)) ∧ w4.frozen? ⟨kb, 0, none⟩ = false := fun o w4 hg =>
            ⟨(hg.cell_far _ (by show kb + 1 < (w3.alloc o).heap.size; simp; omega) (Ne.symm hne1)).trans (hfa o).1, (hg.cell_far _ (by show kb < (w3.alloc o).heap.size; simp; omega) (Ne.symm hne2)).trans (hfa o).2.1, (hg.cell_far _ (by show ob < (w3.alloc o).heap.size; simp; omega) (Ne.symm hne3)).trans (hfa o).2.2.1, (hg.frozen_far _ (by show kb < (w3.alloc o).heap.size; simp; omega) (Ne.symm hne2)).trans (hfa o).2.2.2⟩
          have hpost : ∀ (o : Obj) (v' : Value) (w4 : World), w4.ownsRow (w.heap.size + 1) 9 1 v' (xs.length + 1) (xs.map .string ++ [.string (S k)]) → (w3.alloc o).drew.grownBy w4 sv.ownBlock →
              PostS (w.heap.size + 1) kb (xs ++ [S k]) ts tv w3 (w4.setCell ⟨kb,0,none⟩ v') := fun o v' w4 h1 h2 =>
            ⟨v', kp_app_s (Wa := (w3.alloc o).drew) HKP3.out.blk hrs HKP3.out.rt HKP3.out.hb (((TF.refl _ _ _).alloc o).same ⟨rfl, rfl, rfl, rfl⟩) (fun j x hj => (heap_alloc_ne (w := w3) (o := o) (Nat.ne_of_lt (lt_blk hj))).trans hj) h1 h2⟩
          have hxl : xs.length ≤ 400 := by omega
          clear hkpl
          go_cut [] (fun wx => PostS (w.heap.size + 1) kb (xs ++ [S k]) ts tv w3 wx)
          case first => as_aux_lemma =>
            go_region_law
              ((refine step_append_lies _ (by rfl) _ _ _ (by rfl) (w.heap.size + 1) 9 i9 _ 1 16 Try.underlying55 hi9 hz9 hz91 hz92 rfl (by omega) sv xs.length (xs.map .string) (by rfl) ((hrs.alloc _).drew)
                    ⟨w3.heap.size, 0, none⟩ 1 1 [.string (S k)] (by rfl) (by rfl) (World.news_of_block (cs := #[.string (S k)]) (t := 9) (fr := (0, 0)) (heap_alloc_new w3 _)) (by simp [Value.oneCell'])
                    (by omega) hml (by omega) (by simp; omega) (w3.heap.size + 1) (by simp) ?_; intro g cap w4 hown1 hgrow hat hlt4; obtain ⟨q1, q2, q3, q4⟩ := hft _ _ hgrow))
            all_goals go_wp2_with fail
            all_goals go_meet
            all_goals exact hpost _ _ _ hown1 hgrow
          case rest => as_aux_lemma =>
            clear hfa hft hpost hrs kk0 hml hne1 hne2 hne3
            obtain ⟨sv', hk4, hr4, ht4, hf4⟩ := hcut
            obtain ⟨i4, hi4, hz4, hz41, hz42⟩ := info_parts (P := Try.prog) (e := 4) (z := .bool false) (size := 1) (bytes := 1) (by kernel_rfl)
            have hs4 : w3.heap.size ≤ wc.heap.size := hf4.size
            have hbp4 : Bx wc (kb + 1) 54 (.pointer (some ⟨kb,0,none⟩)) := (HP2.out.tf HFK3.out rfl).tf hf4 rfl
            have kx4 := hbp4.cell
            have kk4 : wc.cell? ⟨kb, 1, none⟩ = some tv := by rw [cell_blk hk4]; rfl
            have hne1 : tv.ownBlock ≠ some (kb + 1) := own_ne (AT := 54) (PT := 4) (by decide) hbp4 ht4
            have hne2 : tv.ownBlock ≠ some kb := own_ne (AT := 58) (PT := 4) (by decide) hk4 ht4
            have hfa : ∀ o, (wc.alloc o).drew.cell? ⟨kb + 1, 0, none⟩ = some (.pointer (some ⟨kb, 0, none⟩)) ∧ (wc.alloc o).drew.cell? ⟨kb, 1, none⟩ = some tv ∧ (wc.alloc o).drew.frozen? ⟨kb, 1, none⟩ = false := fun o =>
              ⟨(World.cell?_alloc_past _ _ _ (by show kb + 1 < _; omega)).trans kx4, (World.cell?_alloc_past _ _ _ (by show kb < _; omega)).trans kk4, frz_blk (w := wc.alloc _) ((heap_alloc_ne (by omega)).trans hk4)⟩
            have hft : ∀ o w4, (wc.alloc o).drew.grownBy w4 tv.ownBlock → w4.cell? ⟨kb + 1, 0, none⟩ = some (.pointer (some ⟨kb, 0, none⟩)) ∧ w4.cell? ⟨kb, 1, none⟩ = some tv ∧ w4.frozen? ⟨kb, 1, none⟩ = false := fun o w4 hg =>
              ⟨(hg.cell_far _ (by show kb + 1 < (wc.alloc o).heap.size; simp; omega) (Ne.symm hne1)).trans (hfa o).1, (hg.cell_far _ (by show kb < (wc.alloc o).heap.size; simp; omega) (Ne.symm hne2)).trans (hfa o).2.1, (hg.frozen_far _ (by show kb < (wc.alloc o).heap.size; simp; omega) (Ne.symm hne2)).trans (hfa o).2.2⟩
            have hpost : ∀ (o : Obj) (v' : Value) (w4 : World), w4.ownsRow (w.heap.size + 1) 4 1 v' (ts.length + 1) (ts.map .bool ++ [.bool true]) → (wc.alloc o).drew.grownBy w4 tv.ownBlock →
                PostT (w.heap.size + 1) kb (xs ++ [S k]) (ts ++ [true]) wc (w4.setCell ⟨kb,1,none⟩ v') := fun o v' w4 h1 h2 =>
              ⟨sv', v', kp_app_t (Wa := (wc.alloc o).drew) hk4 hr4 ht4 HKP3.out.hb (((TF.refl _ _ _).alloc o).same ⟨rfl, rfl, rfl, rfl⟩) (fun j x hj => (heap_alloc_ne (w := wc) (o := o) (Nat.ne_of_lt (lt_blk hj))).trans hj) h1 h2⟩
            have hml : ts.length + 1 ≤ maxLen := by show _ ≤ 2 ^ 63 - 1; omega
            have HF4 := Lib.hid hf4
            have HBP4 := Lib.hid hbp4
            have HK4 := Lib.hid hk4
            have HR4 := Lib.hid hr4
            have HT4 := Lib.hid ht4
            clear hf4 hbp4 hk4 hr4
            go_wp2_with fail
            go_cut [] (fun wx => PostT (w.heap.size + 1) kb (xs ++ [S k]) (ts ++ [true]) wc wx)
            case first => as_aux_lemma =>
              go_region_law
                ((refine step_append_lies _ (by rfl) _ _ _ (by rfl) (w.heap.size + 1) 4 i4 _ 1 1 Try.underlying56 hi4 hz4 hz41 hz42 rfl (by omega) tv ts.length (ts.map .bool) (by rfl) ((ht4.alloc _).drew)
                      ⟨wc.heap.size, 0, none⟩ 1 1 [.bool true] (by rfl) (by rfl) (World.news_of_block (cs := #[.bool true]) (t := 4) (fr := (0, 0)) (heap_alloc_new wc _)) (by simp [Value.oneCell'])
                      (by omega) hml (by omega) (by simp; omega) (wc.heap.size + 1) (by simp) ?_; intro g cap w4 hown1 hgrow hat hlt4; obtain ⟨q1, q2, q4⟩ := hft _ _ hgrow))
              all_goals go_wp2_with fail
              all_goals go_meet
              all_goals exact hpost _ _ _ hown1 hgrow
            case rest => as_aux_lemma =>
              clear hfa hft hpost hml hne1 hne2 ht4 kk4 kx4
              obtain ⟨sv5, tv5, hk5, hr5, ht5, hf5⟩ := hcut
              have hl5 : (xs ++ [S k]).length = ts.length + 1 := by rw [List.length_append, HKP3.out.len]; rfl
              have hlt5 : (ts ++ [true]).length = ts.length + 1 := by simp
              have hf35 : TF (w.heap.size + 1) [58,9,4] w3 wc := HF4.out.trans hf5
              have hT5 : TS wc (w.heap.size + 1) (w.heap.size + 1) ts.length (cntA ts) (av xs ts) := Ar.frame HAK3.out hf35 rfl rfl rfl
              have hKP5 : Kp wc (w.heap.size + 1) kb (xs ++ [S k]) (ts ++ [true]) sv5 tv5 := ⟨by rw [hl5, hlt5], hk5, hr5, ht5, HKP3.out.hb⟩
              have hF5 : TF (w.heap.size + 1) allT w2 wc := HFK3.out.trans (hf35.sub (by decide))
              have hB5 : Bx wc (kb + 1) 54 (.pointer (some ⟨kb,0,none⟩)) := (HP2.out.tf HFK3.out rfl).tf hf35 rfl
              have hO5 := hf35.blk _ _ HOB.out (.inr rfl)
              obtain ⟨Ls, cs, rfl, _⟩ := row_form hr5
              rw [hl5] at hk5
              have hcl := cntA_le ts
              have hs5 : w.heap.size + 1 ≤ wc.heap.size := by have := hF5.size; omega
              have p1 : wc.cell? ⟨kb + 1, 0, none⟩ = some (.pointer (some ⟨kb, 0, none⟩)) := hB5.cell
              have p2 : wc.cell? ⟨kb, 0, none⟩ = some (.slice Ls (ts.length + 1) cs) := by rw [cell_blk hk5]; rfl
              have p3 : wc.cell? ⟨ob, 2, none⟩ = some (.string (S k)) := by rw [cell_blk hO5]; rfl
              have HT5 := Lib.hid hT5
              have HKP5 := Lib.hid hKP5
              have HF5 := Lib.hid hF5
              have HB5 := Lib.hid hB5
              have HK5 := Lib.hid hk5
              have HO5 := Lib.hid hO5
              have HL5 := Lib.hid hl5
              have HLT5 := Lib.hid hlt5
              have hkeep : ∀ W W' : World, W.heap = wc.heap → TF (w.heap.size + 1) AS.tags W W' → W'.cell? ⟨kb + 1, 0, none⟩ = some (.pointer (some ⟨kb, 0, none⟩)) ∧ W'.cell? ⟨kb, 0, none⟩ = some (.slice Ls (ts.length + 1) cs) ∧ W'.cell? ⟨ob, 2, none⟩ = some (.string (S k)) := fun W W' hW hf =>
                ⟨((hB5.same hW).tf hf rfl).cell, by rw [cell_blk (hf.blk _ _ (by rw [hW]; exact hk5) (.inr rfl))]; rfl, by rw [cell_blk (hf.blk _ _ (by rw [hW]; exact hO5) (.inr rfl))]; rfl⟩
              clear hk5 hr5 ht5 hf5 hl5 hlt5 hf35 hT5 hKP5 hF5 hB5 hO5 HF4 HBP4 HK4 HR4 HT4 HFK3 HAK3 HOB KX3 o0 o1 o2 kx3 hs4 hs3 hs2
              go_wp2_with fail
              go_region_held3 (fun w' => w'.cell? ⟨kb + 1, 0, none⟩ = some (.pointer (some ⟨kb, 0, none⟩)) ∧ w'.cell? ⟨kb, 0, none⟩ = some (.slice Ls (ts.length + 1) cs) ∧ w'.cell? ⟨ob, 2, none⟩ = some (.string (S k))) (go_keep)
                (first | (go_at_call 11; refine (put_s (TS.same (W := wc) HT5.out (by exact rfl)) (S k) (by omega) (by omega) (by omega) (by exact hs5)).mono ?_; rintro e w' ⟨rfl, ha, hf⟩; obtain ⟨s1, s2, s3⟩ := hkeep _ _ (by exact rfl) hf; have HA6 := Lib.hid ha; have HF6 := Lib.hid hf; clear ha hf))
              have hl3 := HKP3.out.len
              have hT7 : TS w' (w.heap.size + 1) (w.heap.size + 1) (ts.length + 1) (cntA ts + 1) (av (xs ++ [S k]) (ts ++ [true])) := by
                rw [← us_put xs ts (S k) hl3]; exact HA6.out
              have hKP7 : Kp w' (w.heap.size + 1) kb (xs ++ [S k]) (ts ++ [true]) _ tv5 := (HKP5.out.same (W' := wc.drew) rfl).tf HF6.out rfl rfl rfl
              have hF7 : TF (w.heap.size + 1) allT w2 w' := (HF5.out.same (w2 := wc.drew) ⟨rfl, rfl, rfl, rfl⟩).trans (HF6.out.sub (by decide))
              have HT7 := Lib.hid hT7
              have HKP7 := Lib.hid hKP7
              have HF7 := Lib.hid hF7
              clear hl3 hT7 hKP7 hF7 s1 s2 s3 p1 p2 p3 hkeep HA6 HF6 HF5 HB5 HK5 HO5 HT5 HKP5
              go_wp2_with fail
              refine (len_s HT7.out).mono ?_
              rintro e w8 ⟨rfl, rfl⟩
              go_wp2_with fail
              go_roundw
              case rel =>
                exact ⟨k + 1, xs ++ [S k], ts ++ [true], _, tv5, by omega, by omega, by rw [HLT5.out]; omega, by rw [cntA_put], by go_num, by rw [HLT5.out, cntA_put]; exact HT7, HKP7, HF7⟩
              case measure => simp [intOf]; omega
        · have hd0' : (D k == 0) = false := by simpa using hd0
          obtain ⟨Ls, cs, rfl, hLs⟩ := row_form HKP3.out.rs
          obtain ⟨Lt, ct, rfl, hLt⟩ := row_form HKP3.out.rt
          have hl3 := HKP3.out.len
          have hB3 : Bx w3 (kb + 1) 54 (.pointer (some ⟨kb,0,none⟩)) := HP2.out.tf HFK3.out rfl
          have HB3 := Lib.hid hB3
          have hcl := cntA_le ts
          clear hB3 hd0
          have hs5 : w.heap.size + 1 ≤ w3.heap.size := by omega
          by_cases hd1 : (D k == 1) = true
          · as_aux_lemma =>
            go_wp2_with fail
            refine (set_s HAK3.out (I k) (S k) (by omega)).mono ?_
            rintro e w4 ⟨rfl, ha4, hf4⟩
            rw [gs_av _ _ _ hl3] at ha4 ⊢
            have hF4 : TF (w.heap.size + 1) allT w2 w4 := HFK3.out.trans (hf4.sub (by decide))
            have hKP4 := HKP3.out.tf hf4 rfl rfl rfl
            have HF4 := Lib.hid hF4
            cases hh : hb ts (I k) with
            | false =>
              rw [hh] at ha4
              have HA4 : Hid (TS w4 (w.heap.size + 1) (w.heap.size + 1) ts.length (cntA ts) (av xs ts)) := ha4
              have HKP4 := Lib.hid hKP4
              clear hF4 hKP4 ha4 hf4
              go_wp2_with fail
              refine (len_s HA4.out).mono ?_
              rintro e w8 ⟨rfl, rfl⟩
              go_wp2_with fail
              go_roundw
              case rel => exact ⟨k + 1, xs, ts, _, _, by omega, by omega, by omega, rfl, by go_num, HA4, HKP4, HF4⟩
              case measure => simp [intOf]; omega
            | true =>
              rw [hh, if_pos rfl, us_set xs ts (S k) (I k) hl3 hh] at ha4
              obtain ⟨q1, q2, q3⟩ := hb_true hh
              obtain ⟨n, hn⟩ : ∃ n : Nat, I k = (n : Int) + 1 := ⟨(I k - 1).toNat, by omega⟩
              rw [hn] at o1 q2 ha4
              rw [show ((n : Int) + 1 - 1).toNat = n by omega] at ha4
              have hnl : n < xs.length := by omega
              obtain ⟨g, rfl⟩ := hLs (by omega)
              have c1 := (HB3.out.tf hf4 rfl).cell
              have hO4 := hf4.blk _ _ HOB.out (.inr rfl)
              have c2 : w4.cell? ⟨ob, 1, none⟩ = some (.int .i64 ((n : Int) + 1)) := by rw [cell_blk hO4]; show some (Value.int .i64 (I k)) = _; rw [hn]
              have c3 : w4.cell? ⟨ob, 2, none⟩ = some (.string (S k)) := by rw [cell_blk hO4]; rfl
              have c4 : w4.cell? ⟨kb, 0, none⟩ = some (.slice (some ⟨g,0,none⟩) xs.length cs) := by rw [cell_blk hKP4.blk]; rfl
              have c5 : w4.cell? ⟨g, n, none⟩ = some (.string (xs[n]'hnl)) := by rw [row_cell hKP4.rs hnl, List.getElem?_map, List.getElem?_eq_getElem hnl]; rfl
              have c6 : w4.frozen? ⟨g, n, none⟩ = false := hKP4.rs.frozenAt n
              have hK8 := kp_set_s hKP4 n (S k)
              have HK8 := Lib.hid hK8
              have HA4 := Lib.hid ha4
              clear hF4 hKP4 ha4 hf4 q1 q2 q3 hK8 o1 o2 o0 hO4 hh
              go_wp2_with fail
              go_region
              have hT9 : TS ((w4.setCell ⟨g,n,none⟩ (.string (S k))).drew) (w.heap.size + 1) (w.heap.size + 1) ts.length (cntA ts) (av (xs.set n (S k)) ts) := TS.same (W := w4.setCell ⟨g,n,none⟩ (.string (S k))) (Ar.frame HA4.out HK8.out.2 rfl rfl rfl) rfl
              have hK9 := HK8.out.1.same (W' := (w4.setCell ⟨g,n,none⟩ (.string (S k))).drew) rfl
              have hF9 : TF (w.heap.size + 1) allT w2 ((w4.setCell ⟨g,n,none⟩ (.string (S k))).drew) := (HF4.out.trans (HK8.out.2.sub (by decide))).same ⟨rfl, rfl, rfl, rfl⟩
              generalize (w4.setCell ⟨g,n,none⟩ (.string (S k))).drew = w9 at *
              have HT9 := Lib.hid hT9
              have HK9 := Lib.hid hK9
              have HF9 := Lib.hid hF9
              clear hT9 hK9 hF9 HK8 HA4 HF4 c1 c2 c3 c4 c5 c6
              go_wp2_with fail
              refine (len_s HT9.out).mono ?_
              rintro e w8 ⟨rfl, rfl⟩
              go_wp2_with fail
              go_roundw
              case rel => exact ⟨k + 1, xs.set n (S k), ts, _, _, by omega, by omega, by omega, rfl, by go_num, HT9, HK9, HF9⟩
              case measure => simp [intOf]; omega
          · as_aux_lemma =>
            have hd1' : (D k == 1) = false := by simpa using hd1
            clear hd1
            go_wp2_with fail
            refine (drop_s HAK3.out (I k) (by omega) (by omega) (by omega)).mono ?_
            rintro e w4 ⟨rfl, ha4, hf4⟩
            rw [gs_av _ _ _ hl3] at ha4 ⊢
            have hF4 : TF (w.heap.size + 1) allT w2 w4 := HFK3.out.trans (hf4.sub (by decide))
            have hKP4 := HKP3.out.tf hf4 rfl rfl rfl
            have HF4 := Lib.hid hF4
            cases hh : hb ts (I k) with
            | false =>
              rw [hh] at ha4
              have HA4 : Hid (TS w4 (w.heap.size + 1) (w.heap.size + 1) ts.length (cntA ts) (av xs ts)) := ha4
              have HKP4 := Lib.hid hKP4
              clear hF4 hKP4 ha4 hf4
              go_wp2_with fail
              refine (len_s HA4.out).mono ?_
              rintro e w8 ⟨rfl, rfl⟩
              go_wp2_with fail
              go_roundw
              case rel => exact ⟨k + 1, xs, ts, _, _, by omega, by omega, by omega, rfl, by go_num, HA4, HKP4, HF4⟩
              case measure => simp [intOf]; omega
            | true =>
              have hcd := cntA_drop ts (I k) hh
              rw [hh, if_pos rfl, if_pos rfl, us_drop xs ts (I k) hh, ← hcd] at ha4
              obtain ⟨q1, q2, q3⟩ := hb_true hh
              obtain ⟨n, hn⟩ : ∃ n : Nat, I k = (n : Int) + 1 := ⟨(I k - 1).toNat, by omega⟩
              rw [hn] at o1 q2 q3 ha4 hcd
              rw [show ((n : Int) + 1 - 1).toNat = n by omega] at ha4 q3 hcd
              have hnl : n < ts.length := by omega
              obtain ⟨g, rfl⟩ := hLt (by omega)
              have c1 := (HB3.out.tf hf4 rfl).cell
              have hO4 := hf4.blk _ _ HOB.out (.inr rfl)
              have c2 : w4.cell? ⟨ob, 1, none⟩ = some (.int .i64 ((n : Int) + 1)) := by rw [cell_blk hO4]; show some (Value.int .i64 (I k)) = _; rw [hn]
              have c4 : w4.cell? ⟨kb, 1, none⟩ = some (.slice (some ⟨g,0,none⟩) ts.length ct) := by rw [cell_blk hKP4.blk]; rfl
              have c5 : w4.cell? ⟨g, n, none⟩ = some (.bool true) := by rw [row_cell hKP4.rt hnl, List.getElem?_map, q3]; rfl
              have c6 : w4.frozen? ⟨g, n, none⟩ = false := hKP4.rt.frozenAt n
              have hK8 := kp_set_t hKP4 n false
              have HK8 := Lib.hid hK8
              have HA4 := Lib.hid ha4
              have HCD := Lib.hid hcd
              clear hF4 hKP4 ha4 hf4 q1 q2 q3 hK8 o1 o2 o0 hO4 hh hcd
              go_wp2_with fail
              go_region
              have hT9 : TS ((w4.setCell ⟨g,n,none⟩ (.bool false)).drew) (w.heap.size + 1) (w.heap.size + 1) (ts.set n false).length (cntA (ts.set n false)) (av xs (ts.set n false)) := TS.same (W := w4.setCell ⟨g,n,none⟩ (.bool false)) (Ar.frame (by rw [List.length_set]; exact HA4.out) HK8.out.2 rfl rfl rfl) rfl
              have hK9 := HK8.out.1.same (W' := (w4.setCell ⟨g,n,none⟩ (.bool false)).drew) rfl
              have hF9 : TF (w.heap.size + 1) allT w2 ((w4.setCell ⟨g,n,none⟩ (.bool false)).drew) := (HF4.out.trans (HK8.out.2.sub (by decide))).same ⟨rfl, rfl, rfl, rfl⟩
              generalize (w4.setCell ⟨g,n,none⟩ (.bool false)).drew = w9 at *
              have hcl2 : -1 ≤ cntA ts - 1 ∧ cntA ts - 1 ≤ 400 := by omega
              have HT9 := Lib.hid hT9
              have HK9 := Lib.hid hK9
              have HF9 := Lib.hid hF9
              clear hT9 hK9 hF9 HK8 HA4 HF4 c1 c2 c4 c5 c6
              go_wp2_with fail
              refine (len_s HT9.out).mono ?_
              rintro e w8 ⟨rfl, rfl⟩
              rw [HCD.out]
              go_wp2_with fail
              go_roundw
              case rel => exact ⟨k + 1, xs, ts.set n false, _, _, by omega, by omega, by rw [List.length_set]; omega, by rw [HCD.out], by go_num, HT9, HK9, HF9⟩
              case measure => simp [intOf]; omega
      · as_aux_lemma =>
        have hBr : Below w.heap.size w wr := by
          have a1 : Below w.heap.size w (w.alloc (.cells #[.slice La ln lc, .slice Aa an ac] 25)) := (Below.refl _ _).alloc (Nat.le_refl _) _
          exact (a1.trans ((HF2.out.below (by simp)).mono (by omega))).trans ((hfk.out.below (by omega)).mono (by omega))
        have HBR := Lib.hid hBr
        have hxl : ts.length ≤ 400 := by omega
        have hcl := cntA_le ts
        have hptr2 : Bx wr (kb + 1) 54 (.pointer (some ⟨kb,0,none⟩)) := HP2.out.tf hfk.out rfl
        have HPR := Lib.hid hptr2
        clear hBr hfk hptr hptr2 HF2 HP2 HT2 HK2 htl
        go_wp2_with fail
        obtain ⟨wo, rfl⟩ : ∃ wo : World, wo = wr := ⟨_, rfl⟩
        go_loopw [9] (fun j wq => ∃ q : Nat, q ≤ an ∧ q ≤ 100 ∧ j = .int .i64 q ∧ Hid (Same wo wq)) (fun j _ => 100 - (intOf j).toNat)
        case atStart => exact ⟨0, by omega, by omega, rfl, ⟨rfl, rfl, rfl, rfl⟩⟩
        case round =>
          obtain ⟨q, hqa, hqb, rfl, hsm⟩ := hrel
          have hh : wr.heap = wo.heap := hsm.out.1
          have hHK : Kp wr (w.heap.size + 1) kb xs ts sv tv := hkp.out.same hh
          have hHT : TS wr (w.heap.size + 1) (w.heap.size + 1) ts.length (cntA ts) (av xs ts) := TS.same hak.out hh
          have cA : wr.cell? ⟨w.heap.size, 1, none⟩ = some (.slice Aa an ac) := by rw [World.cell?_of_block (w := wo) (by rw [hh])]; exact hbox1
          have cP : wr.cell? ⟨kb + 1, 0, none⟩ = some (.pointer (some ⟨kb,0,none⟩)) := (HPR.out.same hh).cell
          have hsz : wr.heap.size = wo.heap.size := by rw [hh]
          have HH := Lib.hid hh
          have HK := Lib.hid hHK
          have HT := Lib.hid hHT
          have hHB : Below w.heap.size w wr := ⟨hsm.out.2.1.trans HBR.out.os, hsm.out.2.2.1.trans HBR.out.tape, hsm.out.2.2.2.trans HBR.out.output, by rw [hh]; exact HBR.out.size, fun k hk => by rw [hh]; exact HBR.out.block k hk⟩
          have HB := Lib.hid hHB
          have hqx : kb + 1 < wr.heap.size := by omega
          have hqy : w.heap.size < wr.heap.size := by omega
          clear hh hHK hHT hHB hsz
          by_cases hqn : q < an
          · by_cases hqm : q < 100
            · as_aux_lemma =>
              obtain ⟨bA, oA, hAa, hbA, hcells⟩ := HS.out.asks (by omega)
              have c0 := hcells q hqn
              rw [← HOLD.out _ _ hbA, ← World.cell?_of_block (w := wo) (w' := wr) (by rw [HH.out])] at c0
              subst hAa
              clear hcells
              have hwq := HS.out.wfQ q
              go_wp2_with fail
              refine (get_s HT.out (Q q) (by omega)).mono ?_
              rintro e w3 ⟨rfl, rfl⟩
              cases hgb : hb ts (Q q) with
              | false =>
                have hgv : gs (av xs ts) (Q q) = none := by
                  have := gs_av xs ts (Q q) hkpl
                  rw [hgb] at this; simpa using this
                rw [hgv]
                go_wp2_with fail
                go_quiet (first | (go_at_call 34; refine Calls.quiet_of (has_q (W := _) (Kp.same HK.out ?_) (by omega) _ false hgb); rfl))
                go_wp2_with fail
                go_roundw
                case rel => exact ⟨q + 1, by omega, by omega, by go_num, hsm.out⟩
                case measure => simp [intOf]; omega
              | true =>
                obtain ⟨s, hgv, hxs⟩ := gs_av_val xs ts (Q q) hkpl hgb
                rw [hgv]
                obtain ⟨q1, q2, q3⟩ := hb_true hgb
                obtain ⟨n, hn⟩ : ∃ n : Nat, Q q = (n : Int) + 1 := ⟨(Q q - 1).toNat, by omega⟩
                rw [hn] at c0 hgb q2 hxs
                rw [show ((n : Int) + 1 - 1).toNat = n by omega] at hxs
                have hnl : n < xs.length := by omega
                obtain ⟨Ls, cs, rfl, hLs⟩ := row_form HK.out.rs
                obtain ⟨g, rfl⟩ := hLs (by omega)
                have c4 : wr.cell? ⟨kb, 0, none⟩ = some (.slice (some ⟨g,0,none⟩) xs.length cs) := by rw [cell_blk HK.out.blk]; rfl
                have c5 : wr.cell? ⟨g, n, none⟩ = some (.string s) := by rw [row_cell HK.out.rs hnl, List.getElem?_map, hxs]; rfl
                clear q1 q2 q3 hxs hgv hn hLs
                go_wp2_with fail
                go_quiet (first | (go_at_call 34; refine Calls.quiet_of (has_q (W := _) (Kp.same HK.out ?_) (by omega) _ true hgb); rfl))
                go_wp2_with fail
                go_roundw
                case rel => exact ⟨q + 1, by omega, by omega, by go_num, hsm.out⟩
                case measure => simp [intOf]; omega
            · have HPQ : Hid (Bx wr (kb + 1) 54 (.pointer (some ⟨kb,0,none⟩))) := HPR.out.same HH.out
              clear hak hkp HPR HBR HOLD hsm hbox hbox1 HS
              go_wp2_with fail
              obtain ⟨wb, hwb⟩ : ∃ wb, ((wr.alloc (.cells #[.int .i64 0] 3)).alloc (.cells #[.int .i64 0] 3)).alloc (.cells #[.bool true] 4) = wb := ⟨_, rfl⟩
              have d1 : Bx wb wr.heap.size 3 (.int .i64 0) := by rw [← hwb]; exact Bx.alloc (Bx.alloc (heap_new_at rfl _) _) _
              have d2 : Bx wb (wr.heap.size + 1) 3 (.int .i64 0) := by rw [← hwb]; exact Bx.alloc (heap_new_at (by simp) _) _
              have d3 : Bx wb (wr.heap.size + 1 + 1) 4 (.bool true) := by rw [← hwb]; exact heap_new_at (by simp) _
              have d4 : Bx wb (kb + 1) 54 (.pointer (some ⟨kb,0,none⟩)) := by rw [← hwb]; exact ((HPQ.out.alloc _).alloc _).alloc _
              have d5 : Kp wb (w.heap.size + 1) kb xs ts sv tv := by rw [← hwb]; exact ((HK.out.alloc _).alloc _).alloc _
              have d6 : TS wb (w.heap.size + 1) (w.heap.size + 1) ts.length (cntA ts) (av xs ts) := by rw [← hwb]; exact Ar.frame HT.out (base' := 0) (ts := []) ((((TF.refl _ _ _).alloc _).alloc _).alloc _) rfl rfl rfl
              have d7 : Below w.heap.size w wb := by rw [← hwb]; exact ((HB.out.alloc (by omega) _).alloc (by simp; omega) _).alloc (by simp; omega) _
              have d8 : tv.ownBlock ≠ some (wr.heap.size + 1 + 1) := fun e => by have := (HK.out.rt.lt _ e).2; omega
              have d9 : wr.heap.size + 1 + 1 < wb.heap.size := d3.lt
              rw [hwb]
              have D4 := Lib.hid d4
              have D7 := Lib.hid d7
              clear hwb d4 d7 HB HK HT HPQ
              refine (each_exact wb (base := w.heap.size + 1) (b := w.heap.size + 1) (kb := kb) (n := ts.length) (xs := xs) (ts := ts) (sv := sv) (tv := tv) (Bf := wr.heap.size + 1 + 1) (Bl := wr.heap.size) (Bp := kb + 1) (Bm := wr.heap.size + 1) (B0 := w.heap.size) rfl (by omega)
                ⟨Nat.zero_le _, d6, d5, d3, ⟨0, by omega, d1⟩, D4.out, by rw [cnt_zero]; exact d2, Below.refl _ _⟩ (by omega) d8 (by omega) (by omega) (by omega)).mono ?_
              rintro e w5 ⟨rfl, htold⟩
              have e1 := htold.fine.cell
              have e2 := htold.m.cell
              rw [cntA_eq] at e2
              have e3 := htold.below.size
              have HBW : Hid (Below w.heap.size w w5) := D7.out.trans htold.below
              clear htold d1 d2 d3 d5 d6 d8 D4 D7
              go_wp2_with fail
              refine (wakes_any _).mono ?_
              rintro e w6 ⟨rfl, hb6⟩
              have HB6 := Lib.hid hb6
              clear hb6
              go_wp2_with fail
              go_ret
              exact ⟨rfl, HBW.out.trans (HB6.out.mono (by omega))⟩
          · have HPQ : Hid (Bx wr (kb + 1) 54 (.pointer (some ⟨kb,0,none⟩))) := HPR.out.same HH.out
            clear hak hkp HPR HBR HOLD hsm hbox hbox1 HS
            go_wp2_with fail
            obtain ⟨wb, hwb⟩ : ∃ wb, ((wr.alloc (.cells #[.int .i64 0] 3)).alloc (.cells #[.int .i64 0] 3)).alloc (.cells #[.bool true] 4) = wb := ⟨_, rfl⟩
            have d1 : Bx wb wr.heap.size 3 (.int .i64 0) := by rw [← hwb]; exact Bx.alloc (Bx.alloc (heap_new_at rfl _) _) _
            have d2 : Bx wb (wr.heap.size + 1) 3 (.int .i64 0) := by rw [← hwb]; exact Bx.alloc (heap_new_at (by simp) _) _
            have d3 : Bx wb (wr.heap.size + 1 + 1) 4 (.bool true) := by rw [← hwb]; exact heap_new_at (by simp) _
            have d4 : Bx wb (kb + 1) 54 (.pointer (some ⟨kb,0,none⟩)) := by rw [← hwb]; exact ((HPQ.out.alloc _).alloc _).alloc _
            have d5 : Kp wb (w.heap.size + 1) kb xs ts sv tv := by rw [← hwb]; exact ((HK.out.alloc _).alloc _).alloc _
            have d6 : TS wb (w.heap.size + 1) (w.heap.size + 1) ts.length (cntA ts) (av xs ts) := by rw [← hwb]; exact Ar.frame HT.out (base' := 0) (ts := []) ((((TF.refl _ _ _).alloc _).alloc _).alloc _) rfl rfl rfl
            have d7 : Below w.heap.size w wb := by rw [← hwb]; exact ((HB.out.alloc (by omega) _).alloc (by simp; omega) _).alloc (by simp; omega) _
            have d8 : tv.ownBlock ≠ some (wr.heap.size + 1 + 1) := fun e => by have := (HK.out.rt.lt _ e).2; omega
            have d9 : wr.heap.size + 1 + 1 < wb.heap.size := d3.lt
            rw [hwb]
            have D4 := Lib.hid d4
            have D7 := Lib.hid d7
            clear hwb d4 d7 HB HK HT HPQ
            refine (each_exact wb (base := w.heap.size + 1) (b := w.heap.size + 1) (kb := kb) (n := ts.length) (xs := xs) (ts := ts) (sv := sv) (tv := tv) (Bf := wr.heap.size + 1 + 1) (Bl := wr.heap.size) (Bp := kb + 1) (Bm := wr.heap.size + 1) (B0 := w.heap.size) rfl (by omega)
              ⟨Nat.zero_le _, d6, d5, d3, ⟨0, by omega, d1⟩, D4.out, by rw [cnt_zero]; exact d2, Below.refl _ _⟩ (by omega) d8 (by omega) (by omega) (by omega)).mono ?_
            rintro e w5 ⟨rfl, htold⟩
            have e1 := htold.fine.cell
            have e2 := htold.m.cell
            rw [cntA_eq] at e2
            have e3 := htold.below.size
            have HBW : Hid (Below w.heap.size w w5) := D7.out.trans htold.below
            clear htold d1 d2 d3 d5 d6 d8 D4 D7
            go_wp2_with fail
            refine (wakes_any _).mono ?_
            rintro e w6 ⟨rfl, hb6⟩
            have HB6 := Lib.hid hb6
            clear hb6
            go_wp2_with fail
            go_ret
            exact ⟨rfl, HBW.out.trans (HB6.out.mono (by omega))⟩
    · as_aux_lemma =>
      have hBr : Below w.heap.size w wr := by
        have a1 : Below w.heap.size w (w.alloc (.cells #[.slice La ln lc, .slice Aa an ac] 25)) := (Below.refl _ _).alloc (Nat.le_refl _) _
        exact (a1.trans ((HF2.out.below (by simp)).mono (by omega))).trans ((hfk.out.below (by omega)).mono (by omega))
      have HBR := Lib.hid hBr
      have hxl : ts.length ≤ 400 := by omega
      have hcl := cntA_le ts
      have hptr2 : Bx wr (kb + 1) 54 (.pointer (some ⟨kb,0,none⟩)) := HP2.out.tf hfk.out rfl
      have HPR := Lib.hid hptr2
      clear hBr hfk hptr hptr2 HF2 HP2 HT2 HK2 htl
      go_wp2_with fail
      obtain ⟨wo, rfl⟩ : ∃ wo : World, wo = wr := ⟨_, rfl⟩
      go_loopw [9] (fun j wq => ∃ q : Nat, q ≤ an ∧ q ≤ 100 ∧ j = .int .i64 q ∧ Hid (Same wo wq)) (fun j _ => 100 - (intOf j).toNat)
      case atStart => exact ⟨0, by omega, by omega, rfl, ⟨rfl, rfl, rfl, rfl⟩⟩
      case round =>
        obtain ⟨q, hqa, hqb, rfl, hsm⟩ := hrel
        have hh : wr.heap = wo.heap := hsm.out.1
        have hHK : Kp wr (w.heap.size + 1) kb xs ts sv tv := hkp.out.same hh
        have hHT : TS wr (w.heap.size + 1) (w.heap.size + 1) ts.length (cntA ts) (av xs ts) := TS.same hak.out hh
        have cA : wr.cell? ⟨w.heap.size, 1, none⟩ = some (.slice Aa an ac) := by rw [World.cell?_of_block (w := wo) (by rw [hh])]; exact hbox1
        have cP : wr.cell? ⟨kb + 1, 0, none⟩ = some (.pointer (some ⟨kb,0,none⟩)) := (HPR.out.same hh).cell
        have hsz : wr.heap.size = wo.heap.size := by rw [hh]
        have HH := Lib.hid hh
        have HK := Lib.hid hHK
        have HT := Lib.hid hHT
        have hHB : Below w.heap.size w wr := ⟨hsm.out.2.1.trans HBR.out.os, hsm.out.2.2.1.trans HBR.out.tape, hsm.out.2.2.2.trans HBR.out.output, by rw [hh]; exact HBR.out.size, fun k hk => by rw [hh]; exact HBR.out.block k hk⟩
        have HB := Lib.hid hHB
        have hqx : kb + 1 < wr.heap.size := by omega
        have hqy : w.heap.size < wr.heap.size := by omega
        clear hh hHK hHT hHB hsz
        by_cases hqn : q < an
        · by_cases hqm : q < 100
          · as_aux_lemma =>
            obtain ⟨bA, oA, hAa, hbA, hcells⟩ := HS.out.asks (by omega)
            have c0 := hcells q hqn
            rw [← HOLD.out _ _ hbA, ← World.cell?_of_block (w := wo) (w' := wr) (by rw [HH.out])] at c0
            subst hAa
            clear hcells
            have hwq := HS.out.wfQ q
            go_wp2_with fail
            refine (get_s HT.out (Q q) (by omega)).mono ?_
            rintro e w3 ⟨rfl, rfl⟩
            cases hgb : hb ts (Q q) with
            | false =>
              have hgv : gs (av xs ts) (Q q) = none := by
                have := gs_av xs ts (Q q) hkpl
                rw [hgb] at this; simpa using this
              rw [hgv]
              go_wp2_with fail
              go_quiet (first | (go_at_call 34; refine Calls.quiet_of (has_q (W := _) (Kp.same HK.out ?_) (by omega) _ false hgb); rfl))
              go_wp2_with fail
              go_roundw
              case rel => exact ⟨q + 1, by omega, by omega, by go_num, hsm.out⟩
              case measure => simp [intOf]; omega
            | true =>
              obtain ⟨s, hgv, hxs⟩ := gs_av_val xs ts (Q q) hkpl hgb
              rw [hgv]
              obtain ⟨q1, q2, q3⟩ := hb_true hgb
              obtain ⟨n, hn⟩ : ∃ n : Nat, Q q = (n : Int) + 1 := ⟨(Q q - 1).toNat, by omega⟩
              rw [hn] at c0 hgb q2 hxs
              rw [show ((n : Int) + 1 - 1).toNat = n by omega] at hxs
              have hnl : n < xs.length := by omega
              obtain ⟨Ls, cs, rfl, hLs⟩ := row_form HK.out.rs
              obtain ⟨g, rfl⟩ := hLs (by omega)
              have c4 : wr.cell? ⟨kb, 0, none⟩ = some (.slice (some ⟨g,0,none⟩) xs.length cs) := by rw [cell_blk HK.out.blk]; rfl
              have c5 : wr.cell? ⟨g, n, none⟩ = some (.string s) := by rw [row_cell HK.out.rs hnl, List.getElem?_map, hxs]; rfl
              clear q1 q2 q3 hxs hgv hn hLs
              go_wp2_with fail
              go_quiet (first | (go_at_call 34; refine Calls.quiet_of (has_q (W := _) (Kp.same HK.out ?_) (by omega) _ true hgb); rfl))
              go_wp2_with fail
              go_roundw
              case rel => exact ⟨q + 1, by omega, by omega, by go_num, hsm.out⟩
              case measure => simp [intOf]; omega
          · have HPQ : Hid (Bx wr (kb + 1) 54 (.pointer (some ⟨kb,0,none⟩))) := HPR.out.same HH.out
            clear hak hkp HPR HBR HOLD hsm hbox hbox1 HS
            go_wp2_with fail
            obtain ⟨wb, hwb⟩ : ∃ wb, ((wr.alloc (.cells #[.int .i64 0] 3)).alloc (.cells #[.int .i64 0] 3)).alloc (.cells #[.bool true] 4) = wb := ⟨_, rfl⟩
            have d1 : Bx wb wr.heap.size 3 (.int .i64 0) := by rw [← hwb]; exact Bx.alloc (Bx.alloc (heap_new_at rfl _) _) _
            have d2 : Bx wb (wr.heap.size + 1) 3 (.int .i64 0) := by rw [← hwb]; exact Bx.alloc (heap_new_at (by simp) _) _
            have d3 : Bx wb (wr.heap.size + 1 + 1) 4 (.bool true) := by rw [← hwb]; exact heap_new_at (by simp) _
            have d4 : Bx wb (kb + 1) 54 (.pointer (some ⟨kb,0,none⟩)) := by rw [← hwb]; exact ((HPQ.out.alloc _).alloc _).alloc _
            have d5 : Kp wb (w.heap.size + 1) kb xs ts sv tv := by rw [← hwb]; exact ((HK.out.alloc _).alloc _).alloc _
            have d6 : TS wb (w.heap.size + 1) (w.heap.size + 1) ts.length (cntA ts) (av xs ts) := by rw [← hwb]; exact Ar.frame HT.out (base' := 0) (ts := []) ((((TF.refl _ _ _).alloc _).alloc _).alloc _) rfl rfl rfl
            have d7 : Below w.heap.size w wb := by rw [← hwb]; exact ((HB.out.alloc (by omega) _).alloc (by simp; omega) _).alloc (by simp; omega) _
            have d8 : tv.ownBlock ≠ some (wr.heap.size + 1 + 1) := fun e => by have := (HK.out.rt.lt _ e).2; omega
            have d9 : wr.heap.size + 1 + 1 < wb.heap.size := d3.lt
            rw [hwb]
            have D4 := Lib.hid d4
            have D7 := Lib.hid d7
            clear hwb d4 d7 HB HK HT HPQ
            refine (each_exact wb (base := w.heap.size + 1) (b := w.heap.size + 1) (kb := kb) (n := ts.length) (xs := xs) (ts := ts) (sv := sv) (tv := tv) (Bf := wr.heap.size + 1 + 1) (Bl := wr.heap.size) (Bp := kb + 1) (Bm := wr.heap.size + 1) (B0 := w.heap.size) rfl (by omega)
              ⟨Nat.zero_le _, d6, d5, d3, ⟨0, by omega, d1⟩, D4.out, by rw [cnt_zero]; exact d2, Below.refl _ _⟩ (by omega) d8 (by omega) (by omega) (by omega)).mono ?_
            rintro e w5 ⟨rfl, htold⟩
            have e1 := htold.fine.cell
            have e2 := htold.m.cell
            rw [cntA_eq] at e2
            have e3 := htold.below.size
            have HBW : Hid (Below w.heap.size w w5) := D7.out.trans htold.below
            clear htold d1 d2 d3 d5 d6 d8 D4 D7
            go_wp2_with fail
            refine (wakes_any _).mono ?_
            rintro e w6 ⟨rfl, hb6⟩
            have HB6 := Lib.hid hb6
            clear hb6
            go_wp2_with fail
            go_ret
            exact ⟨rfl, HBW.out.trans (HB6.out.mono (by omega))⟩
        · have HPQ : Hid (Bx wr (kb + 1) 54 (.pointer (some ⟨kb,0,none⟩))) := HPR.out.same HH.out
          clear hak hkp HPR HBR HOLD hsm hbox hbox1 HS
          go_wp2_with fail
          obtain ⟨wb, hwb⟩ : ∃ wb, ((wr.alloc (.cells #[.int .i64 0] 3)).alloc (.cells #[.int .i64 0] 3)).alloc (.cells #[.bool true] 4) = wb := ⟨_, rfl⟩
          have d1 : Bx wb wr.heap.size 3 (.int .i64 0) := by rw [← hwb]; exact Bx.alloc (Bx.alloc (heap_new_at rfl _) _) _
          have d2 : Bx wb (wr.heap.size + 1) 3 (.int .i64 0) := by rw [← hwb]; exact Bx.alloc (heap_new_at (by simp) _) _
          have d3 : Bx wb (wr.heap.size + 1 + 1) 4 (.bool true) := by rw [← hwb]; exact heap_new_at (by simp) _
          have d4 : Bx wb (kb + 1) 54 (.pointer (some ⟨kb,0,none⟩)) := by rw [← hwb]; exact ((HPQ.out.alloc _).alloc _).alloc _
          have d5 : Kp wb (w.heap.size + 1) kb xs ts sv tv := by rw [← hwb]; exact ((HK.out.alloc _).alloc _).alloc _
          have d6 : TS wb (w.heap.size + 1) (w.heap.size + 1) ts.length (cntA ts) (av xs ts) := by rw [← hwb]; exact Ar.frame HT.out (base' := 0) (ts := []) ((((TF.refl _ _ _).alloc _).alloc _).alloc _) rfl rfl rfl
          have d7 : Below w.heap.size w wb := by rw [← hwb]; exact ((HB.out.alloc (by omega) _).alloc (by simp; omega) _).alloc (by simp; omega) _
          have d8 : tv.ownBlock ≠ some (wr.heap.size + 1 + 1) := fun e => by have := (HK.out.rt.lt _ e).2; omega
          have d9 : wr.heap.size + 1 + 1 < wb.heap.size := d3.lt
          rw [hwb]
          have D4 := Lib.hid d4
          have D7 := Lib.hid d7
          clear hwb d4 d7 HB HK HT HPQ
          refine (each_exact wb (base := w.heap.size + 1) (b := w.heap.size + 1) (kb := kb) (n := ts.length) (xs := xs) (ts := ts) (sv := sv) (tv := tv) (Bf := wr.heap.size + 1 + 1) (Bl := wr.heap.size) (Bp := kb + 1) (Bm := wr.heap.size + 1) (B0 := w.heap.size) rfl (by omega)
            ⟨Nat.zero_le _, d6, d5, d3, ⟨0, by omega, d1⟩, D4.out, by rw [cnt_zero]; exact d2, Below.refl _ _⟩ (by omega) d8 (by omega) (by omega) (by omega)).mono ?_
          rintro e w5 ⟨rfl, htold⟩
          have e1 := htold.fine.cell
          have e2 := htold.m.cell
          rw [cntA_eq] at e2
          have e3 := htold.below.size
          have HBW : Hid (Below w.heap.size w w5) := D7.out.trans htold.below
          clear htold d1 d2 d3 d5 d6 d8 D4 D7
          go_wp2_with fail
          refine (wakes_any _).mono ?_
          rintro e w6 ⟨rfl, hb6⟩
          have HB6 := Lib.hid hb6
          clear hb6
          go_wp2_with fail
          go_ret
          exact ⟨rfl, HBW.out.trans (HB6.out.mono (by omega))⟩
end Go.Proofs.Ytkaldclkpdjalaa
