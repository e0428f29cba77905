/- Each over an arena of strings: told one by one; what yield does to the arena is what counts from then on. -/
import Derived.Test.YtkaldclkpdjalaaAS
import Derived.Test.YtkaldclkpdjalaaTS
import Derived.Test.YtkaldclkpdjalaaRange
import Derived.RangeFuncNested
import Derived.RangeFuncBound
import Derived.RangeFuncCalls
import Derived.RangeFuncLeaves
import Derived.Shelf.Abstract
import Derived.Shelf.RegionOpen
import Derived.OwnWalkIn
import Derived.TacticsInMore
import Derived.LoopNIn
import Derived.LoopIn
namespace Go.Proofs.Ytkaldclkpdjalaa.AS
open Go.RowKit Go.Shelf
attribute [local go_sem] Oper.semAt_some

set_option maxHeartbeats 400000 in
theorem ids_any (b : Nat) (L : Int) (w : World) :
    Calls Try.prog 44 #[.pointer (some ⟨b, 0, none⟩), .int .i64 L] w fun e w' => e = .returned (.func (.func 46) #[] #[.pointer (some ⟨w.heap.size + 1, 0, none⟩), .pointer (some ⟨w.heap.size, 0, none⟩)]) ∧
      (w.alloc (.cells #[.pointer (some ⟨b, 0, none⟩)] 26)).alloc (.cells #[.int .i64 L] 3) = w' := by
  go_enter Try.func44, Try.ntmps44
  go_wp2
  go_ret
  exact ⟨rfl, rfl⟩

theorem skip_page {L : Nat} {J : Nat → Nat → Int → (Nat → Option (List Value)) → World → Prop} {last : Nat} {count : Int} {val : Nat → Option (List Value)} {W : World}
    (hskip : ∀ pos last count val W, J pos last count val W → pos < L → val pos = none → J (pos+1) last count val W) {pos : Nat} (hJ : J pos last count val W)
    (hn : ∀ m, pos ≤ m → m < pos / 64 * 64 + 64 → val m = none) (q : Nat) (h1 : pos ≤ q) (h2 : q ≤ pos / 64 * 64 + 64) (h3 : q ≤ L) : J q last count val W := by
  induction q with
  | zero => obtain rfl : pos = 0 := by omega
            exact hJ
  | succ q ih =>
    by_cases h : pos ≤ q
    · exact hskip q _ _ _ _ (ih h (by omega) (by omega)) (by omega) (hn q h (by omega))
    · obtain rfl : pos = q + 1 := by omega
      exact hJ

set_option maxRecDepth 100000 in
set_option maxHeartbeats 1000000 in
/-- The ids from pos on are told by the iterator. -/
theorem ids_in (l Bl Ba base b L : Nat) (J : Nat → Nat → Int → (Nat → Option (List Value)) → World → Prop) (Jx : World → Prop) (hL : L < 1099511627776)
    (hAr : ∀ pos last count val W, J pos last count val W → Arn W base b last count val ∧ L ≤ last ∧ last < 1099511627776 ∧ W.cell? ⟨Bl,0,none⟩ = some (.int .i64 L) ∧ W.cell? ⟨Ba,0,none⟩ = some (.pointer (some ⟨b,0,none⟩)))
    (hskip : ∀ pos last count val W, J pos last count val W → pos < L → val pos = none → J (pos+1) last count val W)
    (hY : ∀ pos last count val W xs, J pos last count val W → pos < L → val pos = some xs → YieldAt Fence.wide 8 Try.prog l #[.int .i64 ((pos : Int) +1)] W fun e W' =>
      (e = .returned (.bool true) ∧ ∃ last' count' val', J (pos+1) last' count' val' W') ∨ (e = .returned (.bool false) ∧ Jx W'))
    (W : World) (last : Nat) (count : Int) (val : Nat → Option (List Value)) (h0 : J 0 last count val W) :
    CallsIn Fence.wide 9 Try.prog 46 #[.func (.yield l) #[] #[], .pointer (some ⟨Bl,0,none⟩), .pointer (some ⟨Ba,0,none⟩)] W fun e W' => (∃ v, e = .returned v) ∧ ((∃ last count val, J L last count val W') ∨ Jx W') := by
  refine callsIn_of_wp Try.func46 rfl trivial ?_ rfl
  simp only [Try.ntmps46, List.size_toArray, List.length_cons, List.length_nil, Nat.reduceAdd, Nat.reduceSub, Array.replicate_succ, Array.replicate_zero, List.push_toArray, List.append_toArray, List.nil_append, List.cons_append]
  gi_wp2
  gi_loopw [4] (fun i wr => ∃ (pos last : Nat) (count : Int) (val : Nat → Option (List Value)), i = .int .i64 ((pos : Int) + 1) ∧ pos < 2199023255552 ∧ Hid (J (min pos L) last count val wr))
    (fun i _ => (L + 1 - (intOf i).toNat))
  case atStart =>
    refine ⟨0, last, count, val, rfl, by omega, ?_⟩
    rw [Nat.zero_min]; exact h0
  case round =>
    obtain ⟨pos, last, count, val, rfl, hp2, hJ⟩ := hrel
    by_cases hlt : pos < L
    · rw [Nat.min_eq_left (by omega)] at hJ
      obtain ⟨hA, hl1, hl2, hcl, hca⟩ := hAr _ _ _ _ _ hJ.out
      obtain ⟨pv, ps, hA'⟩ := hA
      obtain ⟨p, g, cap, e1, e2, e3, e4, e5, e6⟩ := hA'.at_ (m := pos) (by omega)
      rw [e2] at e3
      have hidt : ((pos : Int) + 1 - 1).toNat = pos := by omega
      cases p with
      | none =>
        have E5 : wr.cell? ⟨g, pos / 64, none⟩ = some (.pointer none) := e5
        have HA := Lib.hid hA'
        have HE1 := Lib.hid e1
        have HT := Lib.hid hidt
        clear hA' e1 e2 e5 hidt e4 hAr hY
        gi_wp2
        go_roundw
        case rel =>
          refine ⟨pos / 64 * 64 + 64, last, count, val, by go_num, by omega, ?_⟩
          exact skip_page hskip hJ.out (fun m hm1 hm2 => HA.out.none_of (by rw [show m / 64 = pos / 64 by omega]; exact HE1.out)) _ (by omega) (by omega) (by omega)
        case measure => simp [intOf]; omega
      | some B =>
        have E5 : wr.cell? ⟨g, pos / 64, none⟩ = some (.pointer (some ⟨B, 0, none⟩)) := e5
        cases hv : val pos with
        | none =>
          have HC := Lib.hid (callsIn_wide (n := 8) |>.2 (at_none hA' ((pos : Int) + 1) hl2 (.inr (by rw [hidt]; exact hv))))
          have HT := Lib.hid hidt
          have HV := Lib.hid hv
          clear hA' e1 e2 e5 hidt e4 hAr hY hv
          gi_wp2_with (refine ⟨trivial, ?_⟩; gi_at_call 41; refine HC.out.mono ?_; rintro e w' ⟨rfl, rfl⟩)
          refine ⟨fun _ h => (by cases h), ?_⟩
          gi_wp2
          go_roundw
          case rel =>
            refine ⟨pos + 1, last, count, val, by go_num, by omega, ?_⟩
            rw [Nat.min_eq_left (by omega)]
            exact hskip _ _ _ _ _ hJ.out hlt HV.out
          case measure => simp [intOf]; omega
        | some xs =>
          obtain ⟨B', e7, hc⟩ := at_some hA' ((pos : Int) + 1) hl2 (by omega) (xs := xs) (by rw [hidt]; exact hv)
          have HC := Lib.hid (callsIn_wide (n := 8) |>.2 hc)
          obtain ⟨fn, tmps, assign, body, hy, hR⟩ := hY pos last count val wr xs hJ.out hlt hv
          have HT := Lib.hid hidt
          clear hA' e1 e2 e5 hidt e4 hAr hY hv e7 hc
          gi_wp2_with (refine ⟨trivial, ?_⟩; gi_at_call 41; refine HC.out.mono ?_; rintro e w' ⟨rfl, rfl⟩)
          refine hR.mono ?_
          rintro e W' (⟨rfl, last', count', val', hJ'⟩ | ⟨rfl, hJx'⟩)
          · have HJ' := Lib.hid hJ'
            clear hJ' hy hR
            gi_wp2
            go_roundw
            case rel =>
              refine ⟨pos + 1, last', count', val', by go_num, by omega, ?_⟩
              rw [Nat.min_eq_left (by omega)]
              exact HJ'
            case measure => simp [intOf]; omega
          · gi_wp2
            refine bodyPost_ret (results_none rfl _ _ _) rfl ?_
            exact ⟨⟨_, rfl⟩, .inr hJx'⟩
    · rw [Nat.min_eq_right (by omega)] at hJ
      obtain ⟨hA, hl1, hl2, hcl, hca⟩ := hAr _ _ _ _ _ hJ.out
      clear hAr hY
      gi_wp2
      go_end0
      exact ⟨⟨_, rfl⟩, .inl ⟨last, count, val, hJ.out⟩⟩

/-- From block B on nothing has turned but blocks of the types ts. -/
def KF (B : Nat) (ts : List TypeId) (W W' : World) : Prop := W.heap.size ≤ W'.heap.size ∧ ∀ k o, B ≤ k → W.heap[k]? = some o → tagged o ts = false → W'.heap[k]? = some o
theorem KF.keeps {B : Nat} {ts : List TypeId} {W W' : World} (h : KF B ts W W') : KeepsFrom B W W' :=
  ⟨h.1, fun k o hk ho hc => h.2 k o hk ho (by cases o <;> simp_all [Obj.isCells, tagged])⟩

theorem four_new (w : World) (o1 o2 o3 o4 : Obj) : (((((w.alloc o1).alloc o2).alloc o3).alloc o4).drew).heap[w.heap.size]? = some o1 ∧ (((((w.alloc o1).alloc o2).alloc o3).alloc o4).drew).heap[w.heap.size + 1]? = some o2 ∧
    (((((w.alloc o1).alloc o2).alloc o3).alloc o4).drew).heap[w.heap.size + 1 + 1]? = some o3 ∧ (((((w.alloc o1).alloc o2).alloc o3).alloc o4).drew).heap[w.heap.size + 1 + 1 + 1]? = some o4 := by
  refine ⟨?_, ?_, ?_, ?_⟩
  · show ((((w.alloc o1).alloc o2).alloc o3).alloc o4).heap[w.heap.size]? = _
    rw [Below.heap_alloc _ _ _ (by simp; omega), Below.heap_alloc _ _ _ (by simp; omega), Below.heap_alloc _ _ _ (by simp)]
    exact heap_new_at rfl _
  · show ((((w.alloc o1).alloc o2).alloc o3).alloc o4).heap[w.heap.size + 1]? = _
    rw [Below.heap_alloc _ _ _ (by simp), Below.heap_alloc _ _ _ (by simp)]
    exact heap_new_at (by simp) _
  · show ((((w.alloc o1).alloc o2).alloc o3).alloc o4).heap[w.heap.size + 1 + 1]? = _
    rw [Below.heap_alloc _ _ _ (by simp)]
    exact heap_new_at (by simp) _
  · exact heap_new_at (by simp) _

structure EachSt where
  pos : Nat
  last : Nat
  count : Int
  vi : Nat → Option ByteArray

set_option maxRecDepth 100000 in
set_option maxHeartbeats 2000000 in
theorem each_any (b cf base L : Nat) (caps : Array Value) (w : World) (J : EachSt → World → Prop) (Jx : World → Prop) (hL : L < 1099511627776)
    (hcf : ∀ args w, (callFunc cf args).run Try.prog w = .ok (.enter cf args) w)
    (hAr : ∀ s W, J s W → TS W base b s.last s.count s.vi ∧ L ≤ s.last ∧ s.last < 1099511627776)
    (hskip : ∀ s W, J s W → s.pos < L → s.vi s.pos = none → J { s with pos := s.pos + 1 } W)
    (hst : OwnFrom w.heap.size J) (hstx : OwnFrom (β := Unit) w.heap.size (fun _ => Jx))
    (hyield : ∀ s W (x : ByteArray), J s W → s.pos < L → s.vi s.pos = some x → Calls Try.prog cf (#[.int .i64 ((s.pos : Int) + 1), .string x] ++ caps) W fun e W' =>
      ((e = .returned (.bool true) ∧ ∃ s' : EachSt, s'.pos = s.pos + 1 ∧ J s' W') ∨ (e = .returned (.bool false) ∧ Jx W')) ∧ KF w.heap.size tags W W')
    (s0 : EachSt) (hs0 : s0.pos = 0) (hs1 : s0.last = L) (h0 : J s0 w) :
    Calls Try.prog 37 #[.pointer (some ⟨b,0,none⟩), .func (.func cf) #[] caps] w fun e W' => e = .returned (.tuple #[]) ∧ ((∃ s : EachSt, s.pos = L ∧ J s W') ∨ Jx W') := by
  have hA0 := hAr s0 w h0
  have hc1 : w.cell? ⟨b, 1, none⟩ = some (.int .i64 L) := by
    obtain ⟨pv, ps, h⟩ := hA0.1
    rw [cell_blk h.blk, hs1]; rfl
  have hlb : b < w.heap.size := by
    obtain ⟨pv, ps, h⟩ := hA0.1
    exact lt_blk h.blk
  clear hA0
  refine (callsIn_wide (n := 10)).1 ?_
  refine callsIn_of_wp_marks Try.func37 rfl trivial ?_ rfl
  simp only [Try.ntmps37, List.size_toArray, List.length_cons, List.length_nil, Nat.reduceAdd, Nat.reduceSub, Array.replicate_succ, Array.replicate_zero, List.push_toArray, List.append_toArray, List.nil_append, List.cons_append]
  have hmx : Try.prog.follows .mixedOrders = true := by kernel_rfl
  have hnil : ∀ W : World, (binOp .eql 59 (.func (.func cf) #[] caps) .nilFunc).run Try.prog W = .ok (.bool false) W := fun _ => by kernel_rfl
  refine wpIn_mono (Q := calm _) ?_ calm_imp
  gi_wp2
  gi_region_with_o (refine ⟨trivial, ?_⟩; gi_at_call 44; refine (callsIn_wide.2 (ids_any _ _ _)).mono ?_; rintro e w' ⟨rfl, rfl⟩)
  all_goals gi_wp2
  all_goals
    refine wpIn_rangeFunc_ghost (σ := EachSt) (α := Nat × ByteArray) rfl (by decide) (gf := 46) (lb := #[.pointer (some ⟨w.heap.size + 1 + 1 + 1, 0, none⟩), .pointer (some ⟨w.heap.size + 1 + 1, 0, none⟩)]) rfl trivial (enters_of Try.func46 (by kernel_rfl) rfl)
      (encs := fun p => #[.int .i64 ((p.1 : Int) + 1)]) (fun _ => rfl)
      (fun s W => J s W ∧ W.heap[w.heap.size]? = some (.cells #[.pointer (some ⟨b,0,none⟩)] 26 (0,0)) ∧ W.heap[w.heap.size + 1]? = some (.cells #[.func (.func cf) #[] caps] 59 (0,0)) ∧
        W.heap[w.heap.size + 1 + 1]? = some (.cells #[.pointer (some ⟨b,0,none⟩)] 26 (0,0)) ∧ W.heap[w.heap.size + 1 + 1 + 1]? = some (.cells #[.int .i64 L] 3 (0,0)))
      (fun c W => c = .ret ∧ Jx W) (fun s p => s.pos = p.1 ∧ s.pos < L ∧ s.vi s.pos = some p.2) (fun s _ s' => s'.pos = s.pos + 1) (fun s => s.pos = L)
      ?_ ?_ s0 ?_ ?_ (fun p => { tmps := #[.pointer (some ⟨b,0,none⟩), .func (.func cf) #[] caps, .pointer (some ⟨w.heap.size, 0, none⟩), .pointer (some ⟨w.heap.size + 1, 0, none⟩), .int .i64 ((p.1 : Int) + 1), undef, undef,
          .func (.func cf) #[] caps, .bool false, .pointer (some ⟨b,0,none⟩), .pointer (some ⟨b,0,none⟩), .pointer (some ⟨b,0,none⟩), .pointer (some ⟨b,1,none⟩), .int .i64 L,
          .func (.func 46) #[] #[.pointer (some ⟨w.heap.size + 1 + 1 + 1, 0, none⟩), .pointer (some ⟨w.heap.size + 1 + 1, 0, none⟩)], .int .i64 ((p.1 : Int) + 1), undef, undef, undef, undef, undef, undef, undef, undef, undef, undef, undef], defers := [] }) ?_ ?_ ?_ ?_
    · rintro s A B row ⟨h1, h2, h3, h4, h5⟩ hg hr
      have hold : ∀ (k : Nat) (o : Obj), A.heap[k]? = some o → o.isCells = true → B.heap[k]? = some o := fun (k : Nat) (o : Obj) hk hc => (grownBy_keeps_cells hg (fun r e => (hr r e).2) hk hc).trans hk
      exact ⟨hst s A B row h1 hg (fun r e => ⟨by have := (hr r e).1; simp at this; omega, (hr r e).2⟩), hold _ _ h2 rfl, hold _ _ h3 rfl, hold _ _ h4 rfl, hold _ _ h5 rfl⟩
    · rintro c s A B row ⟨h1, h2⟩ hg hr
      exact ⟨h1, hstx () A B row h2 hg (fun r e => ⟨by have := (hr r e).1; simp at this; omega, (hr r e).2⟩)⟩
    · obtain ⟨b1, b2, b3, b4⟩ := four_new w (.cells #[.pointer (some ⟨b,0,none⟩)] 26) (.cells #[.func (.func cf) #[] caps] 59) (.cells #[.pointer (some ⟨b,0,none⟩)] 26) (.cells #[.int .i64 L] 3)
      exact ⟨hst s0 _ _ none (hst.alloc _ (hst.alloc _ (hst.alloc _ (hst.alloc _ h0)))) ⟨rfl, rfl, rfl, Nat.le_refl _, fun _ _ _ => rfl⟩ (fun r e => by cases e), b1, b2, b3, b4⟩
    · intro l Bk Jx' W hround hI hBk
      obtain ⟨hJ, b1, b2, b3, b4⟩ := hI
      refine (ids_in l (w.heap.size + 1 + 1 + 1) (w.heap.size + 1 + 1) base b L (fun pos last count val W => ∃ vi, val = encS vi ∧ J ⟨pos, last, count, vi⟩ W ∧ W.heap[w.heap.size]? = some (.cells #[.pointer (some ⟨b,0,none⟩)] 26 (0,0)) ∧ W.heap[w.heap.size + 1]? = some (.cells #[.func (.func cf) #[] caps] 59 (0,0)) ∧
        W.heap[w.heap.size + 1 + 1]? = some (.cells #[.pointer (some ⟨b,0,none⟩)] 26 (0,0)) ∧ W.heap[w.heap.size + 1 + 1 + 1]? = some (.cells #[.int .i64 L] 3 (0,0)) ∧ Bk W) Jx' hL ?_ ?_ ?_ W s0.last s0.count (encS s0.vi) ?_).mono ?_
      · rintro pos last count val W ⟨vi, rfl, h1, c1, c2, c3, c4, hb⟩
        obtain ⟨a1, a2, a3⟩ := hAr _ _ h1
        exact ⟨a1, a2, a3, by rw [cell_blk c4]; rfl, by rw [cell_blk c3]; rfl⟩
      · rintro pos last count val W ⟨vi, rfl, h1, rest⟩ hlt hv
        exact ⟨vi, rfl, hskip _ _ h1 hlt (by simpa [encS] using hv), rest⟩
      · rintro pos last count val W xs ⟨vi, rfl, h1, c1, c2, c3, c4, hb⟩ hlt hv
        obtain ⟨x, hx⟩ : ∃ x, vi pos = some x := by
          cases hq : vi pos with
          | none => simp [encS, hq] at hv
          | some x => exact ⟨x, rfl⟩
        obtain ⟨fn, tmps, assign, body, hy, hR⟩ := hround ⟨pos, last, count, vi⟩ (pos, x) W ⟨rfl, hlt, hx⟩ ⟨h1, c1, c2, c3, c4⟩ hb
        refine ⟨fn, tmps, assign, body, hy, hR.mono ?_⟩
        rintro e W' (⟨rfl, ⟨p', l', c', vi'⟩, hp, ⟨h1', c1', c2', c3', c4'⟩, hb'⟩ | ⟨rfl, hx'⟩)
        · simp only at hp
          subst hp
          exact .inl ⟨rfl, l', c', encS vi', vi', rfl, h1', c1', c2', c3', c4', hb'⟩
        · exact .inr ⟨rfl, hx'⟩
      · refine ⟨s0.vi, rfl, ?_, b1, b2, b3, b4, hBk⟩
        have : (⟨0, s0.last, s0.count, s0.vi⟩ : EachSt) = s0 := by rw [← hs0]
        rw [this]; exact hJ
      · rintro e W' ⟨h1, h2 | h2⟩
        · obtain ⟨last, count, val, vi, rfl, h3, c1, c2, c3, c4, hb⟩ := h2
          exact ⟨h1, .inl ⟨⟨L, last, count, vi⟩, rfl, ⟨h3, c1, c2, c3, c4⟩, hb⟩⟩
        · exact ⟨h1, .inr h2⟩
    · intro l x W K hK
      gi_wp2
      exact hK
    · rintro l s ⟨p, x⟩ W ⟨t1, t2, t3⟩ ⟨hJ, b1, b2, b3, b4⟩
      simp only at t1 t3
      subst t1
      obtain ⟨a1, a2, a3⟩ := hAr _ _ hJ
      have hg : gs s.vi ((s.pos : Int) + 1) = some x := by
        unfold gs; rw [if_pos (by omega), show ((s.pos : Int) + 1 - 1).toNat = s.pos by omega]; exact t3
      have hget := get_s a1 ((s.pos : Int) + 1) a3
      rw [hg] at hget
      have HG := Lib.hid hget
      have HY := Lib.hid (hyield s W x hJ t2 t3)
      have k1 : W.cell? ⟨w.heap.size, 0, none⟩ = some (.pointer (some ⟨b,0,none⟩)) := by rw [cell_blk b1]; rfl
      have k2 : W.cell? ⟨w.heap.size + 1, 0, none⟩ = some (.func (.func cf) #[] caps) := by rw [cell_blk b2]; rfl
      have HB : Hid (W.heap[w.heap.size]? = some (.cells #[.pointer (some ⟨b,0,none⟩)] 26 (0,0)) ∧ W.heap[w.heap.size + 1]? = some (.cells #[.func (.func cf) #[] caps] 59 (0,0)) ∧
        W.heap[w.heap.size + 1 + 1]? = some (.cells #[.pointer (some ⟨b,0,none⟩)] 26 (0,0)) ∧ W.heap[w.heap.size + 1 + 1 + 1]? = some (.cells #[.int .i64 L] 3 (0,0))) := ⟨b1, b2, b3, b4⟩
      clear b1 b2 b3 b4 hg hget t3 hJ a1
      gi_wp2_with (refine ⟨trivial, ?_⟩; gi_at_call 36; refine (CallsIn.inRound l (callsIn_wide.2 HG.out)).mono ?_; rintro e w' ⟨rfl, rfl⟩)
      refine ⟨trivial, ?_⟩
      refine (CallsIn.inRound l (callsIn_wide.2 HY.out)).mono ?_
      rintro e W' ⟨h1, hkf⟩
      have hkk : KeepsFrom (((((w.alloc (.cells #[.pointer (some ⟨b,0,none⟩)] 26)).alloc (.cells #[.func (.func cf) #[] caps] 59)).alloc (.cells #[.pointer (some ⟨b,0,none⟩)] 26)).alloc (.cells #[.int .i64 L] 3)).drew).heap.size W W' :=
        ⟨hkf.1, fun k o hk ho hc => hkf.2 k o (by have : w.heap.size + 4 ≤ k := by (simpa using hk)
                                                  omega) ho (by cases o <;> simp_all [Obj.isCells, tagged])⟩
      have HKK := Lib.hid hkk
      have HKF := Lib.hid hkf
      clear hkk hkf HG HY
      rcases h1 with ⟨rfl, s', hs', hJ'⟩ | ⟨rfl, hx'⟩
      · have HS := Lib.hid hs'
        clear hs'
        gi_wp2
        obtain ⟨b1, b2, b3, b4⟩ := HB.out
        exact ⟨HKK.out, s', HS.out, hJ', HKF.out.2 _ _ (Nat.le_refl _) b1 rfl, HKF.out.2 _ _ (by omega) b2 rfl, HKF.out.2 _ _ (by omega) b3 rfl, HKF.out.2 _ _ (by omega) b4 rfl⟩
      · gi_wp2
        exact ⟨HKK.out, rfl, hx'⟩
    · rintro D s W hD hfin ⟨hJ, _⟩ hK
      gi_wp2
      refine ⟨by simp, .inl ⟨_, _, rfl, run_takeDeferred hK, ?_⟩⟩
      exact ⟨_, results_none rfl _ _ _, rfl, .inl ⟨s, hfin, hst.putObj _ hJ (by simp at hD; omega) hK rfl⟩⟩
    · rintro D c W hD ⟨rfl, hJx⟩ hK
      gi_wp2
      refine ⟨by simp, .inl ⟨_, _, rfl, run_takeDeferred hK, ?_⟩⟩
      exact ⟨_, results_none rfl _ _ _, rfl, .inr (hstx.putObj (s := ()) _ hJx (by simp at hD; omega) hK rfl)⟩
end Go.Proofs.Ytkaldclkpdjalaa.AS
