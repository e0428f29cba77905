/- The methods of tuple.Arena[string]: what each one tells and what becomes of the arena. -/
import Derived.Test.YtkaldclkpdjalaaRows
import Derived.Test.YtkaldclkpdjalaaBase
import Derived.WalkKit
import Derived.WalkSpells
import Derived.WalkLawsBesides
import Derived.Deep.QuietTactic
import Derived.BigQuiet
import Derived.BigRegion
import Derived.Lib.Hide
namespace Go.Proofs.Ytkaldclkpdjalaa.AS
open Go.RowKit

abbrev ArI := ArIn 65 72 76 1
abbrev Arn := Ar 65 72 76 1
abbrev tags : List TypeId := [65, 72, 76]

theorem infoPT : (Try.prog.info? 72).map (fun i => (i.zero, i.size, i.bytes)) = some (some (.pointer none), 1, 8) := by kernel_rfl
def Zc : Array Value := (List.replicate 64 (Value.string ⟨#[]⟩) ++ [Value.int .u64 0]).toArray
theorem zeroPG (w : World) : (zeroValue 76).run Try.prog w = .ok (.agg Zc) w := by kernel_rfl

set_option maxHeartbeats 400000 in
theorem new_raw (w : World) :
    Calls Try.prog 8 #[] w fun e w' => e = .returned (.pointer (some ⟨w.heap.size, 0, none⟩)) ∧ w' = w.alloc (.cells #[.slice none 0 0, .int .i64 0, .int .i64 0] 65) := by
  go_enter Try.func8, Try.ntmps8
  go_wp2
  go_ret
  exact ⟨rfl, rfl⟩

theorem new_any (w : World) (base : Nat) (hb : base ≤ w.heap.size) :
    Calls Try.prog 8 #[] w fun e w' => e = .returned (.pointer (some ⟨w.heap.size, 0, none⟩)) ∧ Arn w' base w.heap.size 0 0 (fun _ => none) ∧ TF base tags w w' := by
  refine (new_raw w).mono ?_
  rintro e w' ⟨rfl, rfl⟩
  refine ⟨rfl, ⟨.slice none 0 0, [], hb, heap_alloc_new _ _, World.ownsRow_nil _ _ _ _, rfl, ?_, ?_, ?_, ?_⟩, (TF.refl _ _ _).alloc _⟩
  · intro j B h; simp at h
  · intro j h; simp at h
  · intro i j B h; simp at h
  · intro m _; rfl

set_option maxHeartbeats 400000 in
theorem at_low (b : Nat) (id : Int) (w : World) (h : id < 1) :
    Calls Try.prog 41 #[.pointer (some ⟨b, 0, none⟩), .int .i64 id] w fun e w' => e = .returned (.tuple #[.pointer none, .int .i64 0]) ∧ w = w' := by
  go_enter Try.func41, Try.ntmps41
  go_wp2
  go_ret2
  exact ⟨rfl, rfl⟩

set_option maxHeartbeats 400000 in
theorem at_high (b : Nat) (id last : Int) (w : World) (h : 1 ≤ id) (hl : last < id) (h1 : w.cell? ⟨b, 1, none⟩ = some (.int .i64 last)) :
    Calls Try.prog 41 #[.pointer (some ⟨b, 0, none⟩), .int .i64 id] w fun e w' => e = .returned (.tuple #[.pointer none, .int .i64 0]) ∧ w = w' := by
  go_enter Try.func41, Try.ntmps41
  go_wp2
  go_ret2
  exact ⟨rfl, rfl⟩

set_option maxHeartbeats 400000 in
theorem at_nil (b g n cap : Nat) (id last : Int) (w : World) (h0 : 1 ≤ id) (hl : id ≤ last) (h2 : last < 1099511627776) (hn : (id - 1) / 64 < n)
    (h1 : w.cell? ⟨b, 1, none⟩ = some (.int .i64 last)) (hc0 : w.cell? ⟨b, 0, none⟩ = some (.slice (some ⟨g, 0, none⟩) n cap))
    (hp : w.cell? ⟨g, ((id - 1) / 64).toNat, none⟩ = some (.pointer none)) :
    Calls Try.prog 41 #[.pointer (some ⟨b, 0, none⟩), .int .i64 id] w fun e w' => e = .returned (.tuple #[.pointer none, .int .i64 0]) ∧ w = w' := by
  go_enter Try.func41, Try.ntmps41
  go_wp2
  go_ret2
  exact ⟨rfl, rfl⟩

set_option maxHeartbeats 400000 in
theorem at_out (b g n cap B : Nat) (id last there : Int) (w : World) (h0 : 1 ≤ id) (hl : id ≤ last) (h2 : last < 1099511627776) (hn : (id - 1) / 64 < n)
    (h1 : w.cell? ⟨b, 1, none⟩ = some (.int .i64 last)) (hc0 : w.cell? ⟨b, 0, none⟩ = some (.slice (some ⟨g, 0, none⟩) n cap))
    (hp : w.cell? ⟨g, ((id - 1) / 64).toNat, none⟩ = some (.pointer (some ⟨B, 0, none⟩)))
    (ht : w.cell? ⟨B, 64, none⟩ = some (.int .u64 there)) (hbit : (bits BinOp.and IntKind.u64 (there / 2 ^ ((id - 1) % 64).toNat) 1 == 0) = true) :
    Calls Try.prog 41 #[.pointer (some ⟨b, 0, none⟩), .int .i64 id] w fun e w' => e = .returned (.tuple #[.pointer none, .int .i64 0]) ∧ w = w' := by
  go_enter Try.func41, Try.ntmps41
  go_wp2
  go_ret2
  exact ⟨rfl, rfl⟩

set_option maxHeartbeats 400000 in
theorem at_in (b g n cap B : Nat) (id last there : Int) (w : World) (h0 : 1 ≤ id) (hl : id ≤ last) (h2 : last < 1099511627776) (hn : (id - 1) / 64 < n)
    (h1 : w.cell? ⟨b, 1, none⟩ = some (.int .i64 last)) (hc0 : w.cell? ⟨b, 0, none⟩ = some (.slice (some ⟨g, 0, none⟩) n cap))
    (hp : w.cell? ⟨g, ((id - 1) / 64).toNat, none⟩ = some (.pointer (some ⟨B, 0, none⟩)))
    (ht : w.cell? ⟨B, 64, none⟩ = some (.int .u64 there)) (hbit : (bits BinOp.and IntKind.u64 (there / 2 ^ ((id - 1) % 64).toNat) 1 == 0) = false) :
    Calls Try.prog 41 #[.pointer (some ⟨b, 0, none⟩), .int .i64 id] w fun e w' => e = .returned (.tuple #[.pointer (some ⟨B, 0, none⟩), .int .i64 ((id - 1) % 64)]) ∧ w = w' := by
  go_enter Try.func41, Try.ntmps41
  go_wp2
  go_ret2
  exact ⟨rfl, rfl⟩

/-- at, where there is none. -/
theorem at_none {w : World} {base b last : Nat} {count : Int} {val : Nat → Option (List Value)} {pv : Value} {ps : List (Option Nat)} (h : ArI w base b last count val pv ps) (id : Int)
    (hl : last < 1099511627776) (hid : id < 1 ∨ val (id - 1).toNat = none) :
    Calls Try.prog 41 #[.pointer (some ⟨b, 0, none⟩), .int .i64 id] w fun e w' => e = .returned (.tuple #[.pointer none, .int .i64 0]) ∧ w = w' := by
  by_cases k1 : id < 1
  · exact at_low b id w k1
  · have hv := hid.resolve_left k1
    by_cases k2 : (last : Int) < id
    · exact at_high b id last w (by omega) k2 (by rw [cell_blk h.blk]; rfl)
    · have hm : (id - 1).toNat < last := by omega
      obtain ⟨p, g, cap, e1, e2, e3, e4, e5, e6⟩ := h.at_ hm
      have ed : ((id - 1) / 64).toNat = (id - 1).toNat / 64 := by omega
      cases p with
      | none => exact at_nil b g ps.length cap id last w (by omega) (by omega) (by omega) (by omega) e4 (by rw [e3, e2]) (by rw [ed, e5]; rfl)
      | some B =>
        obtain ⟨cs, there, f1, f2, f3, f4, f5, f6, f7, f8⟩ := h.page_at e1
        refine at_out b g ps.length cap B id last there w (by omega) (by omega) (by omega) (by omega) e4 (by rw [e3, e2]) (by rw [ed, e5]; rfl) (by rw [cell_blk f2]; exact f4) ?_
        have em : ((id - 1) % 64).toNat = (id - 1).toNat % 64 := by omega
        rw [bit_test _ _ f5 f6, em, f7, hv]; rfl

/-- at, where there is one. -/
theorem at_some {w : World} {base b last : Nat} {count : Int} {val : Nat → Option (List Value)} {pv : Value} {ps : List (Option Nat)} (h : ArI w base b last count val pv ps) (id : Int)
    (hl : last < 1099511627776) (h0 : 1 ≤ id) {xs : List Value} (hv : val (id - 1).toNat = some xs) :
    ∃ B, ps[(id - 1).toNat / 64]? = some (some B) ∧
    Calls Try.prog 41 #[.pointer (some ⟨b, 0, none⟩), .int .i64 id] w fun e w' => e = .returned (.tuple #[.pointer (some ⟨B, 0, none⟩), .int .i64 ((id - 1) % 64)]) ∧ w = w' := by
  have hm : (id - 1).toNat < last := by
    rcases Nat.lt_or_ge (id - 1).toNat last with k | k
    · exact k
    · rw [h.out _ k] at hv; simp at hv
  obtain ⟨p, g, cap, e1, e2, e3, e4, e5, e6⟩ := h.at_ hm
  have ed : ((id - 1) / 64).toNat = (id - 1).toNat / 64 := by omega
  cases p with
  | none => rw [h.none_of e1] at hv; simp at hv
  | some B =>
    refine ⟨B, e1, ?_⟩
    obtain ⟨cs, there, f1, f2, f3, f4, f5, f6, f7, f8⟩ := h.page_at e1
    refine at_in b g ps.length cap B id last there w (by omega) (by omega) (by omega) (by omega) e4 (by rw [e3, e2]) (by rw [ed, e5]; rfl) (by rw [cell_blk f2]; exact f4) ?_
    have em : ((id - 1) % 64).toNat = (id - 1).toNat % 64 := by omega
    rw [bit_test _ _ f5 f6, em, f7, hv]; rfl

set_option maxHeartbeats 400000 in
theorem len_any {w : World} {base b last : Nat} {count : Int} {val : Nat → Option (List Value)} (h : Arn w base b last count val) :
    Calls Try.prog 20 #[.pointer (some ⟨b, 0, none⟩)] w fun e w' => e = .returned (.int .i64 count) ∧ w = w' := by
  obtain ⟨pv, ps, h⟩ := h
  have h2 : w.cell? ⟨b, 2, none⟩ = some (.int .i64 count) := by rw [cell_blk h.blk]; rfl
  clear h
  go_enter Try.func20, Try.ntmps20
  go_wp2
  go_ret
  exact ⟨rfl, rfl⟩

set_option maxHeartbeats 400000 in
theorem put_has (b g n cap B : Nat) (last count there : Int) (w : World) (s : ByteArray) (h0 : 0 ≤ last) (h2 : last < 1099511627776) (hn : last / 64 < n) (hcn : -1099511627776 < count) (hcn2 : count < 1099511627776)
    (hx1 : ((last / 64 == (n:Int)) = false))
    (h1 : w.cell? ⟨b, 1, none⟩ = some (.int .i64 last)) (hc0 : w.cell? ⟨b, 0, none⟩ = some (.slice (some ⟨g, 0, none⟩) n cap))
    (h3 : w.cell? ⟨b, 2, none⟩ = some (.int .i64 count))
    (hf1 : w.frozen? ⟨b, 1, none⟩ = false) (hf2 : w.frozen? ⟨b, 2, none⟩ = false)
    (hbB : ¬ b = B) (hbg : ¬ b = g) (hgB : ¬ g = B)
    (hp : w.cell? ⟨g, (last / 64).toNat, none⟩ = some (.pointer (some ⟨B, 0, none⟩)))
    (ht : w.cell? ⟨B, 64, none⟩ = some (.int .u64 there)) (hft : ∀ o, w.frozen? ⟨B, o, none⟩ = false) (ov : Value) (hov : w.cell? ⟨B, (last % 64).toNat, none⟩ = some ov) :
    Calls Try.prog 11 #[.pointer (some ⟨b, 0, none⟩), .string s] w fun e w' => e = .returned (.int .i64 (last + 1)) ∧
      Same ((((w.setCell ⟨b, 1, none⟩ (.int .i64 (last + 1))).setCell ⟨B, (last % 64).toNat, none⟩ (.string s)).setCell ⟨B, 64, none⟩ (.int .u64 (bits .or .u64 there (IntKind.u64.wrap (2 ^ (last % 64).toNat))))).setCell ⟨b, 2, none⟩ (.int .i64 (count + 1))) w' := by
  go_enter Try.func11, Try.ntmps11
  go_wp2
  go_quiet (fail)
  go_wp2
  go_region
  all_goals go_wp2
  go_ret
  exact ⟨rfl, rfl, rfl, rfl, rfl⟩

set_option maxRecDepth 100000 in
set_option maxHeartbeats 400000 in
theorem put_nil (b g n cap : Nat) (last count : Int) (w : World) (s : ByteArray) (h0 : 0 ≤ last) (h2 : last < 1099511627776) (hn : last / 64 < n) (hcn : -1099511627776 < count) (hcn2 : count < 1099511627776)
    (hx1 : ((last / 64 == (n:Int)) = false))
    (h1 : w.cell? ⟨b, 1, none⟩ = some (.int .i64 last)) (hc0 : w.cell? ⟨b, 0, none⟩ = some (.slice (some ⟨g, 0, none⟩) n cap))
    (h3 : w.cell? ⟨b, 2, none⟩ = some (.int .i64 count))
    (hf1 : w.frozen? ⟨b, 1, none⟩ = false) (hf2 : w.frozen? ⟨b, 2, none⟩ = false) (hfg : ∀ o, w.frozen? ⟨g, o, none⟩ = false)
    (hbg : ¬ b = g) (hlg : g < w.heap.size) (hlb : b < w.heap.size)
    (hp : w.cell? ⟨g, (last / 64).toNat, none⟩ = some (.pointer none))
    (Z : Array Value) (hZ : ∀ w, (zeroValue 76).run Try.prog w = .ok (.agg Z) w)
    (hx2 : (Z.setIfInBounds (last % 64).toNat (.string s))[64]? = some (.int .u64 0)) (hzo : Z[(last % 64).toNat]? = some (.string ⟨#[]⟩)) :
    Calls Try.prog 11 #[.pointer (some ⟨b, 0, none⟩), .string s] w fun e w' => e = .returned (.int .i64 (last + 1)) ∧
      Same ((((w.setCell ⟨b, 1, none⟩ (.int .i64 (last + 1))).setCell ⟨g, (last / 64).toNat, none⟩ (.pointer (some ⟨w.heap.size, 0, none⟩))).setCell ⟨b, 2, none⟩ (.int .i64 (count + 1))).alloc
        (.cells ((Z.setIfInBounds (last % 64).toNat (.string s)).setIfInBounds 64 (Value.int IntKind.u64 (bits BinOp.or IntKind.u64 0 (IntKind.u64.wrap (2 ^ (last % 64).toNat))))) 76)) w' := by
  go_enter Try.func11, Try.ntmps11
  go_wp2
  go_quiet (fail)
  go_wp2
  go_region
  all_goals go_wp2
  go_ret
  exact ⟨rfl, rfl, rfl, rfl, rfl⟩

set_option maxRecDepth 100000 in
set_option maxHeartbeats 400000 in
theorem put_more (base b : Nat) (pv : Value) (xs : List Value) (last count : Int) (w : World) (s : ByteArray) (h0 : 0 ≤ last) (h2 : last < 1099511627776) (hn : last / 64 = xs.length) (hcn : -1099511627776 < count) (hcn2 : count < 1099511627776)
    (hblk : w.heap[b]? = some (.cells #[pv, .int .i64 last, .int .i64 count] 65 (0,0))) (hown : w.ownsRow base 72 1 pv xs.length xs) (hbase : base ≤ w.heap.size)
    (Z : Array Value) (hZ : ∀ w, (zeroValue 76).run Try.prog w = .ok (.agg Z) w)
    (hx2 : (Z.setIfInBounds (last % 64).toNat (.string s))[64]? = some (.int .u64 0)) (hzo : Z[(last % 64).toNat]? = some (.string ⟨#[]⟩)) :
    Calls Try.prog 11 #[.pointer (some ⟨b, 0, none⟩), .string s] w fun e w' => e = .returned (.int .i64 (last + 1)) ∧
      PutMore 72 76 base b w pv xs.length xs last count ((Z.setIfInBounds (last % 64).toNat (.string s)).setIfInBounds 64
              (Value.int IntKind.u64 (bits BinOp.or IntKind.u64 0 (IntKind.u64.wrap (2 ^ (last % 64).toNat))))) w' := by
  have hpv : ∃ ao cap, pv = .slice ao xs.length cap := by
    rcases hown.2 with ⟨h, h'⟩ | ⟨g, cap, cur, h, _⟩
    · exact ⟨none, 0, by rw [h, h']⟩
    · exact ⟨_, _, h⟩
  have hbo : pv.ownBlock ≠ some b := own_ne (by decide) hblk hown
  obtain ⟨ao, cap, hpv⟩ := hpv
  obtain ⟨i0, hi, hz0, hz1, hz2⟩ := info_parts infoPT
  have HN := Lib.hid hn
  have hle : (xs.length : Int) ≤ last := by omega
  have hle2 : (xs.length : Int) < 1099511627776 := by omega
  have hx1 : (last / 64 == (xs.length : Int)) = true := by rw [hn]; simp
  have HO := Lib.hid hown
  have HB := Lib.hid hblk
  clear hn hown hblk
  subst hpv
  have hc0 : w.cell? ⟨b, 0, none⟩ = some (.slice ao xs.length cap) := cell_blk HB.out
  have h1 : w.cell? ⟨b, 1, none⟩ = some (.int .i64 last) := cell_blk HB.out
  have h3 : w.cell? ⟨b, 2, none⟩ = some (.int .i64 count) := cell_blk HB.out
  have hf1 : w.frozen? ⟨b, 1, none⟩ = false := frz_blk HB.out
  have hlb : b < w.heap.size := lt_blk HB.out
  go_enter Try.func11, Try.ntmps11
  go_wp2
  go_quiet (fail)
  go_wp2_with (at_builtin; refine wpList_append_own _ rfl _ _ 63 rfl base 72 i0 (.pointer none) 1 8 Try.underlying63 hi hz0 hz1 hz2 rfl (by decide) _ _ _ rfl ((ownsRow_drewN (ownsRow_setCell_other HO.out hbo _) _).alloc _) ⟨w.heap.size, 0, none⟩ 1 1 [.pointer none] rfl rfl ?c1 ?c2 ?c3 ?c4 ?c5 ?_)
  case c1 =>
    intro j u hj
    match j, hj with
    | 0, hj => simp at hj; subst hj; exact cell_new_at (size_set _ _ _)
  case c2 => intro u hu; simp at hu; subst hu; rfl
  case c3 => unfold maxLen; omega
  case c4 => omega
  case c5 => simp [World.setCell]; omega
  intro v' w1 hown' hgrow _
  have hgrow' : ((w.setCell ⟨b,1,none⟩ (.int .i64 (last+1))).alloc (.cells #[.pointer none] 72)).grownBy w1 (Value.slice ao xs.length cap).ownBlock := ⟨hgrow.os, hgrow.tape, hgrow.output, hgrow.size, hgrow.block⟩
  clear hgrow
  obtain ⟨g', cap', hv', hb1, hbg, hnil, hfg, hlg, hsz⟩ := more_facts (by decide) HB.out HO.out hown' hgrow'
  have HG := Lib.hid hgrow'
  have HW := Lib.hid hown'
  clear hgrow' hown' hf1 h1 h3 hc0
  subst hv'
  have hc0 := (cell_blk hb1 : w1.cell? ⟨b, 0, none⟩ = _)
  have hc1 := (cell_blk hb1 : w1.cell? ⟨b, 1, none⟩ = _)
  have hc2 := (cell_blk hb1 : w1.cell? ⟨b, 2, none⟩ = _)
  have hfb : ∀ o, w1.frozen? ⟨b, o, none⟩ = false := fun o => frz_blk hb1
  have hlb1 : b < w1.heap.size := by omega
  clear hb1
  have HT : (last / 64).toNat = xs.length := by have := HN.out; omega
  rw [← HT] at hnil
  have hlt : last / 64 < (xs.length : Int) + 1 := by have := HN.out; omega
  have HT' := Lib.hid HT
  clear HT
  go_wp2
  go_region
  all_goals go_wp2
  go_ret
  refine ⟨rfl, ?_⟩
  unfold PutMore
  refine ⟨w1, _, g', cap', HW.out, rfl, HG.out, ?_⟩
  rw [HT'.out]
  exact ⟨rfl, rfl, rfl, rfl⟩


/-- The page behind the stores of Put. -/
theorem cells_put (s : ByteArray) (cs : Array Value) (i : Nat) (th : Value) (hi : i < 64) (hs : cs.size = 64*1+1) :
    ((cs.setIfInBounds i (.string s)).setIfInBounds 64 th).size = 64*1+1 ∧ ((cs.setIfInBounds i (.string s)).setIfInBounds 64 th)[64*1]? = some th ∧ (∀ t, t < 1 → ((cs.setIfInBounds i (.string s)).setIfInBounds 64 th)[i*1+t]? = ([.string s])[t]?) ∧
    (∀ k, k < 64 → k ≠ i → ∀ t, t < 1 → ((cs.setIfInBounds i (.string s)).setIfInBounds 64 th)[k*1+t]? = cs[k*1+t]?) := by
  refine ⟨by simp [hs], ?_, ?_, ?_⟩
  · simp [hs]
  · intro t ht
    obtain rfl : t = 0 := by omega
    rw [Array.getElem?_setIfInBounds, if_neg (by omega), Array.getElem?_setIfInBounds, if_pos (by omega), if_pos (by omega)]; rfl
  · intro k hk hne t ht
    obtain rfl : t = 0 := by omega
    rw [Array.getElem?_setIfInBounds, if_neg (by omega), Array.getElem?_setIfInBounds, if_neg (by omega)]

theorem put_inner {wc w : World} {base b last : Nat} {count : Int} {val : Nat → Option (List Value)} (s : ByteArray) (hwc : w = wc) (h : Arn w base b last count val)
    (hl : last < 1099511627776) (hc1 : -1099511627776 < count) (hc2 : count < 1099511627776) (hbase : base ≤ wc.heap.size) :
    Calls Try.prog 11 #[.pointer (some ⟨b, 0, none⟩), .string s] wc fun e w' => e = .returned (.int .i64 ((last : Int) + 1)) ∧
      Arn w' base b (last + 1) (count + 1) (upd val last (some ([.string s]))) ∧ TF base tags w w' := by
  obtain ⟨pv, ps, h⟩ := h
  subst hwc
  have hlen := h.len
  have ed : ((last : Int) / 64).toNat = last / 64 := by omega
  have em : ((last : Int) % 64).toNat = last % 64 := by omega
  have hi64 : last % 64 < 64 := Nat.mod_lt _ (by decide)
  have hmap : (ps.map ptrOf).length = ps.length := List.length_map _
  have hZs : Zc.size = 64*1+1 := by decide +kernel
  have hZt : Zc[64*1]? = some (.int .u64 0) := by kernel_rfl
  have hZo : ∀ i, i < 64 → Zc[i]? = some (.string ⟨#[]⟩) := fun i hi => by unfold Zc; rw [List.getElem?_toArray, List.getElem?_append_left (by rw [List.length_replicate]; exact hi), List.getElem?_replicate, if_pos hi]
  have hno : ∀ j B' : Nat, ps[j]? = some (some B') → B' < w.heap.size ∧ ∃ cs, w.heap[B']? = some (.cells cs 76 (0,0)) := by
    intro j B' hj
    obtain ⟨_, cs, th, e, _⟩ := h.page j B' hj
    exact ⟨lt_blk e, cs, e⟩
  have hlb := lt_blk h.blk
  by_cases k : last / 64 < ps.length
  · obtain ⟨g, cap, cur, e1, e2, e3, e4⟩ := row_blk h.row (by omega)
    obtain ⟨p, hp⟩ : ∃ p, ps[last/64]? = some p := ⟨ps[last/64], by simp [k]⟩
    have hgc : w.cell? ⟨g, last/64, none⟩ = some (ptrOf p) := by rw [cell_blk e3, e4 _ k, List.getElem?_map, hp]; rfl
    have hbg : ¬ b = g := fun e => by rw [← e, h.blk] at e3; simp at e3
    cases p with
    | some B =>
      obtain ⟨hB, cs, there, f2, f3, f4, f5, f6, f8⟩ := h.page _ _ hp
      have hbB : ¬ b = B := fun e => by rw [← e, h.blk] at f2; simp at f2
      have hgB : ¬ g = B := fun e => by rw [e, f2] at e3; simp at e3
      have hov : cs[last % 64]? = some cs[last % 64] := by simp
      refine (put_has b g ps.length cap B last count there w s (by omega) (by omega) (by omega) hc1 hc2 (by simp; omega) (by rw [cell_blk h.blk]; rfl) (by rw [cell_blk h.blk, ← e1]; rfl) (by rw [cell_blk h.blk]; rfl)
        (frz_blk h.blk) (frz_blk h.blk) hbB hbg hgB (by rw [ed, hgc]; rfl) (by rw [cell_blk f2]; exact f4) (fun o => frz_blk f2) _ (by rw [em, cell_blk f2]; exact Array.getElem?_eq_getElem (by omega))).mono ?_
      rintro e w' ⟨rfl, hs⟩
      rw [em] at hs
      have HH : ∀ k, w'.heap[k]? = if k = b then some (.cells #[pv, .int .i64 ((last:Int)+1), .int .i64 (count+1)] 65 (0,0)) else if k = B then some (.cells ((cs.setIfInBounds (last % 64) (.string s)).setIfInBounds 64 (.int .u64 (bits .or .u64 there (IntKind.u64.wrap (2 ^ (last % 64)))))) 76 (0,0)) else w.heap[k]? := by
        intro k
        rw [hs.1]
        have A1 := fun k => heap_set (o := 1) h.blk (.int .i64 ((last:Int)+1)) k
        have A2 := fun k => heap_set (w := w.setCell ⟨b, 1, none⟩ (.int .i64 ((last:Int) + 1))) (b := B) (o := last % 64) (by rw [A1, if_neg (fun e => hbB e.symm)]; exact f2) (.string s) k
        have A3 := fun k => heap_set (w := (w.setCell ⟨b, 1, none⟩ (.int .i64 ((last:Int) + 1))).setCell ⟨B, last % 64, none⟩ (.string s)) (b := B) (o := 64) (by rw [A2, if_pos rfl]) (.int .u64 (bits .or .u64 there (IntKind.u64.wrap (2 ^ (last % 64))))) k
        have A4 := fun k => heap_set (w := ((w.setCell ⟨b, 1, none⟩ (.int .i64 ((last:Int) + 1))).setCell ⟨B, last % 64, none⟩ (.string s)).setCell ⟨B, 64, none⟩ (.int .u64 (bits .or .u64 there (IntKind.u64.wrap (2 ^ (last % 64)))))) (b := b) (o := 2) (by rw [A3, if_neg hbB, A2, if_neg hbB, A1, if_pos rfl]) (.int .i64 (count+1)) k
        rw [A4]
        by_cases kb : k = b
        · rw [if_pos kb, if_pos kb]; rfl
        · rw [if_neg kb, if_neg kb, A3]
          by_cases kB : k = B
          · rw [if_pos kB, if_pos kB]
          · rw [if_neg kB, if_neg kB, A2, if_neg kB, A1, if_neg kb]
      obtain ⟨p1, p2, p3, p4⟩ := cells_put s cs (last % 64) (.int .u64 (bits .or .u64 there (IntKind.u64.wrap (2 ^ (last % 64))))) hi64 f3
      refine ⟨rfl, ⟨pv, ps, h.put (by rw [HH, if_pos rfl]) ?_ ?_ hB (page_put f5 f6 f8 (by rw [HH, if_neg (fun e => hbB e.symm), if_pos rfl]) p1 p2 hi64 rfl p3 p4) ?_⟩, ?_⟩
      · refine ⟨h.row.1, ?_⟩
        rcases h.row.2 with hn | ⟨g', cap', cur', a1, a2, a3, a4⟩
        · exact .inl hn
        · refine .inr ⟨g', cap', cur', a1, a2, ?_, a4⟩
          rw [HH, if_neg (fun e => by rw [e, h.blk] at a3; simp at a3), if_neg (fun e => by rw [e, f2] at a3; simp at a3)]; exact a3
      · intro j; by_cases hj : j = last/64
        · rw [if_pos hj, hj, hp]
        · rw [if_neg hj]
      · intro j B' hj hB'
        obtain ⟨_, cs', x2⟩ := hno j B' hB'
        have hne : B' ≠ B := fun e => hj (h.uniq j (last/64) B (by rw [← e]; exact hB') hp)
        refine ⟨hne, ?_⟩
        rw [HH, if_neg (fun e => by rw [e, h.blk] at x2; simp at x2), if_neg hne]
      · refine ⟨hs.2.1, hs.2.2.1, hs.2.2.2, by rw [hs.1]; simp [World.setCell], fun k o hk ho => ?_⟩
        rw [HH]
        by_cases kb : k = b
        · subst kb; rw [h.blk] at hk; simp only [Option.some.injEq] at hk; subst hk; rcases ho with ho | ho
          · have := h.hb; omega
          · simp [tagged] at ho
        · rw [if_neg kb]
          by_cases kB : k = B
          · subst kB; rw [f2] at hk; simp only [Option.some.injEq] at hk; subst hk; rcases ho with ho | ho
            · omega
            · simp [tagged] at ho
          · rw [if_neg kB]; exact hk
    | none =>
      have hlg := lt_blk e3
      refine (put_nil b g ps.length cap last count w s (by omega) (by omega) (by omega) hc1 hc2 (by simp; omega) (by rw [cell_blk h.blk]; rfl) (by rw [cell_blk h.blk, ← e1]; rfl) (by rw [cell_blk h.blk]; rfl)
        (frz_blk h.blk) (frz_blk h.blk) (fun o => frz_blk e3) hbg hlg hlb (by rw [ed, hgc]; rfl) Zc zeroPG (by rw [em]; rw [Array.getElem?_setIfInBounds, if_neg (by omega)]; exact hZt) (by rw [em]; exact hZo _ hi64)).mono ?_
      rintro e w' ⟨rfl, hs⟩
      rw [em, ed] at hs
      have HH : ∀ k, w'.heap[k]? = if k = b then some (.cells #[pv, .int .i64 ((last:Int)+1), .int .i64 (count+1)] 65 (0,0)) else if k = g then some (.cells (cur.setIfInBounds (last/64) (.pointer (some ⟨w.heap.size,0,none⟩))) 72 (0,0)) else
          if k = w.heap.size then some (.cells ((Zc.setIfInBounds (last % 64) (.string s)).setIfInBounds 64 (.int .u64 (bits .or .u64 0 (IntKind.u64.wrap (2 ^ (last % 64)))))) 76 (0,0)) else w.heap[k]? := by
        intro k
        rw [hs.1]
        have A1 := fun k => heap_set (o := 1) h.blk (.int .i64 ((last:Int)+1)) k
        have A2 := fun k => heap_set (w := w.setCell ⟨b, 1, none⟩ (.int .i64 ((last:Int) + 1))) (b := g) (o := last/64) (by rw [A1, if_neg (fun e => hbg e.symm)]; exact e3) (.pointer (some ⟨w.heap.size, 0, none⟩)) k
        have A3 := fun k => heap_set (w := (w.setCell ⟨b, 1, none⟩ (.int .i64 ((last:Int) + 1))).setCell ⟨g, last/64, none⟩ (.pointer (some ⟨w.heap.size, 0, none⟩))) (b := b) (o := 2) (by rw [A2, if_neg hbg, A1, if_pos rfl]) (.int .i64 (count+1)) k
        by_cases ks : k = w.heap.size
        · subst ks
          rw [if_neg (by omega), if_neg (by omega), if_pos rfl]
          exact heap_new_at (by rw [size_set, size_set, size_set]) _
        · rw [heap_alloc_ne (by rw [size_set, size_set, size_set]; exact ks), A3, A2, A1]
          by_cases kb : k = b
          · simp only [if_pos kb]; rfl
          · by_cases kg : k = g
            · simp only [if_neg kb, if_pos kg]
            · simp only [if_neg kb, if_neg kg, if_neg ks]
      obtain ⟨p1, p2, p3, p4⟩ := cells_put s Zc (last % 64) (.int .u64 (bits .or .u64 0 (IntKind.u64.wrap (2 ^ (last % 64))))) hi64 hZs
      have hnone := h.nopage _ hp
      refine ⟨rfl, ⟨pv, ps.set (last/64) (some w.heap.size), h.put (B := w.heap.size) (by rw [HH, if_pos rfl]) ?_ ?_ hbase (page_put (there := 0) (cs := Zc) (by decide) (by decide) ?_ (by rw [HH, if_neg (by omega), if_neg (by omega), if_pos rfl]) p1 p2 hi64 rfl p3 p4) ?_⟩, ?_⟩
      · have em2 : (ps.set (last/64) (some w.heap.size)).map ptrOf = (ps.map ptrOf).set (last/64) (.pointer (some ⟨w.heap.size,0,none⟩)) := by rw [List.map_set]; rfl
        rw [em2, List.length_set]
        have hr := h.row
        rw [e1] at hr ⊢
        have hr2 := (hr.stored (last/64) (.pointer (some ⟨w.heap.size,0,none⟩))).1
        rcases hr2.2 with hn | ⟨g', cap', cur', a1, a2, a3, a4⟩
        · simp at hn
        · refine ⟨hr2.1, .inr ⟨g', cap', cur', a1, a2, ?_, a4⟩⟩
          simp only [Value.slice.injEq, Option.some.injEq, Addr.mk.injEq, and_true, true_and] at a1
          obtain ⟨rfl, rfl⟩ := a1
          rw [heap_set e3, if_pos rfl] at a3
          rw [HH, if_neg (fun e => hbg e.symm), if_pos rfl]; exact a3
      · intro j; rw [List.getElem?_set]; by_cases hj : last/64 = j
        · rw [if_pos hj, if_pos hj.symm, if_pos k]
        · rw [if_neg hj, if_neg (fun e => hj e.symm)]
      · intro i hi
        refine ⟨by rw [hnone i hi]; simp, fun ys hys => by rw [hnone i hi] at hys; simp at hys⟩
      · intro j B' hj hB'
        obtain ⟨x1, cs', x2⟩ := hno j B' hB'
        refine ⟨by omega, ?_⟩
        rw [HH, if_neg (fun e => by rw [e, h.blk] at x2; simp at x2), if_neg (fun e => by rw [e, e3] at x2; simp at x2), if_neg (by omega)]
      · refine ⟨hs.2.1, hs.2.2.1, hs.2.2.2, by rw [hs.1]; simp [World.setCell], fun k o hk ho => ?_⟩
        rw [HH]
        by_cases kb : k = b
        · subst kb; rw [h.blk] at hk; simp only [Option.some.injEq] at hk; subst hk; rcases ho with ho | ho
          · have := h.hb; omega
          · simp [tagged] at ho
        · rw [if_neg kb]
          by_cases kg : k = g
          · subst kg; rw [e3] at hk; simp only [Option.some.injEq] at hk; subst hk; rcases ho with ho | ho
            · omega
            · simp [tagged] at ho
          · rw [if_neg kg, if_neg (by have := lt_blk hk; omega)]; exact hk
  · have hq : last / 64 = ps.length := by omega
    refine (put_more base b pv (ps.map ptrOf) last count w s (by omega) (by omega) (by rw [hmap]; omega) hc1 hc2 h.blk (by rw [hmap]; exact h.row) hbase Zc zeroPG (by rw [em]; rw [Array.getElem?_setIfInBounds, if_neg (by omega)]; exact hZt) (by rw [em]; exact hZo _ hi64)).mono ?_
    rintro e w' ⟨rfl, w1, v', g', cap', q1, q2, q3, hs⟩
    rw [em] at hs
    rw [hmap] at q1 q2 hs
    have hbo : pv.ownBlock ≠ some b := own_ne (by decide) h.blk h.row
    have hs1 : w.heap.size + 1 ≤ w1.heap.size := by have := q3.size; simp [World.setCell] at this; omega
    have hold1 : ∀ k o, w.heap[k]? = some o → k ≠ b → (tagged o [72] = false ∨ k < base) → w1.heap[k]? = some o := by
      intro k o hk hkb ho
      rw [q3.block k (by simp [World.setCell]; have := lt_blk hk; omega) ?_, Below.heap_alloc _ _ _ (by rw [size_set]; exact lt_blk hk), heap_set_ne hkb]
      · exact hk
      · intro e
        rcases h.row.2 with ⟨r1, _⟩ | ⟨g, cap, cur, r1, r2, r3, _⟩
        · rw [r1] at e; simp [Value.ownBlock] at e
        · rw [r1] at e; simp only [Value.ownBlock, Option.some.injEq] at e; subst e; rw [hk] at r3; simp only [Option.some.injEq] at r3; subst r3
          rcases ho with ho | ho
          · simp [tagged] at ho
          · omega
    have hb1 : w1.heap[b]? = some (.cells #[pv, .int .i64 ((last:Int)+1), .int .i64 count] 65 (0,0)) := by
      rw [q3.block b (by simp [World.setCell]; omega) (fun e => hbo e.symm), Below.heap_alloc _ _ _ (by rw [size_set]; exact hlb), heap_set h.blk, if_pos rfl]; rfl
    rcases q1.2 with ⟨_, hn⟩ | ⟨g, cap, cur, r1, r2, r3, r4⟩
    · omega
    · rw [q2] at r1
      simp only [Value.slice.injEq, Option.some.injEq, Addr.mk.injEq, and_true, true_and] at r1
      obtain ⟨rfl, rfl⟩ := r1
      have hbg : ¬ b = g' := fun e => by rw [← e, hb1] at r3; simp at r3
      have hlg := lt_blk r3
      have HH : ∀ k, w'.heap[k]? = if k = b then some (.cells #[v', .int .i64 ((last:Int)+1), .int .i64 (count+1)] 65 (0,0)) else if k = g' then some (.cells (cur.setIfInBounds ps.length (.pointer (some ⟨w1.heap.size,0,none⟩))) 72 (0,0)) else
          if k = w1.heap.size then some (.cells ((Zc.setIfInBounds (last % 64) (.string s)).setIfInBounds 64 (.int .u64 (bits .or .u64 0 (IntKind.u64.wrap (2 ^ (last % 64)))))) 76 (0,0)) else w1.heap[k]? := by
        intro k
        rw [hs.1]
        have A1 := fun k => heap_set (o := 0) hb1 v' k
        have A2 := fun k => heap_set (w := w1.setCell ⟨b, 0, none⟩ v') (b := g') (o := ps.length) (by rw [A1, if_neg (fun e => hbg e.symm)]; exact r3) (.pointer (some ⟨w1.heap.size, 0, none⟩)) k
        have A3 := fun k => heap_set (w := (w1.setCell ⟨b, 0, none⟩ v').setCell ⟨g', ps.length, none⟩ (.pointer (some ⟨w1.heap.size, 0, none⟩))) (b := b) (o := 2) (by rw [A2, if_neg hbg, A1, if_pos rfl]) (.int .i64 (count+1)) k
        by_cases ks : k = w1.heap.size
        · subst ks
          rw [if_neg (by omega), if_neg (by omega), if_pos rfl]
          exact heap_new_at (by rw [size_set, size_set, size_set]) _
        · rw [heap_alloc_ne (by rw [size_set, size_set, size_set]; exact ks), A3, A2, A1]
          by_cases kb : k = b
          · simp only [if_pos kb]; rfl
          · by_cases kg : k = g'
            · simp only [if_neg kb, if_pos kg]
            · simp only [if_neg kb, if_neg kg, if_neg ks]
      obtain ⟨p1, p2, p3, p4⟩ := cells_put s Zc (last % 64) (.int .u64 (bits .or .u64 0 (IntKind.u64.wrap (2 ^ (last % 64))))) hi64 hZs
      refine ⟨rfl, ⟨v', ps ++ [some w1.heap.size], h.put (B := w1.heap.size) (by rw [HH, if_pos rfl]) ?_ ?_ (by omega) (page_put (there := 0) (cs := Zc) (by decide) (by decide) ?_ (by rw [HH, if_neg (by omega), if_neg (by omega), if_pos rfl]) p1 p2 hi64 rfl p3 p4) ?_⟩, ?_⟩
      · rw [q2] at q1 ⊢
        have hr2 := (q1.stored ps.length (.pointer (some ⟨w1.heap.size,0,none⟩))).1
        have em2 : (ps ++ [some w1.heap.size]).map ptrOf = (ps.map ptrOf ++ [Value.pointer none]).set ps.length (.pointer (some ⟨w1.heap.size,0,none⟩)) := by
          rw [List.map_append, List.set_append, if_neg (by simp)]; simp [ptrOf]
        rw [em2, List.length_append]
        rcases hr2.2 with hn | ⟨g'', cap'', cur'', a1, a2, a3, a4⟩
        · simp at hn
        · refine ⟨hr2.1, .inr ⟨g'', cap'', cur'', a1, a2, ?_, a4⟩⟩
          simp only [Value.slice.injEq, Option.some.injEq, Addr.mk.injEq, and_true, true_and] at a1
          obtain ⟨rfl, rfl⟩ := a1
          rw [heap_set r3, if_pos rfl] at a3
          rw [HH, if_neg (fun e => hbg e.symm), if_pos rfl]; exact a3
      · intro j
        by_cases hj : j = last/64
        · rw [if_pos hj, hj, hq]; simp
        · rw [if_neg hj]
          by_cases hj2 : j < ps.length
          · rw [List.getElem?_append_left hj2]
          · rw [List.getElem?_eq_none (l := ps) (by omega), List.getElem?_eq_none (by simp; omega)]
      · intro i hi
        have hv : val (64*(last/64)+i) = none := h.out _ (by omega)
        refine ⟨by rw [hv]; simp, fun ys hys => by rw [hv] at hys; simp at hys⟩
      · intro j B' hj hB'
        obtain ⟨x1, cs', x2⟩ := hno j B' hB'
        refine ⟨by omega, ?_⟩
        have hB'b : B' ≠ b := fun e => by rw [e, h.blk] at x2; simp at x2
        have x3 := hold1 B' _ x2 hB'b (.inl (by simp [tagged]))
        rw [HH, if_neg hB'b, if_neg (fun e => by rw [e, r3] at x3; simp at x3), if_neg (by omega), x3, x2]
      · refine ⟨hs.2.1.trans q3.os, hs.2.2.1.trans q3.tape, hs.2.2.2.trans q3.output, ?_, fun k o hk ho => ?_⟩
        · rw [hs.1]; simp [World.setCell]; omega
        rw [HH]
        by_cases kb : k = b
        · subst kb; rw [h.blk] at hk; simp only [Option.some.injEq] at hk; subst hk; rcases ho with ho | ho
          · have := h.hb; omega
          · simp [tagged] at ho
        · rw [if_neg kb]
          have hk1 := hold1 k o hk kb (by
            rcases ho with ho | ho
            · exact .inr ho
            · exact .inl (tagged_sub ho (by simp)))
          by_cases kg : k = g'
          · subst kg
            rw [r3] at hk1; simp only [Option.some.injEq] at hk1; subst hk1
            rcases ho with ho | ho
            · omega
            · simp [tagged] at ho
          · rw [if_neg kg, if_neg (by have := lt_blk hk; omega)]; exact hk1

theorem put_any {w : World} {base b last : Nat} {count : Int} {val : Nat → Option (List Value)} (h : Arn w base b last count val) (s : ByteArray)
    (hl : last < 1099511627776) (hc1 : -1099511627776 < count) (hc2 : count < 1099511627776) (hbase : base ≤ w.heap.size) :
    Calls Try.prog 11 #[.pointer (some ⟨b, 0, none⟩), .string s] w fun e w' => e = .returned (.int .i64 ((last : Int) + 1)) ∧
      Arn w' base b (last + 1) (count + 1) (upd val last (some ([.string s]))) ∧ TF base tags w w' :=
  put_inner s rfl h hl hc1 hc2 hbase

set_option maxHeartbeats 400000 in
theorem get_none {w : World} {base b last : Nat} {count : Int} {val : Nat → Option (List Value)} (h : Arn w base b last count val) (id : Int)
    (hl : last < 1099511627776) (hid : id < 1 ∨ val (id - 1).toNat = none) :
    Calls Try.prog 36 #[.pointer (some ⟨b, 0, none⟩), .int .i64 id] w fun e w' => e = .returned (.tuple #[.string ⟨#[]⟩, .bool false]) ∧ w = w' := by
  obtain ⟨pv, ps, h⟩ := h
  have H := Lib.hid (at_none h id hl hid)
  clear h hid
  go_enter Try.func36, Try.ntmps36
  go_wp2_with (go_at_call 41; refine H.out.mono ?_; rintro e w' ⟨rfl, rfl⟩)
  go_ret2
  exact ⟨rfl, rfl⟩

set_option maxHeartbeats 400000 in
theorem get_some {w : World} {base b last : Nat} {count : Int} {val : Nat → Option (List Value)} (h : Arn w base b last count val) (id : Int)
    (hl : last < 1099511627776) (h0 : 1 ≤ id) (s : ByteArray) (hv : val (id - 1).toNat = some ([.string s])) :
    Calls Try.prog 36 #[.pointer (some ⟨b, 0, none⟩), .int .i64 id] w fun e w' => e = .returned (.tuple #[.string s, .bool true]) ∧ w = w' := by
  obtain ⟨pv, ps, h⟩ := h
  obtain ⟨B, e1, hc⟩ := at_some h id hl h0 hv
  obtain ⟨cs, there, f1, f2, f3, f4, f5, f6, f7, f8⟩ := h.page_at e1
  have em : ((id - 1) % 64).toNat = (id - 1).toNat % 64 := by omega
  have hcell : w.cell? ⟨B, ((id - 1) % 64).toNat, none⟩ = some (.string s) := by
    have := (f8 _ hv).2 0 (by decide)
    rw [em, cell_blk f2]; simpa using this
  have H := Lib.hid hc
  clear h e1 hc f1 f2 f3 f4 f5 f6 f7 f8 hv em
  go_enter Try.func36, Try.ntmps36
  go_wp2_with (go_at_call 41; refine H.out.mono ?_; rintro e w' ⟨rfl, rfl⟩)
  go_ret2
  exact ⟨rfl, rfl⟩

set_option maxHeartbeats 400000 in
theorem set_none {w : World} {base b last : Nat} {count : Int} {val : Nat → Option (List Value)} (h : Arn w base b last count val) (id : Int) (s : ByteArray)
    (hl : last < 1099511627776) (hid : id < 1 ∨ val (id - 1).toNat = none) :
    Calls Try.prog 35 #[.pointer (some ⟨b, 0, none⟩), .int .i64 id, .string s] w fun e w' => e = .returned (.bool false) ∧ w = w' := by
  obtain ⟨pv, ps, h⟩ := h
  have H := Lib.hid (at_none h id hl hid)
  clear h hid
  go_enter Try.func35, Try.ntmps35
  go_wp2_with (go_at_call 41; refine H.out.mono ?_; rintro e w' ⟨rfl, rfl⟩)
  go_ret
  exact ⟨rfl, rfl⟩

set_option maxHeartbeats 400000 in
theorem set_raw (b B : Nat) (id : Int) (w : World) (s : ByteArray) (hi0 : 0 ≤ (id - 1) % 64) (hi1 : (id - 1) % 64 < 64)
    (hc : Hid (Calls Try.prog 41 #[.pointer (some ⟨b, 0, none⟩), .int .i64 id] w fun e w' => e = .returned (.tuple #[.pointer (some ⟨B, 0, none⟩), .int .i64 ((id - 1) % 64)]) ∧ w = w'))
    (ov : Value) (hov : w.cell? ⟨B, ((id - 1) % 64).toNat, none⟩ = some ov) (hfr : ∀ o, w.frozen? ⟨B, o, none⟩ = false) :
    Calls Try.prog 35 #[.pointer (some ⟨b, 0, none⟩), .int .i64 id, .string s] w fun e w' => e = .returned (.bool true) ∧ Same (w.setCell ⟨B, ((id - 1) % 64).toNat, none⟩ (.string s)) w' := by
  go_enter Try.func35, Try.ntmps35
  go_wp2_with (go_at_call 41; refine hc.out.mono ?_; rintro e w' ⟨rfl, rfl⟩)
  go_ret
  exact ⟨rfl, rfl, rfl, rfl, rfl⟩

theorem set_some {w : World} {base b last : Nat} {count : Int} {val : Nat → Option (List Value)} (h : Arn w base b last count val) (id : Int)
    (hl : last < 1099511627776) (h0 : 1 ≤ id) (s : ByteArray) (hv : (val (id - 1).toNat).isSome = true) :
    Calls Try.prog 35 #[.pointer (some ⟨b, 0, none⟩), .int .i64 id, .string s] w fun e w' => e = .returned (.bool true) ∧
      Arn w' base b last count (upd val (id - 1).toNat (some ([.string s]))) ∧ TF base tags w w' := by
  obtain ⟨pv, ps, h⟩ := h
  obtain ⟨xs, hxs⟩ := Option.isSome_iff_exists.1 hv
  have hm : (id - 1).toNat < last := by
    rcases Nat.lt_or_ge (id - 1).toNat last with k | k
    · exact k
    · rw [h.out _ k] at hxs; simp at hxs
  obtain ⟨B, e1, hc⟩ := at_some h id hl h0 hxs
  obtain ⟨hB, cs, there, f2, f3, f4, f5, f6, f8⟩ := h.page _ _ e1
  have em : ((id - 1) % 64).toNat = (id - 1).toNat % 64 := by omega
  have hi64 : (id - 1).toNat % 64 < 64 := Nat.mod_lt _ (by decide)
  refine (set_raw b B id w s (by omega) (by omega) hc _ (by rw [em, cell_blk f2]; exact Array.getElem?_eq_getElem (by omega)) (fun o => frz_blk f2)).mono ?_
  rintro e w' ⟨rfl, hs⟩
  rw [em] at hs
  have hbB : b ≠ B := fun e => by have := h.blk; rw [e, f2] at this; simp at this
  have HH : ∀ k, w'.heap[k]? = if k = B then some (.cells (cs.setIfInBounds ((id - 1).toNat % 64) (.string s)) 76 (0,0)) else w.heap[k]? := by
    intro k; rw [hs.1]; exact heap_set f2 _ k
  refine ⟨rfl, ⟨pv, ps, h.turn (B := B) hm e1 (by rw [HH, if_neg hbB]; exact h.blk) (page_set f5 f6 f8 (by rw [HH, if_pos rfl]) (by simp [f3]) ?_ hi64 (by rw [split64]; exact hv) rfl ?_ ?_) ?_ (by decide) (by decide) (by decide)⟩, (TF.refl _ _ _).set _ hB f2 rfl |>.same hs⟩
  · rw [Array.getElem?_setIfInBounds, if_neg (by omega)]; exact f4
  · intro t ht
    obtain rfl : t = 0 := by omega
    rw [Array.getElem?_setIfInBounds, if_pos (by omega), if_pos (by omega)]; rfl
  · intro i hi hne t ht
    rw [Array.getElem?_setIfInBounds, if_neg (by omega)]
  · intro k _ hkB o ho
    rw [HH, if_neg hkB]; exact ho

set_option maxHeartbeats 400000 in
theorem drop_none {w : World} {base b last : Nat} {count : Int} {val : Nat → Option (List Value)} (h : Arn w base b last count val) (id : Int)
    (hl : last < 1099511627776) (hid : id < 1 ∨ val (id - 1).toNat = none) :
    Calls Try.prog 17 #[.pointer (some ⟨b, 0, none⟩), .int .i64 id] w fun e w' => e = .returned (.bool false) ∧ w = w' := by
  obtain ⟨pv, ps, h⟩ := h
  have H := Lib.hid (at_none h id hl hid)
  clear h hid
  go_enter Try.func17, Try.ntmps17
  go_wp2_with (go_at_call 41; refine H.out.mono ?_; rintro e w' ⟨rfl, rfl⟩)
  go_ret
  exact ⟨rfl, rfl⟩

set_option maxHeartbeats 400000 in
theorem drop_stays (b B : Nat) (id count there : Int) (w : World) (hi0 : 0 ≤ (id - 1) % 64) (hi1 : (id - 1) % 64 < 64) (hcn : -1099511627776 < count) (hcn2 : count < 1099511627776) (hbB : ¬ b = B)
    (hc : Hid (Calls Try.prog 41 #[.pointer (some ⟨b, 0, none⟩), .int .i64 id] w fun e w' => e = .returned (.tuple #[.pointer (some ⟨B, 0, none⟩), .int .i64 ((id - 1) % 64)]) ∧ w = w'))
    (ov : Value) (hov : w.cell? ⟨B, ((id - 1) % 64).toNat, none⟩ = some ov) (hfr : ∀ o, w.frozen? ⟨B, o, none⟩ = false) (hfb : w.frozen? ⟨b, 2, none⟩ = false) (h2 : w.cell? ⟨b, 2, none⟩ = some (.int .i64 count))
    (ht : w.cell? ⟨B, 64, none⟩ = some (.int .u64 there)) (hz : (bits .andNot .u64 there (IntKind.u64.wrap (2 ^ ((id - 1) % 64).toNat)) == 0) = false) :
    Calls Try.prog 17 #[.pointer (some ⟨b, 0, none⟩), .int .i64 id] w fun e w' => e = .returned (.bool true) ∧
      Same (((w.setCell ⟨B, ((id - 1) % 64).toNat, none⟩ (.string ⟨#[]⟩)).setCell ⟨B, 64, none⟩ (.int .u64 (bits .andNot .u64 there (IntKind.u64.wrap (2 ^ ((id - 1) % 64).toNat))))).setCell ⟨b, 2, none⟩ (.int .i64 (count - 1))) w' := by
  go_enter Try.func17, Try.ntmps17
  go_wp2_with (go_at_call 41; refine hc.out.mono ?_; rintro e w' ⟨rfl, rfl⟩)
  go_region
  all_goals go_wp2
  go_ret
  exact ⟨rfl, rfl, rfl, rfl, rfl⟩

set_option maxHeartbeats 400000 in
theorem drop_last (b B g n cap : Nat) (id count there : Int) (w : World) (hd0 : 1 ≤ id) (hd1 : id ≤ 1099511627776) (hn : (id - 1) / 64 < n) (hi0 : 0 ≤ (id - 1) % 64) (hi1 : (id - 1) % 64 < 64) (hcn : -1099511627776 < count) (hcn2 : count < 1099511627776) (hbB : ¬ b = B) (hbg : ¬ b = g) (hgB : ¬ g = B)
    (hc : Hid (Calls Try.prog 41 #[.pointer (some ⟨b, 0, none⟩), .int .i64 id] w fun e w' => e = .returned (.tuple #[.pointer (some ⟨B, 0, none⟩), .int .i64 ((id - 1) % 64)]) ∧ w = w'))
    (ov : Value) (hov : w.cell? ⟨B, ((id - 1) % 64).toNat, none⟩ = some ov) (hfr : ∀ o, w.frozen? ⟨B, o, none⟩ = false) (hfb : w.frozen? ⟨b, 2, none⟩ = false) (hfg : ∀ o, w.frozen? ⟨g, o, none⟩ = false) (h2 : w.cell? ⟨b, 2, none⟩ = some (.int .i64 count))
    (hc0 : w.cell? ⟨b, 0, none⟩ = some (.slice (some ⟨g, 0, none⟩) n cap)) (hp : w.cell? ⟨g, ((id - 1) / 64).toNat, none⟩ = some (.pointer (some ⟨B, 0, none⟩)))
    (ht : w.cell? ⟨B, 64, none⟩ = some (.int .u64 there)) (hz : (bits .andNot .u64 there (IntKind.u64.wrap (2 ^ ((id - 1) % 64).toNat)) == 0) = true) :
    Calls Try.prog 17 #[.pointer (some ⟨b, 0, none⟩), .int .i64 id] w fun e w' => e = .returned (.bool true) ∧
      Same ((((w.setCell ⟨B, ((id - 1) % 64).toNat, none⟩ (.string ⟨#[]⟩)).setCell ⟨B, 64, none⟩ (.int .u64 (bits .andNot .u64 there (IntKind.u64.wrap (2 ^ ((id - 1) % 64).toNat))))).setCell ⟨b, 2, none⟩ (.int .i64 (count - 1))).setCell ⟨g, ((id - 1) / 64).toNat, none⟩ (.pointer none)) w' := by
  go_enter Try.func17, Try.ntmps17
  go_wp2_with (go_at_call 41; refine hc.out.mono ?_; rintro e w' ⟨rfl, rfl⟩)
  go_region
  all_goals go_wp2
  go_ret
  exact ⟨rfl, rfl, rfl, rfl, rfl⟩

/-- The page behind the stores of Drop. -/
theorem cells_drop (cs : Array Value) (i : Nat) (th : Value) (_hi : i < 64) (hs : cs.size = 64*1+1) :
    ((cs.setIfInBounds i (.string ⟨#[]⟩)).setIfInBounds 64 th).size = 64*1+1 ∧ ((cs.setIfInBounds i (.string ⟨#[]⟩)).setIfInBounds 64 th)[64*1]? = some th ∧
    (∀ k, k < 64 → k ≠ i → ∀ t, t < 1 → ((cs.setIfInBounds i (.string ⟨#[]⟩)).setIfInBounds 64 th)[k*1+t]? = cs[k*1+t]?) := by
  refine ⟨by simp [hs], ?_, ?_⟩
  · simp [hs]
  · intro k hk hne t ht
    obtain rfl : t = 0 := by omega
    rw [Array.getElem?_setIfInBounds, if_neg (by omega), Array.getElem?_setIfInBounds, if_neg (by omega)]

theorem drop_some {w : World} {base b last : Nat} {count : Int} {val : Nat → Option (List Value)} (h : Arn w base b last count val) (id : Int)
    (hl : last < 1099511627776) (hc1 : -1099511627776 < count) (hc2 : count < 1099511627776) (h0 : 1 ≤ id) (hv : (val (id - 1).toNat).isSome = true) :
    Calls Try.prog 17 #[.pointer (some ⟨b, 0, none⟩), .int .i64 id] w fun e w' => e = .returned (.bool true) ∧
      Arn w' base b last (count - 1) (upd val (id - 1).toNat none) ∧ TF base tags w w' := by
  obtain ⟨pv, ps, h⟩ := h
  obtain ⟨xs, hxs⟩ := Option.isSome_iff_exists.1 hv
  have hm : (id - 1).toNat < last := by
    rcases Nat.lt_or_ge (id - 1).toNat last with k | k
    · exact k
    · rw [h.out _ k] at hxs; simp at hxs
  obtain ⟨B, e1, hc⟩ := at_some h id hl h0 hxs
  obtain ⟨hB, cs, there, f2, f3, f4, f5, f6, f8⟩ := h.page _ _ e1
  obtain ⟨p, g, cap, a1, a2, a3, a4, a5, a6⟩ := h.at_ hm
  rw [e1] at a1; simp only [Option.some.injEq] at a1; subst a1
  obtain ⟨g', cap', cur, b1, b2, b3, b4⟩ := row_blk h.row (by omega)
  rw [a2] at b1; simp only [Value.slice.injEq, Option.some.injEq, Addr.mk.injEq, and_true, true_and] at b1; obtain ⟨rfl, rfl⟩ := b1
  have em : ((id - 1) % 64).toNat = (id - 1).toNat % 64 := by omega
  have ed : ((id - 1) / 64).toNat = (id - 1).toNat / 64 := by omega
  have hi64 : (id - 1).toNat % 64 < 64 := Nat.mod_lt _ (by decide)
  have hbB : ¬ b = B := fun e => by have := h.blk; rw [e, f2] at this; simp at this
  have hbg : ¬ b = g := fun e => by have := h.blk; rw [e, b3] at this; simp at this
  have hgB : ¬ g = B := fun e => by rw [e, f2] at b3; simp at b3
  have hcell2 : w.cell? ⟨b, 2, none⟩ = some (.int .i64 count) := by rw [cell_blk h.blk]; rfl
  obtain ⟨p1, p2, p4⟩ := cells_drop cs ((id - 1).toNat % 64) (.int .u64 (bits .andNot .u64 there (IntKind.u64.wrap (2 ^ ((id - 1).toNat % 64))))) hi64 f3
  have HH1 : ∀ k, (((w.setCell ⟨B, (id - 1).toNat % 64, none⟩ (.string ⟨#[]⟩)).setCell ⟨B, 64, none⟩ (.int .u64 (bits .andNot .u64 there (IntKind.u64.wrap (2 ^ ((id - 1).toNat % 64)))))).setCell ⟨b, 2, none⟩ (.int .i64 (count - 1))).heap[k]? =
      if k = b then some (.cells #[pv, .int .i64 (last:Int), .int .i64 (count-1)] 65 (0,0)) else if k = B then some (.cells ((cs.setIfInBounds ((id - 1).toNat % 64) (.string ⟨#[]⟩)).setIfInBounds 64 (.int .u64 (bits .andNot .u64 there (IntKind.u64.wrap (2 ^ ((id - 1).toNat % 64)))))) 76 (0,0)) else w.heap[k]? := by
    intro k
    have A2 := fun k => heap_set (o := (id - 1).toNat % 64) f2 (.string ⟨#[]⟩) k
    have A3 := fun k => heap_set (w := w.setCell ⟨B, (id - 1).toNat % 64, none⟩ (.string ⟨#[]⟩)) (b := B) (o := 64) (by rw [A2, if_pos rfl]) (.int .u64 (bits .andNot .u64 there (IntKind.u64.wrap (2 ^ ((id - 1).toNat % 64))))) k
    have A4 := fun k => heap_set (w := (w.setCell ⟨B, (id - 1).toNat % 64, none⟩ (.string ⟨#[]⟩)).setCell ⟨B, 64, none⟩ (.int .u64 (bits .andNot .u64 there (IntKind.u64.wrap (2 ^ ((id - 1).toNat % 64)))))) (b := b) (o := 2) (by rw [A3, if_neg hbB, A2, if_neg hbB]; exact h.blk) (.int .i64 (count-1)) k
    rw [A4, A3, A2]
    by_cases kb : k = b
    · simp only [if_pos kb]; rfl
    · by_cases kB : k = B
      · simp only [if_neg kb, if_pos kB]
      · simp only [if_neg kb, if_neg kB]
  cases hz : (bits .andNot .u64 there (IntKind.u64.wrap (2 ^ ((id - 1).toNat % 64))) == 0) with
  | false =>
    refine (drop_stays b B id count there w (by omega) (by omega) hc1 hc2 hbB hc _ (by rw [em, cell_blk f2]; exact Array.getElem?_eq_getElem (by omega)) (fun o => frz_blk f2) (frz_blk h.blk) hcell2 (by rw [cell_blk f2]; exact f4) (by rw [em]; exact hz)).mono ?_
    rintro e w' ⟨rfl, hs⟩
    rw [em] at hs
    have HH := fun k => (congrArg (fun H => H[k]?) hs.1).trans (HH1 k)
    refine ⟨rfl, ⟨pv, ps, h.turn (B := B) hm e1 (by rw [HH, if_pos rfl]) (page_drop f5 f6 f8 (by rw [HH, if_neg (fun e => hbB e.symm), if_pos rfl]) p1 p2 hi64 p4) ?_ (by decide) (by decide) (by decide)⟩, ?_⟩
    · intro k hkb hkB o ho
      rw [HH, if_neg hkb, if_neg hkB]; exact ho
    · refine ⟨hs.2.1, hs.2.2.1, hs.2.2.2, by rw [hs.1]; simp [World.setCell], fun k o hk ho => ?_⟩
      rw [HH]
      by_cases kb : k = b
      · subst kb; rw [h.blk] at hk; simp only [Option.some.injEq] at hk; subst hk; rcases ho with ho | ho
        · have := h.hb; omega
        · simp [tagged] at ho
      · rw [if_neg kb]
        by_cases kB : k = B
        · subst kB; rw [f2] at hk; simp only [Option.some.injEq] at hk; subst hk; rcases ho with ho | ho
          · omega
          · simp [tagged] at ho
        · rw [if_neg kB]; exact hk
  | true =>
    refine (drop_last b B g ps.length cap id count there w (by omega) (by omega) (by omega) (by omega) (by omega) hc1 hc2 hbB hbg hgB hc _ (by rw [em, cell_blk f2]; exact Array.getElem?_eq_getElem (by omega)) (fun o => frz_blk f2) (frz_blk h.blk) (fun o => frz_blk b3) hcell2 (by rw [a3, a2]) (by rw [ed, a5]; rfl) (by rw [cell_blk f2]; exact f4) (by rw [em]; exact hz)).mono ?_
    rintro e w' ⟨rfl, hs⟩
    rw [em, ed] at hs
    have HH : ∀ k, w'.heap[k]? = if k = g then some (.cells (cur.setIfInBounds ((id - 1).toNat / 64) (.pointer none)) 72 (0,0)) else
        if k = b then some (.cells #[pv, .int .i64 (last:Int), .int .i64 (count-1)] 65 (0,0)) else if k = B then some (.cells ((cs.setIfInBounds ((id - 1).toNat % 64) (.string ⟨#[]⟩)).setIfInBounds 64 (.int .u64 (bits .andNot .u64 there (IntKind.u64.wrap (2 ^ ((id - 1).toNat % 64)))))) 76 (0,0)) else w.heap[k]? := by
      intro k
      rw [hs.1, heap_set (cs := cur) (t := 72) (by rw [HH1, if_neg (fun e => hbg e.symm), if_neg hgB]; exact b3), HH1]
    refine ⟨rfl, ⟨pv, ps.set ((id - 1).toNat / 64) none, h.gone hm e1 (by rw [HH, if_neg hbg, if_pos rfl]) ?_ ?_ ?_⟩, ?_⟩
    · have hr := h.row
      rw [a2] at hr ⊢
      have hr2 := (hr.stored ((id - 1).toNat / 64) (.pointer none)).1
      rcases hr2.2 with hn | ⟨g', cap', cur', c1, c2, c3, c4⟩
      · simp at hn
      · refine ⟨hr2.1, .inr ⟨g', cap', cur', c1, c2, ?_, c4⟩⟩
        simp only [Value.slice.injEq, Option.some.injEq, Addr.mk.injEq, and_true, true_and] at c1
        obtain ⟨rfl, rfl⟩ := c1
        rw [heap_set b3, if_pos rfl] at c3
        rw [HH, if_pos rfl]; exact c3
    · intro i hi hne
      obtain ⟨q1, q2, q3⟩ := bit_clear there ((id - 1).toNat % 64) hi64 f5 f6
      have := bits_zero _ q1 hz i
      rw [q3 i hi, (f8 i hi).1] at this
      have hd : decide ((id - 1).toNat % 64 = i) = false := decide_eq_false (fun e => hne e.symm)
      rw [hd, Bool.not_false, Bool.and_true] at this
      simpa using this
    · intro j B' hj hB'
      have hne : B' ≠ B := fun e => hj (h.uniq j _ B (by rw [← e]; exact hB') e1)
      obtain ⟨_, cs', th', x2, _⟩ := h.page j B' hB'
      rw [HH, if_neg (fun e => by rw [e, b3] at x2; simp at x2), if_neg (fun e => by rw [e, h.blk] at x2; simp at x2), if_neg hne]
    · refine ⟨hs.2.1, hs.2.2.1, hs.2.2.2, by rw [hs.1]; simp [World.setCell], fun k o hk ho => ?_⟩
      rw [HH]
      by_cases kg : k = g
      · subst kg; rw [b3] at hk; simp only [Option.some.injEq] at hk; subst hk; rcases ho with ho | ho
        · omega
        · simp [tagged] at ho
      · rw [if_neg kg]
        by_cases kb : k = b
        · subst kb; rw [h.blk] at hk; simp only [Option.some.injEq] at hk; subst hk; rcases ho with ho | ho
          · have := h.hb; omega
          · simp [tagged] at ho
        · rw [if_neg kb]
          by_cases kB : k = B
          · subst kB; rw [f2] at hk; simp only [Option.some.injEq] at hk; subst hk; rcases ho with ho | ho
            · omega
            · simp [tagged] at ho
          · rw [if_neg kB]; exact hk

end Go.Proofs.Ytkaldclkpdjalaa.AS
