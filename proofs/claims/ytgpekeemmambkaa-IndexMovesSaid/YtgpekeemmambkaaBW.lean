/- The bucket's methods: all, close. -/
import Derived.Test.YtgpekeemmambkaaProg
import Derived.Test.YtgpekeemmambkaaIXO
import Derived.WalkKit
import Derived.WalkSpells
import Derived.WalkLawsBesides
import Derived.Deep.QuietTactic
import Derived.BigQuiet
import Derived.BigRegion
import Derived.Lib.Hide
import Derived.StillTailTactics
import Derived.DeepKeys4
namespace Go.Proofs.Ytgpekeemmambkaa
open Go.RowKit Go.ChangeMaps Go.MapKept

theorem wpStill_look {P : Program} {ops : Array Oper} {w : World} {Q : Act → Prop} {a : Act} {o : Oper} {rest : List Oper} (hg : o.guard = none) (m x : Operand) (t : TypeId) (c : Bool) (hop : o.op = Op.lookup t m x c) (b : Nat) (key : Value) (hm : a.eval m = .map (some b)) (hx : a.eval x = key) (v : Value)
    (hrun : (Instr.lookup t (.map (some b)) key c).run P w = .ok v w) (hK : wpStill P ops w Q rest (a.put o.dst v)) : wpStill P ops w Q (o :: rest) a := by
  refine wpStill_step fun K hK' => ?_
  rw [if_pos (by simp [Region.wanted, hg])]
  unfold Oper.still
  simp [execOp, hop, hm, hx, hrun, Result.andThen, Oper.stillUpon]
  exact hK' _ hK
theorem zero56 (w : World) : (zeroValue 56).run Try.prog w = .ok (.pointer none) w := by kernel_rfl

abbrev Bkt := BkIn Try.prog 3 60
theorem zero63 (w : World) : (zeroValue 63).run Try.prog w = .ok (.agg #[]) w := by kernel_rfl
theorem zero3 (w : World) : (zeroValue 3).run Try.prog w = .ok (.int .i64 0) w := by kernel_rfl
theorem info3 : (Try.prog.info? 3).map (fun i => (i.zero, i.size, i.bytes)) = some (some (.int .i64 0), 1, 8) := by kernel_rfl

theorem RowC.alloc {w : World} {e : TypeId} {v : Value} {go : Option Nat} {xs : List Value} (h : RowC w e v go xs) (o : Obj) : RowC (w.alloc o) e v go xs := h.frame fun g hg => Below.heap_alloc _ _ _ (h.lt g hg)

theorem wpList_make {P : Program} {w : World} {ops : Array Oper} {rest : List Oper} {o : Oper} {a : Act} {Q : Exit → Act → World → Prop} (hg : o.guard = none) (t : TypeId) (hop : o.op = Op.makeMap t none)
    (hK : wpList P ops Q rest (a.put o.dst (.map (some w.heap.size))) (w.alloc (.map #[] 0))) : wpList P ops Q (o :: rest) a w := by
  refine wpList_plain hg fun K' hK' => ?_
  unfold Oper.wp
  simp [execOp, hop, Instr.makeMap, Result.andThen]
  exact hK' _ _ hK
/-- What all leaves. -/
def AllPost (w : World) (xs : List Int) (e : Ending) (w' : World) : Prop :=
  ∃ v go, e = .returned v ∧ RowC w' 3 v go (xs.map (Value.int .i64)) ∧ FP nob w w' ∧ ∀ g, go = some g → w.heap.size ≤ g

set_option maxHeartbeats 1600000 in
theorem all_any {w : World} {r : BR} {N : Nat} (h : Bkt w r N) (hN : N < 1099511627776) : Calls Try.prog 37 #[.pointer (some ⟨r.B, 0, none⟩)] w (AllPost w r.ids) := by
  obtain ⟨pv, hblk, hrow⟩ := h.blk
  obtain ⟨ao, cap, hpv, hcp⟩ := hrow.shape
  clear hcp
  have hlt : r.B < w.heap.size := lt_blk hblk
  obtain ⟨n, hn⟩ : ∃ n, r.l.length = n := ⟨_, rfl⟩
  have hnl : n < 1099511627776 := by have := h.len; omega
  rw [List.length_map, hn] at hpv
  have HN := Lib.hid hn
  have HR := Lib.hid hrow
  have HB := Lib.hid hblk
  have HH := Lib.hid h
  have c0 : w.cell? ⟨r.B, 0, none⟩ = some (.slice ao n cap) := by rw [← hpv]; exact cell_blk hblk
  clear hn hrow hblk h
  have HPV := Lib.hid hpv
  clear hpv
  obtain ⟨i0, hi, hz0, hz1, hz2⟩ := info_parts info3
  go_enter Try.func37, Try.ntmps37
  go_wp2
  go_loopw [3, 13] (fun out i wr => ∃ (k : Nat) (go : Option Nat), k ≤ n ∧ i = .int .i64 k ∧ Hid (RowC wr 3 out go ((live r.s (r.l.take k)).map (Value.int .i64))) ∧ Hid (FP nob w wr) ∧ Hid (∀ g, go = some g → w.heap.size ≤ g)) (fun _ i _ => n - (intOf i).toNat)
  case atStart => exact ⟨0, none, Nat.zero_le _, rfl, .inl ⟨rfl, rfl, rfl⟩, FP.refl _ _, fun g hg => by simp at hg⟩
  case round =>
    obtain ⟨k, go, hk, rfl, HO, HF, HG⟩ := hrel
    by_cases hlt2 : k < n
    · obtain ⟨g, cap', e1, e2, e3, e4⟩ := HR.out.at_ (by rw [List.length_map, HN.out]; omega)
      rw [HPV.out] at e1
      simp only [Value.slice.injEq] at e1
      obtain ⟨rfl, hq1, hq2⟩ := e1
      clear hq1 hq2
      have hblkw : wr.heap[r.B]? = w.heap[r.B]? := HF.out.blk _ hlt (fun h => h)
      have hg := HR.out.lt g e2
      have hrw : wr.heap[g]? = w.heap[g]? := HF.out.blk _ hg (fun h => h)
      have c1 : wr.cell? ⟨r.B, 1, none⟩ = some (.map (some r.hb)) := by rw [cell_blk (hblkw.trans HB.out)]; rfl
      obtain ⟨x, hx⟩ : ∃ x, r.l[k]? = some x := ⟨_, List.getElem?_eq_getElem (by rw [HN.out]; exact hlt2)⟩
      have c2 : wr.cell? ⟨g, k, none⟩ = some (.int .i64 x) := by
        rw [World.cell?_of_block (w := w) hrw, e4 k (by rw [List.length_map, HN.out]; exact hlt2), List.getElem?_map, hx]; rfl
      have hsl : r.hb < w.heap.size := HH.out.lt _ (.inr (.inr (.inl rfl)))
      have hrun := (HH.out.hm.frame (HF.out.blk _ hsl (fun h => h))).look_ok Try.underlying3 Try.underlying58 (zero63 wr) (id := (k : Int)) ⟨by omega, by omega⟩
      have hxl : x = r.l[k]'(by rw [HN.out]; exact hlt2) := by rw [List.getElem?_eq_getElem (by rw [HN.out]; exact hlt2)] at hx; simpa using hx.symm
      have hsucc := live_take_succ r.s r.l k (by rw [HN.out]; exact hlt2)
      rw [← hxl] at hsucc
      have HS := Lib.hid hsucc
      have HRUN := Lib.hid hrun
      clear hsucc hxl hx e2 e3 e4 hblkw hrw hg hsl hrun
      obtain ⟨b, hb⟩ : ∃ b, r.s k = b := ⟨_, rfl⟩
      have hrun := HRUN.out
      rw [hb] at hrun
      have HBB := Lib.hid hb
      clear hb HRUN
      have hlenk : ((live r.s (r.l.take k)).map (Value.int .i64)).length < 1099511627776 := by
        rw [List.length_map]; have := liveFrom_length_le r.s (r.l.take k) 0; unfold live; have h2 := List.length_take_le k r.l; omega
      have HLK := Lib.hid hlenk
      clear hlenk
      have hg1 : ∀ g, go = some g → g < wr.heap.size := HO.out.lt
      have HG1 := Lib.hid hg1
      clear hg1
      cases b with
      | true =>
        go_wp2
        go_roundw
        case rel =>
          refine ⟨k + 1, go, by omega, by go_num, ?_, HF.out.alloc _, HG.out⟩
          have hs := HS.out
          rw [HBB.out, if_pos rfl, List.append_nil] at hs
          rw [hs]; exact HO.out.alloc _
        case measure => simp [intOf]; omega
      | false =>
        go_wp2_with (at_builtin; refine wpList_append_c rfl (.tmp 29) (.tmp 31) 36 rfl 3 i0 (.int .i64 0) Try.underlying36 hi hz0 hz1 hz2 rfl _ go _ rfl ((HO.out.alloc _).alloc _) ⟨wr.heap.size + 1, 0, none⟩ 1 (.int .i64 x) rfl (by rw [cell_blk (heap_new_at (by simp) _)]; rfl) rfl HLK.out ?_; intro v' g' w1 hrow' hfp' hg')
        go_roundw
        case rel =>
          refine ⟨k + 1, some g', by omega, by go_num, ?_, ?_, ?_⟩
          · have hs := HS.out
            rw [HBB.out, if_neg (by decide)] at hs
            rw [hs, List.map_append]; exact hrow'
          · exact (((HF.out.alloc _).alloc _).trans hfp' (fun i hi => .inr (HG.out i hi)))
          · intro q hq
            simp only [Option.some.injEq] at hq
            subst hq
            have hsz := HF.out.size
            rcases hg' with e | e
            · exact HG.out _ e
            · simp at e; omega
        case measure => simp [intOf]; omega
    · obtain rfl : k = n := by omega
      go_wp2
      go_ret
      refine ⟨_, go, rfl, ?_, HF.out, HG.out⟩
      have := HO.out
      rw [List.take_of_length_le (by rw [HN.out]; exact Nat.le_refl _)] at this
      exact this

/-- What close leaves. -/
def ClosePost (w : World) (r : BR) (N : Nat) (e : Ending) (w' : World) : Prop :=
  e = .returned (.tuple #[]) ∧ ∃ r' : BR, r'.B = r.B ∧ Bkt w' r' N ∧ r'.ids = r.ids ∧ (r'.l = [] ↔ r.ids = []) ∧ FP r.fp w w' ∧ ∀ i, r'.fp i → r.fp i ∨ w.heap.size ≤ i

/-- The first loop's relation: holes at the end are let go. -/
def CutRel (w : World) (r : BR) (N : Nat) (wr : World) (r1 : BR) : Prop :=
  r1.B = r.B ∧ r1.g = r.g ∧ r1.hb = r.hb ∧ r1.ab = r.ab ∧ Bkt wr r1 N ∧ r1.ids = r.ids ∧ FP r.fp w wr

theorem cut_turn {w wr w2 : World} {r r1 : BR} {N m g cap1 : Nat} (HC : CutRel w r N wr r1) (hm : r1.l.length = m) (hm0 : 0 < m) (hb : r1.s ((m : Int) - 1) = true)
    (hblk : wr.heap[r.B]? = some (.cells #[.slice (some ⟨g, 0, none⟩) m cap1, .map (some r1.hb), .map (some r1.ab)] 60 (0,0))) (hrow : RowC wr 3 (.slice (some ⟨g, 0, none⟩) m cap1) r1.g (r1.l.map (Value.int .i64)))
    (hs2 : SetI Try.prog 3 w2 r1.hb (updB r1.s ((m : Int) - 1) false) N) (hf2 : FP (fun k => k = r1.hb) (wr.alloc (.cells #[] 63)) w2) :
    CutRel w r N (w2.setCell ⟨r.B, 0, none⟩ (.slice (some ⟨g, 0, none⟩) (m - 1) (m - 1))) { r1 with l := r1.l.take (m - 1), s := updB r1.s ((m : Int) - 1) false } := by
  obtain ⟨e1, e2, e3, e4, hb1, hi1, hf1⟩ := HC
  obtain ⟨a1, a2, a3, a4, a5⟩ := hb1.apart (by decide)
  rw [e1] at a1 a2 a3
  have hB := lt_blk hblk
  have old : ∀ k, k < wr.heap.size → k ≠ r1.hb → w2.heap[k]? = wr.heap[k]? := fun k hk hne => by
    rw [hf2.blk k (by simp; omega) hne, Below.heap_alloc _ _ _ hk]
  have hB2 : w2.heap[r.B]? = some (.cells #[.slice (some ⟨g, 0, none⟩) m cap1, .map (some r1.hb), .map (some r1.ab)] 60 (0,0)) := (old _ hB (fun e => a2 e.symm)).trans hblk
  have em : ((m - 1 : Nat) : Int) = (m : Int) - 1 := by omega
  obtain ⟨k1, k2⟩ := hb1.bk.cut (n := m - 1) (by omega) (by rw [em]; exact hb)
  rw [em] at k1 k2
  refine ⟨e1, e2, e3, e4, ⟨⟨.slice (some ⟨g, 0, none⟩) (m - 1) (m - 1), ?_, ?_⟩, ?_, ?_, hb1.hne, ?_, k1⟩, ?_, ?_⟩
  · show (w2.setCell _ _).heap[r1.B]? = _
    rw [e1, heap_set hB2, if_pos rfl]; rfl
  · have := RowC.cut hrow (m - 1) (by omega)
    rw [← List.map_take] at this
    refine this.frame fun q hq => ?_
    have hqB : q ≠ r.B := fun e => a1 (by rw [← e]; exact hq)
    have hqh : q ≠ r1.hb := fun e => a4 (by rw [← e]; exact hq)
    rw [heap_set_ne hqB, old q (hb1.lt q (.inr (.inl hq))) hqh]
  · exact hs2.frame (heap_set_ne (fun e => a2 e))
  · exact hb1.am.frame (by
      show (w2.setCell _ _).heap[r1.ab]? = _
      rw [heap_set_ne (fun e => a3 e), old r1.ab (hb1.lt _ (.inr (.inr (.inr rfl)))) (fun e => hb1.hne e.symm)])
  · have := hb1.len; show (r1.l.take (m - 1)).length ≤ N; rw [List.length_take]; omega
  · exact k2.trans hi1
  · refine FP.set ((hf1.alloc _).trans hf2 (fun i hi => .inl ?_)) _ (.inl (.inl rfl))
    rw [hi]; exact .inr (.inr (.inl e3))

/-- close, where few are holes. -/
theorem close_stays {w wr w2 : World} {r r1 : BR} {N : Nat} (HC : CutRel w r N wr r1) (hm : r1.l.length = 0 ∨ ∃ n, r1.l.length = n + 1 ∧ r1.s (n : Int) = false) (hs : Same wr w2) : ClosePost w r N (.returned (.tuple #[])) w2 := by
  obtain ⟨e1, e2, e3, e4, hb1, hi1, hf1⟩ := HC
  refine ⟨rfl, r1, e1, hb1.frame (fun _ _ => by rw [hs.1]), hi1, ?_, hf1.same hs, fun i hi => .inl ?_⟩
  · rcases hm with hm | ⟨n, hm, hn⟩
    · have : r1.l = [] := List.eq_nil_of_length_eq_zero hm
      refine ⟨fun _ => ?_, fun _ => this⟩
      rw [← hi1]; show live r1.s r1.l = []; rw [this]; rfl
    · refine ⟨fun e => ?_, fun e => ?_⟩
      · rw [e] at hm; simp at hm
      · rw [← hi1] at e; exact absurd e (live_ne_nil r1.l r1.s hm hn)
  · rcases hi with h | h | h | h
    · exact .inl (h.trans e1)
    · exact .inr (.inl (by rw [← e2]; exact h))
    · exact .inr (.inr (.inl (h.trans e3)))
    · exact .inr (.inr (.inr (h.trans e4)))

/-- close, with the bucket laid anew. -/
theorem close_anew {w wr wq w1 w3 : World} {r r1 : BR} {N hb : Nat} {v pv1 : Value} {go : Option Nat} (HC : CutRel w r N wr r1) (hs : Same wr wq)
    (hblk : wr.heap[r.B]? = some (.cells #[pv1, .map (some r1.hb), .map (some r1.ab)] 60 (0,0)))
    (hrow : RowC w1 3 v go (r1.ids.map (Value.int .i64))) (hfp : FP nob wq w1) (hlt : ∀ g, go = some g → wq.heap.size ≤ g) (hhb : hb = w1.heap.size)
    (hf3 : FP (fun k => k = r1.ab) (((w1.alloc (.map #[] 0)).setCell ⟨r.B, 0, none⟩ v).setCell ⟨r.B, 1, none⟩ (.map (some hb))) w3)
    (hm3 : MapI Try.prog 3 w3 r1.ab (reset r1.ids r1.f r1.ids.length) N) : ClosePost w r N (.returned (.tuple #[])) w3 := by
  obtain ⟨e1, e2, e3, e4, hb1, hi1, hf1⟩ := HC
  subst hhb
  have hz : wq.heap = wr.heap := hs.1
  obtain ⟨a1, a2, a3, a4, a5⟩ := hb1.apart (by decide)
  rw [e1] at a1 a2 a3
  have hB := lt_blk hblk
  have hab := hb1.lt r1.ab (.inr (.inr (.inr rfl)))
  have hsz : wr.heap.size ≤ w1.heap.size := by have := hfp.size; rw [hz] at this; exact this
  have old : ∀ k, k < wr.heap.size → k ≠ r.B → k ≠ r1.ab → w3.heap[k]? = wr.heap[k]? := fun k hk hne hna => by
    rw [hf3.blk k (by simp [size_set]; omega) hna, heap_set_ne hne, heap_set_ne hne, Below.heap_alloc _ _ _ (by omega), hfp.blk k (by rw [hz]; exact hk) (fun h => h), hz]
  have hB1 : w1.heap[r.B]? = some (.cells #[pv1, .map (some r1.hb), .map (some r1.ab)] 60 (0,0)) := by rw [hfp.blk r.B (by rw [hz]; exact hB) (fun h => h), hz]; exact hblk
  have hBa := (Below.heap_alloc w1 (.map #[] 0) _ (lt_blk hB1)).trans hB1
  have hB2 : ((w1.alloc (.map #[] 0)).setCell ⟨r.B, 0, none⟩ v).heap[r.B]? = some (.cells #[v, .map (some r1.hb), .map (some r1.ab)] 60 (0,0)) := by rw [heap_set hBa, if_pos rfl]; rfl
  have hB3 : (((w1.alloc (.map #[] 0)).setCell ⟨r.B, 0, none⟩ v).setCell ⟨r.B, 1, none⟩ (.map (some w1.heap.size))).heap[r.B]? = some (.cells #[v, .map (some w1.heap.size), .map (some r1.ab)] 60 (0,0)) := by rw [heap_set hB2, if_pos rfl]; rfl
  have hN1 : w1.heap.size ≠ r.B := by have := lt_blk hB1; omega
  have hnew : w3.heap[w1.heap.size]? = some (.map #[] 0) := by
    rw [hf3.blk _ (by simp [size_set]) (by omega), heap_set_ne hN1, heap_set_ne hN1, heap_new_at rfl]
  have hmem : ∀ {x}, x ∈ r1.ids → x ∈ r1.l := fun {x} hx => by
    obtain ⟨i, hi, _⟩ := (mem_live r1.s x r1.l).1 hx
    exact List.mem_of_getElem? hi
  refine ⟨rfl, ⟨r.B, go, w1.heap.size, r1.ab, r1.ids, fun _ => false, reset r1.ids r1.f r1.ids.length⟩, rfl, ⟨⟨v, ?_, ?_⟩, ?_, hm3, ?_, ?_, ?_⟩, ?_, ?_, ?_, ?_⟩
  · show w3.heap[r.B]? = _
    rw [hf3.blk _ (lt_blk hB3) (fun e => a3 e.symm)]; exact hB3
  · refine hrow.frame fun g hg => ?_
    have h1 := hlt g hg
    rw [hz] at h1
    have h2 := hrow.lt g hg
    have h3 : g ≠ r.B := by omega
    rw [hf3.blk g (by simp [size_set]; omega) (by omega), heap_set_ne h3, heap_set_ne h3, Below.heap_alloc _ _ _ h2]
  · exact (SetI.new (P := Try.prog) (IT := 3) hnew).mono (Nat.zero_le _)
  · show w1.heap.size ≠ r1.ab
    omega
  · exact Nat.le_trans (liveFrom_length_le r1.s r1.l 0) hb1.len
  · exact hb1.bk.rebuilt
  · show live (fun _ => false) r1.ids = r.ids
    rw [live_all]; exact hi1
  · show r1.ids = [] ↔ _
    rw [hi1]
  · have hw1 : FP r.fp w w1 := (hf1.same hs).trans hfp (fun _ h => h.elim)
    have hws := (((hw1.alloc (.map #[] 0)).set (p := ⟨r.B, 0, none⟩) v (.inl (.inl rfl))).set (p := ⟨r.B, 1, none⟩) (.map (some w1.heap.size)) (.inl (.inl rfl)))
    exact hws.trans hf3 (fun i hi => .inl (by rw [hi, e4]; exact .inr (.inr (.inr rfl))))
  · have hw := hf1.size
    rintro i (h | h | h | h)
    · exact .inl (.inl h)
    · have := hlt i h; rw [hz] at this; right; omega
    · right; have : i = w1.heap.size := h; omega
    · exact .inl (.inr (.inr (.inr (Eq.trans h e4))))

theorem close_cells {w wr wq w1 WS : World} {r r1 : BR} {N n2 cap hb : Nat} {ao : Option Addr} {pv1 : Value} {go : Option Nat} (HC : CutRel w r N wr r1) (hs : Same wr wq)
    (hblk : wr.heap[r.B]? = some (.cells #[pv1, .map (some r1.hb), .map (some r1.ab)] 60 (0,0)))
    (hrow : RowC w1 3 (.slice ao n2 cap) go (r1.ids.map (Value.int .i64))) (hfp : FP nob wq w1) (hlt : ∀ g, go = some g → wq.heap.size ≤ g)
    (hws : ((w1.alloc (.map #[] 0)).setCell ⟨r.B, 0, none⟩ (.slice ao n2 cap)).setCell ⟨r.B, 1, none⟩ (.map (some hb)) = WS) :
    (∀ wl, FP (fun k => k = r1.ab) WS wl → wl.cell? ⟨r.B, 2, none⟩ = some (.map (some r1.ab))) ∧
    (∀ wl (k : Nat), FP (fun k => k = r1.ab) WS wl → k < n2 → ∃ g x, ao = some ⟨g, 0, none⟩ ∧ wl.cell? ⟨g, k, none⟩ = some (.int .i64 x) ∧ r1.ids[k]? = some x) ∧
    MapI Try.prog 3 WS r1.ab r1.f N := by
  obtain ⟨e1, e2, e3, e4, hb1, hi1, hf1⟩ := HC
  have hz : wq.heap = wr.heap := hs.1
  obtain ⟨a1, a2, a3, a4, a5⟩ := hb1.apart (by decide)
  rw [e1] at a1 a2 a3
  have hB := lt_blk hblk
  have hab := hb1.lt r1.ab (.inr (.inr (.inr rfl)))
  have hsz : wr.heap.size ≤ w1.heap.size := by have := hfp.size; rw [hz] at this; exact this
  have hB1 : w1.heap[r.B]? = some (.cells #[pv1, .map (some r1.hb), .map (some r1.ab)] 60 (0,0)) := by rw [hfp.blk r.B (by rw [hz]; exact hB) (fun h => h), hz]; exact hblk
  have hBa := (Below.heap_alloc w1 (.map #[] 0) _ (lt_blk hB1)).trans hB1
  have hB2 : ((w1.alloc (.map #[] 0)).setCell ⟨r.B, 0, none⟩ (.slice ao n2 cap)).heap[r.B]? = some (.cells #[.slice ao n2 cap, .map (some r1.hb), .map (some r1.ab)] 60 (0,0)) := by rw [heap_set hBa, if_pos rfl]; rfl
  have hB3 : WS.heap[r.B]? = some (.cells #[.slice ao n2 cap, .map (some hb), .map (some r1.ab)] 60 (0,0)) := by rw [← hws, heap_set hB2, if_pos rfl]; rfl
  refine ⟨fun wl hl => ?_, fun wl k hl hk => ?_, ?_⟩
  · rw [cell_blk ((hl.blk _ (lt_blk hB3) (fun e => a3 e.symm)).trans hB3)]; rfl
  · have hlen : (r1.ids.map (Value.int .i64)).length = n2 := by
      obtain ⟨ao', cap', h, _⟩ := hrow.shape
      simp only [Value.slice.injEq] at h
      exact h.2.1.symm
    have hlen' := hlen
    rw [List.length_map] at hlen'
    obtain ⟨g, cap', q1, q2, q3, q4⟩ := hrow.at_ (by omega)
    simp only [Value.slice.injEq] at q1
    have hg := hlt g q2
    rw [hz] at hg
    have hg2 := hrow.lt g q2
    have hgB : g ≠ r.B := by omega
    have hx : r1.ids[k]? = some (r1.ids[k]'(by omega)) := List.getElem?_eq_getElem _
    have hgs : wl.heap[g]? = w1.heap[g]? := by
      rw [hl.blk g (by rw [← hws]; simp [size_set]; omega) (by omega), ← hws, heap_set_ne hgB, heap_set_ne hgB, Below.heap_alloc _ _ _ hg2]
    refine ⟨g, r1.ids[k]'(by omega), q1.1, ?_, hx⟩
    rw [World.cell?_of_block (w := w1) hgs, q4 k (by omega), List.getElem?_map, hx]; rfl
  · refine hb1.am.frame ?_
    rw [← hws, heap_set_ne a3, heap_set_ne a3, Below.heap_alloc _ _ _ (by omega), hfp.blk _ (by rw [hz]; exact hab) (fun h => h), hz]

set_option maxHeartbeats 1600000 in
theorem close_any {w : World} {r : BR} {N : Nat} (h : Bkt w r N) (hN : N < 1099511627776) : Calls Try.prog 36 #[.pointer (some ⟨r.B, 0, none⟩)] w (ClosePost w r N) := by
  obtain ⟨pv, hblk, hrow⟩ := h.blk
  obtain ⟨ao, cap, hpv, hcp⟩ := hrow.shape
  rw [List.length_map] at hpv
  have c0 : w.cell? ⟨r.B, 0, none⟩ = some (.slice ao r.l.length cap) := by rw [← hpv]; exact cell_blk hblk
  have hll : r.l.length < 1099511627776 := by have := h.len; omega
  have HH := Lib.hid h
  clear hcp hblk hrow hpv h
  go_enter Try.func36, Try.ntmps36
  go_wp2
  go_loopw [2] (fun n wr => ∃ r1 : BR, n = .int .i64 r1.l.length ∧ Hid (CutRel w r N wr r1)) (fun n _ => (intOf n).toNat)
  case atStart => exact ⟨r, rfl, rfl, rfl, rfl, rfl, HH.out, rfl, FP.refl _ _⟩
  case round =>
    obtain ⟨r1, rfl, HC⟩ := hrel
    obtain ⟨e1, e2, e3, e4, hb1, hi1, hf1⟩ := HC.out
    obtain ⟨pv1, hblk1, hrow1⟩ := hb1.blk
    rw [e1] at hblk1
    have d1 : wr.cell? ⟨r.B, 1, none⟩ = some (.map (some r1.hb)) := by rw [cell_blk hblk1]; rfl
    have hlt1 : r.B < wr.heap.size := lt_blk hblk1
    have hf1b : ∀ o, wr.frozen? ⟨r.B, o, none⟩ = false := fun o => frz_blk hblk1
    have hlen1 : r1.l.length < 1099511627776 := by have := hb1.len; omega
    have HB1 := Lib.hid hb1
    have HBLK1 := Lib.hid hblk1
    have HROW1 := Lib.hid hrow1
    obtain ⟨m, hm⟩ : ∃ m, r1.l.length = m := ⟨_, rfl⟩
    clear e1 e2 e3 e4 hb1 hi1 hf1 hblk1
    rw [hm] at hlen1 ⊢
    have HM := Lib.hid hm
    clear hm
    by_cases hm0 : 0 < m
    · obtain ⟨b, hb⟩ : ∃ b, r1.s ((m : Int) - 1) = b := ⟨_, rfl⟩
      have hrun := HB1.out.hm.look_ok Try.underlying3 Try.underlying58 (zero63 wr) (id := (m : Int) - 1) ⟨by omega, by omega⟩
      rw [hb] at hrun
      have HBB := Lib.hid hb
      clear hb hrow1
      cases b with
      | true =>
        have hd := (SetI.frame (w' := wr.alloc (.cells #[] 63)) HB1.out.hm (Below.heap_alloc _ _ _ (HB1.out.lt _ (.inr (.inr (.inl rfl)))))).drop Try.underlying3 Try.underlying58 (id := (m : Int) - 1) ⟨by omega, by omega⟩
        have HD := Lib.hid hd
        clear hd
        obtain ⟨g, cap1, q1, q2, q3, q4⟩ := HROW1.out.at_ (by rw [List.length_map, HM.out]; exact hm0)
        rw [List.length_map, HM.out] at q1
        have hne := (HB1.out.apart (by decide)).2.1
        have hB1 : r1.B = r.B := HC.out.1
        rw [hB1] at hne
        have hb2 : ∀ w2, FP (fun k => k = r1.hb) (wr.alloc (.cells #[] 63)) w2 → w2.heap[r.B]? = some (.cells #[.slice (some ⟨g, 0, none⟩) m cap1, .map (some r1.hb), .map (some r1.ab)] 60 (0,0)) := fun w2 hf => by
          rw [hf.blk _ (by simp; omega) (fun e => hne e.symm), Below.heap_alloc _ _ _ hlt1, HBLK1.out, q1]
        have HB2 := Lib.hid hb2
        have hm1 : m ≤ cap1 := by have := q3; rw [List.length_map, HM.out] at this; exact this
        have Q1 := Lib.hid q1
        have Q2 := Lib.hid q2
        clear q1 q2 q3 q4 hb2 hne hB1
        go_wp2_with (at_delete; obtain ⟨w2, hrun2, hs2, hf2⟩ := HD.out _; have hk0 : w2.cell? ⟨r.B, 0, none⟩ = some (.slice (some ⟨g, 0, none⟩) m cap1) := cell_blk (HB2.out w2 hf2); have hkf : w2.frozen? ⟨r.B, 0, none⟩ = false := frz_blk (HB2.out w2 hf2); have HS2 := Lib.hid hs2; have HF2 := Lib.hid hf2; refine wpList_drop_run rfl _ _ 58 3 rfl r1.hb _ rfl rfl w2 hrun2 ?_; clear hs2 hf2 hrun2)
        go_roundw
        case rel =>
          refine ⟨_, ?_, cut_turn (r1 := r1) HC.out HM.out hm0 HBB.out (by rw [HBLK1.out, Q1.out]) (by rw [← Q1.out]; exact HROW1.out) HS2.out HF2.out⟩
          show Value.int .i64 ((m - 1 : Nat) : Int) = Value.int .i64 (((r1.l.take (m - 1)).length : Nat) : Int)
          rw [List.length_take, HM.out, Nat.min_eq_left (by omega)]
        case measure => simp [intOf]; omega
      | false =>
        have hCA : CutRel w r N (wr.alloc (.cells #[] 63)) r1 := by
          obtain ⟨e1, e2, e3, e4, hb1, hi1, hf1⟩ := HC.out
          exact ⟨e1, e2, e3, e4, hb1.frame (fun k hk => Below.heap_alloc _ _ _ (hb1.lt k hk)), hi1, hf1.alloc _⟩
        have hBA : (wr.alloc (.cells #[] 63)).heap[r.B]? = some (.cells #[pv1, .map (some r1.hb), .map (some r1.ab)] 60 (0,0)) := (Below.heap_alloc _ _ _ hlt1).trans HBLK1.out
        have hRA : RowC (wr.alloc (.cells #[] 63)) 3 pv1 r1.g (r1.l.map (Value.int .i64)) := HROW1.out.alloc _
        have hdA : (wr.alloc (.cells #[] 63)).cell? ⟨r.B, 1, none⟩ = some (.map (some r1.hb)) := by rw [cell_blk hBA]; rfl
        have hfA : ∀ o, (wr.alloc (.cells #[] 63)).frozen? ⟨r.B, o, none⟩ = false := fun o => frz_blk hBA
        have hmm : r1.l.length = 0 ∨ ∃ n, r1.l.length = n + 1 ∧ r1.s (n : Int) = false := by
          refine .inr ⟨m - 1, by rw [HM.out]; omega, ?_⟩
          rw [show ((m - 1 : Nat) : Int) = (m : Int) - 1 by omega]; exact HBB.out
        have HMM := Lib.hid hmm
        have HCA := Lib.hid hCA
        have HBA := Lib.hid hBA
        have HRA := Lib.hid hRA
        have hltA : r.B < (wr.alloc (.cells #[] 63)).heap.size := lt_blk hBA
        obtain ⟨wA, hwA⟩ : ∃ wA, wr.alloc (.cells #[] 63) = wA := ⟨_, rfl⟩
        have HWA := Lib.hid hwA
        clear hCA hBA hRA hmm
        go_wp2_with fail
        rw [hwA] at hdA hfA hltA
        have HB2 : Hid (Bkt wA r1 N) := Lib.hid (by have := HCA.out.2.2.2.2.1; rw [hwA] at this; exact this)
        have HC2 : Hid (CutRel w r N wA r1) := Lib.hid (by rw [← hwA]; exact HCA.out)
        have HBLK2 : Hid (wA.heap[r.B]? = some (.cells #[pv1, .map (some r1.hb), .map (some r1.ab)] 60 (0,0))) := Lib.hid (by rw [← hwA]; exact HBA.out)
        have HROW2 : Hid (RowC wA 3 pv1 r1.g (r1.l.map (Value.int .i64))) := Lib.hid (by rw [← hwA]; exact HRA.out)
        have hrow2 := HROW2.out
        clear hwA HWA HCA HBA HRA d1 hlt1 hf1b HC HB1 HBLK1 HROW1 hrun
        obtain ⟨pvx, hx1, hx2⟩ := HB2.out.blk
        obtain ⟨ao1, cap1, hp1, hcp1⟩ := hrow2.shape
        rw [List.length_map, HM.out] at hp1
        have d0 : wA.cell? ⟨r.B, 0, none⟩ = some (.slice ao1 m cap1) := by rw [← hp1]; exact cell_blk HBLK2.out
        obtain ⟨DD, hD1, hD2, hD3⟩ := HB2.out.hm
        obtain ⟨sz, hsz⟩ : ∃ sz, Maps.size DD = sz := ⟨_, rfl⟩
        rw [hsz] at hD2
        have hlen : ∀ ty, (Builtin.len_ #[58] ty #[.map (some r1.hb)]).run Try.prog wA = .ok (.int .i64 sz) wA := fun ty => by rw [hD1.len Try.underlying58 ty, hsz]
        have hlenq : ∀ q ty, (Builtin.len_ #[58] ty #[.map (some r1.hb)]).run Try.prog (wA.drewN q) = .ok (.int .i64 sz) (wA.drewN q) := fun q ty => by rw [(frame_map (w' := wA.drewN q) hD1 rfl).len Try.underlying58 ty, hsz]
        clear hx1 hx2 hp1 hcp1 hD1 hD3 hsz hrow2
        by_cases ht : (sz : Int) * 2 ≤ m
        · have ht2 : decide ((sz : Int) * 2 ≤ m) = true := by simpa using ht
          clear ht
          go_wp2
          go_quiet (fail)
          go_wp2
          go_end0
          exact close_stays HC2.out (HMM.out) ⟨rfl, rfl, rfl, rfl⟩
        · have ht2 : decide ((sz : Int) * 2 ≤ m) = false := by simpa using ht
          clear ht
          go_wp2
          go_quiet (fail)
          go_wp2_with fail
          have hcall := all_any (w := wA.drewN nq) (HB2.out.frame (fun _ _ => rfl)) hN
          rw [HC2.out.1] at hcall
          refine hcall.mono ?_
          clear hcall
          intro e w1 hA
          obtain ⟨v, go, he, hrow, hfp, hlt⟩ := hA
          obtain ⟨ao, cap, hv, hcp⟩ := hrow.shape
          rw [List.length_map] at hv
          obtain ⟨n2, hn2⟩ : ∃ n2, r1.ids.length = n2 := ⟨_, rfl⟩
          rw [hn2] at hv
          have HRW := Lib.hid hrow
          have HFP := Lib.hid hfp
          have HLT := Lib.hid hlt
          have HN2 := Lib.hid hn2
          clear hrow hfp hlt hcp hn2
          subst hv
          subst he
          have e1 : w1.heap[r.B]? = some (.cells #[pv1, .map (some r1.hb), .map (some r1.ab)] 60 (0,0)) := (HFP.out.blk r.B hltA (fun h => h)).trans HBLK2.out
          have hf0 : (w1.alloc (.map #[] 0)).frozen? ⟨r.B, 0, none⟩ = false := frz_blk ((Below.heap_alloc _ _ _ (lt_blk e1)).trans e1)
          have hk0 : (w1.alloc (.map #[] 0)).cell? ⟨r.B, 0, none⟩ = some pv1 := cell_blk ((Below.heap_alloc _ _ _ (lt_blk e1)).trans e1)
          have e2 : ((w1.alloc (.map #[] 0)).setCell ⟨r.B, 0, none⟩ (.slice ao n2 cap)).heap[r.B]? = some (.cells #[.slice ao n2 cap, .map (some r1.hb), .map (some r1.ab)] 60 (0,0)) := by rw [heap_set ((Below.heap_alloc _ _ _ (lt_blk e1)).trans e1), if_pos rfl]; rfl
          have hf1 : ((w1.alloc (.map #[] 0)).setCell ⟨r.B, 0, none⟩ (.slice ao n2 cap)).frozen? ⟨r.B, 1, none⟩ = false := frz_blk e2
          have hk1 : ((w1.alloc (.map #[] 0)).setCell ⟨r.B, 0, none⟩ (.slice ao n2 cap)).cell? ⟨r.B, 1, none⟩ = some (.map (some r1.hb)) := cell_blk e2
          clear e1 e2
          go_wp2_with (refine wpList_make rfl _ rfl ?_)
          obtain ⟨WS, hWS⟩ : ∃ WS, ((w1.alloc (.map #[] 0)).setCell ⟨r.B, 0, none⟩ (.slice ao n2 cap)).setCell ⟨r.B, 1, none⟩ (.map (some w1.heap.size)) = WS := ⟨_, rfl⟩
          rw [hWS]
          have hfin : ∀ w3, FP (fun k => k = r1.ab) WS w3 → MapI Try.prog 3 w3 r1.ab (reset r1.ids r1.f n2) N → ClosePost w r N (.returned (.tuple #[])) w3 := fun w3 h1 h2 =>
            close_anew (wq := wA.drewN nq) HC2.out ⟨rfl, rfl, rfl, rfl⟩ HBLK2.out HRW.out HFP.out HLT.out rfl (by rw [hWS]; exact h1) (by rw [HN2.out]; exact h2)
          obtain ⟨hat, hel, hm0⟩ := close_cells (wq := wA.drewN nq) HC2.out ⟨rfl, rfl, rfl, rfl⟩ HBLK2.out HRW.out HFP.out HLT.out hWS
          have HFIN := Lib.hid hfin
          have HEL := Lib.hid hel
          have hndl : r1.ids.length ≤ N := Nat.le_trans (liveFrom_length_le r1.s r1.l 0) HB2.out.len
          have hsome : ∀ id, id ∈ r1.ids → (r1.f id).isSome = true := fun id h => (HB2.out.bk.isSome id).2 h
          rw [HN2.out] at hndl
          have HSOME := Lib.hid hsome
          have HM0 := Lib.hid hm0
          have HB := Lib.hid HB2.out.bk.wf
          clear hWS hfin hel hsome hm0 hf0 hk0 hf1 hk1 HRW HFP HLT HBLK2 HROW2 hltA hfA hdA d0 hlenq hlen
          go_loopw [75] (fun i wl => ∃ k : Nat, k ≤ n2 ∧ i = .int .i64 k ∧ Hid (MapI Try.prog 3 wl r1.ab (reset r1.ids r1.f k) N) ∧ Hid (FP (fun k => k = r1.ab) WS wl)) (fun i _ => n2 - (intOf i).toNat)
          case atStart => exact ⟨0, Nat.zero_le _, rfl, HM0.out, FP.refl _ _⟩
          case round =>
            obtain ⟨k, hk, rfl, HM2, HF2⟩ := hrel
            by_cases hlt2 : k < n2
            · obtain ⟨g, x, rfl, c2, hx⟩ := HEL.out _ k HF2.out hlt2
              have c1 := hat _ HF2.out
              have hkk : k < r1.ids.length := by rw [HN2.out]; exact hlt2
              have hxe : r1.ids[k] = x := by rw [List.getElem?_eq_getElem hkk] at hx; simpa using hx
              have hxm : x ∈ r1.ids := List.mem_of_getElem? hx
              have hxl : x ∈ r1.l := by
                obtain ⟨i, hi, _⟩ := (mem_live r1.s x r1.l).1 hxm
                exact List.mem_of_getElem? hi
              have hst := HM2.out.store Try.underlying3 Try.underlying57 (by omega) (id := x) (c := (k : Int)) (HB.out x hxl) ⟨by omega, by omega⟩
              rw [if_pos (by rw [reset_isSome _ _ HSOME.out]; exact HSOME.out x hxm), ← hxe, ← reset_succ _ _ _ hkk, hxe] at hst
              have HST := Lib.hid hst
              clear hst hxe hxm hxl hx hkk
              go_wp2_with (obtain ⟨w4, hrun4, hm4, hf4⟩ := HST.out; have HM4 := Lib.hid hm4; have HF4 := Lib.hid hf4; refine wpList_store_run rfl (.tmp 83) (.tmp 84) (.tmp 85) 57 rfl r1.ab (.int .i64 x) (.int .i64 k) rfl rfl rfl w4 hrun4 ?_; clear hm4 hf4 hrun4)
              go_roundw
              case rel => exact ⟨k + 1, by omega, by go_num, HM4.out, HF2.out.trans HF4.out (fun i hi => .inl hi)⟩
              case measure => simp [intOf]; omega
            · obtain rfl : k = n2 := by omega
              go_wp2
              go_end0
              exact HFIN.out _ HF2.out HM2.out
    · obtain rfl : m = 0 := by omega
      obtain ⟨pvx, hx1, hx2⟩ := HB1.out.blk
      obtain ⟨ao1, cap1, hp1, hcp1⟩ := hrow1.shape
      rw [List.length_map, HM.out] at hp1
      have d0 : wr.cell? ⟨r.B, 0, none⟩ = some (.slice ao1 0 cap1) := by rw [← hp1]; exact cell_blk HBLK1.out
      obtain ⟨DD, hD1, hD2, hD3⟩ := HB1.out.hm
      obtain ⟨sz, hsz⟩ : ∃ sz, Maps.size DD = sz := ⟨_, rfl⟩
      rw [hsz] at hD2
      have hlen : ∀ ty, (Builtin.len_ #[58] ty #[.map (some r1.hb)]).run Try.prog wr = .ok (.int .i64 sz) wr := fun ty => by rw [hD1.len Try.underlying58 ty, hsz]
      have hlenq : ∀ q ty, (Builtin.len_ #[58] ty #[.map (some r1.hb)]).run Try.prog (wr.drewN q) = .ok (.int .i64 sz) (wr.drewN q) := fun q ty => by rw [(frame_map (w' := wr.drewN q) hD1 rfl).len Try.underlying58 ty, hsz]
      clear hx1 hx2 hp1 hcp1 hD1 hD3 hsz hrow1
      by_cases ht : (sz : Int) * 2 ≤ 0
      · have ht2 : decide ((sz : Int) * 2 ≤ 0) = true := by simpa using ht
        clear ht
        go_wp2
        go_quiet (fail)
        go_wp2
        go_end0
        exact close_stays HC.out (Or.inl HM.out) ⟨rfl, rfl, rfl, rfl⟩
      · have ht2 : decide ((sz : Int) * 2 ≤ 0) = false := by simpa using ht
        clear ht
        go_wp2
        go_quiet (fail)
        go_wp2_with fail
        have hcall := all_any (w := wr.drewN nq) (HB1.out.frame (fun _ _ => rfl)) hN
        rw [HC.out.1] at hcall
        refine hcall.mono ?_
        clear hcall
        intro e w1 hA
        obtain ⟨v, go, he, hrow, hfp, hlt⟩ := hA
        obtain ⟨ao, cap, hv, hcp⟩ := hrow.shape
        rw [List.length_map] at hv
        obtain ⟨n2, hn2⟩ : ∃ n2, r1.ids.length = n2 := ⟨_, rfl⟩
        rw [hn2] at hv
        have HRW := Lib.hid hrow
        have HFP := Lib.hid hfp
        have HLT := Lib.hid hlt
        have HN2 := Lib.hid hn2
        clear hrow hfp hlt hcp hn2
        subst hv
        subst he
        have e1 : w1.heap[r.B]? = some (.cells #[pv1, .map (some r1.hb), .map (some r1.ab)] 60 (0,0)) := (HFP.out.blk r.B hlt1 (fun h => h)).trans HBLK1.out
        have hf0 : (w1.alloc (.map #[] 0)).frozen? ⟨r.B, 0, none⟩ = false := frz_blk ((Below.heap_alloc _ _ _ (lt_blk e1)).trans e1)
        have hk0 : (w1.alloc (.map #[] 0)).cell? ⟨r.B, 0, none⟩ = some pv1 := cell_blk ((Below.heap_alloc _ _ _ (lt_blk e1)).trans e1)
        have e2 : ((w1.alloc (.map #[] 0)).setCell ⟨r.B, 0, none⟩ (.slice ao n2 cap)).heap[r.B]? = some (.cells #[.slice ao n2 cap, .map (some r1.hb), .map (some r1.ab)] 60 (0,0)) := by rw [heap_set ((Below.heap_alloc _ _ _ (lt_blk e1)).trans e1), if_pos rfl]; rfl
        have hf1 : ((w1.alloc (.map #[] 0)).setCell ⟨r.B, 0, none⟩ (.slice ao n2 cap)).frozen? ⟨r.B, 1, none⟩ = false := frz_blk e2
        have hk1 : ((w1.alloc (.map #[] 0)).setCell ⟨r.B, 0, none⟩ (.slice ao n2 cap)).cell? ⟨r.B, 1, none⟩ = some (.map (some r1.hb)) := cell_blk e2
        clear e1 e2
        go_wp2_with (refine wpList_make rfl _ rfl ?_)
        obtain ⟨WS, hWS⟩ : ∃ WS, ((w1.alloc (.map #[] 0)).setCell ⟨r.B, 0, none⟩ (.slice ao n2 cap)).setCell ⟨r.B, 1, none⟩ (.map (some w1.heap.size)) = WS := ⟨_, rfl⟩
        rw [hWS]
        have hfin : ∀ w3, FP (fun k => k = r1.ab) WS w3 → MapI Try.prog 3 w3 r1.ab (reset r1.ids r1.f n2) N → ClosePost w r N (.returned (.tuple #[])) w3 := fun w3 h1 h2 =>
          close_anew (wq := wr.drewN nq) HC.out ⟨rfl, rfl, rfl, rfl⟩ HBLK1.out HRW.out HFP.out HLT.out rfl (by rw [hWS]; exact h1) (by rw [HN2.out]; exact h2)
        obtain ⟨hat, hel, hm0⟩ := close_cells (wq := wr.drewN nq) HC.out ⟨rfl, rfl, rfl, rfl⟩ HBLK1.out HRW.out HFP.out HLT.out hWS
        have HFIN := Lib.hid hfin
        have HEL := Lib.hid hel
        have hndl : r1.ids.length ≤ N := Nat.le_trans (liveFrom_length_le r1.s r1.l 0) HB1.out.len
        have hsome : ∀ id, id ∈ r1.ids → (r1.f id).isSome = true := fun id h => (HB1.out.bk.isSome id).2 h
        rw [HN2.out] at hndl
        have HSOME := Lib.hid hsome
        have HM0 := Lib.hid hm0
        have HB := Lib.hid HB1.out.bk.wf
        clear hWS hfin hel hsome hm0 hf0 hk0 hf1 hk1 HRW HFP HLT HBLK1 HROW1 hlt1 hf1b d1 d0 hlenq hlen
        go_loopw [75] (fun i wl => ∃ k : Nat, k ≤ n2 ∧ i = .int .i64 k ∧ Hid (MapI Try.prog 3 wl r1.ab (reset r1.ids r1.f k) N) ∧ Hid (FP (fun k => k = r1.ab) WS wl)) (fun i _ => n2 - (intOf i).toNat)
        case atStart => exact ⟨0, Nat.zero_le _, rfl, HM0.out, FP.refl _ _⟩
        case round =>
          obtain ⟨k, hk, rfl, HM2, HF2⟩ := hrel
          by_cases hlt2 : k < n2
          · obtain ⟨g, x, rfl, c2, hx⟩ := HEL.out _ k HF2.out hlt2
            have c1 := hat _ HF2.out
            have hkk : k < r1.ids.length := by rw [HN2.out]; exact hlt2
            have hxe : r1.ids[k] = x := by rw [List.getElem?_eq_getElem hkk] at hx; simpa using hx
            have hxm : x ∈ r1.ids := List.mem_of_getElem? hx
            have hxl : x ∈ r1.l := by
              obtain ⟨i, hi, _⟩ := (mem_live r1.s x r1.l).1 hxm
              exact List.mem_of_getElem? hi
            have hst := HM2.out.store Try.underlying3 Try.underlying57 (by omega) (id := x) (c := (k : Int)) (HB.out x hxl) ⟨by omega, by omega⟩
            rw [if_pos (by rw [reset_isSome _ _ HSOME.out]; exact HSOME.out x hxm), ← hxe, ← reset_succ _ _ _ hkk, hxe] at hst
            have HST := Lib.hid hst
            clear hst hxe hxm hxl hx hkk
            go_wp2_with (obtain ⟨w4, hrun4, hm4, hf4⟩ := HST.out; have HM4 := Lib.hid hm4; have HF4 := Lib.hid hf4; refine wpList_store_run rfl (.tmp 83) (.tmp 84) (.tmp 85) 57 rfl r1.ab (.int .i64 x) (.int .i64 k) rfl rfl rfl w4 hrun4 ?_; clear hm4 hf4 hrun4)
            go_roundw
            case rel => exact ⟨k + 1, by omega, by go_num, HM4.out, HF2.out.trans HF4.out (fun i hi => .inl hi)⟩
            case measure => simp [intOf]; omega
          · obtain rfl : k = n2 := by omega
            go_wp2
            go_end0
            exact HFIN.out _ HF2.out HM2.out
end Go.Proofs.Ytgpekeemmambkaa
