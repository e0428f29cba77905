/- The document's own book of slots: at, add, remove, bucket, keys. -/
import Derived.Test.YtgpekeemmambkaaBW
import Derived.Test.YtgpekeemmambkaaBook
namespace Go.Proofs.Ytgpekeemmambkaa
open Go.RowKit

instance decBytes : DecidableEq ByteArray := fun a b => if h : a.data = b.data then isTrue (ByteArray.ext h) else isFalse (fun e => h (by rw [e]))
abbrev Slot := ByteArray × Int
def flat (L : List Slot) : List Value := L.flatMap fun p => [.string p.1, .int .i64 p.2]
theorem flat_length : ∀ L : List Slot, (flat L).length = L.length * 2
  | [] => rfl
  | p :: L => by
    have := flat_length L
    unfold flat at this ⊢
    simp only [List.flatMap_cons, List.length_append, List.length_cons, List.length_nil, this]; omega
theorem flat_append (L M : List Slot) : flat (L ++ M) = flat L ++ flat M := by unfold flat; simp
theorem flat_take : ∀ (L : List Slot) (k : Nat), flat (L.take k) = (flat L).take (k * 2)
  | [], k => by simp [flat]
  | p :: L, 0 => by simp [flat]
  | p :: L, k + 1 => by
    have := flat_take L k
    show flat (p :: L.take k) = _
    unfold flat at this ⊢
    simp only [List.flatMap_cons, this]
    rw [show (k + 1) * 2 = k * 2 + 2 by omega]
    rfl
theorem flat_drop : ∀ (L : List Slot) (k : Nat), flat (L.drop k) = (flat L).drop (k * 2)
  | [], k => by simp [flat]
  | p :: L, 0 => by simp [flat]
  | p :: L, k + 1 => by
    have := flat_drop L k
    show flat (L.drop k) = _
    unfold flat at this ⊢
    simp only [List.flatMap_cons, this]
    rw [show (k + 1) * 2 = k * 2 + 2 by omega]
    rfl
theorem flat_at {L : List Slot} {k : Nat} {p : Slot} (h : L[k]? = some p) : (flat L)[k * 2]? = some (.string p.1) ∧ (flat L)[k * 2 + 1]? = some (.int .i64 p.2) := by
  have hd : (flat L).drop (k * 2) = flat (L.drop k) := (flat_drop L k).symm
  have hk := (List.getElem?_eq_some_iff.1 h)
  obtain ⟨hk1, hk2⟩ := hk
  rw [List.drop_eq_getElem_cons hk1, hk2] at hd
  have e0 : ((flat L).drop (k * 2))[0]? = some (.string p.1) := by rw [hd]; rfl
  have e1 : ((flat L).drop (k * 2))[1]? = some (.int .i64 p.2) := by rw [hd]; rfl
  rw [List.getElem?_drop] at e0 e1
  exact ⟨by simpa using e0, e1⟩

theorem add_mk (b o k : Nat) : (⟨b, o, none⟩ : Addr).add k = ⟨b, o + k, none⟩ := by
  unfold Addr.add; split <;> simp_all
theorem toList_inj {a b : ByteArray} (h : a.toList = b.toList) : a = b := by
  rw [ByteArray.toList_eq, ByteArray.toList_eq] at h
  have h2 : a.data = b.data := Array.ext' h
  cases a; cases b; simp at h2; rw [h2]
theorem toList_ne {a b : ByteArray} (h : a ≠ b) : ¬ a.toList = b.toList := fun e => h (toList_inj e)
theorem toList_neB {a b : ByteArray} (h : a ≠ b) : (a.toList == b.toList) = false := by simp [toList_ne h]

/-- Block bb is a book that holds L, its slots in block go. -/
def BookIn (base : Nat) (w : World) (bb : Nat) (go : Option Nat) (L : List Slot) : Prop :=
  ∃ v, w.heap[bb]? = some (.cells #[v] 30 (0,0)) ∧ w.ownsRow base 62 2 v L.length (flat L) ∧ v.ownBlock = go

section
variable {base : Nat} {w w' : World} {bb : Nat} {go : Option Nat} {L : List Slot}
theorem BookIn.row (h : BookIn base w bb go L) : ∃ ao cap, w.cell? ⟨bb, 0, none⟩ = some (.slice ao L.length cap) ∧ L.length ≤ cap ∧
    ∀ k p, L[k]? = some p → ∃ g, ao = some ⟨g, 0, none⟩ ∧ go = some g ∧ w.cell? ⟨g, k * 2, none⟩ = some (.string p.1) ∧ w.cell? ⟨g, k * 2 + 1, none⟩ = some (.int .i64 p.2) := by
  obtain ⟨v, h1, h2, h3⟩ := h
  rcases h2.2 with ⟨rfl, h4⟩ | ⟨g, cap, cur, rfl, _, h5, h6, _⟩
  · refine ⟨none, 0, ?_, by omega, fun k p hk => ?_⟩
    · rw [cell_blk h1, h4]; rfl
    · have := (List.getElem?_eq_some_iff.1 hk).1; omega
  · refine ⟨some ⟨g, 0, none⟩, cap, by rw [cell_blk h1]; rfl, h6, fun k p hk => ⟨g, rfl, h3.symm, ?_, ?_⟩⟩
    · have := h2.cells (g := g) rfl _ _ (flat_at hk).1
      rw [show ((⟨g, 0, none⟩ : Addr).add (k * 2)) = ⟨g, k * 2, none⟩ by unfold Addr.add; split <;> simp_all] at this
      exact this
    · have := h2.cells (g := g) rfl _ _ (flat_at hk).2
      rw [show ((⟨g, 0, none⟩ : Addr).add (k * 2 + 1)) = ⟨g, k * 2 + 1, none⟩ by unfold Addr.add; split <;> simp_all] at this
      exact this
theorem BookIn.frame (h : BookIn base w bb go L) (hf : ∀ k, k = bb ∨ go = some k → w'.heap[k]? = w.heap[k]?) : BookIn base w' bb go L := by
  obtain ⟨v, h1, h2, h3⟩ := h
  refine ⟨v, by rw [hf _ (.inl rfl)]; exact h1, ⟨h2.1, ?_⟩, h3⟩
  rcases h2.2 with h4 | ⟨g, cap, cur, rfl, e1, h5, h6⟩
  · exact .inl h4
  · exact .inr ⟨g, cap, cur, rfl, e1, by rw [hf _ (.inr h3.symm)]; exact h5, h6⟩
theorem BookIn.lt (h : BookIn base w bb go L) : ∀ k, k = bb ∨ go = some k → k < w.heap.size := by
  obtain ⟨v, h1, h2, h3⟩ := h
  rintro k (rfl | hk)
  · exact lt_blk h1
  · exact (h2.lt k (h3.trans hk)).2

/-- The place of the first slot that is p. -/
def AtIs (L : List Slot) (p : Slot) (r : Int) : Prop := (p ∉ L ∧ r = -1) ∨ ∃ i : Nat, L[i]? = some p ∧ (∀ j, j < i → L[j]? ≠ some p) ∧ r = i

set_option maxHeartbeats 800000 in
theorem at_any (h : BookIn base w bb go L) (hL : L.length < 1099511627776) (s : ByteArray) (id : Int) :
    Calls Try.prog 12 #[.pointer (some ⟨bb, 0, none⟩), .string s, .int .i64 id] w (fun e w' => (∃ r, e = .returned (.int .i64 r) ∧ AtIs L (s, id) r) ∧ Same w w') := by
  obtain ⟨ao, cap, c0, hcp, hat⟩ := h.row
  obtain ⟨n, hn⟩ : ∃ n, L.length = n := ⟨_, rfl⟩
  rw [hn] at c0 hL
  have HN := Lib.hid hn
  have HAT := Lib.hid hat
  clear h hat hcp hn
  go_enter Try.func12, Try.ntmps12
  go_wp2
  go_loopw [7] (fun i wl => ∃ k : Nat, k ≤ n ∧ i = .int .i64 k ∧ Hid (wl = w ∧ ∀ j, j < k → L[j]? ≠ some (s, id))) (fun i _ => n - (intOf i).toNat)
  case atStart => exact ⟨0, Nat.zero_le _, rfl, by first | rfl | trivial, fun j hj => absurd hj (Nat.not_lt_zero _)⟩
  case round =>
    obtain ⟨k, hk, rfl, HF⟩ := hrel
    have hw := HF.out.1
    subst hw
    by_cases hlt : k < n
    · obtain ⟨p, hp⟩ : ∃ p, L[k]? = some p := ⟨_, List.getElem?_eq_getElem (by rw [HN.out]; exact hlt)⟩
      obtain ⟨g, rfl, _, c1, c2⟩ := HAT.out k p hp
      obtain ⟨sk, ik⟩ := p
      have HP := Lib.hid hp
      clear hp
      by_cases e1 : sk = s
      · subst e1
        by_cases e2 : ik = id
        · subst e2
          go_wp2
          go_ret
          exact ⟨⟨_, rfl, .inr ⟨k, HP.out, HF.out.2, rfl⟩⟩, rfl, rfl, rfl, rfl⟩
        · have hb2 : (ik == id) = false := by simp [e2]
          go_wp2
          go_roundw
          case rel =>
            refine ⟨k + 1, by omega, by go_num, by first | rfl | trivial, fun j hj => ?_⟩
            by_cases hjk : j = k
            · subst hjk
              rw [HP.out]
              simp [e2]
            · exact HF.out.2 j (by omega)
          case measure => simp [intOf]; omega
      · have hb1 := toList_ne e1
        have hb3 := toList_neB e1
        go_wp2
        go_roundw
        case rel =>
          refine ⟨k + 1, by omega, by go_num, by first | rfl | trivial, fun j hj => ?_⟩
          by_cases hjk : j = k
          · subst hjk
            rw [HP.out]
            simp [e1]
          · exact HF.out.2 j (by omega)
        case measure => simp [intOf]; omega
    · obtain rfl : k = n := by omega
      go_wp2
      go_ret
      refine ⟨⟨-1, rfl, .inl ⟨fun hm => ?_, rfl⟩⟩, rfl, rfl, rfl, rfl⟩
      obtain ⟨j, hj, hje⟩ := List.getElem_of_mem hm
      exact HF.out.2 j (by rw [← HN.out]; exact hj) (by rw [List.getElem?_eq_getElem hj, hje])

theorem info62 : (Try.prog.info? 62).map (fun i => (i.zero, i.size, i.bytes)) = some (some (.agg #[.string ⟨#[]⟩, .int .i64 0]), 2, 24) := by kernel_rfl

theorem BookIn.apart (h : BookIn base w bb go L) : go ≠ some bb := by
  obtain ⟨v, h1, h2, h3⟩ := h
  intro e
  rcases h2.2 with ⟨rfl, h4⟩ | ⟨g, cap, cur, rfl, e1, h5, h6⟩
  · rw [← h3] at e; simp [Value.ownBlock] at e
  · have : g = bb := by rw [← h3] at e; simpa [Value.ownBlock] using e
    rw [this, h1] at h5; simp at h5

open Classical in
noncomputable def addL (L : List Slot) (p : Slot) : List Slot := if p ∈ L then L else L ++ [p]
open Classical in
noncomputable def hasL (L : List Slot) (p : Slot) : Bool := decide (p ∈ L)
theorem hasL_true {L : List Slot} {p : Slot} (h : p ∈ L) : hasL L p = true := by simp [hasL, h]
theorem hasL_false {L : List Slot} {p : Slot} (h : p ∉ L) : hasL L p = false := by simp [hasL, h]
theorem addL_in {L : List Slot} {p : Slot} (h : p ∈ L) : addL L p = L := by simp [addL, h]
theorem addL_out {L : List Slot} {p : Slot} (h : p ∉ L) : addL L p = L ++ [p] := by simp [addL, h]

theorem own_shape {e : TypeId} {base sz n : Nat} {v : Value} {xs : List Value} (h : w.ownsRow base e sz v n xs) : ∃ ao cap, v = .slice ao n cap := by
  rcases h.2 with ⟨rfl, h4⟩ | ⟨g, cap, cur, rfl, _⟩
  · exact ⟨none, 0, by rw [h4]⟩
  · exact ⟨_, _, rfl⟩
theorem new_cells (w : World) (cs : Array Value) (t : TypeId) : ∀ j u, cs.toList[j]? = some u → (w.alloc (.cells cs t (0,0))).cell? ((⟨w.heap.size, 0, none⟩ : Addr).add j) = some u := by
  intro j u h
  rw [show ((⟨w.heap.size, 0, none⟩ : Addr).add j) = ⟨w.heap.size, j, none⟩ by unfold Addr.add; split <;> simp_all, cell_blk (heap_new_at rfl _)]
  simpa using h
theorem one_slot (s : ByteArray) (id : Int) : ∀ u ∈ [Value.string s, Value.int .i64 id], u.oneCell' = true := by
  intro u hu
  simp only [List.mem_cons, List.not_mem_nil, or_false] at hu
  rcases hu with rfl | rfl <;> rfl
theorem one_flat (L : List Slot) : ∀ u ∈ flat L, u.oneCell' = true := by
  intro u hu
  unfold flat at hu
  obtain ⟨p, _, hp⟩ := List.mem_flatMap.1 hu
  exact one_slot _ _ u hp

/-- What a turn of the book leaves. -/
def BookPost (base : Nat) (w : World) (bb : Nat) (go : Option Nat) (L' : List Slot) (ok : Bool) (e : Ending) (w' : World) : Prop :=
  e = .returned (.bool ok) ∧ ∃ go', BookIn base w' bb go' L' ∧ FP (fun k => k = bb ∨ go = some k) w w'

set_option maxHeartbeats 800000 in
theorem badd_any (h : BookIn base w bb go L) (hbase : base ≤ w.heap.size) (hL : L.length + 1 < 1099511627776) (s : ByteArray) (id : Int) :
    Calls Try.prog 9 #[.pointer (some ⟨bb, 0, none⟩), .string s, .int .i64 id] w (BookPost base w bb go (addL L (s, id)) (!hasL L (s, id))) := by
  have hcall := at_any h (by omega) s id
  obtain ⟨i0, hi0, hz0, hz1, hz2⟩ := info_parts info62
  have HH := Lib.hid h
  clear h
  go_enter Try.func9, Try.ntmps9
  go_wp2_with fail
  refine hcall.mono ?_
  intro e w1 hA
  obtain ⟨⟨r, he, hat⟩, hs⟩ := hA
  subst he
  clear hcall
  have HS := Lib.hid hs
  rcases hat with ⟨hn, rfl⟩ | ⟨i, hi, _, rfl⟩
  · have HNN := Lib.hid hn
    obtain ⟨v, h1, h2, h3⟩ := HH.out.frame (w' := w1) (fun _ _ => by rw [hs.1])
    have hap := HH.out.apart
    have hv := own_shape h2
    obtain ⟨ao, cap, rfl⟩ := hv
    have c0 : w1.cell? ⟨bb, 0, none⟩ = some (.slice ao L.length cap) := cell_blk h1
    obtain ⟨n, hnn⟩ : ∃ n, L.length = n := ⟨_, rfl⟩
    rw [hnn] at c0 h1 h2 h3 hL
    have hbl : bb < w1.heap.size := lt_blk h1
    have HNL := Lib.hid hnn
    have H1 := Lib.hid h1
    have H2 := Lib.hid h2
    have H3 := Lib.hid h3
    have hbw : base ≤ (w1.alloc (.cells #[.string s, .int .i64 id] 62)).heap.size := by have q : w1.heap.size = w.heap.size := (by rw [hs.1]); simp; omega
    clear hn hs h1 h2 h3 hnn
    go_wp2_with (at_builtin; refine wpList_append_own _ rfl (.tmp 16) (.tmp 20) 28 rfl base 62 i0 (.agg #[.string ⟨#[]⟩, .int .i64 0]) 2 24 Try.underlying28 hi0 hz0 hz1 hz2 rfl (by omega) (.slice ao n cap) n (flat L) rfl (H2.out.alloc _) ⟨w1.heap.size, 0, none⟩ 1 1 [.string s, .int .i64 id] rfl rfl (new_cells _ _ _) (one_slot s id) (by unfold maxLen; omega) (by omega) hbw ?_; intro v' w5 hown hgr _; obtain ⟨ao5, cap5, rfl⟩ := own_shape hown; have hb5 := (hgr.block bb (by simp; omega) (fun e => hap (by rw [← H3.out]; exact e.symm))).trans ((Below.heap_alloc _ _ _ hbl).trans H1.out); have k5 : w5.frozen? ⟨bb, 0, none⟩ = false := frz_blk hb5; have k6 : w5.cell? ⟨bb, 0, none⟩ = some (.slice ao n cap) := cell_blk hb5; have HO := Lib.hid hown; have HG := Lib.hid hgr; have HB5 := Lib.hid hb5; clear hown hgr hb5)
    go_ret
    have hne : ∀ g, (Value.slice ao5 (n + 1) cap5).ownBlock = some g → g ≠ bb := by
      intro g hg e
      rcases HO.out.2 with ⟨h, h4⟩ | ⟨g', cap', cur, h, e1, h5, h6⟩
      · rw [h] at hg; simp [Value.ownBlock] at hg
      · rw [h] at hg
        have : g' = g := by simpa [Value.ownBlock] using hg
        rw [this, e, HB5.out] at h5; simp at h5
    refine ⟨by rw [hasL_false HNN.out]; rfl, (Value.slice ao5 (n + 1) cap5).ownBlock, ?_, ?_⟩
    · rw [addL_out HNN.out]
      refine ⟨.slice ao5 (n + 1) cap5, ?_, ?_, rfl⟩
      · rw [heap_set HB5.out, if_pos rfl]; rfl
      · refine ⟨by rw [flat_length], ?_⟩
        rw [flat_append, List.length_append, HNL.out]
        rcases HO.out.2 with h | ⟨g', cap', cur, h, e1, h5, h6⟩
        · exact .inl h
        · refine .inr ⟨g', cap', cur, h, e1, ?_, h6⟩
          rw [heap_set_ne (hne g' (by rw [h]; rfl))]; exact h5
    · have b1 : FP (fun k => k = bb ∨ go = some k) w w1 := FP.ofSame HS.out
      refine FP.set ((b1.alloc _).grown HG.out (fun k hk => .inl (.inr ?_))) _ (.inl (.inl rfl))
      rw [← H3.out]; exact hk
  · have hm : (s, id) ∈ L := List.mem_of_getElem? hi
    have HMM := Lib.hid hm
    clear hs hm hi
    go_wp2
    go_ret
    exact ⟨by rw [hasL_true HMM.out]; rfl, go, by rw [addL_in HMM.out]; exact HH.out.frame (fun _ _ => by rw [HS.out.1]), FP.ofSame HS.out⟩

/-- The book without the first slot that is p. -/
def EraIs (L : List Slot) (p : Slot) (L' : List Slot) : Prop := (p ∉ L ∧ L' = L) ∨ ∃ i : Nat, L[i]? = some p ∧ (∀ j, j < i → L[j]? ≠ some p) ∧ L' = L.eraseIdx i

set_option maxHeartbeats 800000 in
theorem brem_any (h : BookIn base w bb go L) (hbase : base ≤ w.heap.size) (hL : L.length + 1 < 1099511627776) (s : ByteArray) (id : Int) :
    Calls Try.prog 11 #[.pointer (some ⟨bb, 0, none⟩), .string s, .int .i64 id] w (fun e w' => ∃ L', EraIs L (s, id) L' ∧ BookPost base w bb go L' (hasL L (s, id)) e w') := by
  have hcall := at_any h (by omega) s id
  obtain ⟨i0, hi0, hz0, hz1, hz2⟩ := info_parts info62
  have HH := Lib.hid h
  clear h
  go_enter Try.func11, Try.ntmps11
  go_wp2_with fail
  refine hcall.mono ?_
  intro e w1 hA
  obtain ⟨⟨r, he, hat⟩, hs⟩ := hA
  subst he
  clear hcall
  have HS := Lib.hid hs
  rcases hat with ⟨hn, rfl⟩ | ⟨i, hi, hfst, rfl⟩
  · have HNN := Lib.hid hn
    clear hn hs
    go_wp2
    go_ret
    exact ⟨L, .inl ⟨HNN.out, rfl⟩, by rw [hasL_false HNN.out]; rfl, go, HH.out.frame (fun _ _ => by rw [HS.out.1]), FP.ofSame HS.out⟩
  · have hm : (s, id) ∈ L := List.mem_of_getElem? hi
    have hil := (List.getElem?_eq_some_iff.1 hi).1
    obtain ⟨v, h1, h2, h3⟩ := HH.out.frame (w' := w1) (fun _ _ => by rw [hs.1])
    have hap := HH.out.apart
    obtain ⟨g, cap, cur, hv, e1, e2, e3, e4, e5, e6⟩ : ∃ g cap cur, v = .slice (some ⟨g, 0, none⟩) L.length cap ∧ base ≤ g ∧ w1.heap[g]? = some (.cells cur 62 (0, 0)) ∧ L.length ≤ cap ∧ cap ≤ maxLen ∧ cur.size = cap * 2 ∧ cur.toList.take (L.length * 2) = flat L := by
      rcases h2.2 with ⟨rfl, h4⟩ | h4
      · omega
      · exact h4
    subst hv
    obtain ⟨n, hnn⟩ : ∃ n, L.length = n := ⟨_, rfl⟩
    rw [hnn] at h1 h2 h3 hL e3 e6 hil
    have c0 : w1.cell? ⟨bb, 0, none⟩ = some (.slice (some ⟨g, 0, none⟩) n cap) := cell_blk h1
    have hbl : bb < w1.heap.size := lt_blk h1
    have hgl : g < w1.heap.size := lt_blk e2
    have hgb : g ≠ bb := fun e => by rw [e, h1] at e2; simp at e2
    have HC : Hid (∀ j u, (flat L)[j]? = some u → w1.cell? ⟨g, j, none⟩ = some u) := Lib.hid fun j u hj => by
      have := h2.cells (g := g) rfl j u hj
      rw [show ((⟨g, 0, none⟩ : Addr).add j) = ⟨g, j, none⟩ by unfold Addr.add; split <;> simp_all] at this
      exact this
    have HNL := Lib.hid hnn
    have H1 := Lib.hid h1
    have H2 := Lib.hid h2
    have H3 := Lib.hid h3
    have E2 := Lib.hid e2
    have HFST := Lib.hid hfst
    have HII := Lib.hid hi
    have HM := Lib.hid hm
    have hcm : cap ≤ 9223372036854775807 := e4
    clear hi hfst hm hs h1 h2 h3 hnn e2 e5 e6 e4
    have hz : decide ((i : Int) < 0) = false := by simp
    have hl1 : (flat (L.take i)).length = i * 2 := by rw [flat_length, List.length_take, HNL.out, Nat.min_eq_left (by omega)]
    have hn1 : ∀ j u, (flat (L.take i))[j]? = some u → w1.cell? ((⟨g, 0, none⟩ : Addr).add j) = some u := fun j u hj => by
      rw [show ((⟨g, 0, none⟩ : Addr).add j) = ⟨g, j, none⟩ by unfold Addr.add; split <;> simp_all]
      refine HC.out j u ?_
      rw [flat_take, List.getElem?_take] at hj
      split at hj
      · exact hj
      · simp at hj
    obtain ⟨o, ho, hnd⟩ : ∃ o, (if cap = i + 1 then some (⟨g, 0, none⟩ : Addr) else some ⟨g, (i+1)*2, none⟩) = some ⟨g, o, none⟩ ∧ ∀ j u, (flat (L.drop (i+1)))[j]? = some u → w1.cell? ((⟨g, o, none⟩ : Addr).add j) = some u := by
      by_cases hce : cap = i + 1
      · refine ⟨0, if_pos hce, fun j u hj => ?_⟩
        have : L.drop (i+1) = [] := List.drop_eq_nil_of_le (by rw [HNL.out]; omega)
        rw [this] at hj; simp [flat] at hj
      · refine ⟨(i+1)*2, if_neg hce, fun j u hj => ?_⟩
        rw [add_mk]
        refine HC.out _ u ?_
        rw [flat_drop, List.getElem?_drop] at hj
        exact hj
    have hl2 : (flat (L.drop (i+1))).length = (n - (i+1)) * 2 := by rw [flat_length, List.length_drop, HNL.out]
    have HL2 := Lib.hid hl2
    clear hl2
    have HL1 := Lib.hid hl1
    have HN1 := Lib.hid hn1
    clear hl1 hn1
    have key : ∀ v2 w2, w2.ownsRow w1.heap.size 62 2 v2 (0 + i) ([] ++ flat (L.take i)) → w1.grownBy w2 (Value.slice none 0 0).ownBlock → ∃ ao2 cap2, v2 = .slice ao2 i cap2 ∧ w2.cell? ⟨bb, 0, none⟩ = some (.slice (some ⟨g, 0, none⟩) n cap) ∧
        some bb ≠ (Value.slice ao2 i cap2).ownBlock ∧ bb < w2.heap.size ∧ w1.heap.size ≤ w2.heap.size ∧ Hid (∀ j u, (flat (L.drop (i+1)))[j]? = some u → w2.cell? ((⟨g, o, none⟩ : Addr).add j) = some u) ∧
        Hid (w2.ownsRow w1.heap.size 62 2 (.slice ao2 i cap2) i (flat (L.take i))) ∧
        Hid (∀ v3 w3, w3.ownsRow w1.heap.size 62 2 v3 (i + (n - (i + 1))) (flat (L.take i) ++ flat (L.drop (i+1))) → w2.grownBy w3 (Value.slice ao2 i cap2).ownBlock → ∃ ao3 cap3, v3 = .slice ao3 (i + (n - (i + 1))) cap3 ∧ w3.frozen? ⟨bb, 0, none⟩ = false ∧ w3.cell? ⟨bb, 0, none⟩ = some (.slice (some ⟨g, 0, none⟩) n cap) ∧
          Hid (BookPost base w bb go (L.eraseIdx i) true (.returned (.bool true)) (w3.setCell ⟨bb, 0, none⟩ v3))) := by
      intro v2 w2 hown2 hgr2
      obtain ⟨ao2, cap2, hv2⟩ := own_shape hown2
      rw [Nat.zero_add] at hv2 hown2
      rw [List.nil_append] at hown2
      subst hv2
      have hgn : w1.grownBy w2 none := hgr2
      have hb2 := (hgn.block bb hbl (fun e => by simp at e)).trans H1.out
      have hsz2 := hgn.size
      have hbn2 : some bb ≠ (Value.slice ao2 i cap2).ownBlock := fun e => by have := (hown2.lt bb e.symm).1; omega
      refine ⟨ao2, cap2, rfl, cell_blk hb2, hbn2, by omega, hsz2, fun j u hj => ?_, hown2, fun v3 w3 hown3 hgr3 => ?_⟩
      · have := hnd j u hj
        rw [add_mk] at this ⊢
        rw [World.cell?_of_block (w := w1) (hgn.block g hgl (fun e => by simp at e))]
        exact this
      · obtain ⟨ao3, cap3, hv3⟩ := own_shape hown3
        have hb3 := (hgr3.block bb (by omega) hbn2).trans hb2
        subst hv3
        refine ⟨ao3, cap3, rfl, frz_blk hb3, cell_blk hb3, rfl, (Value.slice ao3 (i + (n - (i + 1))) cap3).ownBlock, ?_, ?_⟩
        · refine ⟨.slice ao3 (i + (n - (i + 1))) cap3, ?_, ?_, rfl⟩
          · rw [heap_set hb3, if_pos rfl]; rfl
          · have hlen : (L.eraseIdx i).length = i + (n - (i + 1)) := by rw [List.length_eraseIdx, if_pos (by rw [HNL.out]; exact hil), HNL.out]; omega
            have hfl : flat (L.eraseIdx i) = flat (L.take i) ++ flat (L.drop (i+1)) := by rw [List.eraseIdx_eq_take_drop_succ, flat_append]
            refine ⟨by rw [flat_length], ?_⟩
            rw [hfl, hlen]
            rcases hown3.2 with h | ⟨g', cap', cur, h, e1, h5, h6⟩
            · exact .inl h
            · refine .inr ⟨g', cap', cur, h, by have q : w1.heap.size = w.heap.size := (by rw [HS.out.1]); omega, ?_, h6⟩
              rw [heap_set_ne (show g' ≠ bb by omega)]; exact h5
        · have b1 : FP (fun k => k = bb ∨ go = some k) w w1 := FP.ofSame HS.out
          have hsz : w1.heap.size = w.heap.size := by rw [HS.out.1]
          refine FP.set ((b1.grown hgn (fun k hk => by simp at hk)).grown hgr3 (fun k hk => .inr ?_)) _ (.inl (.inl rfl))
          have := (hown2.lt k hk).1
          omega
    have KEY := Lib.hid key
    clear key hnd
    go_wp2_with (first | (at_builtin; refine wpList_append_own _ rfl (.tmp 15) (.tmp 21) 28 rfl w1.heap.size 62 i0 (.agg #[.string ⟨#[]⟩, .int .i64 0]) 2 24 Try.underlying28 hi0 hz0 hz1 hz2 rfl (by omega) (.slice none 0 0) 0 [] rfl (World.ownsRow_nil _ _ _ _) ⟨g, 0, none⟩ i cap (flat (L.take i)) rfl HL1.out HN1.out (one_flat _) (by unfold maxLen; omega) (by omega) (Nat.le_refl _) ?_; intro v2 w2 hown2 hgr2 _; obtain ⟨ao2, cap2, rfl, d0, hbn2, hbl2, hsz2, HN2, HO2, KEY3⟩ := KEY.out v2 w2 hown2 hgr2; clear hown2 hgr2) | (at_builtin; refine wpList_append_own _ rfl (.tmp 24) (.tmp 31) 28 rfl w1.heap.size 62 i0 (.agg #[.string ⟨#[]⟩, .int .i64 0]) 2 24 Try.underlying28 hi0 hz0 hz1 hz2 rfl (by omega) (.slice ao2 i cap2) i (flat (L.take i)) rfl HO2.out ⟨g, o, none⟩ (n - (i+1)) (cap - (i+1)) (flat (L.drop (i+1))) rfl HL2.out HN2.out (one_flat _) (by unfold maxLen; omega) (by omega) hsz2 ?_; intro v3 w3 hown3 hgr3 _; obtain ⟨ao3, cap3, rfl, k5, k6, HPOST⟩ := KEY3.out v3 w3 hown3 hgr3; clear hown3 hgr3))
    go_ret
    exact ⟨L.eraseIdx i, .inr ⟨i, HII.out, HFST.out, rfl⟩, by rw [hasL_true HM.out]; exact HPOST.out⟩

theorem bkt_take_succ (L : List Slot) (k : Nat) (s : ByteArray) {p : Slot} (h : L[k]? = some p) : bkt (L.take (k+1)) s = bkt (L.take k) s ++ (if p.1 = s then [p.2] else []) := by
  obtain ⟨h1, h2⟩ := List.getElem?_eq_some_iff.1 h
  rw [List.take_succ_eq_append_getElem h1, h2, bkt_snoc]
theorem bkt_length_le (L : List Slot) (s : ByteArray) : (bkt L s).length ≤ L.length := by
  unfold bkt; rw [List.length_map]; exact List.length_filter_le _ _

set_option maxHeartbeats 800000 in
theorem bbucket_any (h : BookIn base w bb go L) (hL : L.length < 1099511627776) (s : ByteArray) :
    Calls Try.prog 16 #[.pointer (some ⟨bb, 0, none⟩), .string s] w (AllPost w (bkt L s)) := by
  obtain ⟨ao, cap, c0, hcp, hat⟩ := h.row
  have hbl : bb < w.heap.size := h.lt bb (.inl rfl)
  have hgl : ∀ g, go = some g → g < w.heap.size := fun g hg => h.lt g (.inr hg)
  obtain ⟨n, hn⟩ : ∃ n, L.length = n := ⟨_, rfl⟩
  rw [hn] at c0 hL hcp
  obtain ⟨i0, hi0, hz0, hz1, hz2⟩ := info_parts info3
  have HN := Lib.hid hn
  have HAT := Lib.hid hat
  have HGL := Lib.hid hgl
  clear h hat hn hgl
  go_enter Try.func16, Try.ntmps16
  go_wp2
  go_loopw [5, 6] (fun out i wl => ∃ (k : Nat) (gg : Option Nat), k ≤ n ∧ i = .int .i64 k ∧ Hid (RowC wl 3 out gg ((bkt (L.take k) s).map (Value.int .i64))) ∧ Hid (FP nob w wl) ∧ Hid (∀ g, gg = some g → w.heap.size ≤ g)) (fun _ i _ => n - (intOf i).toNat)
  case atStart => exact ⟨0, none, Nat.zero_le _, rfl, .inl ⟨rfl, rfl, by simp [bkt]⟩, FP.refl _ _, fun g hg => by simp at hg⟩
  case round =>
    obtain ⟨k, gg, hk, rfl, HO, HF, HG⟩ := hrel
    have c0r : wr.cell? ⟨bb, 0, none⟩ = some (.slice ao n cap) := by rw [World.cell?_of_block (w := w) (HF.out.blk _ hbl (fun h => h))]; exact c0
    by_cases hlt : k < n
    · obtain ⟨p, hp⟩ : ∃ p, L[k]? = some p := ⟨_, List.getElem?_eq_getElem (by rw [HN.out]; exact hlt)⟩
      obtain ⟨g, hao, hgo, c1, c2⟩ := HAT.out k p hp
      have hgs : wr.heap[g]? = w.heap[g]? := HF.out.blk _ (HGL.out g hgo) (fun h => h)
      have d1 : wr.cell? ⟨g, k * 2, none⟩ = some (.string p.1) := by rw [World.cell?_of_block (w := w) hgs]; exact c1
      have d2 : wr.cell? ⟨g, k * 2 + 1, none⟩ = some (.int .i64 p.2) := by rw [World.cell?_of_block (w := w) hgs]; exact c2
      rw [hao] at c0r
      have hsucc := bkt_take_succ L k s hp
      have hle := bkt_length_le (L.take k) s
      have hlenk : ((bkt (L.take k) s).map (Value.int .i64)).length < 1099511627776 := by rw [List.length_map]; have := List.length_take_le k L; omega
      obtain ⟨sk, ik⟩ := p
      have HS := Lib.hid hsucc
      have HLK := Lib.hid hlenk
      clear hp hsucc hlenk hle c1 c2 hgs hgo
      by_cases e1 : sk = s
      · subst e1
        go_wp2_with (at_builtin; refine wpList_append_c rfl (.tmp 26) (.tmp 35) 36 rfl 3 i0 (.int .i64 0) Try.underlying36 hi0 hz0 hz1 hz2 rfl _ gg _ rfl (HO.out.alloc _) ⟨wr.heap.size, 0, none⟩ 1 (.int .i64 ik) rfl (by rw [cell_blk (heap_new_at rfl _)]; rfl) rfl HLK.out ?_; intro v' g' w1 hrow' hfp' hg'; obtain ⟨ao5, cap5, hv5, _⟩ := hrow'.shape; obtain ⟨q5, hq5⟩ : ∃ q5, ((bkt (L.take k) sk).map (Value.int .i64) ++ [Value.int .i64 ik]).length = q5 := ⟨_, rfl⟩; rw [hq5] at hv5; subst hv5; have HR' := Lib.hid hrow'; have HP' := Lib.hid hfp'; have HG' := Lib.hid hg'; clear hq5 hrow' hfp' hg')
        go_roundw
        case rel =>
          refine ⟨k + 1, some g', by omega, by go_num, ?_, ?_, ?_⟩
          · have hs := HS.out
            rw [if_pos rfl] at hs
            rw [hs, List.map_append]; exact HR'.out
          · exact ((HF.out.alloc _).trans HP'.out (fun i hi => .inr (HG.out i hi)))
          · intro q hq
            simp only [Option.some.injEq] at hq
            subst hq
            have hsz := HF.out.size
            rcases HG'.out with e | e
            · exact HG.out _ e
            · simp at e; omega
        case measure => simp [intOf]; omega
      · have hb1 := toList_ne e1
        have hb3 := toList_neB e1
        go_wp2
        go_roundw
        case rel =>
          refine ⟨k + 1, gg, by omega, by go_num, ?_, HF.out, HG.out⟩
          have hs := HS.out
          rw [if_neg e1, List.append_nil] at hs
          rw [hs]; exact HO.out
        case measure => simp [intOf]; omega
    · obtain rfl : k = n := by omega
      go_wp2
      go_ret
      refine ⟨_, gg, rfl, ?_, HF.out, HG.out⟩
      have := HO.out
      rw [List.take_of_length_le (by rw [HN.out]; exact Nat.le_refl _)] at this
      exact this

theorem keysOf_le : ∀ (L : List Slot) (seen : List ByteArray), keysOf L seen ≤ L.length
  | [], _ => Nat.le_refl _
  | p :: L, seen => by
    unfold keysOf
    have := keysOf_le L (p.1 :: seen)
    simp only [List.length_cons]
    split <;> omega
theorem nkeys_le {L : List Slot} (k : Nat) : nkeys (L.take k) ≤ k := Nat.le_trans (keysOf_le _ _) (List.length_take_le _ _)

set_option maxHeartbeats 800000 in
theorem bkeys_any (h : BookIn base w bb go L) (hL : L.length < 1099511627776) :
    Calls Try.prog 20 #[.pointer (some ⟨bb, 0, none⟩)] w (fun e w' => e = .returned (.int .i64 (nkeys L)) ∧ Same w w') := by
  obtain ⟨ao, cap, c0, hcp, hat⟩ := h.row
  obtain ⟨n, hn⟩ : ∃ n, L.length = n := ⟨_, rfl⟩
  rw [hn] at c0 hL hcp
  have HN := Lib.hid hn
  have HAT := Lib.hid hat
  clear h hat hn
  go_enter Try.func20, Try.ntmps20
  go_wp2
  go_loopw [3, 4] (fun c i wl => ∃ (k q : Nat), k ≤ n ∧ c = .int .i64 (nkeys (L.take k) : Nat) ∧ i = .int .i64 k ∧ Hid (wl = w.drewN q)) (fun _ i _ => n - (intOf i).toNat)
  case atStart => exact ⟨0, 0, Nat.zero_le _, rfl, rfl, rfl⟩
  case round =>
    obtain ⟨k, q, hk, rfl, rfl, HF⟩ := hrel
    have hw := HF.out
    subst hw
    by_cases hlt : k < n
    · obtain ⟨p, hp⟩ : ∃ p, L[k]? = some p := ⟨_, List.getElem?_eq_getElem (by rw [HN.out]; exact hlt)⟩
      obtain ⟨g, rfl, hgo, c1, _⟩ := HAT.out k p hp
      obtain ⟨sk, ik⟩ := p
      have hk1 : k < L.length := by rw [HN.out]; exact hlt
      have hLk : L[k].1 = sk := by rw [List.getElem?_eq_getElem hk1] at hp; simp at hp; rw [hp]
      have hsucc := nkeys_take_succ L k hk1
      rw [hLk] at hsucc
      have hle : nkeys (L.take k) ≤ k := nkeys_le k
      have HS := Lib.hid hsucc
      clear hp hsucc hLk hk1 hgo
      obtain ⟨nn, hnn⟩ : ∃ nn, nkeys (L.take k) = nn := ⟨_, rfl⟩
      rw [hnn] at hle ⊢
      have HNN := Lib.hid hnn
      clear hnn
      go_wp2
      go_loopw [5, 6] (fun f j wl => ∃ (b : Bool) (m q2 : Nat), m ≤ k ∧ f = .bool b ∧ j = .int .i64 m ∧ Hid (wl = w.drewN q2) ∧ Hid (b = true ↔ sk ∉ (L.take m).map (·.1))) (fun _ j _ => k - (intOf j).toNat)
      case atStart => exact ⟨true, 0, q, Nat.zero_le _, rfl, rfl, rfl, by first | exact Lib.hid trivial | exact Lib.hid (by simp)⟩
      case round =>
        obtain ⟨b, m, q2, hm, rfl, rfl, HW, HB⟩ := hrel
        have hw2 := HW.out
        subst hw2
        by_cases hlt2 : m < k
        · obtain ⟨pm, hpm⟩ : ∃ pm, L[m]? = some pm := ⟨_, List.getElem?_eq_getElem (by rw [HN.out]; omega)⟩
          obtain ⟨g2, hg2, _, c2, _⟩ := HAT.out m pm hpm
          simp only [Option.some.injEq, Addr.mk.injEq, and_true] at hg2
          subst hg2
          obtain ⟨sm, im⟩ := pm
          have htk : (L.take (m+1)).map (·.1) = (L.take m).map (·.1) ++ [sm] := by
            obtain ⟨h1, h2⟩ := List.getElem?_eq_some_iff.1 hpm
            rw [List.take_succ_eq_append_getElem h1, h2, List.map_append]; rfl
          have HT := Lib.hid htk
          clear htk hpm
          cases b with
          | false =>
            go_wp2
            go_quiet (fail)
            go_wp2
            go_roundw
            case rel =>
              refine ⟨false, m + 1, _, by omega, by first | rfl | trivial, by go_num, rfl, ?_⟩
              rw [HT.out, List.mem_append]
              have := HB.out
              simp only [Bool.false_eq_true, false_iff, Classical.not_not] at this ⊢
              exact .inl this
            case measure => simp [intOf]; omega
          | true =>
            by_cases e1 : sm = sk
            · subst e1
              go_wp2
              go_quiet (fail)
              go_wp2
              go_roundw
              case rel =>
                refine ⟨false, m + 1, _, by omega, by first | rfl | trivial, by go_num, rfl, ?_⟩
                refine Lib.hid ?_
                rw [HT.out, List.mem_append]
                simp
              case measure => simp [intOf]; omega
            · have hb1 := toList_ne e1
              have hb3 := toList_neB e1
              go_wp2
              go_quiet (fail)
              go_wp2
              go_roundw
              case rel =>
                refine ⟨true, m + 1, _, by omega, by first | rfl | trivial, by go_num, rfl, ?_⟩
                rw [HT.out, List.mem_append]
                have := HB.out
                simp only [true_iff] at this ⊢
                simp only [List.mem_cons, List.not_mem_nil, or_false, not_or]
                exact ⟨this, fun e => e1 e.symm⟩
              case measure => simp [intOf]; omega
        · obtain rfl : m = k := by omega
          cases b with
          | false =>
            go_wp2
            go_roundw
            case rel =>
              refine ⟨m + 1, _, by omega, ?_, by go_num, rfl⟩
              have := HB.out
              simp only [Bool.false_eq_true, false_iff, Classical.not_not] at this
              rw [HS.out, if_pos this, HNN.out, Nat.add_zero]
            case measure => simp [intOf]; omega
          | true =>
            go_wp2
            go_roundw
            case rel =>
              refine ⟨m + 1, _, by omega, ?_, by go_num, rfl⟩
              have := HB.out
              simp only [true_iff] at this
              rw [HS.out, if_neg this, HNN.out]
              go_num
            case measure => simp [intOf]; omega
    · obtain rfl : k = n := by omega
      go_wp2
      go_ret
      refine ⟨?_, rfl, rfl, rfl, rfl⟩
      rw [List.take_of_length_le (by rw [HN.out]; exact Nat.le_refl _)]
      rfl
end
end Go.Proofs.Ytgpekeemmambkaa
