/- wakes. -/
import Derived.Test.YtgpekeemmambkaaMW
import Derived.Test.YtgpekeemmambkaaEqI
namespace Go.Proofs.Ytgpekeemmambkaa
open Go.RowKit Go.ChangeMaps Go.MapKept

abbrev sA : ByteArray := ⟨#[97]⟩
abbrev sB : ByteArray := ⟨#[98]⟩
theorem sAB : sA ≠ sB := fun h => by have := congrArg ByteArray.data h; simp at this
theorem kAB : kS sA ≠ kS sB := fun h => sAB (kS_inj h)
theorem sA_small : sA.size ≤ maxLen := by decide
theorem sB_small : sB.size ≤ maxLen := by decide

/-- The own index, made from w0 on, in w: what its two buckets hold. -/
def WK (w0 w : World) (xb : Nat) (la lb : List Int) (nk : Nat) (cnt : Int) (N : Nat) : Prop :=
  ∃ S M, Ix_S w xb S M nk cnt N ∧ M (kS sA) = la ∧ M (kS sB) = lb ∧ (∀ i, S i → w0.heap.size ≤ i) ∧ FP nob w0 w

section
variable {w0 w : World} {xb : Nat} {la lb : List Int} {nk : Nat} {cnt : Int} {N : Nat}
theorem WK.same (h : WK w0 w xb la lb nk cnt N) {w' : World} (hs : Same w w') : WK w0 w' xb la lb nk cnt N := by
  obtain ⟨S, M, h1, h2, h3, h4, h5⟩ := h
  exact ⟨S, M, h1.same hs.1, h2, h3, h4, h5.same hs⟩
theorem WK.fp (h : WK w0 w xb la lb nk cnt N) {w' : World} (hf : FP nob w w') : WK w0 w' xb la lb nk cnt N := by
  obtain ⟨S, M, h1, h2, h3, h4, h5⟩ := h
  exact ⟨S, M, h1.fp hf (fun _ _ q => q), h2, h3, h4, h5.trans hf (fun _ q => q.elim)⟩
theorem wk_add (h : WK w0 w xb la lb nk cnt N) (hN : N < 1000) (hnk : nk < 1000) (hc : 0 ≤ cnt ∧ cnt < 1000) {id : Int} (hid : I64 id) (hm : id ∉ la) :
    Calls Try.prog 8 #[.pointer (some ⟨xb, 0, none⟩), .string sA, .int .i64 id] w (fun e w' => e = .returned (.bool true) ∧ WK w0 w' xb (la ++ [id]) lb (if la = [] then nk + 1 else nk) (cnt + 1) (N + 1)) := by
  obtain ⟨S, M, h1, h2, h3, h4, h5⟩ := h
  refine (add_S h1 (by omega) (by omega) (by omega) (keyOf_kS sA_small) hid).mono ?_
  intro e w' hA
  obtain ⟨he, S', a1, a2, a3⟩ := hA
  have hb : hasB M (kS sA) id = false := hasB_false (by rw [h2]; exact hm)
  rw [hb, if_neg (by decide), if_neg (by decide), addK, h2] at a1
  have z := h5.size
  refine ⟨by rw [he, hb]; rfl, S', _, a1, ?_, ?_, fun i hi => ?_, h5.trans a2 (fun i hi => .inr (h4 i hi))⟩
  · rw [addM, if_neg (by rw [h2]; exact hm), updL_same, h2]
  · rw [addM, if_neg (by rw [h2]; exact hm), updL_ne _ _ (fun e => kAB e.symm), h3]
  · rcases a3 i hi with q | q
    · exact h4 i q
    · omega
theorem wk_add2 (h : WK w0 w xb la lb nk cnt N) (hN : N < 1000) (hnk : nk < 1000) (hc : 0 ≤ cnt ∧ cnt < 1000) {id : Int} (hid : I64 id) (hm : id ∈ la) :
    Calls Try.prog 8 #[.pointer (some ⟨xb, 0, none⟩), .string sA, .int .i64 id] w (fun e w' => e = .returned (.bool false) ∧ WK w0 w' xb la lb nk cnt (N + 1)) := by
  obtain ⟨S, M, h1, h2, h3, h4, h5⟩ := h
  refine (add_S h1 (by omega) (by omega) (by omega) (keyOf_kS sA_small) hid).mono ?_
  intro e w' hA
  obtain ⟨he, S', a1, a2, a3⟩ := hA
  have hb : hasB M (kS sA) id = true := hasB_true (by rw [h2]; exact hm)
  rw [hb, if_pos rfl, if_pos rfl, addM, if_pos (by rw [h2]; exact hm)] at a1
  have z := h5.size
  refine ⟨by rw [he, hb]; rfl, S', _, a1, h2, h3, fun i hi => ?_, h5.trans a2 (fun i hi => .inr (h4 i hi))⟩
  rcases a3 i hi with q | q
  · exact h4 i q
  · omega
theorem wk_rem (h : WK w0 w xb la lb nk cnt N) (hN : N < 1000) (hc : 0 ≤ cnt ∧ cnt < 1000) {id : Int} (hid : I64 id) (hm : id ∈ la) :
    Calls Try.prog 10 #[.pointer (some ⟨xb, 0, none⟩), .string sA, .int .i64 id] w (fun e w' => e = .returned (.bool true) ∧ WK w0 w' xb (la.erase id) lb (if la.erase id = [] then nk - 1 else nk) (cnt - 1) (N + 1)) := by
  obtain ⟨S, M, h1, h2, h3, h4, h5⟩ := h
  refine (rem_S h1 (by omega) (by omega) (keyOf_kS sA_small) hid).mono ?_
  intro e w' hA
  obtain ⟨he, S', a1, a2, a3⟩ := hA
  have hb : hasB M (kS sA) id = true := hasB_true (by rw [h2]; exact hm)
  rw [hb, if_pos rfl, if_pos rfl, remK, h2] at a1
  have z := h5.size
  refine ⟨by rw [he, hb], S', _, a1, ?_, ?_, fun i hi => ?_, h5.trans a2 (fun i hi => .inr (h4 i hi))⟩
  · rw [remM_same, h2]
  · rw [remM_ne _ _ (fun e => kAB e.symm), h3]
  · rcases a3 i hi with q | q
    · exact h4 i q
    · omega
theorem wk_mov (h : WK w0 w xb la [] nk cnt N) (hN : N < 1000) (hnk : nk < 1000) (hc : 1 ≤ cnt ∧ cnt < 1000) {id : Int} (hid : I64 id) (hm : id ∈ la) (hl : la.erase id ≠ []) :
    Calls Try.prog 13 #[.pointer (some ⟨xb, 0, none⟩), .string sA, .string sB, .int .i64 id] w (fun e w' => e = .returned (.bool true) ∧ WK w0 w' xb (la.erase id) [id] (nk + 1) cnt (N + 2)) := by
  obtain ⟨S, M, h1, h2, h3, h4, h5⟩ := h
  refine (mov_S h1 (by omega) (by omega) (by omega) sA_small sB_small hid (fun _ => hc.1)).mono ?_
  intro e w' hA
  obtain ⟨he, S', a1, a2, a3⟩ := hA
  have hb : movB M sA sB id = true := by
    unfold movB
    rw [hasB_true (by rw [h2]; exact hm), hasB_false (by rw [h3]; simp)]; simp
  have hnb : id ∉ remM M (kS sA) id (kS sB) := by rw [remM_ne _ _ (fun e => kAB e.symm), h3]; simp
  have z := h5.size
  unfold movM movK at a1
  rw [if_pos hb, if_pos hb, addM, if_neg hnb, addK, if_pos (by rw [remM_ne _ _ (fun e => kAB e.symm), h3]), remK, if_neg (by rw [h2]; exact hl)] at a1
  refine ⟨by rw [he, hb], S', _, a1, ?_, ?_, fun i hi => ?_, h5.trans a2 (fun i hi => .inr (h4 i hi))⟩
  · rw [updL_ne _ _ kAB, remM_same, h2]
  · rw [updL_same, remM_ne _ _ (fun e => kAB e.symm), h3]; rfl
  · rcases a3 i hi with q | q
    · exact h4 i q
    · omega
end

theorem ints_row {w : World} {ao : Option Addr} {n cap : Nat} {go : Option Nat} {xs : List Int} (h : RowC w 3 (.slice ao n cap) go (xs.map (Value.int .i64))) : IntsAt w ao xs ∧ n = xs.length := by
  obtain ⟨ao', cap', hs, _⟩ := h.shape
  simp only [Value.slice.injEq, List.length_map] at hs
  obtain ⟨rfl, hn, _⟩ := hs
  refine ⟨fun hl => ?_, hn⟩
  obtain ⟨g, cap2, h1, _, _, h4⟩ := h.at_ (by rw [List.length_map]; exact hl)
  simp only [Value.slice.injEq] at h1
  refine ⟨g, 0, h1.1, fun j hj => ?_⟩
  rw [Nat.zero_add, h4 j (by rw [List.length_map]; exact hj), List.getElem?_map, List.getD_eq_getElem?_getD, List.getElem?_eq_getElem hj]
  rfl
theorem IntsAt.frame {w w' : World} {ao : Option Addr} {xs : List Int} (h : IntsAt w ao xs) (hf : ∀ g o, ao = some ⟨g, o, none⟩ → 0 < xs.length → w'.heap[g]? = w.heap[g]?) : IntsAt w' ao xs := by
  intro hl
  obtain ⟨g, o, h1, h2⟩ := h hl
  refine ⟨g, o, h1, fun j hj => ?_⟩
  rw [World.cell?_of_block (w := w) (hf g o h1 hl)]; exact h2 j hj

set_option maxHeartbeats 1600000 in
theorem wakes_any (w0 : World) : Calls Try.prog 22 #[] w0 (fun e w' => e = .returned (.bool true) ∧ FP nob w0 w') := by
  go_enter Try.func22, Try.ntmps22
  go_wp2_with fail
  refine (new_S w0).mono ?_
  intro e w1 hA
  obtain ⟨xb, S, he, h1, h2, h3⟩ := hA
  subst he
  have hwk : WK w0 w1 xb [] [] 0 0 0 := ⟨S, _, h1, rfl, rfl, h2, h3⟩
  have H0 := Lib.hid hwk
  clear h1 h2 h3 hwk
  go_wp2_with fail
  refine (wk_add H0.out (by decide) (by decide) (by decide) (id := 5) (by decide) (by decide)).mono ?_
  intro e w2 hA
  obtain ⟨rfl, hA⟩ := hA
  have H1 : Hid (WK w0 w2 xb [5] [] 1 1 1) := Lib.hid hA
  clear hA
  go_wp2_with fail
  refine (wk_add H1.out (by decide) (by decide) (by decide) (id := 3) (by decide) (by decide)).mono ?_
  intro e w3 hA
  obtain ⟨rfl, hA⟩ := hA
  have H2 : Hid (WK w0 w3 xb [5, 3] [] 1 2 2) := Lib.hid hA
  clear hA
  go_wp2_with fail
  refine (wk_add2 H2.out (by decide) (by decide) (by decide) (id := 5) (by decide) (by decide)).mono ?_
  intro e w4 hA
  obtain ⟨rfl, hA⟩ := hA
  have H3 : Hid (WK w0 w4 xb [5, 3] [] 1 2 3) := Lib.hid hA
  clear hA
  go_wp2_with fail
  have hbk : Calls Try.prog 14 #[.pointer (some ⟨xb, 0, none⟩), .string sA] w4 (AllPost w4 [5, 3]) := by
    obtain ⟨S, M, h1, h2, _⟩ := H3.out
    have := bucket_S h1 (by decide) (keyOf_kS sA_small)
    rw [h2] at this; exact this
  refine hbk.mono ?_
  intro e w5 hA
  obtain ⟨v, go, he, hrow, hfp, hlt⟩ := hA
  subst he
  have H4 := Lib.hid (H3.out.fp hfp)
  have H4 : Hid (WK w0 w5 xb [5, 3] [] 1 2 3) := H4
  obtain ⟨ao, cap, hv, _⟩ := hrow.shape
  replace hv : v = .slice ao 2 cap := hv
  subst hv
  have hints := (ints_row hrow).1
  have hao : ∀ g o, ao = some ⟨g, o, none⟩ → g < w5.heap.size := by
    intro g o e
    obtain ⟨g2, cap2, q1, q2, _⟩ := hrow.at_ (by decide)
    simp only [Value.slice.injEq] at q1
    rw [q1.1] at e
    simp only [Option.some.injEq, Addr.mk.injEq] at e
    rw [← e.1]; exact hrow.lt g2 q2
  have heq := eqints_any (w := w5.alloc (.cells #[.int .i64 5, .int .i64 3] 3)) (ao := ao) (bo := some ⟨w5.heap.size, 0, none⟩) (ca := cap) (cb := 2) (xs := [5, 3]) (ys := [5, 3])
    (hints.frame fun g o e _ => Below.heap_alloc _ _ _ (hao g o e))
    (fun _ => ⟨_, 0, rfl, fun j hj => by
      have : j = 0 ∨ j = 1 := by simp at hj; omega
      rcases this with rfl | rfl <;> rw [cell_blk (heap_new_at rfl _)] <;> rfl⟩) (by decide) (by decide)
  rw [eqB_true rfl] at heq
  have HEQ := Lib.hid heq
  clear hrow hfp hlt hbk heq hints hao
  go_wp2_with fail
  refine HEQ.out.mono ?_
  intro e w6 hA
  obtain ⟨rfl, q, hA⟩ := hA
  have H5 : Hid (WK w0 w6 xb [5, 3] [] 1 2 3) := Lib.hid (by rw [hA]; exact (H4.out.fp ((FP.refl nob w5).alloc _)).same ⟨rfl, rfl, rfl, rfl⟩)
  clear hA
  go_wp2_with fail
  refine (wk_mov H5.out (by decide) (by decide) (by decide) (id := 5) (by decide) (by decide) (by decide)).mono ?_
  intro e w7 hA
  obtain ⟨rfl, hA⟩ := hA
  have H6 : Hid (WK w0 w7 xb [3] [5] 2 2 5) := Lib.hid hA
  clear hA
  go_wp2_with fail
  have hcall : Calls Try.prog 17 #[.pointer (some ⟨xb, 0, none⟩), .string sB, .int .i64 5] w7 (fun e w' => e = .returned (.bool true) ∧ Same w7 w') := by
    obtain ⟨S, M, h1, h2, h3, _⟩ := H6.out
    have := has_S h1 (keyOf_kS sB_small) (id := 5) (by decide)
    rw [hasB_true (by rw [h3]; decide)] at this; exact this
  refine hcall.mono ?_
  intro e w8 hA
  obtain ⟨rfl, hA⟩ := hA
  have H7 := Lib.hid (H6.out.same hA)
  clear hA hcall
  go_wp2_with fail
  have hcall : Calls Try.prog 18 #[.pointer (some ⟨xb, 0, none⟩)] w8 (fun e w' => e = .returned (.int .i64 2) ∧ Same w8 w') := by
    obtain ⟨S, M, h1, _⟩ := H7.out
    exact len_S h1
  refine hcall.mono ?_
  intro e w9 hA
  obtain ⟨rfl, hA⟩ := hA
  have H8 := Lib.hid (H7.out.same hA)
  clear hA hcall
  go_wp2_with fail
  have hcall : Calls Try.prog 19 #[.pointer (some ⟨xb, 0, none⟩)] w9 (fun e w' => e = .returned (.int .i64 2) ∧ Same w9 w') := by
    obtain ⟨S, M, h1, _⟩ := H8.out
    exact keys_S h1
  refine hcall.mono ?_
  intro e wa hA
  obtain ⟨rfl, hA⟩ := hA
  have H9 := Lib.hid (H8.out.same hA)
  clear hA hcall
  go_wp2_with fail
  refine (wk_rem H9.out (by decide) (by decide) (id := 3) (by decide) (by decide)).mono ?_
  intro e wb hA
  obtain ⟨rfl, hA⟩ := hA
  have HA : Hid (WK w0 wb xb [] [5] 1 1 6) := Lib.hid hA
  clear hA
  go_wp2_with fail
  have hcall : Calls Try.prog 19 #[.pointer (some ⟨xb, 0, none⟩)] wb (fun e w' => e = .returned (.int .i64 1) ∧ Same wb w') := by
    obtain ⟨S, M, h1, _⟩ := HA.out
    exact keys_S h1
  refine hcall.mono ?_
  intro e wc hA
  obtain ⟨rfl, hB⟩ := hA
  have HB := Lib.hid (HA.out.same hB)
  clear hB hcall
  go_wp2
  go_ret
  obtain ⟨S, M, _, _, _, _, h5⟩ := HB.out
  exact ⟨rfl, h5⟩
end Go.Proofs.Ytgpekeemmambkaa
