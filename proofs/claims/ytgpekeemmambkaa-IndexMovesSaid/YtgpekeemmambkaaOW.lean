/- OverInts: what is told is written over. -/
import Derived.Test.YtgpekeemmambkaaBW
namespace Go.Proofs.Ytgpekeemmambkaa
open Go.RowKit

theorem RowC.set {w : World} {e : TypeId} {v : Value} {go : Option Nat} {xs : List Value} (h : RowC w e v go xs) {g k : Nat} (hg : go = some g) (x : Value) : RowC (w.setCell ⟨g, k, none⟩ x) e v go (xs.set k x) := by
  rcases h with ⟨_, h2, _⟩ | ⟨g', cap, cur, h1, h2, h3, h4, h5, h6, h7⟩
  · rw [h2] at hg; simp at hg
  · rw [hg] at h2
    simp only [Option.some.injEq] at h2
    subst h2
    refine .inr ⟨g, cap, cur.setIfInBounds k x, by rw [List.length_set]; exact h1, hg, by rw [heap_set h3, if_pos rfl], by rw [List.length_set]; exact h4, h5, by simp; exact h6, ?_⟩
    rw [List.length_set, Array.toList_setIfInBounds, List.take_set, h7]

set_option maxHeartbeats 800000 in
theorem over_any {w : World} {v : Value} {go : Option Nat} {xs : List Value} (h : RowC w 3 v go xs) (hlen : xs.length < 1099511627776) :
    Calls Try.prog 21 #[v] w (fun e w' => e = .returned (.tuple #[]) ∧ FP (fun k => go = some k) w w') := by
  obtain ⟨ao, cap, rfl, hcp⟩ := h.shape
  obtain ⟨n, hn⟩ : ∃ n, xs.length = n := ⟨_, rfl⟩
  rw [hn] at hlen hcp ⊢
  rw [hn] at h
  obtain ⟨i0, hi0, hz0, hz1, hz2⟩ := info_parts info3
  have HH := Lib.hid h
  have HN := Lib.hid hn
  clear h hn
  go_enter Try.func21, Try.ntmps21
  go_wp2
  go_loopw [2] (fun i wl => ∃ (k : Nat) (ys : List Value), k ≤ n ∧ i = .int .i64 k ∧ Hid (RowC wl 3 (.slice ao n cap) go ys) ∧ Hid (ys.length = n) ∧ Hid (FP (fun k => go = some k) w wl)) (fun i _ => n - (intOf i).toNat)
  case atStart => exact ⟨0, xs, Nat.zero_le _, rfl, HH.out, HN.out, FP.refl _ _⟩
  case round =>
    obtain ⟨k, ys, hk, rfl, HR, HL, HF⟩ := hrel
    by_cases hlt : k < n
    · obtain ⟨g, cap', e1, e2, e3, e4⟩ := HR.out.at_ (by rw [HL.out]; omega)
      simp only [Value.slice.injEq] at e1
      obtain ⟨rfl, hq1, hq2⟩ := e1
      clear hq1 hq2
      have c1 : wr.cell? ⟨g, k, none⟩ = some (ys[k]'(by rw [HL.out]; exact hlt)) := by rw [e4 k (by rw [HL.out]; exact hlt), List.getElem?_eq_getElem]
      obtain ⟨y, hy⟩ : ∃ y, ys[k]'(by rw [HL.out]; exact hlt) = y := ⟨_, rfl⟩
      rw [hy] at c1
      have c2 : wr.frozen? ⟨g, k, none⟩ = false := by
        obtain ⟨cs, hcs⟩ := HR.out.tagged g e2
        exact frz_blk hcs
      have E2 := Lib.hid e2
      clear e2 e3 e4 hy
      go_wp2
      go_roundw
      case rel =>
        refine ⟨k + 1, ys.set k (.int .i64 (-99)), by omega, by go_num, HR.out.set E2.out _, ?_, HF.out.set _ (.inl E2.out)⟩
        exact Lib.hid (by rw [List.length_set]; exact HL.out)
      case measure => simp [intOf]; omega
    · obtain rfl : k = n := by omega
      have hlenk : ys.length < 1099511627776 := by rw [HL.out]; exact hlen
      have key : ∀ v' g' w1, RowC w1 3 v' (some g') (ys ++ [.int .i64 1]) → FP (fun k => go = some k) (wr.alloc (.cells #[.int .i64 1] 3)) w1 → (go = some g' ∨ (wr.alloc (.cells #[.int .i64 1] 3)).heap.size ≤ g') →
          ∃ cap5, v' = .slice (some ⟨g', 0, none⟩) (k + 1) cap5 ∧ w1.cell? ⟨g', k, none⟩ = some (.int .i64 1) ∧ w1.frozen? ⟨g', k, none⟩ = false ∧ Hid (FP (fun k => go = some k) w (w1.setCell ⟨g', k, none⟩ (.int .i64 (-99)))) := by
        intro v' g' w1 h1 h2 h3
        have hl : (ys ++ [Value.int .i64 1]).length = k + 1 := by rw [List.length_append, HL.out]; rfl
        obtain ⟨g2, cap5, e1, e2, e3, e4⟩ := h1.at_ (by omega)
        simp only [Option.some.injEq] at e2
        subst e2
        rw [hl] at e1 e4
        obtain ⟨cs, hcs⟩ := h1.tagged g' rfl
        refine ⟨cap5, e1, ?_, frz_blk hcs, ?_⟩
        · rw [e4 k (by omega), List.getElem?_append_right (by rw [HL.out]; exact Nat.le_refl _), HL.out]; simp
        · refine ((HF.out.alloc _).trans h2 (fun i hi => .inl hi)).set _ ?_
          rcases h3 with e | e
          · exact .inl e
          · have := HF.out.size
            simp at e
            exact .inr (by show _ ≤ g'; omega)
      have KEY := Lib.hid key
      clear key
      go_wp2_with (at_builtin; refine wpList_append_c rfl (.tmp 13) (.tmp 14) 36 rfl 3 i0 (.int .i64 0) Try.underlying36 hi0 hz0 hz1 hz2 rfl (.slice ao k cap) go ys rfl (HR.out.alloc _) ⟨wr.heap.size, 0, none⟩ 1 (.int .i64 1) rfl (by rw [cell_blk (heap_new_at rfl _)]; rfl) rfl hlenk ?_; intro v' g' w1 hrow' hfp' hg'; obtain ⟨cap5, rfl, k5, k6, HP⟩ := KEY.out v' g' w1 hrow' hfp' hg'; clear hrow' hfp' hg')
      go_end0
      exact ⟨rfl, HP.out⟩
end Go.Proofs.Ytgpekeemmambkaa
