/- The walk of proctorlaw13.IndexMany: it returns true. -/
import Derived.Test.YtgpekeemmambkaaAW
import Derived.Test.YtgpekeemmambkaaWK
import Derived.Test.YtgpekeemmambkaaMany
namespace Go.Proofs.Ytgpekeemmambkaa
open Go.RowKit Go.ChangeMaps Go.MapKept

noncomputable def kA (r : Nat) : Lit := (keyOf Try.prog 50 (.agg #[.int .i64 r, .int .i64 7])).getD (.int .i64 0)
theorem keyOf_kA (r : Nat) (h : r < 3) : keyOf Try.prog 50 (.agg #[.int .i64 r, .int .i64 7]) = some (kA r) := by
  obtain rfl | rfl | rfl : r = 0 ∨ r = 1 ∨ r = 2 := by omega
  all_goals kernel_rfl
theorem keyOf_mod (k : Nat) : keyOf Try.prog 50 (.agg #[.int .i64 ((k : Int) % 3), .int .i64 7]) = some (kA (k % 3)) := by
  have e : (k : Int) % 3 = ((k % 3 : Nat) : Int) := by omega
  rw [e]
  exact keyOf_kA _ (Nat.mod_lt _ (by omega))
theorem kA_ne {r s : Nat} (hr : r < 3) (hs : s < 3) (h : r ≠ s) : kA r ≠ kA s := by
  intro e
  have h1 := keyOf_kA r hr
  rw [e] at h1
  have := law50.inj h1 (keyOf_kA s hs)
  simp at this
  omega
/-- A fact kept from every search. -/
structure Kept (p : Prop) : Prop where
  out : p
def manyM (v : Value) : Nat := 30000 - (intOf v).toNat
theorem manyM_lt {k : Nat} (h : (k : Int) < 30000) : manyM (.int .i64 ((k : Int) + 1)) < manyM (.int .i64 k) := by
  unfold manyM; simp [intOf]; omega

/-- The index in wl: bucket r holds f r; all of it is younger than w. -/
def MAt (w wl : World) (xb : Nat) (f : Nat → List Int) (nk : Nat) (cnt : Int) (N : Nat) : Prop :=
  ∃ S M, Ix_A wl xb S M nk cnt N ∧ (∀ r, r < 3 → M (kA r) = f r) ∧ (∀ i, S i → w.heap.size ≤ i) ∧ FP (fun i => w.heap.size ≤ i) w wl

theorem first_nil (k r : Nat) (h : r < 3) : first k r = [] ↔ k ≤ r := by
  induction k with
  | zero => simp [first]
  | succ k ih =>
    rw [first_succ]
    by_cases e : k % 3 = r
    · rw [if_pos e]; simp; omega
    · rw [if_neg e, ih]; omega

section
variable {w wl : World} {xb k : Nat}
theorem MAt.same {wx : World} {f : Nat → List Int} {nk : Nat} {cnt : Int} {N : Nat} (h : MAt w wl xb f nk cnt N) (hs : FP nob wl wx) : MAt w wx xb f nk cnt N := by
  obtain ⟨S, M, h1, h2, h3, h4⟩ := h
  exact ⟨S, M, h1.fp hs (fun _ _ q => q), h2, h3, h4.trans hs (fun _ q => q.elim)⟩
theorem MAt.add (h : MAt w wl xb (first k) (min k 3) k k) (hk : k < 30000) :
    Calls Try.prog 31 #[.pointer (some ⟨xb, 0, none⟩), .agg #[.int .i64 ((k : Int) % 3), .int .i64 7], .int .i64 k] wl
      (fun e w' => e = .returned (.bool true) ∧ MAt w w' xb (first (k+1)) (min (k+1) 3) ((k+1 : Nat) : Int) (k+1)) := by
  obtain ⟨S, M, h1, h2, h3, h4⟩ := h
  have hm3 : k % 3 < 3 := Nat.mod_lt _ (by omega)
  refine (add_A h1 (by omega) (by omega) ⟨by omega, by omega⟩ (keyOf_mod k) (id := (k : Int)) ⟨by omega, by omega⟩).mono ?_
  intro e w' hA
  obtain ⟨he, S', a1, a2, a3⟩ := hA
  have hn : (k : Int) ∉ M (kA (k % 3)) := by rw [h2 _ hm3]; exact not_mem_first k _
  rw [hasB_false hn] at he a1
  rw [if_neg (by decide), if_neg (by decide), addM, if_neg hn] at a1
  have hnk : addK M (kA (k % 3)) (min k 3) = min (k+1) 3 := by
    unfold addK
    rw [h2 _ hm3]
    by_cases e : first k (k % 3) = []
    · rw [if_pos e]
      have := (first_nil k (k % 3) hm3).1 e
      omega
    · rw [if_neg e]
      have : ¬ k ≤ k % 3 := fun q => e ((first_nil k (k % 3) hm3).2 q)
      omega
  rw [hnk] at a1
  refine ⟨he, S', _, a1, fun r hr => ?_, fun i hi => ?_, h4.trans a2 (fun i hi => .inl (h3 i hi))⟩
  · rw [first_succ]
    by_cases e : k % 3 = r
    · subst e; rw [updL_same, if_pos rfl, h2 _ hm3]
    · rw [updL_ne _ _ (kA_ne hr hm3 (fun q => e q.symm)), if_neg e, h2 _ hr]
  · rcases a3 i hi with q | q
    · exact h3 i q
    · have := h4.size; omega

/-- How many are left. -/
def leftN (k : Nat) : Int := 30000 - (k : Int) + (((k + 99) / 100 : Nat) : Int)
theorem MAt.keep (h : MAt w wl xb (rest 30000 k) 3 (leftN k) (30000 + k)) (hk : k % 100 = 0) : MAt w wl xb (rest 30000 (k+1)) 3 (leftN (k+1)) (30000 + (k+1)) := by
  obtain ⟨S, M, h1, h2, h3, h4⟩ := h
  have e : leftN (k + 1) = leftN k := by unfold leftN; omega
  rw [e]
  exact ⟨S, M, h1.mono (by omega), fun r hr => by rw [h2 r hr, rest_keeps _ _ _ (.inl hk)], h3, h4⟩
theorem MAt.rem (h : MAt w wl xb (rest 30000 k) 3 (leftN k) (30000 + k)) (hk : k < 30000) (hz : k % 100 ≠ 0) :
    Calls Try.prog 32 #[.pointer (some ⟨xb, 0, none⟩), .agg #[.int .i64 ((k : Int) % 3), .int .i64 7], .int .i64 k] wl
      (fun e w' => e = .returned (.bool true) ∧ MAt w w' xb (rest 30000 (k+1)) 3 (leftN (k+1)) (30000 + (k+1))) := by
  obtain ⟨S, M, h1, h2, h3, h4⟩ := h
  have hm3 : k % 3 < 3 := Nat.mod_lt _ (by omega)
  refine (rem_A h1 (by omega) ⟨by unfold leftN; omega, by unfold leftN; omega⟩ (keyOf_mod k) (id := (k : Int)) ⟨by omega, by omega⟩).mono ?_
  intro e w' hA
  obtain ⟨he, S', a1, a2, a3⟩ := hA
  have hn : (k : Int) ∈ M (kA (k % 3)) := by rw [h2 _ hm3]; exact (mem_rest _ _ _ _).2 ⟨hk, rfl, .inl (Nat.le_refl _)⟩
  rw [hasB_true hn] at he a1
  rw [if_pos rfl, if_pos rfl] at a1
  have her : (M (kA (k % 3))).erase (k : Int) = rest 30000 (k + 1) (k % 3) := by rw [h2 _ hm3, rest_drops _ _ _ hz rfl]
  have hnk : remK M (kA (k % 3)) (k : Int) 3 = 3 := by
    unfold remK
    rw [her, if_neg (rest_ne_nil _ _ _ (by omega) hm3)]
  have hc : leftN k - 1 = leftN (k + 1) := by unfold leftN; omega
  rw [hnk, hc] at a1
  refine ⟨he, S', _, a1, fun r hr => ?_, fun i hi => ?_, h4.trans a2 (fun i hi => .inl (h3 i hi))⟩
  · by_cases e : k % 3 = r
    · subst e; rw [remM, updL_same, her]
    · rw [remM, updL_ne _ _ (kA_ne hr hm3 (fun q => e q.symm)), h2 _ hr, rest_keeps _ _ _ (.inr e)]
  · rcases a3 i hi with q | q
    · exact h3 i q
    · have := h4.size; omega
theorem MAt.bucket (h : MAt w wl xb (rest 30000 30000) 3 300 60000) : Calls Try.prog 33 #[.pointer (some ⟨xb, 0, none⟩), .agg #[.int .i64 0, .int .i64 7]] wl (AllPost wl (rest 30000 30000 0)) := by
  obtain ⟨S, M, h1, h2, h3, h4⟩ := h
  have := bucket_A h1 (by omega) (keyOf_kA 0 (by omega))
  rw [h2 0 (by omega)] at this
  exact this
end

theorem wakes_below {w wl : World} {wz : World} (h : FP (fun i => w.heap.size ≤ i) w wl) (hz : FP nob wl wz) : Below w.heap.size w wz :=
  (h.trans hz (fun _ q => q.elim)).below (fun _ q => q) (Nat.le_refl _)

/-- The bucket's numbers rise. -/
theorem rest_rise {k : Nat} {x y : Int} (hx : (rest 30000 30000 0)[k]? = some x) (hy : (rest 30000 30000 0)[k + 1]? = some y) : x < y := by
  obtain ⟨h1, rfl⟩ := List.getElem?_eq_some_iff.1 hx
  obtain ⟨h2, rfl⟩ := List.getElem?_eq_some_iff.1 hy
  exact List.pairwise_iff_getElem.1 (rest_rises 30000 30000 0) k (k+1) h1 h2 (Nat.lt_succ_self _)

set_option maxRecDepth 100000 in
set_option maxHeartbeats 1600000 in
theorem many_walk (w : World) : Calls Try.prog 6 #[] w (fun e w' => e = .returned (.bool true) ∧ Below w.heap.size w w') := by
  go_enter Try.func6, Try.ntmps6
  go_wp2_with fail
  refine (new_A _).mono ?_
  intro e w1 hA
  obtain ⟨xb, S, he, h1, h2, h3⟩ := hA
  subst he
  have HM0 : Hid (MAt w w1 xb (first 0) (min 0 3) ((0 : Nat) : Int) 0) := Lib.hid ⟨S, _, h1, fun r _ => rfl, h2, h3.mono (fun _ q => q.elim)⟩
  clear h1 h2 h3
  go_wp2_with fail
  go_loopw [2] (fun i wl => ∃ k : Nat, Kept ((k : Int) ≤ 30000) ∧ i = .int .i64 k ∧ Hid (MAt w wl xb (first k) (min k 3) (k : Int) k)) (fun i _ => manyM i)
  case atStart => exact ⟨0, ⟨by omega⟩, rfl, HM0.out⟩
  case round =>
    obtain ⟨k, hk, rfl, HM⟩ := hrel
    by_cases hlt : (k : Int) < 30000
    · have HLT : Kept ((k : Int) < 30000) := ⟨hlt⟩
      go_wp2_with fail
      clear hlt
      refine (HM.out.add (by have := HLT.out; omega)).mono ?_
      rintro e w2 ⟨rfl, hm⟩
      have HM2 := Lib.hid hm
      clear hm
      go_wp2_with fail
      have hw1 : wrap64 ((k : Int) + 1) = (k : Int) + 1 := IntWalk.wrap64_in _ (by have := HLT.out; omega)
      go_roundw
      case rel => exact ⟨k + 1, ⟨by have := HLT.out; omega⟩, by rw [hw1]; go_num, HM2.out⟩
      case measure => rw [hw1]; exact manyM_lt HLT.out
    · have hk3 : k = 30000 := by have := hk.out; omega
      have HM2 : Hid (MAt w wr xb (rest 30000 0) 3 (leftN 0) (30000 + 0)) := by
        have := HM.out
        rw [hk3, show first 30000 = rest 30000 0 from funext fun r => (rest_zero _ _).symm] at this
        exact Lib.hid this
      obtain ⟨wo, hwo⟩ : ∃ wo : World, wo = wr := ⟨_, rfl⟩
      rw [← hwo]
      rw [← hwo] at HM2
      clear hwo HM hk3 hk
      go_wp2_with fail
      clear hlt
      go_loopw [3] (fun i wl => ∃ k : Nat, Kept ((k : Int) ≤ 30000) ∧ i = .int .i64 k ∧ Hid (MAt w wl xb (rest 30000 k) 3 (leftN k) (30000 + k))) (fun i _ => manyM i)
      case atStart => exact ⟨0, ⟨by omega⟩, rfl, HM2.out⟩
      case round =>
        obtain ⟨k, hk, rfl, HM⟩ := hrel
        by_cases hlt : (k : Int) < 30000
        · have HLT : Kept ((k : Int) < 30000) := ⟨hlt⟩
          by_cases hz : k % 100 = 0
          · have hb : ((k : Int) % 100 != 0) = false := by simp; omega
            have HZ := Lib.hid hz
            clear hz
            go_wp2_with fail
            have hw1 : wrap64 ((k : Int) + 1) = (k : Int) + 1 := IntWalk.wrap64_in _ (by have := HLT.out; omega)
            go_roundw
            case rel => exact ⟨k + 1, ⟨by have := HLT.out; omega⟩, by first | go_num | (rw [hw1]; go_num), HM.out.keep HZ.out⟩
            case measure => first | exact manyM_lt HLT.out | (rw [hw1]; exact manyM_lt HLT.out)
          · have hb : ((k : Int) % 100 != 0) = true := by simp; omega
            have HZ := Lib.hid hz
            clear hz
            go_wp2_with fail
            clear hlt
            refine (HM.out.rem (by have := HLT.out; omega) HZ.out).mono ?_
            rintro e w3 ⟨rfl, hm⟩
            have HM3 := Lib.hid hm
            clear hm
            go_wp2_with fail
            have hw1 : wrap64 ((k : Int) + 1) = (k : Int) + 1 := IntWalk.wrap64_in _ (by have := HLT.out; omega)
            go_roundw
            case rel => exact ⟨k + 1, ⟨by have := HLT.out; omega⟩, by rw [hw1]; go_num, HM3.out⟩
            case measure => rw [hw1]; exact manyM_lt HLT.out
        · have hk3 : k = 30000 := by have := hk.out; omega
          have HM3 : Hid (MAt w wr xb (rest 30000 30000) 3 300 60000) := by
            have := HM.out
            rw [hk3] at this
            exact Lib.hid this
          clear HM hk3 hk HM2
          go_wp2_with fail
          clear hlt
          refine HM3.out.bucket.mono ?_
          intro e w4 hA
          obtain ⟨v, go, he, hrow, hfp, _⟩ := hA
          subst he
          have HM4 := Lib.hid (HM3.out.same hfp)
          obtain ⟨ao, cap, hv, _⟩ := hrow.shape
          have hl : ((rest 30000 30000 0).map (Value.int .i64)).length = 100 := by rw [List.length_map, rest_end_length]
          have HL := Lib.hid hl
          rw [hl] at hv
          subst hv
          have HR := Lib.hid hrow
          clear hrow hl hfp HM3
          go_wp2_with fail
          go_loopw [5] (fun i wl => ∃ k q : Nat, 1 ≤ k ∧ k ≤ 100 ∧ i = .int .i64 k ∧ wl = w4.drewN q) (fun i _ => 100 - (intOf i).toNat)
          case atStart => exact ⟨1, 0, by omega, by omega, rfl, rfl⟩
          case round =>
            obtain ⟨k, q, hk1, hk2, rfl, rfl⟩ := hrel
            by_cases hlt : k < 100
            · obtain ⟨g, cap', e1, e2, e3, e4⟩ := HR.out.at_ (by rw [HL.out]; omega)
              rw [HL.out] at e1 e4
              simp only [Value.slice.injEq] at e1
              obtain ⟨rfl, _, rfl⟩ := e1
              obtain ⟨x, hx⟩ : ∃ x, (rest 30000 30000 0)[k - 1]? = some x := ⟨_, List.getElem?_eq_getElem (by have := HL.out; rw [List.length_map] at this; omega)⟩
              obtain ⟨y, hy⟩ : ∃ y, (rest 30000 30000 0)[k - 1 + 1]? = some y := ⟨_, List.getElem?_eq_getElem (by have := HL.out; rw [List.length_map] at this; omega)⟩
              have hxy := rest_rise hx hy
              have c1 := e4 (k - 1) (by omega)
              have c2 := e4 k hlt
              rw [List.getElem?_map, hx] at c1
              rw [List.getElem?_map, show k = k - 1 + 1 by omega, hy] at c2
              simp only [Option.map_some, show k - 1 + 1 = k by omega] at c1 c2
              have hk0 : (0 : Int) ≤ (k : Int) - 1 := by omega
              have hk9 : (k : Int) - 1 < 100 := by omega
              have hkn : ((k : Int) - 1).toNat = k - 1 := by omega
              have hw : wrap64 ((k : Int) - 1) = (k : Int) - 1 := IntWalk.wrap64_in _ (by omega)
              have hle : decide (y ≤ x) = false := by simp; omega
              clear e3 e4 hx hy hxy
              go_wp2
              go_quiet (fail)
              go_wp2
              go_roundw
              case rel => exact ⟨k + 1, _, by omega, by omega, by go_num, rfl⟩
              case measure => simp [intOf]; omega
            · obtain rfl : k = 100 := by omega
              have hMq := HM4.out.same (FP.ofSame (⟨rfl, rfl, rfl, rfl⟩ : Same w4 (w4.drewN q)))
              have HMQ := Lib.hid hMq
              clear hMq HM4 HR
              obtain ⟨wq, hwq⟩ : ∃ wq, w4.drewN q = wq := ⟨_, rfl⟩
              rw [hwq]
              rw [hwq] at HMQ
              clear hwq
              have hlen : Calls Try.prog 34 #[.pointer (some ⟨xb, 0, none⟩)] wq (fun e w' => e = .returned (.int .i64 300) ∧ Same wq w') := by
                obtain ⟨S, M, h1, _⟩ := HMQ.out
                exact len_A h1
              have hkeys : ∀ w5, Same wq w5 → Calls Try.prog 35 #[.pointer (some ⟨xb, 0, none⟩)] w5 (fun e w' => e = .returned (.int .i64 3) ∧ Same w5 w') := by
                intro w5 h5
                obtain ⟨S, M, h1, _⟩ := HMQ.out
                exact keys_A (h1.same h5.1)
              have HKEYS := Lib.hid hkeys
              clear hkeys
              go_wp2_with fail
              refine hlen.mono ?_
              rintro e w5 ⟨rfl, hs5⟩
              have hk := HKEYS.out w5 hs5
              have HS5 := Lib.hid hs5
              clear hs5 hlen HKEYS
              go_wp2_with fail
              refine hk.mono ?_
              rintro e w6 ⟨rfl, hs6⟩
              have HM6 := Lib.hid ((HMQ.out.same (FP.ofSame HS5.out)).same (FP.ofSame hs6))
              clear hs6 hk
              go_wp2_with fail
              refine (wakes_any _).mono ?_
              intro e wz hZ
              obtain ⟨rfl, hz⟩ := hZ
              have HZ := Lib.hid hz
              clear hz
              go_wp2
              go_ret
              obtain ⟨S, M, _, _, _, h6⟩ := HM6.out
              exact ⟨rfl, wakes_below h6 HZ.out⟩
end Go.Proofs.Ytgpekeemmambkaa
