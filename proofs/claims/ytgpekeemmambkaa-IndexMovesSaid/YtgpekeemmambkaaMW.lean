/- Move. -/
import Derived.Test.YtgpekeemmambkaaSW
import Derived.Test.YtgpekeemmambkaaKW
import Derived.StringKeys
namespace Go.Proofs.Ytgpekeemmambkaa
open Go.RowKit Go.ChangeMaps Go.MapKept

def kS (s : ByteArray) : Lit := .string s.data.toList
theorem kS_inj {a b : ByteArray} (h : kS a = kS b) : a = b := by
  unfold kS at h
  simp only [Lit.string.injEq] at h
  exact ByteArray.ext (Array.ext' h)
theorem keyOf_kS {s : ByteArray} (hs : s.size ≤ maxLen) : keyOf Try.prog 9 (.string s) = some (kS s) := Go.WideMaps.keyOf_string_mk Try.underlying9 hs

section
variable {w : World} {xb : Nat} {S : Nat → Prop} {M : Lit → List Int} {nk : Nat} {cnt : Int} {N : Nat}

theorem remM_same (M : Lit → List Int) (k : Lit) (id : Int) : remM M k id k = (M k).erase id := updL_same _ _ _
theorem remM_ne (M : Lit → List Int) {k k2 : Lit} (id : Int) (h : k2 ≠ k) : remM M k id k2 = M k2 := updL_ne _ _ h
noncomputable def movB (M : Lit → List Int) (s1 s2 : ByteArray) (id : Int) : Bool := hasB M (kS s1) id && (decide (s1 = s2) || !hasB M (kS s2) id)
noncomputable def movM (M : Lit → List Int) (s1 s2 : ByteArray) (id : Int) : Lit → List Int := if movB M s1 s2 id = true then addM (remM M (kS s1) id) (kS s2) id else M
noncomputable def movK (M : Lit → List Int) (s1 s2 : ByteArray) (id : Int) (nk : Nat) : Nat := if movB M s1 s2 id = true then addK (remM M (kS s1) id) (kS s2) (remK M (kS s1) id nk) else nk
theorem not_in_rem (h : Ix_S w xb S M nk cnt N) {s1 s2 : ByteArray} {id : Int} (hm : movB M s1 s2 id = true) : id ∉ remM M (kS s1) id (kS s2) := by
  unfold movB at hm
  simp only [Bool.and_eq_true, Bool.or_eq_true, decide_eq_true_eq, Bool.not_eq_true'] at hm
  by_cases e : s2 = s1
  · subst e
    rw [remM_same]
    exact List.Nodup.not_mem_erase (h.nodup _)
  · rw [remM_ne _ _ (fun q => e (kS_inj q))]
    rcases hm.2 with q | q
    · exact absurd q.symm e
    · intro hi
      rw [hasB_true hi] at q
      simp at q

def MovPost (w : World) (xb : Nat) (S : Nat → Prop) (M : Lit → List Int) (nk : Nat) (cnt : Int) (N : Nat) (s1 s2 : ByteArray) (id : Int) (e : Ending) (w' : World) : Prop :=
  e = .returned (.bool (movB M s1 s2 id)) ∧ ∃ S', Ix_S w' xb S' (movM M s1 s2 id) (movK M s1 s2 id nk) cnt (N + 2) ∧ FP S w w' ∧ ∀ i, S' i → S i ∨ w.heap.size ≤ i

/-- Move's two halves, behind one another. -/
theorem mov_join {w1 w2 w3 : World} (h : Ix_S w xb S M nk cnt N) (hs : Same w w1) {s1 s2 : ByteArray} {id : Int} (hb : movB M s1 s2 id = true) (h1 : hasB M (kS s1) id = true) {S1 : Nat → Prop} {e : Ending}
    (f1 : FP S w1 w2) (i1 : ∀ i, S1 i → S i ∨ w1.heap.size ≤ i) (ha : AddPost_S w2 xb S1 (remM M (kS s1) id) (remK M (kS s1) id nk) (cnt - 1) (N + 1) (kS s2) id e w3) :
    e = .returned (.bool true) ∧ MovPost w xb S M nk cnt N s1 s2 id e w3 := by
  have hn := hasB_false (not_in_rem h hb)
  obtain ⟨he, S2, a1, a2, a3⟩ := ha
  rw [hn] at he a1
  have z1 : w1.heap.size = w.heap.size := by rw [hs.1]
  have z2 := f1.size
  refine ⟨by rw [he]; rfl, by rw [hb, he]; rfl, S2, ?_, ?_, ?_⟩
  · unfold movM movK
    rw [if_pos hb, if_pos hb]
    rw [if_neg (by decide), if_neg (by decide)] at a1
    rw [show cnt - 1 + 1 = cnt by omega] at a1
    exact a1
  · exact ((FP.ofSame hs).trans f1 (fun i hi => .inl hi)).trans a2 (fun i hi => by rcases i1 i hi with q | q; exact .inl q; exact .inr (by omega))
  · intro i hi
    rcases a3 i hi with q | q
    · rcases i1 i q with r | r
      · exact .inl r
      · exact .inr (by omega)
    · exact .inr (by omega)

set_option maxHeartbeats 1600000 in
theorem mov_S (h : Ix_S w xb S M nk cnt N) (hN : N + 2 < 1099511627776) (hnk : nk < 1099511627776) (hc : 0 ≤ cnt ∧ cnt < 1099511627776) {s1 s2 : ByteArray} (hs1 : s1.size ≤ maxLen) (hs2 : s2.size ≤ maxLen) {id : Int} (hid : I64 id) (hc1 : id ∈ M (kS s1) → 1 ≤ cnt) :
    Calls Try.prog 13 #[.pointer (some ⟨xb, 0, none⟩), .string s1, .string s2, .int .i64 id] w (MovPost w xb S M nk cnt N s1 s2 id) := by
  have HH := Lib.hid h
  have K1 := Lib.hid (keyOf_kS hs1)
  have K2 := Lib.hid (keyOf_kS hs2)
  have hcall := has_S h K1.out hid
  obtain ⟨b1, hb1⟩ : ∃ b1, hasB M (kS s1) id = b1 := ⟨_, rfl⟩
  rw [hb1] at hcall
  have HB1 := Lib.hid hb1
  clear hb1
  have hsame : ∀ w', Same w w' → (movB M s1 s2 id = false) → MovPost w xb S M nk cnt N s1 s2 id (.returned (.bool false)) w' := fun w' hs hb =>
    ⟨by rw [hb], S, by unfold movM movK; rw [hb, if_neg (by decide), if_neg (by decide)]; exact (HH.out.same hs.1).mono (by omega), FP.ofSame hs, fun i hi => .inl hi⟩
  have HSM := Lib.hid hsame
  have HC1 := Lib.hid hc1
  have hrk : remK M (kS s1) id nk ≤ nk := by unfold remK; split <;> omega
  clear h hsame hc1
  cases b1 with
  | false =>
    have hb : movB M s1 s2 id = false := by unfold movB; rw [HB1.out]; rfl
    have HB := Lib.hid hb
    clear hb
    go_enter Try.func13, Try.ntmps13
    go_wp2_with fail
    refine hcall.mono ?_
    rintro e w1 ⟨rfl, hs⟩
    have HS := Lib.hid hs
    clear hs hcall
    go_wp2
    go_ret
    exact HSM.out _ HS.out HB.out
  | true =>
    have hcnt : 1 ≤ cnt := HC1.out (by have := HB1.out; simpa [hasB] using this)
    by_cases e12 : s1 = s2
    · subst e12
      have hb : movB M s1 s1 id = true := by unfold movB; rw [HB1.out]; simp
      have HB := Lib.hid hb
      clear hb
      go_enter Try.func13, Try.ntmps13
      go_wp2_with fail
      refine hcall.mono ?_
      rintro e w1 ⟨rfl, hs⟩
      have hrem := rem_S (HH.out.same hs.1) (by omega) hc K1.out hid
      have HS := Lib.hid hs
      have HREM := Lib.hid hrem
      clear hs hcall hrem
      go_wp2_with fail
      refine HREM.out.mono ?_
      intro e w2 hR
      obtain ⟨he, S1, r1, r2, r3⟩ := hR
      rw [HB1.out] at he r1
      rw [if_pos rfl, if_pos rfl] at r1
      subst he
      have hadd := add_S r1 (by omega) (by omega) ⟨by omega, by omega⟩ K1.out hid
      have R2 := Lib.hid r2
      have R3 := Lib.hid r3
      have HADD := Lib.hid hadd
      clear r1 r2 r3 hadd
      go_wp2_with fail
      refine HADD.out.mono ?_
      intro e w3 hA
      obtain ⟨rfl, hpost⟩ := mov_join HH.out HS.out HB.out HB1.out R2.out R3.out hA
      have HP := Lib.hid hpost
      clear hA hpost
      go_wp2
      go_ret
      exact HP.out
    · have hbn := toList_ne e12
      have hbn2 := toList_neB e12
      obtain ⟨b2, hb2⟩ : ∃ b2, hasB M (kS s2) id = b2 := ⟨_, rfl⟩
      have HB2 := Lib.hid hb2
      clear hb2
      go_enter Try.func13, Try.ntmps13
      go_wp2_with fail
      refine hcall.mono ?_
      rintro e w1 ⟨rfl, hs⟩
      have hcall2 := has_S (HH.out.same hs.1) K2.out hid
      rw [HB2.out] at hcall2
      have HS := Lib.hid hs
      have HCALL2 := Lib.hid hcall2
      clear hs hcall hcall2
      go_wp2_with fail
      refine HCALL2.out.mono ?_
      rintro e w1b ⟨rfl, hs⟩
      have hs' : Same w w1b := ⟨hs.1.trans HS.out.1, hs.2.1.trans HS.out.2.1, hs.2.2.1.trans HS.out.2.2.1, hs.2.2.2.trans HS.out.2.2.2⟩
      have HS' := Lib.hid hs'
      clear hs hs'
      cases b2 with
      | true =>
        have hb : movB M s1 s2 id = false := by unfold movB; rw [HB1.out, HB2.out]; simp [e12]
        have HB := Lib.hid hb
        clear hb
        go_wp2
        go_ret
        exact HSM.out _ HS'.out HB.out
      | false =>
        have hb : movB M s1 s2 id = true := by unfold movB; rw [HB1.out, HB2.out]; simp
        have HB := Lib.hid hb
        have hrem := rem_S (HH.out.same HS'.out.1) (by omega) hc K1.out hid
        have HREM := Lib.hid hrem
        clear hb hrem
        go_wp2_with fail
        refine HREM.out.mono ?_
        intro e w2 hR
        obtain ⟨he, S1, r1, r2, r3⟩ := hR
        rw [HB1.out] at he r1
        rw [if_pos rfl, if_pos rfl] at r1
        subst he
        have hadd := add_S r1 (by omega) (by omega) ⟨by omega, by omega⟩ K2.out hid
        have R2 := Lib.hid r2
        have R3 := Lib.hid r3
        have HADD := Lib.hid hadd
        clear r1 r2 r3 hadd
        go_wp2_with fail
        refine HADD.out.mono ?_
        intro e w3 hA
        obtain ⟨rfl, hpost⟩ := mov_join HH.out HS'.out HB.out HB1.out R2.out R3.out hA
        have HP := Lib.hid hpost
        clear hA hpost
        go_wp2
        go_ret
        exact HP.out
end
end Go.Proofs.Ytgpekeemmambkaa
