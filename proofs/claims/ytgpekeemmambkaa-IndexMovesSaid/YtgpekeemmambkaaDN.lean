/- The turns again, said of one record: the index, the book, the law's own variables. -/
import Derived.Test.YtgpekeemmambkaaDW
namespace Go.Proofs.Ytgpekeemmambkaa
open Go.RowKit

/-- In x the index holds L, the book Lb; from wo on the law's variables stand; block ob is the operation's. -/
structure Dn (base : Nat) (wo : World) (xb bb ob : Nat) (oc : Array Value) (x : World) (L Lb : List Slot) (N : Nat) : Prop where
  ix : IxD base x xb L N
  bk : BkD base x bb Lb
  st : Stp base wo x
  ob : x.heap[ob]? = some (.cells oc 32 (0,0))

section
variable {base : Nat} {wo x wx : World} {xb bb ob : Nat} {oc : Array Value} {L Lb : List Slot} {N : Nat}
theorem Same.trans {a b c : World} (h : Same a b) (k : Same b c) : Same a c := ⟨k.1.trans h.1, k.2.1.trans h.2.1, k.2.2.1.trans h.2.2.1, k.2.2.2.trans h.2.2.2⟩
theorem Dn.same (h : Dn base wo xb bb ob oc x L Lb N) (hs : Same x wx) : Dn base wo xb bb ob oc wx L Lb N :=
  ⟨h.ix.same hs.1, h.bk.same hs.1, h.st.trans (Stp.same hs), by rw [hs.1]; exact h.ob⟩
theorem Dn.nob (h : Dn base wo xb bb ob oc x L Lb N) (hf : FP nob x wx) : Dn base wo xb bb ob oc wx L Lb N :=
  ⟨h.ix.nob hf, h.bk.nob hf, h.st.trans (Stp.nob hf), (Stp.nob (base := base) hf).1 _ _ _ (.inr rfl) h.ob⟩
theorem Dn.cell (h : Dn base wo xb bb ob oc x L Lb N) (o : Nat) : x.cell? ⟨ob, o, none⟩ = oc[o]? := cell_blk h.ob
theorem Dn.mono {N' : Nat} (h : Dn base wo xb bb ob oc x L Lb N) (hN : N ≤ N') : Dn base wo xb bb ob oc x L Lb N' := ⟨h.ix.mono hN, h.bk, h.st, h.ob⟩

theorem dn_iadd (h : Dn base wo xb bb ob oc x L Lb N) (hR : Room L N) {s : ByteArray} (hs : s.size ≤ maxLen) {id : Int} (hid : I64 id) (hx : Same x wx) :
    Calls Try.prog 8 #[.pointer (some ⟨xb, 0, none⟩), .string s, .int .i64 id] wx (fun e x' => e = .returned (.bool (!hasL L (s, id))) ∧ Dn base wo xb bb ob oc x' (addL L (s, id)) Lb (N + 1)) := by
  have h' := h.same hx
  refine (d_iadd h'.ix h'.bk hR hs hid).mono ?_
  rintro e x' ⟨he, a1, a2, a3⟩
  exact ⟨he, a1, a2, h'.st.trans a3, a3.1 _ _ _ (.inr rfl) h'.ob⟩
theorem first_ex {p : Slot} : ∀ L : List Slot, p ∈ L → ∃ i : Nat, L[i]? = some p ∧ ∀ j, j < i → L[j]? ≠ some p
  | [], h => by simp at h
  | q :: L, h => by
    by_cases e : q = p
    · exact ⟨0, by rw [e]; rfl, fun j hj => absurd hj (Nat.not_lt_zero _)⟩
    · obtain ⟨i, h1, h2⟩ := first_ex L (by simpa [fun q => e (Eq.symm q)] using (List.mem_cons.1 h).resolve_left (fun q => e q.symm))
      refine ⟨i + 1, h1, fun j hj => ?_⟩
      match j, hj with
      | 0, _ => simpa using e
      | j + 1, hj => exact h2 j (by omega)
theorem EraIs.ex (L : List Slot) (p : Slot) : ∃ L', EraIs L p L' := by
  by_cases h : p ∈ L
  · obtain ⟨i, h1, h2⟩ := first_ex L h
    exact ⟨_, .inr ⟨i, h1, h2, rfl⟩⟩
  · exact ⟨L, .inl ⟨h, rfl⟩⟩
theorem EraIs.uniq {p : Slot} {L1 L2 : List Slot} (h1 : EraIs L p L1) (h2 : EraIs L p L2) : L1 = L2 := by
  rcases h1 with ⟨a, rfl⟩ | ⟨i, a1, a2, rfl⟩
  · rcases h2 with ⟨_, rfl⟩ | ⟨i, b1, _⟩
    · rfl
    · exact absurd (List.mem_of_getElem? b1) a
  · rcases h2 with ⟨b, _⟩ | ⟨j, b1, b2, rfl⟩
    · exact absurd (List.mem_of_getElem? a1) b
    · have : i = j := by
        rcases Nat.lt_trichotomy i j with q | q | q
        · exact absurd a1 (b2 i q)
        · exact q
        · exact absurd b1 (a2 j q)
      rw [this]
theorem EraIs.le {p : Slot} {L1 : List Slot} (h : EraIs L p L1) : L1.length ≤ L.length := by
  rcases h with ⟨_, rfl⟩ | ⟨i, _, _, rfl⟩
  · exact Nat.le_refl _
  · exact List.length_eraseIdx_le _ _
theorem addL_le (L : List Slot) (p : Slot) : (addL L p).length ≤ L.length + 1 := by
  by_cases h : p ∈ L
  · rw [addL_in h]; omega
  · rw [addL_out h]; simp

theorem dn_irem (h : Dn base wo xb bb ob oc x L Lb N) (hR : Room L N) {s : ByteArray} (hs : s.size ≤ maxLen) {id : Int} (hid : I64 id) {L' : List Slot} (hE : EraIs L (s, id) L') (hx : Same x wx) :
    Calls Try.prog 10 #[.pointer (some ⟨xb, 0, none⟩), .string s, .int .i64 id] wx (fun e x' => e = .returned (.bool (hasL L (s, id))) ∧ Dn base wo xb bb ob oc x' L' Lb (N + 1)) := by
  have h' := h.same hx
  refine (d_irem h'.ix h'.bk hR hs hid).mono ?_
  rintro e x' ⟨he, a1, a2, a3⟩
  exact ⟨he, a1 L' hE, a2, h'.st.trans a3, a3.1 _ _ _ (.inr rfl) h'.ob⟩
/-- What a move leaves of the list. -/
def MovIs (L : List Slot) (s1 s2 : ByteArray) (id : Int) (L' : List Slot) : Prop := if okL L s1 s2 id = true then ∃ Lr, EraIs L (s1, id) Lr ∧ L' = addL Lr (s2, id) else L' = L
theorem dn_imov (h : Dn base wo xb bb ob oc x L Lb N) (hR : Room L N) {s1 s2 : ByteArray} (hs1 : s1.size ≤ maxLen) (hs2 : s2.size ≤ maxLen) {id : Int} (hid : I64 id) {L' : List Slot} (hL : MovIs L s1 s2 id L') (hx : Same x wx) :
    Calls Try.prog 13 #[.pointer (some ⟨xb, 0, none⟩), .string s1, .string s2, .int .i64 id] wx (fun e x' => e = .returned (.bool (okL L s1 s2 id)) ∧ Dn base wo xb bb ob oc x' L' Lb (N + 2)) := by
  have h' := h.same hx
  refine (d_imov h'.ix h'.bk hR hs1 hs2 hid).mono ?_
  rintro e x' ⟨he, a1, a2, a3⟩
  exact ⟨he, a1 L' hL, a2, h'.st.trans a3, a3.1 _ _ _ (.inr rfl) h'.ob⟩
theorem dn_badd (h : Dn base wo xb bb ob oc x L Lb N) (hR : Room Lb N) (s : ByteArray) (id : Int) (hx : Same x wx) :
    Calls Try.prog 9 #[.pointer (some ⟨bb, 0, none⟩), .string s, .int .i64 id] wx (fun e x' => e = .returned (.bool (!hasL Lb (s, id))) ∧ Dn base wo xb bb ob oc x' L (addL Lb (s, id)) N) := by
  have h' := h.same hx
  refine (d_badd h'.ix h'.bk hR s id).mono ?_
  rintro e x' ⟨he, a1, a2, a3⟩
  exact ⟨he, a1, a2, h'.st.trans a3, a3.1 _ _ _ (.inr rfl) h'.ob⟩
theorem dn_brem (h : Dn base wo xb bb ob oc x L Lb N) (hR : Room Lb N) (s : ByteArray) (id : Int) {L' : List Slot} (hE : EraIs Lb (s, id) L') (hx : Same x wx) :
    Calls Try.prog 11 #[.pointer (some ⟨bb, 0, none⟩), .string s, .int .i64 id] wx (fun e x' => e = .returned (.bool (hasL Lb (s, id))) ∧ Dn base wo xb bb ob oc x' L L' N) := by
  have h' := h.same hx
  refine (d_brem h'.ix h'.bk hR s id).mono ?_
  rintro e x' ⟨he, a1, ⟨L2, hL, a2⟩, a3⟩
  have := hE.uniq hL
  subst this
  exact ⟨he, a1, a2, h'.st.trans a3, a3.1 _ _ _ (.inr rfl) h'.ob⟩
theorem dn_bat (h : Dn base wo xb bb ob oc x L Lb N) (hR : Room Lb N) (s : ByteArray) (id : Int) (hx : Same x wx) :
    Calls Try.prog 12 #[.pointer (some ⟨bb, 0, none⟩), .string s, .int .i64 id] wx (fun e x' => (∃ r, e = .returned (.int .i64 r) ∧ decide (0 ≤ r) = hasL Lb (s, id) ∧ decide (r < 0) = !hasL Lb (s, id)) ∧ Dn base wo xb bb ob oc x' L Lb N ∧ FP nob x x') :=
  (d_bat (h.same hx).bk hR s id).mono fun _ _ ⟨he, hs⟩ => ⟨he, (h.same hx).same hs, FP.ofSame (hx.trans hs)⟩
theorem dn_has (h : Dn base wo xb bb ob oc x L Lb N) {s : ByteArray} (hs : s.size ≤ maxLen) {id : Int} (hid : I64 id) (hx : Same x wx) :
    Calls Try.prog 17 #[.pointer (some ⟨xb, 0, none⟩), .string s, .int .i64 id] wx (fun e x' => e = .returned (.bool (hasL L (s, id))) ∧ Dn base wo xb bb ob oc x' L Lb N ∧ FP nob x x') :=
  (d_has (h.same hx).ix hs hid).mono fun _ _ ⟨he, hs⟩ => ⟨he, (h.same hx).same hs, FP.ofSame (hx.trans hs)⟩
theorem dn_len (h : Dn base wo xb bb ob oc x L Lb N) (hx : Same x wx) :
    Calls Try.prog 18 #[.pointer (some ⟨xb, 0, none⟩)] wx (fun e x' => e = .returned (.int .i64 (L.length : Int)) ∧ Dn base wo xb bb ob oc x' L Lb N ∧ FP nob x x') :=
  (d_len (h.same hx).ix).mono fun _ _ ⟨he, hs⟩ => ⟨he, (h.same hx).same hs, FP.ofSame (hx.trans hs)⟩
theorem dn_keys (h : Dn base wo xb bb ob oc x L Lb N) (hx : Same x wx) :
    Calls Try.prog 19 #[.pointer (some ⟨xb, 0, none⟩)] wx (fun e x' => e = .returned (.int .i64 (nkeys L : Nat)) ∧ Dn base wo xb bb ob oc x' L Lb N ∧ FP nob x x') :=
  (d_keys (h.same hx).ix).mono fun _ _ ⟨he, hs⟩ => ⟨he, (h.same hx).same hs, FP.ofSame (hx.trans hs)⟩
theorem dn_bkeys (h : Dn base wo xb bb ob oc x L Lb N) (hR : Room Lb N) (hx : Same x wx) :
    Calls Try.prog 20 #[.pointer (some ⟨bb, 0, none⟩)] wx (fun e x' => e = .returned (.int .i64 (nkeys Lb : Nat)) ∧ Dn base wo xb bb ob oc x' L Lb N ∧ FP nob x x') :=
  (d_bkeys (h.same hx).bk hR).mono fun _ _ ⟨he, hs⟩ => ⟨he, (h.same hx).same hs, FP.ofSame (hx.trans hs)⟩

theorem FP.cell (h : FP nob x wx) {b o : Nat} (hb : b < x.heap.size) : wx.cell? ⟨b, o, none⟩ = x.cell? ⟨b, o, none⟩ := World.cell?_of_block (w := x) (h.blk b hb (fun q => q))
theorem Dn.book (h : Dn base wo xb bb ob oc x L Lb N) : ∃ ao cap, x.cell? ⟨bb, 0, none⟩ = some (.slice ao Lb.length cap) ∧ bb < x.heap.size := by
  obtain ⟨go, h1, _⟩ := h.bk
  obtain ⟨ao, cap, h2, _⟩ := h1.row
  exact ⟨ao, cap, h2, h1.lt bb (.inl rfl)⟩

/-- A row that was told since y: v holds xs; nothing older has turned. -/
structure Told (y x : World) (ao : Option Addr) (cap : Nat) (go : Option Nat) (xs : List Int) : Prop where
  row : RowC x 3 (.slice ao xs.length cap) go (xs.map (Value.int .i64))
  fp : FP nob y x
  new : ∀ g, go = some g → y.heap.size ≤ g
theorem Told.same {y : World} {ao : Option Addr} {cap : Nat} {go : Option Nat} {xs : List Int} (h : Told y x ao cap go xs) (hs : Same x wx) : Told y wx ao cap go xs :=
  ⟨h.row.frame (fun _ _ => by rw [hs.1]), h.fp.same hs, h.new⟩
theorem Told.nob {y : World} {ao : Option Addr} {cap : Nat} {go : Option Nat} {xs : List Int} (h : Told y x ao cap go xs) (hf : FP nob x wx) : Told y wx ao cap go xs :=
  ⟨h.row.frame (fun g hg => hf.blk g (h.row.lt g hg) (fun q => q)), h.fp.trans hf (fun _ q => q.elim), h.new⟩
theorem told_of {y : World} {xs : List Int} {e : Ending} (h : AllPost y xs e x) : ∃ ao cap go, e = .returned (.slice ao xs.length cap) ∧ Told y x ao cap go xs := by
  obtain ⟨v, go, he, hrow, hfp, hlt⟩ := h
  obtain ⟨ao, cap, hv, _⟩ := hrow.shape
  rw [List.length_map] at hv
  subst hv
  exact ⟨ao, cap, go, he, hrow, hfp, hlt⟩
/-- x.Bucket. -/
theorem dn_bucket (h : Dn base wo xb bb ob oc x L Lb N) (hR : Room L N) {s : ByteArray} (hs : s.size ≤ maxLen) (hx : Same x wx) :
    Calls Try.prog 14 #[.pointer (some ⟨xb, 0, none⟩), .string s] wx (fun e x' => ∃ ao cap go, e = .returned (.slice ao (bkt L s).length cap) ∧ Told x x' ao cap go (bkt L s) ∧ Dn base wo xb bb ob oc x' L Lb N) := by
  refine (d_bucket (h.same hx).ix hR hs).mono ?_
  intro e x' hA
  obtain ⟨ao, cap, go, he, ht⟩ := told_of hA
  exact ⟨ao, cap, go, he, ⟨ht.row, (FP.ofSame hx).trans ht.fp (fun _ q => q.elim), fun g hg => by have := ht.new g hg; rw [hx.1] at this; exact this⟩, (h.same hx).nob ht.fp⟩
/-- b.bucket, beside a row that was told. -/
theorem dn_bbucket {y : World} {ao : Option Addr} {cap : Nat} {go : Option Nat} {xs : List Int} (h : Dn base wo xb bb ob oc x L Lb N) (hT : Told y x ao cap go xs) (hR : Room Lb N) (s : ByteArray) (hx : Same x wx) :
    Calls Try.prog 16 #[.pointer (some ⟨bb, 0, none⟩), .string s] wx (fun e x' => ∃ ao2 cap2 go2, e = .returned (.slice ao2 (bkt Lb s).length cap2) ∧ Told x x' ao2 cap2 go2 (bkt Lb s) ∧ Told y x' ao cap go xs ∧ Dn base wo xb bb ob oc x' L Lb N) := by
  refine (d_bbucket (h.same hx).bk hR s).mono ?_
  intro e x' hA
  obtain ⟨ao2, cap2, go2, he, ht⟩ := told_of hA
  exact ⟨ao2, cap2, go2, he, ⟨ht.row, (FP.ofSame hx).trans ht.fp (fun _ q => q.elim), fun g hg => by have := ht.new g hg; rw [hx.1] at this; exact this⟩, (hT.same hx).nob ht.fp, (h.same hx).nob ht.fp⟩
/-- Are two that were told the same? -/
theorem dn_eq {y y2 : World} {ao ao2 : Option Addr} {cap cap2 : Nat} {go go2 : Option Nat} {xs ys : List Int} (h : Dn base wo xb bb ob oc x L Lb N) (hT : Told y x ao cap go xs) (hT2 : Told y2 x ao2 cap2 go2 ys) (hl : xs.length < 1099511627776) (hl2 : ys.length < 1099511627776) (hx : Same x wx) :
    Calls Try.prog 15 #[.slice ao xs.length cap, .slice ao2 ys.length cap2] wx (fun e x' => e = .returned (.bool (eqB xs ys)) ∧ Told y x' ao cap go xs ∧ Dn base wo xb bb ob oc x' L Lb N ∧ FP nob x x') := by
  refine (eqints_any (ints_row (hT.same hx).row).1 (ints_row (hT2.same hx).row).1 (by omega) (by omega)).mono ?_
  rintro e x' ⟨he, q, rfl⟩
  exact ⟨he, (hT.same hx).same ⟨rfl, rfl, rfl, rfl⟩, (h.same hx).same ⟨rfl, rfl, rfl, rfl⟩, FP.ofSame (hx.trans ⟨rfl, rfl, rfl, rfl⟩)⟩
/-- What was told is written over. -/
theorem dn_over {y : World} {ao : Option Addr} {cap : Nat} {go : Option Nat} {xs : List Int} (h : Dn base wo xb bb ob oc y L Lb N) (hT : Told y x ao cap go xs) (hl : xs.length < 1099511627776) (hx : Same x wx) :
    Calls Try.prog 21 #[.slice ao xs.length cap] wx (fun e x' => e = .returned (.tuple #[]) ∧ Dn base wo xb bb ob oc x' L Lb N) := by
  have ht := hT.same hx
  refine (over_any ht.row (by rw [List.length_map]; exact hl)).mono ?_
  rintro e x' ⟨he, hf⟩
  exact ⟨he, h.nob (ht.fp.trans hf (fun i hi => .inr (ht.new i hi)))⟩
end
end Go.Proofs.Ytgpekeemmambkaa
