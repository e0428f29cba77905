/- The index and the document's book, side by side: what each turn leaves of both. -/
import Derived.Test.YtgpekeemmambkaaWK
import Derived.Test.YtgpekeemmambkaaOW
namespace Go.Proofs.Ytgpekeemmambkaa
open Go.RowKit Go.ChangeMaps Go.MapKept

section
variable {P : Program} {IT BT XT KT : TypeId} {w w' : World} {xb : Nat} {S : Nat → Prop} {M : Lit → List Int} {nk : Nat} {cnt : Int} {N : Nat}
theorem Ix.tag (h : Ix P IT BT XT KT w xb S M nk cnt N) {i : Nat} (hi : S i) {cs : Array Value} {t : TypeId} (hb : w.heap[i]? = some (.cells cs t (0,0))) : t = XT ∨ t = BT ∨ t = IT := by
  obtain ⟨mb, F, h1, _, h3⟩ := h
  rcases (h3 i).1 hi with rfl | rfl | ⟨k, r, hr, hf⟩
  · rw [h1.blk] at hb; simp at hb; exact .inl hb.2.symm
  · obtain ⟨es, c, hm⟩ := h1.map.blk; rw [hm] at hb; simp at hb
  · obtain ⟨g1, _⟩ := h1.bks k r hr
    obtain ⟨pv, e1, e2⟩ := g1.blk
    rcases hf with rfl | hf | rfl | rfl
    · rw [e1] at hb; simp at hb; exact .inr (.inl hb.2.symm)
    · obtain ⟨cs', hc⟩ := e2.tagged i hf; rw [hc] at hb; simp at hb; exact .inr (.inr hb.2.symm)
    · obtain ⟨es, c, hm⟩ := g1.hm.blk; rw [hm] at hb; simp at hb
    · obtain ⟨es, c, hm⟩ := g1.am.blk; rw [hm] at hb; simp at hb
end

/-- Blocks of the law's own variables (a Script, an operation) are as they were. -/
def Kp (w w' : World) : Prop := ∀ (i : Nat) (cs : Array Value) (t : TypeId), (t = 24 ∨ t = 32) → w.heap[i]? = some (.cells cs t (0,0)) → w'.heap[i]? = some (.cells cs t (0,0))
def Stp (base : Nat) (w w' : World) : Prop := Kp w w' ∧ FP (fun i => base ≤ i) w w'
section
variable {base : Nat} {w w' w'' : World}
theorem Stp.refl (base : Nat) (w : World) : Stp base w w := ⟨fun _ _ _ _ h => h, FP.refl _ _⟩
theorem Stp.trans (h : Stp base w w') (k : Stp base w' w'') : Stp base w w'' := ⟨fun i cs t ht hb => k.1 i cs t ht (h.1 i cs t ht hb), h.2.trans k.2 (fun _ q => .inl q)⟩
theorem Stp.same (hs : Same w w') : Stp base w w' := ⟨fun i cs t _ hb => by rw [hs.1]; exact hb, FP.ofSame hs⟩
theorem Stp.nob (h : FP nob w w') : Stp base w w' := ⟨fun i cs t _ hb => by rw [h.blk i (lt_blk hb) (fun q => q)]; exact hb, h.mono (fun _ q => q.elim)⟩
theorem Stp.cell (h : Stp base w w') {i t o : Nat} {cs : Array Value} (ht : t = 24 ∨ t = 32) (hb : w.heap[i]? = some (.cells cs t (0,0))) : w'.cell? ⟨i, o, none⟩ = cs[o]? := cell_blk (h.1 i cs t ht hb)
end

/-- The index of the list L. -/
def IxD (base : Nat) (w : World) (xb : Nat) (L : List Slot) (N : Nat) : Prop :=
  ∃ S M, Ix_S w xb S M (nkeys L) (L.length : Int) N ∧ (∀ s, M (kS s) = bkt L s) ∧ ∀ i, S i → base ≤ i
def BkD (base : Nat) (w : World) (bb : Nat) (L : List Slot) : Prop := ∃ go, BookIn base w bb go L ∧ base ≤ bb

section
variable {base : Nat} {w w' : World} {xb bb : Nat} {L Lb : List Slot} {N : Nat}
theorem BookIn.tags {go : Option Nat} (h : BookIn base w bb go L) : (∃ cs, w.heap[bb]? = some (.cells cs 30 (0,0))) ∧ ∀ g, go = some g → base ≤ g ∧ ∃ cs, w.heap[g]? = some (.cells cs 62 (0,0)) := by
  obtain ⟨v, h1, h2, h3⟩ := h
  refine ⟨⟨_, h1⟩, fun g hg => ?_⟩
  rcases h2.2 with ⟨rfl, h4⟩ | ⟨g', cap, cur, rfl, e1, h5, h6⟩
  · rw [← h3] at hg; simp [Value.ownBlock] at hg
  · have : g' = g := by rw [← h3] at hg; simpa [Value.ownBlock] using hg
    subst this
    exact ⟨e1, _, h5⟩
theorem BkD.keepIx {S : Nat → Prop} {M : Lit → List Int} {nk : Nat} {cnt : Int} (hB : BkD base w bb Lb) (h : Ix_S w xb S M nk cnt N) (hf : FP S w w') : BkD base w' bb Lb := by
  obtain ⟨go, h1, h2⟩ := hB
  obtain ⟨⟨cs, hc⟩, ht⟩ := h1.tags
  refine ⟨go, h1.frame (fun k hk => hf.blk k (h1.lt k hk) (fun hS => ?_)), h2⟩
  rcases hk with rfl | hk
  · have := h.tag hS hc; simp at this
  · obtain ⟨cs', hc'⟩ := (ht k hk).2
    have := h.tag hS hc'; simp at this
theorem Stp.ofIx {S : Nat → Prop} {M : Lit → List Int} {nk : Nat} {cnt : Int} (h : Ix_S w xb S M nk cnt N) (hS : ∀ i, S i → base ≤ i) (hf : FP S w w') : Stp base w w' := by
  refine ⟨fun i cs t ht hb => ?_, hf.mono hS⟩
  rw [hf.blk i (lt_blk hb) (fun hi => by have := h.tag hi hb; rcases ht with rfl | rfl <;> simp at this)]
  exact hb
theorem IxD.keepBk {go : Option Nat} (hI : IxD base w xb L N) (h : BookIn base w bb go Lb) (hf : FP (fun k => k = bb ∨ go = some k) w w') : IxD base w' xb L N := by
  obtain ⟨S, M, h1, h2, h3⟩ := hI
  obtain ⟨⟨cs, hc⟩, ht⟩ := h.tags
  refine ⟨S, M, h1.fp hf (fun i hi hk => ?_), h2, h3⟩
  rcases hk with rfl | hk
  · have := h1.tag hi hc; simp at this
  · obtain ⟨cs', hc'⟩ := (ht i hk).2
    have := h1.tag hi hc'; simp at this
theorem Stp.ofBk {go : Option Nat} (h : BookIn base w bb go Lb) (hb : base ≤ bb) (hf : FP (fun k => k = bb ∨ go = some k) w w') : Stp base w w' := by
  obtain ⟨⟨cs, hc⟩, ht⟩ := h.tags
  refine ⟨fun i cs' t ht' hi => ?_, hf.mono (fun i hi => ?_)⟩
  · rw [hf.blk i (lt_blk hi) (fun hk => ?_)]
    · exact hi
    · rcases hk with rfl | hk
      · rw [hc] at hi; simp at hi; rcases ht' with rfl | rfl <;> simp at hi
      · obtain ⟨cs2, hc2⟩ := (ht i hk).2
        rw [hc2] at hi; simp at hi; rcases ht' with rfl | rfl <;> simp at hi
  · rcases hi with rfl | hi
    · exact hb
    · exact (ht i hi).1
theorem IxD.same (h : IxD base w xb L N) (hs : w'.heap = w.heap) : IxD base w' xb L N := by
  obtain ⟨S, M, h1, h2⟩ := h; exact ⟨S, M, h1.same hs, h2⟩
theorem BkD.same (h : BkD base w bb L) (hs : w'.heap = w.heap) : BkD base w' bb L := by
  obtain ⟨go, h1, h2⟩ := h; exact ⟨go, h1.frame (fun _ _ => by rw [hs]), h2⟩
theorem IxD.nob (h : IxD base w xb L N) (hf : FP nob w w') : IxD base w' xb L N := by
  obtain ⟨S, M, h1, h2⟩ := h; exact ⟨S, M, h1.fp hf (fun _ _ q => q), h2⟩
theorem BkD.nob (h : BkD base w bb L) (hf : FP nob w w') : BkD base w' bb L := by
  obtain ⟨go, h1, h2⟩ := h; exact ⟨go, h1.frame (fun k hk => hf.blk k (h1.lt k hk) (fun q => q)), h2⟩
theorem IxD.mono {N' : Nat} (h : IxD base w xb L N) (hN : N ≤ N') : IxD base w xb L N' := by
  obtain ⟨S, M, h1, h2⟩ := h; exact ⟨S, M, h1.mono hN, h2⟩

theorem hasL_iff (L : List Slot) (s : ByteArray) (id : Int) {M : Lit → List Int} (h : ∀ s, M (kS s) = bkt L s) : hasB M (kS s) id = hasL L (s, id) := by
  by_cases hm : (s, id) ∈ L
  · rw [hasL_true hm, hasB_true (by rw [h]; exact (mem_bkt L s id).2 hm)]
  · rw [hasL_false hm, hasB_false (by rw [h]; exact fun q => hm ((mem_bkt L s id).1 q))]
theorem EraIs.bkt {L L' : List Slot} {s : ByteArray} {id : Int} (h : EraIs L (s, id) L') (hm : (s, id) ∈ L) : ∀ s', bkt L' s' = if s' = s then (bkt L s').erase id else bkt L s' := by
  rcases h with ⟨h1, _⟩ | ⟨i, h1, h2, rfl⟩
  · exact absurd hm h1
  · exact bkt_eraseIdx L i h1 h2
theorem EraIs.length {L L' : List Slot} {p : Slot} (h : EraIs L p L') (hm : p ∈ L) : (L'.length : Int) = (L.length : Int) - 1 := by
  rcases h with ⟨h1, _⟩ | ⟨i, h1, h2, rfl⟩
  · exact absurd hm h1
  · have := (List.getElem?_eq_some_iff.1 h1).1
    rw [List.length_eraseIdx, if_pos this]; omega

/-- The lists' law of Add. -/
theorem add_lists {M : Lit → List Int} (h : ∀ s, M (kS s) = bkt L s) (s : ByteArray) (id : Int) (hm : (s, id) ∉ L) :
    (∀ s', addM M (kS s) id (kS s') = bkt (addL L (s, id)) s') ∧ addK M (kS s) (nkeys L) = nkeys (addL L (s, id)) ∧ ((addL L (s, id)).length : Int) = (L.length : Int) + 1 := by
  have hn : id ∉ M (kS s) := by rw [h]; exact fun q => hm ((mem_bkt L s id).1 q)
  rw [addL_out hm]
  refine ⟨fun s' => ?_, ?_, by simp⟩
  · rw [addM, if_neg hn, bkt_snoc]
    by_cases e : s' = s
    · subst e; rw [updL_same, if_pos rfl, h]
    · rw [updL_ne _ _ (fun q => e (kS_inj q)), if_neg (fun q => e q.symm), List.append_nil, h]
  · rw [addK, nkeys_snoc, h]
theorem rem_lists {M : Lit → List Int} (h : ∀ s, M (kS s) = bkt L s) {s : ByteArray} {id : Int} (hm : (s, id) ∈ L) {L' : List Slot} (he : EraIs L (s, id) L') :
    (∀ s', remM M (kS s) id (kS s') = bkt L' s') ∧ remK M (kS s) id (nkeys L) = nkeys L' ∧ (L'.length : Int) = (L.length : Int) - 1 := by
  have hb := he.bkt hm
  refine ⟨fun s' => ?_, ?_, he.length hm⟩
  · rw [hb]
    by_cases e : s' = s
    · subst e; rw [remM_same, if_pos rfl, h]
    · rw [remM_ne _ _ (fun q => e (kS_inj q)), if_neg e, h]
  · rw [remK, nkeys_erase ((mem_bkt L s id).2 hm) hb, hb, if_pos rfl, h]

theorem nkeys_bound (L : List Slot) : nkeys L ≤ L.length := keysOf_le L []

/-- Two turns' worth of room. -/
structure Room (L : List Slot) (N : Nat) : Prop where
  len : L.length < 1099511620000
  N : N < 1099511620000

theorem d_iadd (hI : IxD base w xb L N) (hB : BkD base w bb Lb) (hR : Room L N) {s : ByteArray} (hs : s.size ≤ maxLen) {id : Int} (hid : I64 id) :
    Calls Try.prog 8 #[.pointer (some ⟨xb, 0, none⟩), .string s, .int .i64 id] w (fun e w' => e = .returned (.bool (!hasL L (s, id))) ∧ IxD base w' xb (addL L (s, id)) (N + 1) ∧ BkD base w' bb Lb ∧ Stp base w w') := by
  obtain ⟨S, M, h1, h2, h3⟩ := hI
  obtain ⟨r1, r2⟩ := hR
  have hnk := nkeys_bound L
  refine (add_S h1 (by omega) (by omega) ⟨by omega, by omega⟩ (keyOf_kS hs) hid).mono ?_
  intro e w' hA
  obtain ⟨he, S', a1, a2, a3⟩ := hA
  have hst := Stp.ofIx h1 h3 a2
  rw [hasL_iff L s id h2] at he a1
  refine ⟨he, ⟨S', addM M (kS s) id, ?_, ?_, fun i hi => ?_⟩, hB.keepIx h1 a2, hst⟩
  · by_cases hm : (s, id) ∈ L
    · rw [hasL_true hm, if_pos rfl, if_pos rfl] at a1
      rw [addL_in hm]; exact a1
    · rw [hasL_false hm, if_neg (by decide), if_neg (by decide)] at a1
      obtain ⟨q1, q2, q3⟩ := add_lists h2 s id hm
      rw [q2] at a1; rw [q3]; exact a1
  · by_cases hm : (s, id) ∈ L
    · intro s'
      rw [addL_in hm, addM, if_pos (by rw [h2]; exact (mem_bkt L s id).2 hm)]; exact h2 s'
    · exact (add_lists h2 s id hm).1
  · rcases a3 i hi with q | q
    · exact h3 i q
    · have hxb : base ≤ xb := by
        obtain ⟨mb, F, g1, _, g3⟩ := h1
        exact h3 xb ((g3 xb).2 (.inl rfl))
      have := h1.lt xb (by obtain ⟨mb, F, g1, _, g3⟩ := h1; exact (g3 xb).2 (.inl rfl))
      omega

theorem d_irem (hI : IxD base w xb L N) (hB : BkD base w bb Lb) (hR : Room L N) {s : ByteArray} (hs : s.size ≤ maxLen) {id : Int} (hid : I64 id) :
    Calls Try.prog 10 #[.pointer (some ⟨xb, 0, none⟩), .string s, .int .i64 id] w (fun e w' => e = .returned (.bool (hasL L (s, id))) ∧ (∀ L', EraIs L (s, id) L' → IxD base w' xb L' (N + 1)) ∧ BkD base w' bb Lb ∧ Stp base w w') := by
  obtain ⟨S, M, h1, h2, h3⟩ := hI
  obtain ⟨r1, r2⟩ := hR
  refine (rem_S h1 (by omega) ⟨by omega, by omega⟩ (keyOf_kS hs) hid).mono ?_
  intro e w' hA
  obtain ⟨he, S', a1, a2, a3⟩ := hA
  have hst := Stp.ofIx h1 h3 a2
  rw [hasL_iff L s id h2] at he a1
  refine ⟨he, fun L' hL' => ⟨S', remM M (kS s) id, ?_, ?_, fun i hi => ?_⟩, hB.keepIx h1 a2, hst⟩
  · by_cases hm : (s, id) ∈ L
    · rw [hasL_true hm, if_pos rfl, if_pos rfl] at a1
      obtain ⟨q1, q2, q3⟩ := rem_lists h2 hm hL'
      rw [q2] at a1; rw [q3]; exact a1
    · rw [hasL_false hm, if_neg (by decide), if_neg (by decide)] at a1
      rcases hL' with ⟨_, rfl⟩ | ⟨i, hi, _⟩
      · exact a1
      · exact absurd (List.mem_of_getElem? hi) hm
  · by_cases hm : (s, id) ∈ L
    · exact (rem_lists h2 hm hL').1
    · intro s'
      have e : remM M (kS s) id = M := by
        rw [remM, List.erase_of_not_mem (by rw [h2]; exact fun q => hm ((mem_bkt L s id).1 q)), updL_self]
      rw [e, h2]
      rcases hL' with ⟨_, rfl⟩ | ⟨i, hi, _⟩
      · rfl
      · exact absurd (List.mem_of_getElem? hi) hm
  · rcases a3 i hi with q | q
    · exact h3 i q
    · have hx : S xb := by obtain ⟨mb, F, g1, _, g3⟩ := h1; exact (g3 xb).2 (.inl rfl)
      have h4 := h3 xb hx
      have := h1.lt xb hx
      omega

/-- May it be moved? -/
noncomputable def okL (L : List Slot) (s1 s2 : ByteArray) (id : Int) : Bool := hasL L (s1, id) && (decide (s1 = s2) || !hasL L (s2, id))

theorem okL_in {s1 s2 : ByteArray} {id : Int} (h : okL L s1 s2 id = true) : (s1, id) ∈ L := by
  unfold okL at h
  simp only [Bool.and_eq_true] at h
  have := h.1
  simpa [hasL] using this
theorem d_imov (hI : IxD base w xb L N) (hB : BkD base w bb Lb) (hR : Room L N) {s1 s2 : ByteArray} (hs1 : s1.size ≤ maxLen) (hs2 : s2.size ≤ maxLen) {id : Int} (hid : I64 id) :
    Calls Try.prog 13 #[.pointer (some ⟨xb, 0, none⟩), .string s1, .string s2, .int .i64 id] w (fun e w' => e = .returned (.bool (okL L s1 s2 id)) ∧
      (∀ L', (if okL L s1 s2 id = true then ∃ Lr, EraIs L (s1, id) Lr ∧ L' = addL Lr (s2, id) else L' = L) → IxD base w' xb L' (N + 2)) ∧ BkD base w' bb Lb ∧ Stp base w w') := by
  obtain ⟨S, M, h1, h2, h3⟩ := hI
  obtain ⟨r1, r2⟩ := hR
  have hnk := nkeys_bound L
  refine (mov_S h1 (by omega) (by omega) ⟨by omega, by omega⟩ hs1 hs2 hid (fun hm => ?_)).mono ?_
  · have := (mem_bkt L s1 id).1 (by rw [← h2]; exact hm)
    have := List.length_pos_of_mem this
    omega
  intro e w' hA
  obtain ⟨he, S', a1, a2, a3⟩ := hA
  have hst := Stp.ofIx h1 h3 a2
  have hok : movB M s1 s2 id = okL L s1 s2 id := by unfold movB okL; rw [hasL_iff L s1 id h2, hasL_iff L s2 id h2]
  have hbase : ∀ i, S' i → base ≤ i := fun i hi => by
    rcases a3 i hi with q | q
    · exact h3 i q
    · have hx : S xb := by obtain ⟨mb, F, g1, _, g3⟩ := h1; exact (g3 xb).2 (.inl rfl)
      have h4 := h3 xb hx
      have := h1.lt xb hx
      omega
  rw [hok] at he
  refine ⟨he, fun L' hL' => ?_, hB.keepIx h1 a2, hst⟩
  by_cases hb : okL L s1 s2 id = true
  · rw [if_pos hb] at hL'
    obtain ⟨Lr, hr, rfl⟩ := hL'
    have hin := okL_in hb
    obtain ⟨q1, q2, q3⟩ := rem_lists h2 hin hr
    have hnin : id ∉ remM M (kS s1) id (kS s2) := not_in_rem h1 (by rw [hok]; exact hb)
    have hnr : (s2, id) ∉ Lr := fun q => hnin (by rw [q1]; exact (mem_bkt Lr s2 id).2 q)
    obtain ⟨p1, p2, p3⟩ := add_lists q1 s2 id hnr
    unfold movM movK at a1
    rw [hok, if_pos hb, if_pos hb, q2, p2] at a1
    refine ⟨S', _, ?_, p1, hbase⟩
    rw [p3, q3, show (L.length : Int) - 1 + 1 = L.length by omega]
    exact a1
  · rw [if_neg hb] at hL'
    subst hL'
    unfold movM movK at a1
    rw [hok, if_neg hb, if_neg hb] at a1
    exact ⟨S', M, a1, h2, hbase⟩

theorem d_has (hI : IxD base w xb L N) {s : ByteArray} (hs : s.size ≤ maxLen) {id : Int} (hid : I64 id) :
    Calls Try.prog 17 #[.pointer (some ⟨xb, 0, none⟩), .string s, .int .i64 id] w (fun e w' => e = .returned (.bool (hasL L (s, id))) ∧ Same w w') := by
  obtain ⟨S, M, h1, h2, h3⟩ := hI
  have := has_S h1 (keyOf_kS hs) hid
  rw [hasL_iff L s id h2] at this
  exact this
theorem d_len (hI : IxD base w xb L N) : Calls Try.prog 18 #[.pointer (some ⟨xb, 0, none⟩)] w (fun e w' => e = .returned (.int .i64 (L.length : Int)) ∧ Same w w') := by
  obtain ⟨S, M, h1, h2, h3⟩ := hI
  exact len_S h1
theorem d_keys (hI : IxD base w xb L N) : Calls Try.prog 19 #[.pointer (some ⟨xb, 0, none⟩)] w (fun e w' => e = .returned (.int .i64 (nkeys L : Nat)) ∧ Same w w') := by
  obtain ⟨S, M, h1, h2, h3⟩ := hI
  exact keys_S h1
theorem d_bucket (hI : IxD base w xb L N) (hR : Room L N) {s : ByteArray} (hs : s.size ≤ maxLen) : Calls Try.prog 14 #[.pointer (some ⟨xb, 0, none⟩), .string s] w (AllPost w (bkt L s)) := by
  obtain ⟨S, M, h1, h2, h3⟩ := hI
  have := bucket_S h1 (by have := hR.N; omega) (keyOf_kS hs)
  rw [h2] at this
  exact this

theorem d_badd (hI : IxD base w xb L N) (hB : BkD base w bb Lb) (hR : Room Lb N) (s : ByteArray) (id : Int) :
    Calls Try.prog 9 #[.pointer (some ⟨bb, 0, none⟩), .string s, .int .i64 id] w (fun e w' => e = .returned (.bool (!hasL Lb (s, id))) ∧ IxD base w' xb L N ∧ BkD base w' bb (addL Lb (s, id)) ∧ Stp base w w') := by
  obtain ⟨go, h1, h2⟩ := hB
  have hlt := h1.lt bb (.inl rfl)
  refine (badd_any h1 (by omega) (by have := hR.len; omega) s id).mono ?_
  intro e w' hA
  obtain ⟨he, go', b1, b2⟩ := hA
  exact ⟨he, hI.keepBk h1 b2, ⟨go', b1, h2⟩, Stp.ofBk h1 h2 b2⟩
theorem d_brem (hI : IxD base w xb L N) (hB : BkD base w bb Lb) (hR : Room Lb N) (s : ByteArray) (id : Int) :
    Calls Try.prog 11 #[.pointer (some ⟨bb, 0, none⟩), .string s, .int .i64 id] w (fun e w' => e = .returned (.bool (hasL Lb (s, id))) ∧ IxD base w' xb L N ∧ (∃ L', EraIs Lb (s, id) L' ∧ BkD base w' bb L') ∧ Stp base w w') := by
  obtain ⟨go, h1, h2⟩ := hB
  have hlt := h1.lt bb (.inl rfl)
  refine (brem_any h1 (by omega) (by have := hR.len; omega) s id).mono ?_
  intro e w' hA
  obtain ⟨L', hL', he, go', b1, b2⟩ := hA
  exact ⟨he, hI.keepBk h1 b2, ⟨L', hL', go', b1, h2⟩, Stp.ofBk h1 h2 b2⟩
/-- The place's answer, as a truth. -/
theorem AtIs.geq {r : Int} {p : Slot} (h : AtIs L p r) : decide (0 ≤ r) = hasL L p := by
  rcases h with ⟨h1, rfl⟩ | ⟨i, h1, _, rfl⟩
  · rw [hasL_false h1]; rfl
  · rw [hasL_true (List.mem_of_getElem? h1)]; simp
theorem d_bat (hB : BkD base w bb Lb) (hR : Room Lb N) (s : ByteArray) (id : Int) :
    Calls Try.prog 12 #[.pointer (some ⟨bb, 0, none⟩), .string s, .int .i64 id] w (fun e w' => (∃ r, e = .returned (.int .i64 r) ∧ decide (0 ≤ r) = hasL Lb (s, id) ∧ decide (r < 0) = !hasL Lb (s, id)) ∧ Same w w') := by
  obtain ⟨go, h1, h2⟩ := hB
  refine (at_any h1 (by have := hR.len; omega) s id).mono ?_
  intro e w' hA
  obtain ⟨⟨r, he, hat⟩, hs⟩ := hA
  have hg := hat.geq
  refine ⟨⟨r, he, hg, ?_⟩, hs⟩
  rw [← hg]
  by_cases h : 0 ≤ r
  · simp [h]
  · simp [h]; omega
theorem d_bbucket (hB : BkD base w bb Lb) (hR : Room Lb N) (s : ByteArray) : Calls Try.prog 16 #[.pointer (some ⟨bb, 0, none⟩), .string s] w (AllPost w (bkt Lb s)) := by
  obtain ⟨go, h1, h2⟩ := hB
  exact bbucket_any h1 (by have := hR.len; omega) s
theorem d_bkeys (hB : BkD base w bb Lb) (hR : Room Lb N) : Calls Try.prog 20 #[.pointer (some ⟨bb, 0, none⟩)] w (fun e w' => e = .returned (.int .i64 (nkeys Lb : Nat)) ∧ Same w w') := by
  obtain ⟨go, h1, h2⟩ := hB
  exact bkeys_any h1 (by have := hR.len; omega)
end
end Go.Proofs.Ytgpekeemmambkaa
