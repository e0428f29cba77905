/- A bucket in memory, an index in memory: their invariants, and how one bucket's turn leaves the others. No program in sight. -/
import Derived.Test.YtgpekeemmambkaaIB
namespace Go.Proofs.Ytgpekeemmambkaa
open Go.RowKit Go.ChangeMaps Go.MapKept

structure BR where
  B : Nat
  g : Option Nat
  hb : Nat
  ab : Nat
  l : List Int
  s : Int → Bool
  f : Int → Option Int

def BR.fp (r : BR) (k : Nat) : Prop := k = r.B ∨ r.g = some k ∨ k = r.hb ∨ k = r.ab
abbrev BR.ids (r : BR) : List Int := live r.s r.l

/-- Block r.B is a bucket. -/
structure BkIn (P : Program) (IT BT : TypeId) (w : World) (r : BR) (N : Nat) : Prop where
  blk : ∃ pv, w.heap[r.B]? = some (.cells #[pv, .map (some r.hb), .map (some r.ab)] BT (0,0)) ∧ RowC w IT pv r.g (r.l.map (Value.int .i64))
  hm : SetI P IT w r.hb r.s N
  am : MapI P IT w r.ab r.f N
  hne : r.hb ≠ r.ab
  len : r.l.length ≤ N
  bk : Bk r.l r.s r.f

section
variable {P : Program} {IT BT XT KT : TypeId} {w w' : World} {r : BR} {N N' : Nat}
theorem BkIn.frame (h : BkIn P IT BT w r N) (hf : ∀ k, r.fp k → w'.heap[k]? = w.heap[k]?) : BkIn P IT BT w' r N := by
  obtain ⟨pv, h1, h2⟩ := h.blk
  exact ⟨⟨pv, by rw [hf _ (.inl rfl)]; exact h1, h2.frame fun g hg => hf g (.inr (.inl hg))⟩, h.hm.frame (hf _ (.inr (.inr (.inl rfl)))), h.am.frame (hf _ (.inr (.inr (.inr rfl)))), h.hne, h.len, h.bk⟩
theorem BkIn.mono (h : BkIn P IT BT w r N) (hN : N ≤ N') : BkIn P IT BT w r N' := ⟨h.blk, h.hm.mono hN, h.am.mono hN, h.hne, Nat.le_trans h.len hN, h.bk⟩
theorem BkIn.lt (h : BkIn P IT BT w r N) : ∀ k, r.fp k → k < w.heap.size := by
  obtain ⟨pv, h1, h2⟩ := h.blk
  rintro k (rfl | hk | rfl | rfl)
  · exact lt_blk h1
  · exact h2.lt k hk
  · obtain ⟨es, c, hb⟩ := h.hm.blk; exact lt_blk hb
  · obtain ⟨es, c, hb⟩ := h.am.blk; exact lt_blk hb
/-- The parts' blocks are apart. -/
theorem BkIn.apart (h : BkIn P IT BT w r N) (hT : BT ≠ IT) : r.g ≠ some r.B ∧ r.hb ≠ r.B ∧ r.ab ≠ r.B ∧ r.g ≠ some r.hb ∧ r.g ≠ some r.ab := by
  obtain ⟨pv, h1, h2⟩ := h.blk
  obtain ⟨e1, c1, b1⟩ := h.hm.blk
  obtain ⟨e2, c2, b2⟩ := h.am.blk
  refine ⟨fun e => ?_, fun e => ?_, fun e => ?_, fun e => ?_, fun e => ?_⟩
  · obtain ⟨cs, hc⟩ := h2.tagged _ e; rw [h1] at hc; simp at hc; exact hT hc.2
  · rw [e] at b1; rw [h1] at b1; simp at b1
  · rw [e] at b2; rw [h1] at b2; simp at b2
  · obtain ⟨cs, hc⟩ := h2.tagged _ e; rw [b1] at hc; simp at hc
  · obtain ⟨cs, hc⟩ := h2.tagged _ e; rw [b2] at hc; simp at hc

structure IxIn (P : Program) (IT BT XT KT : TypeId) (w : World) (xb mb : Nat) (F : Lit → Option BR) (nk : Nat) (cnt : Int) (N : Nat) : Prop where
  blk : w.heap[xb]? = some (.cells #[.map (some mb), .int .i64 cnt] XT (0,0))
  map : MapP P KT w mb (fun k => (F k).map BR.B) nk
  bks : ∀ k r, F k = some r → BkIn P IT BT w r N ∧ r.ids ≠ [] ∧ ¬ r.fp xb ∧ ¬ r.fp mb
  sep : ∀ k k' r r', F k = some r → F k' = some r' → k ≠ k' → ∀ i, r.fp i → ¬ r'.fp i

variable {xb mb : Nat} {F : Lit → Option BR} {nk nk' : Nat} {cnt cnt' : Int}
theorem IxIn.ne (h : IxIn P IT BT XT KT w xb mb F nk cnt N) : xb ≠ mb := by
  intro e; obtain ⟨es, c, hb⟩ := h.map.blk
  rw [← e, h.blk] at hb; simp at hb

/-- One bucket turned, come or gone; the others, and all else, as they were. -/
theorem IxIn.turned (h : IxIn P IT BT XT KT w xb mb F nk cnt N) (kl : Lit) (r' : Option BR)
    (hx : w'.heap[xb]? = some (.cells #[.map (some mb), .int .i64 cnt'] XT (0,0)))
    (hm : MapP P KT w' mb (updL (fun k => (F k).map BR.B) kl (r'.map BR.B)) nk')
    (hb : ∀ r, r' = some r → BkIn P IT BT w' r N' ∧ r.ids ≠ [] ∧ ∀ i, r.fp i → (∃ r0, F kl = some r0 ∧ r0.fp i) ∨ w.heap.size ≤ i)
    (hfp : ∀ k, k < w.heap.size → k ≠ xb → k ≠ mb → (∀ r0, F kl = some r0 → ¬ r0.fp k) → w'.heap[k]? = w.heap[k]?) (hN : N ≤ N') :
    IxIn P IT BT XT KT w' xb mb (updL F kl r') nk' cnt' N' := by
  have hxl := lt_blk h.blk
  have hml : mb < w.heap.size := by obtain ⟨es, c, hb⟩ := h.map.blk; exact lt_blk hb
  have other : ∀ k r, k ≠ kl → F k = some r → BkIn P IT BT w' r N ∧ r.ids ≠ [] ∧ ¬ r.fp xb ∧ ¬ r.fp mb := by
    intro k r hk hr
    obtain ⟨h1, h2, h3, h4⟩ := h.bks k r hr
    refine ⟨h1.frame fun i hi => hfp i (h1.lt i hi) (fun e => h3 (e ▸ hi)) (fun e => h4 (e ▸ hi)) (fun r0 h0 hi0 => h.sep k kl r r0 hr h0 hk i hi hi0), h2, h3, h4⟩
  refine ⟨hx, ?_, ?_, ?_⟩
  · have e : (fun k => (updL F kl r' k).map BR.B) = updL (fun k => (F k).map BR.B) kl (r'.map BR.B) := by
      funext k; unfold updL; split <;> rfl
    rw [e]; exact hm
  · intro k r hr
    by_cases hk : k = kl
    · subst hk
      rw [updL_same] at hr
      obtain ⟨h1, h2, h3⟩ := hb r hr
      refine ⟨h1, h2, fun hi => ?_, fun hi => ?_⟩
      · rcases h3 _ hi with ⟨r0, h0, hi0⟩ | hlt
        · exact (h.bks k r0 h0).2.2.1 hi0
        · omega
      · rcases h3 _ hi with ⟨r0, h0, hi0⟩ | hlt
        · exact (h.bks k r0 h0).2.2.2 hi0
        · omega
    · rw [updL_ne F _ hk] at hr
      obtain ⟨h1, h2⟩ := other k r hk hr
      exact ⟨h1.mono hN, h2⟩
  · intro k k' r1 r2 h1 h2 hkk i hi1 hi2
    by_cases hk : k = kl
    · subst hk
      rw [updL_same] at h1
      rw [updL_ne F _ (fun e => hkk e.symm)] at h2
      rcases (hb r1 h1).2.2 i hi1 with ⟨r0, h0, hi0⟩ | hlt
      · exact h.sep k k' r0 r2 h0 h2 hkk i hi0 hi2
      · have := (h.bks k' r2 h2).1.lt i hi2; omega
    · rw [updL_ne F _ hk] at h1
      by_cases hk' : k' = kl
      · subst hk'
        rw [updL_same] at h2
        rcases (hb r2 h2).2.2 i hi2 with ⟨r0, h0, hi0⟩ | hlt
        · exact h.sep k k' r1 r0 h1 h0 hkk i hi1 hi0
        · have := (h.bks k r1 h1).1.lt i hi1; omega
      · rw [updL_ne F _ hk'] at h2
        exact h.sep k k' r1 r2 h1 h2 hkk i hi1 hi2

/-- The index in block xb: footprint S; bucket by bucket M; as many keys as nk; as many numbers as cnt. -/
def Ix (P : Program) (IT BT XT KT : TypeId) (w : World) (xb : Nat) (S : Nat → Prop) (M : Lit → List Int) (nk : Nat) (cnt : Int) (N : Nat) : Prop :=
  ∃ mb F, IxIn P IT BT XT KT w xb mb F nk cnt N ∧ (∀ k, M k = match F k with | none => [] | some r => r.ids) ∧ ∀ i, S i ↔ (i = xb ∨ i = mb ∨ ∃ k r, F k = some r ∧ r.fp i)

variable {S : Nat → Prop} {M : Lit → List Int}
theorem Ix.lt (h : Ix P IT BT XT KT w xb S M nk cnt N) : ∀ i, S i → i < w.heap.size := by
  obtain ⟨mb, F, h1, _, h3⟩ := h
  intro i hi
  rcases (h3 i).1 hi with rfl | rfl | ⟨k, r, hr, hf⟩
  · exact lt_blk h1.blk
  · obtain ⟨es, c, hb⟩ := h1.map.blk; exact lt_blk hb
  · exact (h1.bks k r hr).1.lt i hf
theorem Ix.frame (h : Ix P IT BT XT KT w xb S M nk cnt N) (hf : ∀ i, S i → w'.heap[i]? = w.heap[i]?) : Ix P IT BT XT KT w' xb S M nk cnt N := by
  obtain ⟨mb, F, h1, h2, h3⟩ := h
  refine ⟨mb, F, ⟨?_, ?_, ?_, h1.sep⟩, h2, h3⟩
  · rw [hf xb ((h3 xb).2 (.inl rfl))]; exact h1.blk
  · exact h1.map.frame (hf mb ((h3 mb).2 (.inr (.inl rfl))))
  · intro k r hr
    obtain ⟨g1, g2⟩ := h1.bks k r hr
    exact ⟨g1.frame fun i hi => hf i ((h3 i).2 (.inr (.inr ⟨k, r, hr, hi⟩))), g2⟩
theorem Ix.same (h : Ix P IT BT XT KT w xb S M nk cnt N) (hs : w'.heap = w.heap) : Ix P IT BT XT KT w' xb S M nk cnt N := h.frame (fun _ _ => by rw [hs])
theorem Ix.fp (h : Ix P IT BT XT KT w xb S M nk cnt N) {T : Nat → Prop} (hf : FP T w w') (hT : ∀ i, S i → ¬ T i) : Ix P IT BT XT KT w' xb S M nk cnt N :=
  h.frame fun i hi => hf.blk i (h.lt i hi) (hT i hi)
theorem Ix.nodup (h : Ix P IT BT XT KT w xb S M nk cnt N) (k : Lit) : (M k).Nodup := by
  obtain ⟨mb, F, h1, h2, _⟩ := h
  rw [h2]
  cases hF : F k with
  | none => exact List.nodup_nil
  | some r => exact (h1.bks k r hF).1.bk.nodup
theorem Ix.mono (h : Ix P IT BT XT KT w xb S M nk cnt N) (hN : N ≤ N') : Ix P IT BT XT KT w xb S M nk cnt N' := by
  obtain ⟨mb, F, h1, h2⟩ := h
  exact ⟨mb, F, ⟨h1.blk, h1.map, fun k r hr => ⟨(h1.bks k r hr).1.mono hN, (h1.bks k r hr).2⟩, h1.sep⟩, h2⟩
theorem Ix.wf (h : Ix P IT BT XT KT w xb S M nk cnt N) (k : Lit) : ∀ id ∈ M k, I64 id := by
  obtain ⟨mb, F, h1, h2, _⟩ := h
  intro id hid
  rw [h2] at hid
  cases hF : F k with
  | none => rw [hF] at hid; simp at hid
  | some r =>
    rw [hF] at hid
    obtain ⟨i, h3, _⟩ := (mem_live r.s id r.l).1 hid
    exact (h1.bks k r hF).1.bk.wf id (List.mem_of_getElem? h3)
theorem Ix.short (h : Ix P IT BT XT KT w xb S M nk cnt N) (k : Lit) : (M k).length ≤ N := by
  obtain ⟨mb, F, h1, h2, _⟩ := h
  rw [h2]
  cases hF : F k with
  | none => simp
  | some r => exact Nat.le_trans (liveFrom_length_le r.s r.l 0) (h1.bks k r hF).1.len

/-- The index, made. -/
theorem Ix.new {mb : Nat} (hx : w.heap[xb]? = some (.cells #[.map (some mb), .int .i64 0] XT (0,0))) (hm : w.heap[mb]? = some (.map #[] 0)) :
    Ix P IT BT XT KT w xb (fun i => i = xb ∨ i = mb) (fun _ => []) 0 0 0 :=
  ⟨mb, fun _ => none, ⟨hx, MapP.new hm, fun k r hr => by simp at hr, fun k k' r r' hr => by simp at hr⟩, fun _ => rfl, fun i => by simp⟩
end
end Go.Proofs.Ytgpekeemmambkaa
