/- The index's turns without a book: what Add and Move leave of the list, of rows told before, of the law's own variables. -/
import Derived.Test.YtgpekeemmambkaaDN
namespace Go.Proofs.Ytgpekeemmambkaa
open Go.RowKit Go.ChangeMaps Go.MapKept

/-- In x the index holds L; from wo on the law's variables stand; block ob is the operation's. -/
structure Dm (base : Nat) (wo : World) (xb ob : Nat) (oc : Array Value) (x : World) (L : List Slot) (N : Nat) : Prop where
  ix : IxD base x xb L N
  st : Stp base wo x
  ob : x.heap[ob]? = some (.cells oc 32 (0,0))

/-- A row that stands in x: blocks from y's on alone. -/
structure Row (y x : World) (ao : Option Addr) (cap : Nat) (go : Option Nat) (xs : List Int) : Prop where
  row : RowC x 3 (.slice ao xs.length cap) go (xs.map (Value.int .i64))
  new : ∀ g, go = some g → y.heap.size ≤ g

section
variable {base : Nat} {wo x wx y : World} {xb ob : Nat} {oc : Array Value} {L : List Slot} {N : Nat}
theorem Dm.same (h : Dm base wo xb ob oc x L N) (hs : Same x wx) : Dm base wo xb ob oc wx L N := ⟨h.ix.same hs.1, h.st.trans (Stp.same hs), by rw [hs.1]; exact h.ob⟩
theorem Dm.nob (h : Dm base wo xb ob oc x L N) (hf : FP nob x wx) : Dm base wo xb ob oc wx L N := ⟨h.ix.nob hf, h.st.trans (Stp.nob hf), (Stp.nob (base := base) hf).1 _ _ _ (.inr rfl) h.ob⟩
theorem Dm.cell (h : Dm base wo xb ob oc x L N) (o : Nat) : x.cell? ⟨ob, o, none⟩ = oc[o]? := cell_blk h.ob
theorem Row.nob {ao : Option Addr} {cap : Nat} {go : Option Nat} {xs : List Int} (h : Row y x ao cap go xs) (hf : FP nob x wx) : Row y wx ao cap go xs :=
  ⟨h.row.frame (fun g hg => hf.blk g (h.row.lt g hg) (fun q => q)), h.new⟩
theorem Row.same {ao : Option Addr} {cap : Nat} {go : Option Nat} {xs : List Int} (h : Row y x ao cap go xs) (hs : Same x wx) : Row y wx ao cap go xs := h.nob (FP.ofSame hs)

theorem dm_add (h : Dm base wo xb ob oc x L N) (hR : Room L N) {s : ByteArray} (hs : s.size ≤ maxLen) {id : Int} (hid : I64 id) (hx : Same x wx) :
    Calls Try.prog 8 #[.pointer (some ⟨xb, 0, none⟩), .string s, .int .i64 id] wx (fun e x' => (∃ b, e = .returned (.bool b)) ∧ Dm base wo xb ob oc x' (addL L (s, id)) (N + 1)) := by
  have h' := h.same hx
  obtain ⟨S, M, h1, h2, h3⟩ := h'.ix
  obtain ⟨r1, r2⟩ := hR
  have hnk := nkeys_bound L
  refine (add_S h1 (by omega) (by omega) ⟨by omega, by omega⟩ (keyOf_kS hs) hid).mono ?_
  intro e w' hA
  obtain ⟨he, S', a1, a2, a3⟩ := hA
  have hst := Stp.ofIx h1 h3 a2
  rw [hasL_iff L s id h2] at he a1
  refine ⟨⟨_, he⟩, ⟨S', addM M (kS s) id, ?_, ?_, fun i hi => ?_⟩, h'.st.trans hst, hst.1 _ _ _ (.inr rfl) h'.ob⟩
  · by_cases hm : (s, id) ∈ L
    · rw [hasL_true hm, if_pos rfl, if_pos rfl] at a1
      rw [addL_in hm]; exact a1
    · rw [hasL_false hm, if_neg (by decide), if_neg (by decide)] at a1
      obtain ⟨q1, q2, q3⟩ := add_lists h2 s id hm
      rw [q2] at a1; rw [q3]; exact a1
  · by_cases hm : (s, id) ∈ L
    · intro s'
      rw [addL_in hm, addM, if_pos (by rw [h2]; exact (mem_bkt L s id).2 hm)]; exact h2 s'
    · exact (add_lists h2 s id hm).1
  · rcases a3 i hi with q | q
    · exact h3 i q
    · have hx : S xb := by obtain ⟨mb, F, g1, _, g3⟩ := h1; exact (g3 xb).2 (.inl rfl)
      have h4 := h3 xb hx
      have := h1.lt xb hx
      omega

theorem dm_mov (h : Dm base wo xb ob oc y L N) (hR : Room L N) {s1 s2 : ByteArray} (hs1 : s1.size ≤ maxLen) (hs2 : s2.size ≤ maxLen) {id : Int} (hid : I64 id) {L' : List Slot} (hL : MovIs L s1 s2 id L') (hf : FP nob y x) (hx0 : Same x wx)
    {ao ao2 : Option Addr} {cap cap2 : Nat} {go go2 : Option Nat} {xs ys : List Int} (hr10 : Row y x ao cap go xs) (hr20 : Row y x ao2 cap2 go2 ys) :
    Calls Try.prog 13 #[.pointer (some ⟨xb, 0, none⟩), .string s1, .string s2, .int .i64 id] wx (fun e x' => e = .returned (.bool (okL L s1 s2 id)) ∧ Dm base wo xb ob oc x' L' (N + 2) ∧ Row y x' ao cap go xs ∧ Row y x' ao2 cap2 go2 ys) := by
  have hx : FP nob y wx := hf.same hx0
  have hr1 := hr10.same hx0
  have hr2 := hr20.same hx0
  have h' := h.nob hx
  obtain ⟨S, M, h0, h2, h3⟩ := h.ix
  have h1 : Ix_S wx xb S M (nkeys L) (L.length : Int) N := h0.fp hx (fun _ _ q => q)
  obtain ⟨r1, r2⟩ := hR
  have hnk := nkeys_bound L
  refine (mov_S h1 (by omega) (by omega) ⟨by omega, by omega⟩ hs1 hs2 hid (fun hm => ?_)).mono ?_
  · have := (mem_bkt L s1 id).1 (by rw [← h2]; exact hm)
    have := List.length_pos_of_mem this
    omega
  intro e w' hA
  obtain ⟨he, S', a1, a2, a3⟩ := hA
  have hst := Stp.ofIx h1 h3 a2
  have hok : movB M s1 s2 id = okL L s1 s2 id := by unfold movB okL; rw [hasL_iff L s1 id h2, hasL_iff L s2 id h2]
  have hbase : ∀ i, S' i → base ≤ i := fun i hi => by
    rcases a3 i hi with q | q
    · exact h3 i q
    · have hx : S xb := by obtain ⟨mb, F, g1, _, g3⟩ := h1; exact (g3 xb).2 (.inl rfl)
      have h4 := h3 xb hx
      have := h1.lt xb hx
      omega
  have hold : ∀ g, y.heap.size ≤ g → g < wx.heap.size → w'.heap[g]? = wx.heap[g]? := fun g q1 q2 => a2.blk g q2 (fun q => by have := h0.lt g q; omega)
  rw [hok] at he
  refine ⟨he, ⟨?_, h'.st.trans hst, hst.1 _ _ _ (.inr rfl) h'.ob⟩, ⟨hr1.row.frame (fun g hg => hold g (hr1.new g hg) (hr1.row.lt g hg)), hr1.new⟩, ⟨hr2.row.frame (fun g hg => hold g (hr2.new g hg) (hr2.row.lt g hg)), hr2.new⟩⟩
  by_cases hb : okL L s1 s2 id = true
  · rw [MovIs, if_pos hb] at hL
    obtain ⟨Lr, hr, rfl⟩ := hL
    have hin := okL_in hb
    obtain ⟨q1, q2, q3⟩ := rem_lists h2 hin hr
    have hnin : id ∉ remM M (kS s1) id (kS s2) := not_in_rem h1 (by rw [hok]; exact hb)
    have hnr : (s2, id) ∉ Lr := fun q => hnin (by rw [q1]; exact (mem_bkt Lr s2 id).2 q)
    obtain ⟨p1, p2, p3⟩ := add_lists q1 s2 id hnr
    unfold movM movK at a1
    rw [hok, if_pos hb, if_pos hb, q2, p2] at a1
    refine ⟨S', _, ?_, p1, hbase⟩
    rw [p3, q3, show (L.length : Int) - 1 + 1 = L.length by omega]
    exact a1
  · rw [MovIs, if_neg hb] at hL
    subst hL
    unfold movM movK at a1
    rw [hok, if_neg hb, if_neg hb] at a1
    exact ⟨S', M, a1, h2, hbase⟩

theorem dm_has (h : Dm base wo xb ob oc x L N) {s : ByteArray} (hs : s.size ≤ maxLen) {id : Int} (hid : I64 id) (hx : Same x wx) :
    Calls Try.prog 17 #[.pointer (some ⟨xb, 0, none⟩), .string s, .int .i64 id] wx (fun e x' => e = .returned (.bool (hasL L (s, id))) ∧ Dm base wo xb ob oc x' L N ∧ FP nob x x') :=
  (d_has (h.same hx).ix hs hid).mono fun _ _ ⟨he, hs⟩ => ⟨he, (h.same hx).same hs, FP.ofSame (hx.trans hs)⟩
theorem dm_len (h : Dm base wo xb ob oc x L N) (hx : Same x wx) :
    Calls Try.prog 18 #[.pointer (some ⟨xb, 0, none⟩)] wx (fun e x' => e = .returned (.int .i64 (L.length : Int)) ∧ Dm base wo xb ob oc x' L N ∧ FP nob x x') :=
  (d_len (h.same hx).ix).mono fun _ _ ⟨he, hs⟩ => ⟨he, (h.same hx).same hs, FP.ofSame (hx.trans hs)⟩
/-- x.Bucket. -/
theorem dm_bucket (h : Dm base wo xb ob oc x L N) (hR : Room L N) {s : ByteArray} (hs : s.size ≤ maxLen) (hx : Same x wx) (hy : y.heap.size ≤ x.heap.size) :
    Calls Try.prog 14 #[.pointer (some ⟨xb, 0, none⟩), .string s] wx (fun e x' => ∃ ao cap go, e = .returned (.slice ao (bkt L s).length cap) ∧ Row y x' ao cap go (bkt L s) ∧ FP nob x x' ∧ Dm base wo xb ob oc x' L N) := by
  refine (d_bucket (h.same hx).ix hR hs).mono ?_
  intro e x' hA
  obtain ⟨ao, cap, go, he, ht⟩ := told_of hA
  exact ⟨ao, cap, go, he, ⟨ht.row, fun g hg => by have := ht.new g hg; rw [hx.1] at this; omega⟩, (FP.ofSame hx).trans ht.fp (fun _ q => q.elim), (h.same hx).nob ht.fp⟩
/-- Are two rows the same? -/
theorem dm_eq {y2 : World} {ao ao2 : Option Addr} {cap cap2 : Nat} {go go2 : Option Nat} {xs ys : List Int} (h : Dm base wo xb ob oc x L N) (hT : Row y x ao cap go xs) (hT2 : Row y2 x ao2 cap2 go2 ys) (hl : xs.length < 1099511627776) (hl2 : ys.length < 1099511627776) (hx : Same x wx) :
    Calls Try.prog 15 #[.slice ao xs.length cap, .slice ao2 ys.length cap2] wx (fun e x' => e = .returned (.bool (eqB xs ys)) ∧ FP nob x x' ∧ Dm base wo xb ob oc x' L N) := by
  refine (eqints_any (ints_row (hT.same hx).row).1 (ints_row (hT2.same hx).row).1 (by omega) (by omega)).mono ?_
  rintro e x' ⟨he, q, rfl⟩
  exact ⟨he, FP.ofSame (hx.trans ⟨rfl, rfl, rfl, rfl⟩), (h.same hx).same ⟨rfl, rfl, rfl, rfl⟩⟩

theorem Dm.nodup (h : Dm base wo xb ob oc x L N) (s : ByteArray) : (bkt L s).Nodup := by
  obtain ⟨S, M, h1, h2, _⟩ := h.ix
  rw [← h2]; exact h1.nodup _

/-- The plain law of a move that was done: the two buckets behind it. -/
theorem mov_buckets (hnd : ∀ s, (bkt L s).Nodup) {s1 s2 : ByteArray} {id : Int} (hok : okL L s1 s2 id = true) {L' : List Slot} (hL : MovIs L s1 s2 id L') :
    ∃ B, bkt L' s2 = B ++ [id] ∧ L'.length = L.length ∧ (s1 = s2 → (bkt L s1).length = B.length + 1) ∧
      (s1 ≠ s2 → hasL L' (s1, id) = false ∧ (bkt L s2).length = B.length ∧ (bkt L s1).length = (bkt L' s1).length + 1) := by
  rw [MovIs, if_pos hok] at hL
  obtain ⟨Lr, hr, rfl⟩ := hL
  have hin := okL_in hok
  have hb := hr.bkt hin
  have hmem : id ∈ bkt L s1 := (mem_bkt L s1 id).2 hin
  have hle := hr.length hin
  have hpos := List.length_pos_of_mem hin
  have hposb := List.length_pos_of_mem hmem
  have hel := List.length_erase_of_mem hmem
  by_cases e : s1 = s2
  · subst e
    have hn : (s1, id) ∉ Lr := fun q => by
      have := (mem_bkt Lr s1 id).2 q
      rw [hb, if_pos rfl] at this
      exact List.Nodup.not_mem_erase (hnd s1) this
    rw [addL_out hn]
    refine ⟨bkt Lr s1, by rw [bkt_snoc, if_pos rfl], by simp; omega, fun _ => ?_, fun q => absurd rfl q⟩
    rw [hb, if_pos rfl]; omega
  · have hb2 : bkt Lr s2 = bkt L s2 := by rw [hb, if_neg (fun q => e q.symm)]
    have hn2 : (s2, id) ∉ L := by
      unfold okL at hok
      simp only [Bool.and_eq_true, Bool.or_eq_true, decide_eq_true_eq, Bool.not_eq_true'] at hok
      rcases hok.2 with q | q
      · exact absurd q e
      · intro hi; rw [hasL_true hi] at q; simp at q
    have hn : (s2, id) ∉ Lr := fun q => hn2 ((mem_bkt L s2 id).1 (by rw [← hb2]; exact (mem_bkt Lr s2 id).2 q))
    have hb1 : bkt (Lr ++ [(s2, id)]) s1 = (bkt L s1).erase id := by
      rw [bkt_snoc, if_neg (fun q => e q.symm), List.append_nil, hb, if_pos rfl]
    rw [addL_out hn]
    refine ⟨bkt Lr s2, by rw [bkt_snoc, if_pos rfl], by simp; omega, fun q => absurd q e, fun _ => ⟨?_, by rw [hb2], ?_⟩⟩
    · refine hasL_false fun q => ?_
      have := (mem_bkt _ s1 id).2 q
      rw [hb1] at this
      exact List.Nodup.not_mem_erase (hnd s1) this
    · rw [hb1]; omega
end
end Go.Proofs.Ytgpekeemmambkaa
