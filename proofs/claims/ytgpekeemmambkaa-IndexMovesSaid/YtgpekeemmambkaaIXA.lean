/- What Add and Remove leave, said of the heap alone. No program in sight. -/
import Derived.Test.YtgpekeemmambkaaIXO
namespace Go.Proofs.Ytgpekeemmambkaa
open Go.RowKit Go.ChangeMaps Go.MapKept

section
variable {P : Program} {IT BT XT KT : TypeId} {w w2 w2q w3 w4 w5 w6 : World} {xb mb : Nat} {F : Lit → Option BR} {nk nk2 : Nat} {cnt : Int} {N : Nat} {S : Nat → Prop} {M : Lit → List Int} {kl : Lit} {r : BR}

/-- The bucket of a key is there, found or made. -/
structure Mid (P : Program) (IT BT XT KT : TypeId) (w w2 : World) (xb mb : Nat) (F : Lit → Option BR) (kl : Lit) (r : BR) (nk2 : Nat) (cnt : Int) (N : Nat) : Prop where
  hx : w2.heap[xb]? = some (.cells #[.map (some mb), .int .i64 cnt] XT (0,0))
  hm : MapP P KT w2 mb (updL (fun k => (F k).map BR.B) kl (some r.B)) nk2
  hb : BkIn P IT BT w2 r N
  ids : r.ids = idsOf (F kl)
  sep : ∀ i, r.fp i → (∃ r0, F kl = some r0 ∧ r0.fp i) ∨ w.heap.size ≤ i
  fp : FP (fun i => i = mb) w w2
  nx : ¬ r.fp xb
  nm : ¬ r.fp mb

theorem Mid.of_some (h : IxIn P IT BT XT KT w xb mb F nk cnt N) (hF : F kl = some r) : Mid P IT BT XT KT w w xb mb F kl r nk cnt N := by
  obtain ⟨h1, h2, h3, h4⟩ := h.bks kl r hF
  refine ⟨h.blk, ?_, h1, by rw [hF]; rfl, fun i hi => .inl ⟨r, hF, hi⟩, FP.refl _ _, h3, h4⟩
  have e := updL_self (fun k => (F k).map BR.B) kl
  simp only [hF, Option.map_some] at e
  rw [e]; exact h.map

theorem Mid.of_none (h : IxIn P IT BT XT KT w xb mb F nk cnt N) (hF : F kl = none)
    (hm : MapP P KT w2 mb (updL (fun k => (F k).map BR.B) kl (some (w.heap.size + 2))) nk2)
    (hf : FP (fun i => i = mb) (((w.alloc (.map #[] 0)).alloc (.map #[] 0)).alloc (.cells #[.slice none 0 0, .map (some (w.heap.size + 1)), .map (some w.heap.size)] BT (0,0))) w2) :
    Mid P IT BT XT KT w w2 xb mb F kl ⟨w.heap.size + 2, none, w.heap.size + 1, w.heap.size, [], fun _ => false, fun _ => none⟩ nk2 cnt N := by
  have hxl := lt_blk h.blk
  have hml : mb < w.heap.size := by obtain ⟨es, c, hb⟩ := h.map.blk; exact lt_blk hb
  have hge : ∀ i, (⟨w.heap.size + 2, none, w.heap.size + 1, w.heap.size, [], fun _ => false, fun _ => none⟩ : BR).fp i → w.heap.size ≤ i := by
    rintro i (e | e | e | e)
    · simp at e; omega
    · simp at e
    · simp at e; omega
    · simp at e; omega
  have hB : w2.heap[w.heap.size + 2]? = some (.cells #[.slice none 0 0, .map (some (w.heap.size + 1)), .map (some w.heap.size)] BT (0,0)) := by
    rw [hf.blk _ (by simp) (by omega), heap_new_at (by simp)]
  have hh : w2.heap[w.heap.size + 1]? = some (.map #[] 0) := by
    rw [hf.blk _ (by simp) (by omega), Below.heap_alloc _ _ _ (by simp), heap_new_at (by simp)]
  have ha : w2.heap[w.heap.size]? = some (.map #[] 0) := by
    rw [hf.blk _ (by simp; omega) (by omega), Below.heap_alloc _ _ _ (by simp; omega), Below.heap_alloc _ _ _ (by simp), heap_new_at rfl]
  refine ⟨?_, hm, ⟨⟨_, hB, .inl ⟨rfl, rfl, rfl⟩⟩, (SetI.new hh).mono (Nat.zero_le _), (MapI.new ha).mono (Nat.zero_le _), ?_, Nat.zero_le _, Bk.nil⟩, ?_, fun i hi => .inr (hge i hi), ?_, fun hi => ?_, fun hi => ?_⟩
  · rw [hf.blk _ (by simp; omega) h.ne, Below.heap_alloc _ _ _ (by simp; omega), Below.heap_alloc _ _ _ (by simp; omega), Below.heap_alloc _ _ _ hxl]; exact h.blk
  · show w.heap.size + 1 ≠ w.heap.size
    omega
  · rw [hF]; rfl
  · exact ((((FP.refl _ w).alloc _).alloc _).alloc _).trans hf (fun i hi => .inl hi)
  · have := hge _ hi; omega
  · have := hge _ hi; omega

/-- Add's end. -/
theorem add_end (m : Mid P IT BT XT KT w w2 xb mb F kl r nk2 cnt N) (h : IxIn P IT BT XT KT w xb mb F nk cnt N) (hM : ∀ k, M k = idsOf (F k)) (hS : ∀ i, S i ↔ (i = xb ∨ i = mb ∨ ∃ k r, F k = some r ∧ r.fp i))
    (hT : BT ≠ IT) {id : Int} (hid : I64 id) (hn : id ∉ M kl) (hs2 : Same w2 w2q) (f3 : FP (fun i => i = r.ab) w2q w3) (m3 : MapI P IT w3 r.ab (updB r.f id (some (r.l.length : Int))) (N + 1)) {o : Obj}
    (f5 : FP (fun k => r.g = some k) (w3.alloc o) w5) {v' : Value} {g' : Nat} (r5 : RowC w5 IT v' (some g') (r.l.map (Value.int .i64) ++ [.int .i64 id])) (hg' : r.g = some g' ∨ (w3.alloc o).heap.size ≤ g') :
    ∃ S', Ix P IT BT XT KT ((w5.setCell ⟨r.B, 0, none⟩ v').setCell ⟨xb, 1, none⟩ (.int .i64 (cnt + 1))) xb S' (updL M kl (M kl ++ [id])) nk2 (cnt + 1) (N + 1) ∧
      FP S w ((w5.setCell ⟨r.B, 0, none⟩ v').setCell ⟨xb, 1, none⟩ (.int .i64 (cnt + 1))) ∧ ∀ i, S' i → S i ∨ w.heap.size ≤ i := by
  obtain ⟨pv, hblk, hrow⟩ := m.hb.blk
  obtain ⟨a1, a2, a3, a4, a5⟩ := m.hb.apart hT
  have hids : r.ids = M kl := m.ids.trans (hM kl).symm
  have hz : w2q.heap = w2.heap := hs2.1
  have hB := lt_blk hblk
  have hxl := lt_blk m.hx
  have hml : mb < w2.heap.size := by obtain ⟨es, c, hb⟩ := m.hm.blk; exact lt_blk hb
  have hne : xb ≠ mb := h.ne
  have hBx : r.B ≠ xb := fun e => m.nx (.inl e.symm)
  have hBm : r.B ≠ mb := fun e => m.nm (.inl e.symm)
  have s3 := f3.size; rw [hz] at s3
  have s5 := f5.size; simp only [World.alloc, Array.size_push] at s5
  have s1 := m.fp.size
  -- what lies behind w5
  have old : ∀ k, k < w2.heap.size → k ≠ r.ab → r.g ≠ some k → w5.heap[k]? = w2.heap[k]? := fun k hk h1 h2 => by
    rw [f5.blk k (by simp; omega) h2, Below.heap_alloc _ _ _ (by omega), f3.blk k (by rw [hz]; exact hk) h1, hz]
  have hB5 : w5.heap[r.B]? = some (.cells #[pv, .map (some r.hb), .map (some r.ab)] BT (0,0)) := (old _ hB (fun e => a3 e.symm) a1).trans hblk
  have hX5 : w5.heap[xb]? = some (.cells #[.map (some mb), .int .i64 cnt] XT (0,0)) := (old _ hxl (fun e => m.nx (.inr (.inr (.inr e)))) (fun e => m.nx (.inr (.inl e)))).trans m.hx
  have hX6 : (w5.setCell ⟨r.B, 0, none⟩ v').heap[xb]? = some (.cells #[.map (some mb), .int .i64 cnt] XT (0,0)) := by rw [heap_set_ne (fun e => hBx e.symm)]; exact hX5
  obtain ⟨k1, k2⟩ := m.hb.bk.add (id := id) (by rw [show live r.s r.l = M kl from hids]; exact hn) hid
  have far : ∀ k, k ≠ r.B → k ≠ xb → ((w5.setCell ⟨r.B, 0, none⟩ v').setCell ⟨xb, 1, none⟩ (.int .i64 (cnt + 1))).heap[k]? = w5.heap[k]? := fun k h1 h2 => by
    rw [heap_set_ne h2, heap_set_ne h1]
  have hgx : g' ≠ xb := by
    rcases hg' with e | e
    · exact fun e2 => m.nx (.inr (.inl (by rw [e, e2])))
    · simp at e; omega
  have hgB : g' ≠ r.B := by
    rcases hg' with e | e
    · exact fun e2 => a1 (by rw [e, e2])
    · simp at e; omega
  have hfpn : ∀ i, (⟨r.B, some g', r.hb, r.ab, r.l ++ [id], r.s, updB r.f id (some (r.l.length : Int))⟩ : BR).fp i → r.fp i ∨ w.heap.size ≤ i := by
    rintro i (e | e | e | e)
    · exact .inl (.inl e)
    · simp only [Option.some.injEq] at e
      rcases hg' with q | q
      · exact .inl (.inr (.inl (by rw [q, e])))
      · right; simp at q; omega
    · exact .inl (.inr (.inr (.inl e)))
    · exact .inl (.inr (.inr (.inr e)))
  have hbk : BkIn P IT BT ((w5.setCell ⟨r.B, 0, none⟩ v').setCell ⟨xb, 1, none⟩ (.int .i64 (cnt + 1))) ⟨r.B, some g', r.hb, r.ab, r.l ++ [id], r.s, updB r.f id (some (r.l.length : Int))⟩ (N + 1) := by
    refine ⟨⟨v', ?_, ?_⟩, ?_, ?_, m.hb.hne, ?_, k1⟩
    · show (World.setCell _ _ _).heap[r.B]? = _
      rw [heap_set_ne hBx, heap_set hB5, if_pos rfl]; rfl
    · show RowC _ IT v' (some g') ((r.l ++ [id]).map (Value.int .i64))
      rw [List.map_append]
      refine r5.frame fun g hg => ?_
      simp only [Option.some.injEq] at hg
      subst hg
      exact far _ hgB hgx
    · refine (m.hb.hm.frame (w' := _) ?_).mono (Nat.le_succ N)
      show (World.setCell _ _ _).heap[r.hb]? = _
      rw [far _ a2 (fun e => m.nx (.inr (.inr (.inl e.symm)))), old _ (m.hb.lt _ (.inr (.inr (.inl rfl)))) m.hb.hne a4]
    · refine m3.frame ?_
      show (World.setCell _ _ _).heap[r.ab]? = _
      have hab := m.hb.lt r.ab (.inr (.inr (.inr rfl)))
      rw [far _ a3 (fun e => m.nx (.inr (.inr (.inr e.symm)))), f5.blk _ (by simp; omega) a5, Below.heap_alloc _ _ _ (by omega)]
    · have := m.hb.len; show (r.l ++ [id]).length ≤ N + 1; simp; omega
  have hsep : ∀ r', some (⟨r.B, some g', r.hb, r.ab, r.l ++ [id], r.s, updB r.f id (some (r.l.length : Int))⟩ : BR) = some r' → ∀ i, r'.fp i → (∃ r0, F kl = some r0 ∧ r0.fp i) ∨ w.heap.size ≤ i := by
    intro r' e i hi
    simp only [Option.some.injEq] at e
    subst e
    rcases hfpn i hi with q | q
    · exact m.sep i q
    · exact .inr q
  have hfar : ∀ k, k < w.heap.size → k ≠ xb → k ≠ mb → (∀ r0, F kl = some r0 → ¬ r0.fp k) → ((w5.setCell ⟨r.B, 0, none⟩ v').setCell ⟨xb, 1, none⟩ (.int .i64 (cnt + 1))).heap[k]? = w.heap[k]? := by
    intro k hk h1 h2 h3
    have hnf : ¬ r.fp k := fun hi => by
      rcases m.sep k hi with ⟨r0, e1, e2⟩ | e
      · exact h3 r0 e1 e2
      · omega
    rw [far k (fun e => hnf (.inl e)) h1, old k (by omega) (fun e => hnf (.inr (.inr (.inr e)))) (fun e => hnf (.inr (.inl e))), m.fp.blk k hk h2]
  have hI := h.turned (w' := (w5.setCell ⟨r.B, 0, none⟩ v').setCell ⟨xb, 1, none⟩ (.int .i64 (cnt + 1))) (cnt' := cnt + 1) (nk' := nk2) (N' := N + 1) kl (some ⟨r.B, some g', r.hb, r.ab, r.l ++ [id], r.s, updB r.f id (some (r.l.length : Int))⟩)
    (by rw [heap_set hX6, if_pos rfl]; rfl)
    (by
      refine m.hm.frame ?_
      rw [far _ (fun e => hBm e.symm) (fun e => hne e.symm), old _ hml (fun e => m.nm (.inr (.inr (.inr e)))) (fun e => m.nm (.inr (.inl e)))])
    (fun r' e => ⟨by simp only [Option.some.injEq] at e; subst e; exact hbk, by simp only [Option.some.injEq] at e; subst e; show live r.s (r.l ++ [id]) ≠ []; rw [k2]; simp, hsep r' e⟩)
    hfar (Nat.le_succ N)
  obtain ⟨S', h1, h2⟩ := Ix.of_turned hM hS kl _ hI hsep
  refine ⟨S', ?_, ?_, h2⟩
  · have : idsOf (some (⟨r.B, some g', r.hb, r.ab, r.l ++ [id], r.s, updB r.f id (some (r.l.length : Int))⟩ : BR)) = M kl ++ [id] := by
      show live r.s (r.l ++ [id]) = _
      rw [k2, ← hids]
    rw [this] at h1; exact h1
  · have b1 : FP S w w2q := (m.fp.same hs2).mono fun i hi => (hS i).2 (.inr (.inl hi))
    have inS : ∀ i, r.fp i → S i ∨ w.heap.size ≤ i := fun i hi => by
      rcases m.sep i hi with ⟨r0, e1, e2⟩ | e
      · exact .inl ((hS i).2 (.inr (.inr ⟨kl, r0, e1, e2⟩)))
      · exact .inr e
    have b2 := b1.trans f3 (fun i hi => inS i (.inr (.inr (.inr hi))))
    have b3 := (b2.alloc o).trans f5 (fun i hi => inS i (.inr (.inl hi)))
    exact (b3.set (p := ⟨r.B, 0, none⟩) v' (inS _ (.inl rfl))).set (p := ⟨xb, 1, none⟩) _ (.inl ((hS _).2 (.inl rfl)))

/-- Remove's middle: the bucket ahead of close. -/
theorem rem_mid (h : IxIn P IT BT XT KT w xb mb F nk cnt N) (hF : F kl = some r) (hT : BT ≠ IT) {id c : Int} (hc : r.f id = some c) (hs : Same w w2q)
    (f3 : FP (fun i => i = r.hb) w2q w3) (m3 : SetI P IT w3 r.hb (updB r.s c true) (N + 1)) (f4 : FP (fun i => i = r.ab) w3 w4) (m4 : MapI P IT w4 r.ab (updB r.f id none) N) :
    BkIn P IT BT w4 { r with s := updB r.s c true, f := updB r.f id none } (N + 1) ∧ live (updB r.s c true) r.l = r.ids.erase id ∧ FP r.fp w w4 := by
  obtain ⟨h1, h2, h3, h4⟩ := h.bks kl r hF
  obtain ⟨pv, hblk, hrow⟩ := h1.blk
  obtain ⟨a1, a2, a3, a4, a5⟩ := h1.apart hT
  obtain ⟨k1, k2⟩ := h1.bk.remove hc
  have hz : w2q.heap = w.heap := hs.1
  have s3 := f3.size; rw [hz] at s3
  have old : ∀ k, k < w.heap.size → k ≠ r.ab → k ≠ r.hb → w4.heap[k]? = w.heap[k]? := fun k hk e1 e2 => by
    rw [f4.blk k (by omega) e1, f3.blk k (by rw [hz]; exact hk) e2, hz]
  refine ⟨⟨⟨pv, ?_, ?_⟩, ?_, m4.mono (Nat.le_succ N), h1.hne, Nat.le_succ_of_le h1.len, k1⟩, k2, ?_⟩
  · show w4.heap[r.B]? = _
    rw [old _ (lt_blk hblk) (fun e => a3 e.symm) (fun e => a2 e.symm)]; exact hblk
  · exact hrow.frame fun g hg => old g (hrow.lt g hg) (fun e => a5 (by rw [← e]; exact hg)) (fun e => a4 (by rw [← e]; exact hg))
  · exact m3.frame (f4.blk _ (by have := h1.lt r.hb (.inr (.inr (.inl rfl))); omega) h1.hne)
  · exact ((FP.ofSame (S := r.fp) hs).trans f3 (fun i hi => .inl (.inr (.inr (.inl hi))))).trans f4 (fun i hi => .inl (.inr (.inr (.inr hi))))

/-- Remove's end. -/
theorem rem_end (h : IxIn P IT BT XT KT w xb mb F nk cnt N) (hM : ∀ k, M k = idsOf (F k)) (hS : ∀ i, S i ↔ (i = xb ∨ i = mb ∨ ∃ k r, F k = some r ∧ r.fp i)) (hF : F kl = some r) {id : Int} {N' : Nat} (hN : N ≤ N')
    (f4 : FP r.fp w w4) {r' : BR} (hb5 : BkIn P IT BT w5 r' N') (hids : r'.ids = (M kl).erase id) (hnil : r'.l = [] ↔ (M kl).erase id = []) (f5 : FP r.fp w4 w5) (hfp : ∀ i, r'.fp i → r.fp i ∨ w4.heap.size ≤ i)
    (h6 : (r'.l ≠ [] ∧ w6 = w5 ∧ nk2 = nk) ∨ (r'.l = [] ∧ nk2 = nk - 1 ∧ FP (fun i => i = mb) w5 w6 ∧ MapP P KT w6 mb (updL (fun k => (F k).map BR.B) kl none) nk2)) (hB : r'.B = r.B) :
    ∃ S', Ix P IT BT XT KT (w6.setCell ⟨xb, 1, none⟩ (.int .i64 (cnt - 1))) xb S' (updL M kl ((M kl).erase id)) nk2 (cnt - 1) N' ∧
      FP S w (w6.setCell ⟨xb, 1, none⟩ (.int .i64 (cnt - 1))) ∧ ∀ i, S' i → S i ∨ w.heap.size ≤ i := by
  obtain ⟨g1, g2, g3, g4⟩ := h.bks kl r hF
  have hxl := lt_blk h.blk
  have hml : mb < w.heap.size := by obtain ⟨es, c, hb⟩ := h.map.blk; exact lt_blk hb
  have s4 := f4.size
  have s5 := f5.size
  have f45 : FP r.fp w w5 := f4.trans f5 (fun i hi => .inl hi)
  have hx5 : w5.heap[xb]? = some (.cells #[.map (some mb), .int .i64 cnt] XT (0,0)) := (f45.blk _ hxl g3).trans h.blk
  have hm5 : w5.heap[mb]? = w.heap[mb]? := f45.blk _ hml g4
  have f6 : FP (fun i => i = mb) w5 w6 := by
    rcases h6 with ⟨_, rfl, _⟩ | ⟨_, _, f, _⟩
    · exact FP.refl _ _
    · exact f
  have hx6 : w6.heap[xb]? = some (.cells #[.map (some mb), .int .i64 cnt] XT (0,0)) := (f6.blk _ (by omega) h.ne).trans hx5
  have nx' : ¬ r'.fp xb := fun hi => by rcases hfp _ hi with q | q; exact g3 q; omega
  have nm' : ¬ r'.fp mb := fun hi => by rcases hfp _ hi with q | q; exact g4 q; omega
  have inS : ∀ i, r.fp i → S i := fun i hi => (hS i).2 (.inr (.inr ⟨kl, r, hF, hi⟩))
  have hfpS : FP S w (w6.setCell ⟨xb, 1, none⟩ (.int .i64 (cnt - 1))) :=
    ((f45.mono inS).trans f6 (fun i hi => .inl ((hS i).2 (.inr (.inl hi))))).set (p := ⟨xb, 1, none⟩) _ (.inl ((hS _).2 (.inl rfl)))
  have hfar : ∀ k, k < w.heap.size → k ≠ xb → k ≠ mb → (∀ r0, F kl = some r0 → ¬ r0.fp k) → (w6.setCell ⟨xb, 1, none⟩ (.int .i64 (cnt - 1))).heap[k]? = w.heap[k]? := by
    intro k hk e1 e2 e3
    rw [heap_set_ne e1, f6.blk k (by omega) e2, f45.blk k hk (e3 r hF)]
  have hxx : (w6.setCell ⟨xb, 1, none⟩ (.int .i64 (cnt - 1))).heap[xb]? = some (.cells #[.map (some mb), .int .i64 (cnt - 1)] XT (0,0)) := by rw [heap_set hx6, if_pos rfl]; rfl
  rcases h6 with ⟨hl, rfl, rfl⟩ | ⟨hl, rfl, f, hm6⟩
  · have hsep : ∀ r'', some r' = some r'' → ∀ i, r''.fp i → (∃ r0, F kl = some r0 ∧ r0.fp i) ∨ w.heap.size ≤ i := by
      intro r'' e i hi
      simp only [Option.some.injEq] at e; subst e
      rcases hfp i hi with q | q
      · exact .inl ⟨r, hF, q⟩
      · exact .inr (by omega)
    have hne : r'.ids ≠ [] := by rw [hids]; exact fun e => hl (hnil.2 e)
    have hI := h.turned (w' := w6.setCell ⟨xb, 1, none⟩ (.int .i64 (cnt - 1))) (cnt' := cnt - 1) (nk' := nk2) (N' := N') kl (some r') hxx
      (by
        have e := updL_self (fun k => (F k).map BR.B) kl
        simp only [hF, Option.map_some] at e
        rw [show (some r').map BR.B = some r.B by show some r'.B = _; rw [hB], e]
        exact h.map.frame (by rw [heap_set_ne (fun e => h.ne e.symm)]; exact hm5))
      (fun r'' e => by
        have e' := e
        simp only [Option.some.injEq] at e; subst e
        exact ⟨hb5.frame fun i hi => heap_set_ne (fun q => nx' (by rw [← show i = xb from q]; exact hi)), hne, hsep _ e'⟩)
      hfar hN
    obtain ⟨S', h1, h2⟩ := Ix.of_turned hM hS kl _ hI hsep
    rw [show idsOf (some r') = (M kl).erase id from hids] at h1
    exact ⟨S', h1, hfpS, h2⟩
  · have hsep : ∀ r'', (none : Option BR) = some r'' → ∀ i, r''.fp i → (∃ r0, F kl = some r0 ∧ r0.fp i) ∨ w.heap.size ≤ i := fun r'' e => by simp at e
    have hI := h.turned (w' := w6.setCell ⟨xb, 1, none⟩ (.int .i64 (cnt - 1))) (cnt' := cnt - 1) (nk' := nk - 1) (N' := N') kl none hxx
      (hm6.frame (heap_set_ne (fun e => h.ne e.symm)))
      (fun r'' e => by simp at e)
      hfar hN
    obtain ⟨S', h1, h2⟩ := Ix.of_turned hM hS kl _ hI hsep
    rw [show idsOf none = (M kl).erase id from (hnil.1 hl).symm] at h1
    exact ⟨S', h1, hfpS, h2⟩
end
end Go.Proofs.Ytgpekeemmambkaa
