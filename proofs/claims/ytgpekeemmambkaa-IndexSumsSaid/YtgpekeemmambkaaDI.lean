/- The index of integers in the law IndexSums: its turns, what they leave of the buckets, of the sum, of a row told before, of the law's own variables. -/
import Derived.Test.YtgpekeemmambkaaDN
import Derived.Test.YtgpekeemmambkaaIW
import Derived.Test.YtgpekeemmambkaaOpen
namespace Go.Proofs.Ytgpekeemmambkaa
open Go.RowKit Go.ChangeMaps Go.MapKept

theorem keyOf_nat (k : Nat) (h : k ≤ 9223372036854775807) : keyOf Try.prog 3 (.int .i64 k) = some (.int .i64 k) := Maps.keyOf_int_mk Try.underlying3 (wf_i64 ⟨by omega, by omega⟩)

theorem Stp.ofIxI {base : Nat} {w w' : World} {xb : Nat} {S : Nat → Prop} {M : Lit → List Int} {nk : Nat} {cnt : Int} {N : Nat} (h : Ix_I w xb S M nk cnt N) (hS : ∀ i, S i → base ≤ i) (hf : FP S w w') : Stp base w w' := by
  refine ⟨fun i cs t ht hb => ?_, hf.mono hS⟩
  rw [hf.blk i (lt_blk hb) (fun hi => by have := h.tag hi hb; rcases ht with rfl | rfl <;> simp at this)]
  exact hb

/-- In x the index holds the buckets M, as many numbers as cnt; from wo on the law's variables stand; v holds xs, apart from the index. -/
structure Di (base : Nat) (wo : World) (xb : Nat) (x : World) (M : Lit → List Int) (cnt : Int) (N : Nat) (v : Value) (go : Option Nat) (xs : List Int) : Prop where
  ix : ∃ S nk, Ix_I x xb S M nk cnt N ∧ nk ≤ N ∧ (∀ i, S i → base ≤ i) ∧ ∀ g, go = some g → ¬ S g
  row : RowC x 3 v go (xs.map (Value.int .i64))
  st : Stp base wo x
  room : N < 1099511610000
  cnt : 0 ≤ cnt ∧ cnt ≤ N

section
variable {base : Nat} {wo x wx : World} {xb : Nat} {M : Lit → List Int} {cnt : Int} {N : Nat} {v : Value} {go : Option Nat} {xs : List Int}
theorem Di.nob (h : Di base wo xb x M cnt N v go xs) (hf : FP nob x wx) : Di base wo xb wx M cnt N v go xs := by
  obtain ⟨S, nk, h1, h2⟩ := h.ix
  exact ⟨⟨S, nk, h1.fp hf (fun _ _ q => q), h2⟩, h.row.frame (fun g hg => hf.blk g (h.row.lt g hg) (fun q => q)), h.st.trans (Stp.nob hf), h.room, h.cnt⟩
theorem Di.same (h : Di base wo xb x M cnt N v go xs) (hs : Same x wx) : Di base wo xb wx M cnt N v go xs := h.nob (FP.ofSame hs)
theorem Di.nodup (h : Di base wo xb x M cnt N v go xs) (k : Lit) : (M k).Nodup := by obtain ⟨S, nk, h1, _⟩ := h.ix; exact h1.nodup k
theorem Di.short (h : Di base wo xb x M cnt N v go xs) (k : Lit) : (M k).length ≤ N := by obtain ⟨S, nk, h1, _⟩ := h.ix; exact h1.short k
/-- The row is another one now: one that was just told. -/
theorem Di.renew {ao : Option Addr} {cap : Nat} {go2 : Option Nat} {ys : List Int} (h : Di base wo xb x M cnt N v go xs) (ht : Told x wx ao cap go2 ys) : Di base wo xb wx M cnt N (.slice ao ys.length cap) go2 ys := by
  obtain ⟨S, nk, h1, h2, h3, _⟩ := h.ix
  exact ⟨⟨S, nk, h1.fp ht.fp (fun _ _ q => q), h2, h3, fun g hg hS => by have := ht.new g hg; have := h1.lt g hS; omega⟩, ht.row, h.st.trans (Stp.nob ht.fp), h.room, h.cnt⟩
theorem Di.bare (h : Di base wo xb x M cnt N v go xs) : Di base wo xb x M cnt N (.slice none 0 0) none [] := by
  obtain ⟨S, nk, h1, h2, h3, _⟩ := h.ix
  exact ⟨⟨S, nk, h1, h2, h3, fun g hg => by simp at hg⟩, .inl ⟨rfl, rfl, rfl⟩, h.st, h.room, h.cnt⟩

theorem grown_base {S S' : Nat → Prop} {nk : Nat} (h1 : Ix_I x xb S M nk cnt N) (h3 : ∀ i, S i → base ≤ i) (a3 : ∀ i, S' i → S i ∨ x.heap.size ≤ i) : ∀ i, S' i → base ≤ i := fun i hi => by
  rcases a3 i hi with q | q
  · exact h3 i q
  · have hx : S xb := by obtain ⟨mb, F, g1, _, g3⟩ := h1; exact (g3 xb).2 (.inl rfl)
    have h4 := h3 xb hx
    have := h1.lt xb hx
    omega

theorem di_bucket (h : Di base wo xb x M cnt N v go xs) {k : Nat} (hk : k ≤ 9223372036854775807) {n : Nat} (hn : (M (.int .i64 k)).length = n) (hx : Same x wx) :
    Calls Try.prog 24 #[.pointer (some ⟨xb, 0, none⟩), .int .i64 k] wx (fun e x' => ∃ ao cap go2, e = .returned (.slice ao n cap) ∧ Told x x' ao cap go2 (M (.int .i64 k)) ∧ Di base wo xb x' M cnt N v go xs) := by
  subst hn
  have h' := h.same hx
  obtain ⟨S, nk, h1, h2⟩ := h'.ix
  refine (bucket_I h1 (by have := h.room; omega) (keyOf_nat k hk)).mono ?_
  intro e x' hA
  obtain ⟨ao, cap, go, he, ht⟩ := told_of hA
  exact ⟨ao, cap, go, he, ⟨ht.row, (FP.ofSame hx).trans ht.fp (fun _ q => q.elim), fun g hg => by have := ht.new g hg; rw [hx.1] at this; exact this⟩, h'.nob ht.fp⟩
theorem di_len (h : Di base wo xb x M cnt N v go xs) {c : Int} (hc : cnt = c) (hx : Same x wx) :
    Calls Try.prog 25 #[.pointer (some ⟨xb, 0, none⟩)] wx (fun e x' => e = .returned (.int .i64 c) ∧ Di base wo xb x' M cnt N v go xs ∧ FP nob x x') := by
  subst hc
  have h' := h.same hx
  obtain ⟨S, nk, h1, h2⟩ := h'.ix
  exact (len_I h1).mono fun _ _ ⟨he, hs⟩ => ⟨he, h'.same hs, FP.ofSame (hx.trans hs)⟩
theorem di_has (h : Di base wo xb x M cnt N v go xs) {k : Nat} (hk : k ≤ 9223372036854775807) {id : Int} (hid : I64 id) (hm : id ∈ M (.int .i64 k)) (hx : Same x wx) :
    Calls Try.prog 28 #[.pointer (some ⟨xb, 0, none⟩), .int .i64 k, .int .i64 id] wx (fun e x' => e = .returned (.bool true) ∧ Di base wo xb x' M cnt N v go xs) := by
  have h' := h.same hx
  obtain ⟨S, nk, h1, h2⟩ := h'.ix
  have := has_I h1 (keyOf_nat k hk) hid
  rw [hasB_true hm] at this
  exact this.mono fun _ _ ⟨he, hs⟩ => ⟨he, h'.same hs⟩
/-- What an added number leaves. -/
noncomputable def plusM (M : Lit → List Int) (k : Nat) (id : Int) : Lit → List Int := updL M (.int .i64 k) (M (.int .i64 k) ++ [id])
theorem di_add (h : Di base wo xb x M cnt N v go xs) {k : Nat} (hk : k ≤ 9223372036854775807) {id : Int} (hid : I64 id) (hm : id ∉ M (.int .i64 k)) (hN : N + 1 < 1099511610000) (hx : Same x wx) :
    Calls Try.prog 26 #[.pointer (some ⟨xb, 0, none⟩), .int .i64 k, .int .i64 id] wx (fun e x' => e = .returned (.bool true) ∧ Di base wo xb x' (plusM M k id) (cnt + 1) (N + 1) v go xs) := by
  have h' := h.same hx
  obtain ⟨S, nk, h1, h2, h3, h4⟩ := h'.ix
  have hr := h.room
  have hc := h.cnt
  refine (add_I h1 (by omega) (by omega) ⟨by omega, by omega⟩ (keyOf_nat k hk) hid).mono ?_
  intro e x' hA
  obtain ⟨he, S', a1, a2, a3⟩ := hA
  rw [hasB_false hm] at he a1
  rw [if_neg (by decide), if_neg (by decide), addM, if_neg hm] at a1
  refine ⟨he, ⟨⟨S', _, a1, ?_, grown_base h1 h3 a3, fun g hg hS => ?_⟩, h'.row.frame (fun g hg => a2.blk g (h'.row.lt g hg) (h4 g hg)), h'.st.trans (Stp.ofIxI h1 h3 a2), hN, ⟨by omega, by omega⟩⟩⟩
  · unfold addK; split <;> omega
  · have := h'.row.lt g hg
    rcases a3 g hS with q | q
    · exact h4 g hg q
    · omega
theorem di_add_no (h : Di base wo xb x M cnt N v go xs) {k : Nat} (hk : k ≤ 9223372036854775807) {id : Int} (hid : I64 id) (hm : id ∈ M (.int .i64 k)) (hN : N + 1 < 1099511610000) (hx : Same x wx) :
    Calls Try.prog 26 #[.pointer (some ⟨xb, 0, none⟩), .int .i64 k, .int .i64 id] wx (fun e x' => e = .returned (.bool false) ∧ Di base wo xb x' M cnt (N + 1) v go xs) := by
  have h' := h.same hx
  obtain ⟨S, nk, h1, h2, h3, h4⟩ := h'.ix
  have hr := h.room
  have hc := h.cnt
  refine (add_I h1 (by omega) (by omega) ⟨by omega, by omega⟩ (keyOf_nat k hk) hid).mono ?_
  intro e x' hA
  obtain ⟨he, S', a1, a2, a3⟩ := hA
  rw [hasB_true hm] at he a1
  rw [if_pos rfl, if_pos rfl, addM, if_pos hm] at a1
  refine ⟨he, ⟨⟨S', _, a1, by omega, grown_base h1 h3 a3, fun g hg hS => ?_⟩, h'.row.frame (fun g hg => a2.blk g (h'.row.lt g hg) (h4 g hg)), h'.st.trans (Stp.ofIxI h1 h3 a2), hN, ⟨by omega, by omega⟩⟩⟩
  have := h'.row.lt g hg
  rcases a3 g hS with q | q
  · exact h4 g hg q
  · omega
/-- Add, whatever it answers. -/
theorem di_add_any (h : Di base wo xb x M cnt N v go xs) {k : Nat} (hk : k ≤ 9223372036854775807) {id : Int} (hid : I64 id) (hN : N + 1 < 1099511610000) {b : Bool} (hb : decide (id ∈ M (.int .i64 k)) = b) (hx : Same x wx) :
    Calls Try.prog 26 #[.pointer (some ⟨xb, 0, none⟩), .int .i64 k, .int .i64 id] wx (fun e x' => e = .returned (.bool !b) ∧ Di base wo xb x' (if b then M else plusM M k id) (if b then cnt else cnt + 1) (N + 1) v go xs) := by
  subst hb
  by_cases hm : id ∈ M (.int .i64 k)
  · rw [decide_eq_true hm]
    simpa using di_add_no h hk hid hm hN hx
  · rw [decide_eq_false hm]
    simpa using di_add h hk hid hm hN hx
/-- What was just added is taken away again. -/
theorem di_rem {k : Nat} {id : Int} (h : Di base wo xb x (plusM M k id) (cnt + 1) N v go xs) (hk : k ≤ 9223372036854775807) (hid : I64 id) (hm : id ∉ M (.int .i64 k)) (hN : N + 1 < 1099511610000) (h0 : 0 ≤ cnt) (hx : Same x wx) :
    Calls Try.prog 27 #[.pointer (some ⟨xb, 0, none⟩), .int .i64 k, .int .i64 id] wx (fun e x' => e = .returned (.bool true) ∧ Di base wo xb x' M cnt (N + 1) v go xs) := by
  have h' := h.same hx
  obtain ⟨S, nk, h1, h2, h3, h4⟩ := h'.ix
  have hr := h.room
  have hc := h.cnt
  have hp : plusM M k id (.int .i64 k) = M (.int .i64 k) ++ [id] := updL_same _ _ _
  have hin : id ∈ plusM M k id (.int .i64 k) := by rw [hp]; simp
  have hback : remM (plusM M k id) (.int .i64 k) id = M := by
    rw [remM, hp, erase_snoc _ _ hm, plusM, updL_updL, updL_self]
  refine (rem_I h1 (by omega) ⟨by omega, by omega⟩ (keyOf_nat k hk) hid).mono ?_
  intro e x' hA
  obtain ⟨he, S', a1, a2, a3⟩ := hA
  rw [hasB_true hin] at he a1
  rw [if_pos rfl, if_pos rfl, hback, show cnt + 1 - 1 = cnt by omega] at a1
  refine ⟨he, ⟨⟨S', _, a1, ?_, grown_base h1 h3 a3, fun g hg hS => ?_⟩, h'.row.frame (fun g hg => a2.blk g (h'.row.lt g hg) (h4 g hg)), h'.st.trans (Stp.ofIxI h1 h3 a2), hN, ⟨by omega, by omega⟩⟩⟩
  · unfold remK; split <;> omega
  · have := h'.row.lt g hg
    rcases a3 g hS with q | q
    · exact h4 g hg q
    · omega
/-- Is what is told the row that was told before? -/
theorem di_eq {y : World} {ao ao2 : Option Addr} {n cap cap2 : Nat} {go2 : Option Nat} (h : Di base wo xb x M cnt N (.slice ao n cap) go xs) (hT : Told y x ao2 cap2 go2 xs) (hn : xs.length = n) (hl : n ≤ N) (hx : Same x wx) :
    Calls Try.prog 15 #[.slice ao2 n cap2, .slice ao n cap] wx (fun e x' => e = .returned (.bool true) ∧ Di base wo xb x' M cnt N (.slice ao n cap) go xs) := by
  subst hn
  have h' := h.same hx
  have hr := h.room
  have := eqints_any (ca := cap2) (cb := cap) (ints_row (hT.same hx).row).1 (ints_row h'.row).1 (by omega) (by omega)
  rw [eqB_true rfl] at this
  refine this.mono ?_
  rintro e x' ⟨he, q, rfl⟩
  exact ⟨he, h'.same ⟨rfl, rfl, rfl, rfl⟩⟩
/-- The law's variables in x. -/
theorem Stp.vars {w w1 : World} {La : Option Addr} {ln lc : Nat} {D I : Nat → Int} {K T : Nat → ByteArray} {v : Value} (hs : ScriptAt w v La ln lc D I K T) (hpb : w1.heap[w.heap.size]? = some (.cells #[.slice La ln lc] 24 (0,0))) (hf : FP (fun i => w.heap.size ≤ i) w w1)
    (h : Stp w.heap.size w1 x) {b o : Nat} (hLa : La = some ⟨b, o, none⟩) {k : Nat} (hk : k < ln) : x.cell? ⟨w.heap.size, 0, none⟩ = some (.slice (some ⟨b, o, none⟩) ln lc) ∧ x.cell? ⟨b, o + k * 4 + 1, none⟩ = some (.string (K k)) ∧ x.cell? ⟨b, o + k * 4 + 3, none⟩ = some (.int .i64 (I k)) := by
  obtain ⟨b', o', e, hb, hcells⟩ := hs.ops (by omega)
  rw [hLa] at e
  simp only [Option.some.injEq, Addr.mk.injEq, and_true] at e
  obtain ⟨rfl, rfl⟩ := e
  obtain ⟨q0, q1, q2, q3⟩ := hcells k hk
  have hbl : x.heap[b]? = w.heap[b]? := (h.2.blk b (by have := hf.size; omega) (by omega)).trans (hf.blk b hb (by omega))
  refine ⟨?_, (World.cell?_of_block (w := w) hbl).trans q1, (World.cell?_of_block (w := w) hbl).trans q3⟩
  rw [cell_blk (h.1 _ _ _ (.inl rfl) hpb), hLa]; rfl
end
end Go.Proofs.Ytgpekeemmambkaa
