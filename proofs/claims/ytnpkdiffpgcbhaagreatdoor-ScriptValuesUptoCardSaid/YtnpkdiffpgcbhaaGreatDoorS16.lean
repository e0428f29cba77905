/- The lexer, walked (LexH). Conditions: each theorem's own. -/
import Derived.Test.YtnpkdiffpgcbhaaGreatDoorS14
import Derived.Test.YtnpkdiffpgcbhaaGreatDoorS10
import Derived.Test.YtnpkdiffpgcbhaaGreatDoorS15
import Derived.Deep.Onto
set_option maxRecDepth 100000
set_option maxHeartbeats 2000000
namespace Go.Proofs.YtnpkdiffpgcbhaaGreatDoor
open Go.RowKit Go.Shelf
attribute [local go_sem] Oper.semAt_some
theorem all_any (xb : Nat) (w : World) :
  Calls Tryz.prog 108 #[.pointer (some ⟨xb, 0, none⟩)] w fun e w' => e = .returned (.func (.func 133) #[] #[.pointer (some ⟨w.heap.size, 0, none⟩)]) ∧
   w.alloc (.cells #[.pointer (some ⟨xb, 0, none⟩)] 156) = w' := by
 go_enter Tryz.func108, Tryz.ntmps108
 go_wp2
 go_ret
 exact ⟨rfl, rfl⟩
inductive LexRow : List Lx → List Value → Prop where
 | nil : LexRow [] []
 | cons {x : Lx} {T : List Lx} {xs : List Value} (t : ByteArray) (i j : Int) (ht : t.data.toList = x.text) (h : LexRow T xs) : LexRow (x :: T) (.int .i64 (x.kind : Int) :: .string t :: .int .i64 i :: .int .i64 j :: xs)
theorem LexRow.snoc {T : List Lx} {xs : List Value} (h : LexRow T xs) {x : Lx} (t : ByteArray) (i j : Int) (ht : t.data.toList = x.text) : LexRow (T ++ [x]) (xs ++ [.int .i64 (x.kind : Int), .string t, .int .i64 i, .int .i64 j]) := by
 induction h with
 | nil => exact .cons t i j ht .nil
 | cons t' i' j' ht' _ ih => exact .cons t' i' j' ht' ih
structure LSt where
 T : List Lx
 a : Nat
 bad : Bool := false
structure LongI (h : Nat) (s : ByteArray) (w : World) (st : LSt) (W : World) : Prop where
 lx : LxAt W (h + 1 + 1 + 1) s st.a st.bad
 r0 : W.heap[h]? = some (.cells #[.slice none 0 0] 128 (0,0))
 r1 : W.heap[h + 1]? = some (.cells #[.int .i64 0] 3 (0,0))
 r2 : W.heap[h + 1 + 1]? = some (.cells #[.int .i64 0] 33 (0,0))
 cp : W.heap[h + 1 + 1 + 1 + 1 + 1]? = some (.cells #[.pointer (some ⟨h + 1 + 1 + 1, 0, none⟩)] 156 (0,0))
 row : ∃ v xs, W.heap[h + 1 + 1 + 1 + 1]? = some (.cells #[v] 128 (0,0)) ∧ W.ownsRow (h + 6) 139 4 v st.T.length xs ∧ LexRow st.T xs
 len : st.T.length ≤ 4096
 bel : Below h w W
structure LongX (h : Nat) (w : World) (W : World) : Prop where
 r0 : W.heap[h]? = some (.cells #[.slice none 0 0] 128 (0,0))
 r1 : ∃ n : Int, W.heap[h + 1]? = some (.cells #[.int .i64 n] 3 (0,0))
 r2 : W.heap[h + 1 + 1]? = some (.cells #[.int .i64 20] 33 (0,0))
 bel : Below h w W
theorem row_abides {W W' : World} {row : Option Nat} {base : Nat} {e : TypeId} {size : Nat} {v : Value} {k : Nat} {xs : List Value} (h : W.ownsRow base e size v k xs) (hg : W.grownBy W' row)
  (hrow : ∀ r, row = some r → ∃ o : Obj, W.heap[r]? = some o ∧ o.isCells = false) : W'.ownsRow base e size v k xs := by
 refine h.kept hg ?_
 rcases h.2 with ⟨rfl, _⟩ | ⟨g, cap, cur, rfl, _, hgb, _⟩
 ·exact .inl rfl
 ·refine .inr fun e' => ?_
  obtain ⟨o, ho, hw⟩ := hrow g (by simpa [Value.ownBlock] using e'.symm)
  rw [hgb] at ho; cases ho; cases hw
theorem LongI.grown {h : Nat} {s : ByteArray} {w A B : World} {st : LSt} {row : Option Nat} (hi : LongI h s w st A) (hg : A.grownBy B row) (hr : ∀ r, row = some r → h ≤ r ∧ ∃ o, A.heap[r]? = some o ∧ o.isCells = false) : LongI h s w st B := by
 have hold : ∀ (k : Nat) (o : Obj), A.heap[k]? = some o → o.isCells = true → B.heap[k]? = some o := fun (k : Nat) (o : Obj) hk hc => (grownBy_keeps_cells hg (fun r e => (hr r e).2) hk hc).trans hk
 obtain ⟨v, xs, q1, q2, q3⟩ := hi.row
 exact ⟨⟨hold _ _ hi.lx.blk rfl, hi.lx.le, hi.lx.sz⟩, hold _ _ hi.r0 rfl, hold _ _ hi.r1 rfl, hold _ _ hi.r2 rfl, hold _ _ hi.cp rfl, ⟨v, xs, hold _ _ q1 rfl, row_abides q2 hg (fun r e => (hr r e).2), q3⟩, hi.len,
  hi.bel.grown hg (by have := lt_blk hi.r0; omega) (fun r e => (hr r e).1)⟩
theorem LongX.grown {h : Nat} {w A B : World} {row : Option Nat} (hi : LongX h w A) (hg : A.grownBy B row) (hr : ∀ r, row = some r → h ≤ r ∧ ∃ o, A.heap[r]? = some o ∧ o.isCells = false) : LongX h w B := by
 have hold : ∀ (k : Nat) (o : Obj), A.heap[k]? = some o → o.isCells = true → B.heap[k]? = some o := fun (k : Nat) (o : Obj) hk hc => (grownBy_keeps_cells hg (fun r e => (hr r e).2) hk hc).trans hk
 obtain ⟨n, q⟩ := hi.r1
 exact ⟨hold _ _ hi.r0 rfl, ⟨n, hold _ _ q rfl⟩, hold _ _ hi.r2 rfl, hi.bel.grown hg (by have := lt_blk hi.r0; omega) (fun r e => (hr r e).1)⟩
theorem LongI.move {h : Nat} {s : ByteArray} {w W W' : World} {T : List Lx} {a a' : Nat} {b b' : Bool} (hi : LongI h s w ⟨T, a, b⟩ W) (hf : FP (fun i => i = h + 1 + 1 + 1) W W') (hl : LxAt W' (h + 1 + 1 + 1) s a' b') : LongI h s w ⟨T, a', b'⟩ W' := by
 obtain ⟨v, xs, q1, q2, q3⟩ := hi.row
 have keep : ∀ {k o}, W.heap[k]? = some o → k ≠ h + 1 + 1 + 1 → W'.heap[k]? = some o := fun hk hne => (hf.blk _ (lt_blk hk) hne).trans hk
 refine ⟨hl, keep hi.r0 (by omega), keep hi.r1 (by omega), keep hi.r2 (by omega), keep hi.cp (by omega), ⟨v, xs, keep q1 (by omega), ?_, q3⟩, hi.len, ?_⟩
 ·refine q2.kept (row := some (h + 1 + 1 + 1)) ⟨hf.os, hf.tape, hf.output, hf.size, fun k hk hne => hf.blk k hk (fun e => hne (by rw [e]))⟩ ?_
  refine .inr fun e => ?_
  have := (q2.lt _ e).1
  omega
 ·exact hi.bel.trans (hf.below (fun k e => by omega) (by have := lt_blk hi.r0; omega))
def LongPost (w : World) (s : ByteArray) (e : Ending) (w' : World) : Prop :=
 Below w.heap.size w w' ∧ match lexS s.data.toList with
  | some T => ∃ v xs, e = .returned (.tuple #[v, .int .i64 0, .int .i64 0]) ∧ w'.ownsRow w.heap.size 139 4 v T.length xs ∧ LexRow T xs
  | none => ∃ n : Int, e = .returned (.tuple #[.slice none 0 0, .int .i64 n, .int .i64 20])
abbrev longA (s : ByteArray) (h b : Nat) (v : Value) : Act :=
 { tmps := #[.string s, undef, .pointer (some ⟨h, 0, none⟩), .pointer (some ⟨h + 1, 0, none⟩), .pointer (some ⟨h + 1 + 1, 0, none⟩), .pointer (some ⟨h + 1 + 1 + 1, 0, none⟩), .pointer (some ⟨h + 1 + 1 + 1 + 1, 0, none⟩),
   .pointer (some ⟨b, 0, none⟩), .string s, .agg #[.string s, .int .i64 0, .bool false], .pointer (some ⟨h + 1 + 1 + 1, 0, none⟩), .pointer (some ⟨h + 1 + 1 + 1, 0, none⟩), .func (.func 133) #[] #[.pointer (some ⟨h + 1 + 1 + 1 + 1 + 1, 0, none⟩)],
   v, undef, undef, undef, undef, undef, undef, undef, undef, undef, undef, undef, undef, undef, undef, undef, undef, undef, undef], defers := [] }
theorem told_full {s : ByteArray} {T : List Lx} {x : Lx} {a : Nat} (h : Told s (T ++ [x]) a) (hl : T.length = 4096) : lexS s.data.toList = none := by
 unfold Told at h
 have h' : lexA s.data.toList = (lexA (restB s a)).map (T ++ [x] ++ ·) := h
 unfold lexS
 rw [h']
 cases lexA (restB s a) with
 | none => rfl
 | some l =>
  simp only [Option.map_some]
  rw [if_neg]
  unfold maxLex
  simp only [List.length_append, hl, List.length_cons, List.length_nil]
  omega
theorem infoL : (Tryz.prog.info? 139).map (fun i => (i.zero, i.size, i.bytes)) = some (some (.agg #[.int .i64 0, .string ⟨#[]⟩, .int .i64 0, .int .i64 0]), 4, 40) := by kernel_rfl
theorem own_shape {w : World} {base : Nat} {e : TypeId} {size : Nat} {v : Value} {n : Nat} {xs : List Value} (h : w.ownsRow base e size v n xs) : ∃ a c, v = .slice a n c := by
 rcases h.2 with ⟨rfl, h0⟩ | ⟨g, cap, cur, rfl, _⟩
 ·subst h0
  exact ⟨_, _, rfl⟩
 ·exact ⟨_, _, rfl⟩
theorem long_ret {s : ByteArray} {w W : World} {h D : Nat} {o : Obj} {tmps : Array Value} (hh : w.heap.size = h) (hx : LongX h w W) (hn : lexS s.data.toList = none) (hD : h + 6 ≤ D)
  (t2 : tmps[2]?.getD undef = .pointer (some ⟨h, 0, none⟩)) (t3 : tmps[3]?.getD undef = .pointer (some ⟨h + 1, 0, none⟩)) (t4 : tmps[4]?.getD undef = .pointer (some ⟨h + 1 + 1, 0, none⟩)) :
  LeavesInM Fence.wide 10 Tryz.prog Tryz.f70 tmps (LongPost w s) [] FrameMode.returning (W.putObj D o) := by
 obtain ⟨n, q⟩ := hx.r1
 have e0 : (W.putObj D o).cell? ⟨h, 0, none⟩ = some (.slice none 0 0) := cell_blk ((World.putObj_heap_other (by omega)).trans hx.r0)
 have e1 : (W.putObj D o).cell? ⟨h + 1, 0, none⟩ = some (.int .i64 n) := cell_blk ((World.putObj_heap_other (by omega)).trans q)
 have e2 : (W.putObj D o).cell? ⟨h + 1 + 1, 0, none⟩ = some (.int .i64 20) := cell_blk ((World.putObj_heap_other (by omega)).trans hx.r2)
 refine ⟨.tuple #[.slice none 0 0, .int .i64 n, .int .i64 20], ?_, ?_, ?_⟩
 ·simp [results, Tryz.results70, go_sem, t2, t3, t4, e0, e1, e2]
 ·rw [hh]
  exact hx.bel.grown (grownBy_putObj' W D o) (by have := lt_blk hx.r0; omega) (fun k e => by have := Option.some.inj e; omega)
 ·rw [hn]; exact ⟨n, rfl⟩
theorem long_ok {s : ByteArray} {w W : World} {h D n cap : Nat} {ao : Option Addr} {T : List Lx} {xs : List Value} {o : Obj} {tmps : Array Value} (hh : w.heap.size = h)
  (r0 : W.heap[h]? = some (.cells #[.slice ao n cap] 128 (0,0))) (r1 : W.heap[h + 1]? = some (.cells #[.int .i64 0] 3 (0,0))) (r2 : W.heap[h + 1 + 1]? = some (.cells #[.int .i64 0] 33 (0,0)))
  (hb : Below h w W) (hT : lexS s.data.toList = some T) (hr : W.ownsRow (h + 6) 139 4 (.slice ao n cap) T.length xs) (hl : LexRow T xs) (hD : h + 6 ≤ D) {oo : Obj} (hK : W.heap[D]? = some oo) (hoo : oo.isCells = false)
  (t2 : tmps[2]?.getD undef = .pointer (some ⟨h, 0, none⟩)) (t3 : tmps[3]?.getD undef = .pointer (some ⟨h + 1, 0, none⟩)) (t4 : tmps[4]?.getD undef = .pointer (some ⟨h + 1 + 1, 0, none⟩)) :
  LeavesInM Fence.wide 10 Tryz.prog Tryz.f70 tmps (LongPost w s) [] FrameMode.returning (W.putObj D o) := by
 have e0 : (W.putObj D o).cell? ⟨h, 0, none⟩ = some (.slice ao n cap) := cell_blk ((World.putObj_heap_other (by omega)).trans r0)
 have e1 : (W.putObj D o).cell? ⟨h + 1, 0, none⟩ = some (.int .i64 0) := cell_blk ((World.putObj_heap_other (by omega)).trans r1)
 have e2 : (W.putObj D o).cell? ⟨h + 1 + 1, 0, none⟩ = some (.int .i64 0) := cell_blk ((World.putObj_heap_other (by omega)).trans r2)
 refine ⟨.tuple #[.slice ao n cap, .int .i64 0, .int .i64 0], ?_, ?_, ?_⟩
 ·simp [results, Tryz.results70, go_sem, t2, t3, t4, e0, e1, e2]
 ·rw [hh]
  exact hb.grown (grownBy_putObj' W D o) (by have := lt_blk r0; omega) (fun k e => by have := Option.some.inj e; omega)
 ·rw [hT]
  exact ⟨_, xs, rfl, World.ownsRow.mono (row_abides hr (grownBy_putObj' W D o) (fun r e => by have e' := Option.some.inj e; subst e'; exact ⟨oo, hK, hoo⟩)) (by omega), hl⟩
theorem long_any (s : ByteArray) (w : World) (hs : s.size ≤ 1099511627776) :
  Calls Tryz.prog 70 #[.string s] w (LongPost w s) := by
 refine (callsIn_wide (n := 10)).1 ?_
 refine callsIn_of_wp_marks Tryz.func70 rfl trivial ?_ rfl
 simp only [Tryz.ntmps70, List.size_toArray, List.length_cons, List.length_nil, Nat.reduceAdd, Nat.reduceSub, Array.replicate_succ, Array.replicate_zero, List.push_toArray, List.append_toArray, List.nil_append, List.cons_append]
 have hmx : Tryz.prog.follows .mixedOrders = true := by kernel_rfl
 refine wpIn_mono (Q := calm _) ?_ calm_imp
 gi_wp2
 gi_wp2_with (refine ⟨trivial, ?_⟩; gi_at_call 108; refine (callsIn_wide.2 (all_any _ _)).mono ?_; rintro e w' ⟨rfl, rfl⟩)
 obtain ⟨h, hh⟩ : ∃ h, w.heap.size = h := ⟨_, rfl⟩
 obtain ⟨w0, hw0⟩ : ∃ w0, (((((w.alloc (.cells #[.slice none 0 0] 128)).alloc (.cells #[.int .i64 0] 3)).alloc (.cells #[.int .i64 0] 33)).alloc (.cells #[.string s, .int .i64 0, .bool false] 158)).alloc (.cells #[.slice none 0 0] 128)).alloc (.cells #[.pointer (some ⟨w.heap.size + 1 + 1 + 1, 0, none⟩)] 156) = w0 := ⟨_, rfl⟩
 have hsz0 : w0.heap.size = h + 6 := by rw [← hw0, ← hh]; simp
 have hI0 : LongI h s w ⟨[], 0, false⟩ w0 := by
  have hA : ∀ (k : Nat) (W : World) (o o' : Obj), W.heap[k]? = some o → (W.alloc o').heap[k]? = some o := fun k W o o' hk => (Below.heap_alloc _ _ _ (lt_blk hk)).trans hk
  subst hh
  rw [← hw0]
  refine ⟨⟨hA _ _ _ _ (hA _ _ _ _ (heap_new_at (by simp) _)), Nat.zero_le _, hs⟩, hA _ _ _ _ (hA _ _ _ _ (hA _ _ _ _ (hA _ _ _ _ (hA _ _ _ _ (heap_new_at rfl _))))), hA _ _ _ _ (hA _ _ _ _ (hA _ _ _ _ (hA _ _ _ _ (heap_new_at (by simp) _)))), hA _ _ _ _ (hA _ _ _ _ (hA _ _ _ _ (heap_new_at (by simp) _))),
   heap_new_at (by simp) _, ⟨_, _, hA _ _ _ _ (heap_new_at (by simp) _), World.ownsRow_nil _ _ _ _, .nil⟩, Nat.zero_le _, ?_⟩
  exact ((((((Below.refl _ _).alloc (Nat.le_refl _) _).alloc (by simp) _).alloc (by simp; omega) _).alloc (by simp; omega) _).alloc (by simp; omega) _).alloc (by simp; omega) _
 rw [hw0, hh]
 refine wpIn_rangeFunc_ghost (σ := LSt) (α := Lx × ByteArray × Int × Int) rfl (by decide) (gf := 133) (lb := #[.pointer (some ⟨h + 1 + 1 + 1 + 1 + 1, 0, none⟩)]) rfl trivial (enters_of Tryz.func133 (by kernel_rfl) rfl)
   (encs := fun p => #[lexV p.1.kind p.2.1 p.2.2.1 p.2.2.2]) (fun _ => rfl)
   (fun st W => LongI h s w st W)
   (fun c W => c = .ret ∧ LongX h w W ∧ lexS s.data.toList = none)
   (fun st p => st.bad = false ∧ p.2.1.data.toList = p.1.text ∧ Told s (st.T ++ [p.1]) st.a) (fun st p st' => st' = ⟨st.T ++ [p.1], st.a, false⟩)
   (fun st => (st.bad = false ∧ lexA s.data.toList = some st.T) ∨ (st.bad = true ∧ lexA s.data.toList = none))
   ?_ ?_ ⟨[], 0, false⟩ hI0 ?_ (fun st p a' W => ∃ b, a' = longA s h b (lexV p.1.kind p.2.1 p.2.2.1 p.2.2.2) ∧ LongI h s w st W ∧ W.heap[b]? = some (.cells #[.int .i64 p.1.kind, .string p.2.1, .int .i64 p.2.2.1, .int .i64 p.2.2.2] 139 (0,0))) ?_ ?_ ?_ ?_ ?_
 ·intro st A B row hi hg hr
  exact hi.grown hg (fun r e => ⟨by have := (hr r e).1; omega, (hr r e).2⟩)
 ·rintro c st A B row ⟨h1, h2, h3⟩ hg hr
  exact ⟨h1, h2.grown hg (fun r e => ⟨by have := (hr r e).1; omega, (hr r e).2⟩), h3⟩
 ·intro l Bk Jx W hbk hround hI hBk
  refine (lexes_in l (h + 1 + 1 + 1 + 1 + 1) (h + 1 + 1 + 1) s (fun T a W => LongI h s w ⟨T, a, false⟩ W ∧ Bk W) Jx ?_ ?_ ?_ W ⟨hI, hBk⟩).mono ?_
  ·rintro T a W ⟨hi, _⟩
   exact ⟨hi.lx, cell_blk hi.cp, by omega, lt_blk hi.cp⟩
  ·rintro T a W a' W' ⟨hi, hb⟩ hf hl
   refine ⟨hi.move hf hl, hbk _ _ hb ?_⟩
   intro k o hk ho
   refine (hf.blk k (lt_blk hk) ?_).trans hk
   rintro rfl
   rw [hi.lx.blk] at hk; cases hk; cases ho
  ·rintro T a W x t i j ⟨hi, hb⟩ ht htold
   obtain ⟨fn, tmps, assign, body, hy, hR⟩ := hround ⟨T, a, false⟩ (x, t, i, j) W ⟨rfl, ht, htold⟩ hi hb
   refine ⟨fn, tmps, assign, body, hy, hR.mono ?_⟩
   rintro e W' (⟨rfl, st', rfl, hi', hb'⟩ | ⟨rfl, hx'⟩)
   ·exact .inl ⟨rfl, hi', hb'⟩
   ·exact .inr ⟨rfl, hx'⟩
  ·rintro e W' ⟨h1, h2 | h2 | h2⟩
   ·obtain ⟨T, a, hT, hi, hb⟩ := h2
    exact ⟨h1, .inl ⟨⟨T, a, false⟩, .inl ⟨rfl, hT⟩, hi, hb⟩⟩
   ·obtain ⟨hT, T, a, W1, ⟨hi, hb⟩, hf, hl⟩ := h2
    refine ⟨h1, .inl ⟨⟨T, a, true⟩, .inr ⟨rfl, hT⟩, hi.move hf hl, hbk _ _ hb ?_⟩⟩
    intro k o hk ho
    refine (hf.blk k (lt_blk hk) ?_).trans hk
    rintro rfl
    rw [hi.lx.blk] at hk; cases hk; cases ho
   ·exact ⟨h1, .inr h2⟩
 ·rintro a' ⟨st, p⟩ A B row ⟨b, rfl, hi, hb⟩ hg hr
  exact ⟨b, rfl, hi.grown hg (fun r e => ⟨by have := (hr r e).1; omega, (hr r e).2⟩), (grownBy_keeps_cells hg (fun r e => (hr r e).2) hb rfl).trans hb⟩
 ·rintro l st ⟨x, t, i, j⟩ W K ht hi hK
  have hK' := hK (longA s h W.heap.size (lexV x.kind t i j)) (W.alloc (.cells #[.int .i64 x.kind, .string t, .int .i64 i, .int .i64 j] 139)) ⟨_, rfl, hi.grown (World.grownBy_alloc W _ none) (fun r e => by cases e), heap_new_at rfl _⟩ (fun k o hk _ => (Below.heap_alloc _ _ _ (lt_blk hk)).trans hk)
  clear hK
  gi_wp2
  exact hK'
 ·rintro l ⟨T, a, bad⟩ ⟨x, t, i, j⟩ a' W ⟨hb0, ht, htold⟩ ⟨b, rfl, hi, hb⟩
  simp only at hb0 ht htold
  subst hb0
  obtain ⟨v, xs, q1, q2, q3⟩ := hi.row
  simp only at q1 q2 q3
  obtain ⟨ao, cap, rfl⟩ := own_shape q2
  obtain ⟨m, hm⟩ : ∃ m, T.length = m := ⟨_, rfl⟩
  rw [hm] at q1 q2
  have hlen : m ≤ 4096 := by rw [← hm]; exact hi.len
  have b0 : W.cell? ⟨b, 0, none⟩ = some (.int .i64 x.kind) := cell_blk hb
  have b1 : W.cell? ⟨b, 1, none⟩ = some (.string t) := cell_blk hb
  have b2 : W.cell? ⟨b, 2, none⟩ = some (.int .i64 i) := cell_blk hb
  have b3 : W.cell? ⟨b, 3, none⟩ = some (.int .i64 j) := cell_blk hb
  have c0 : W.cell? ⟨h + 1 + 1 + 1 + 1, 0, none⟩ = some (.slice ao m cap) := cell_blk q1
  have d0 : W.cell? ⟨h, 0, none⟩ = some (.slice none 0 0) := cell_blk hi.r0
  have d1 : W.cell? ⟨h + 1, 0, none⟩ = some (.int .i64 0) := cell_blk hi.r1
  have d2 : W.cell? ⟨h + 1 + 1, 0, none⟩ = some (.int .i64 0) := cell_blk hi.r2
  have f0 : W.frozen? ⟨h, 0, none⟩ = false := frz_blk hi.r0
  have f1 : W.frozen? ⟨h + 1, 0, none⟩ = false := frz_blk hi.r1
  have f2 : W.frozen? ⟨h + 1 + 1, 0, none⟩ = false := frz_blk hi.r2
  have HI := Lib.hid hi
  have HT := Lib.hid ht
  have HTO := Lib.hid htold
  have HM := Lib.hid hm
  have HBB := Lib.hid hb
  have HQ1 := Lib.hid q1
  have HQ2 := Lib.hid q2
  have HQ3 := Lib.hid q3
  clear hi ht htold hm hb q1 q2 q3
  by_cases hfull : m = 4096
  ·subst hfull
   clear hlen
   gi_wp2_with fail
   gi_region
   all_goals gi_wp2_with fail
   all_goals
    have e0 := (heap_set HI.out.r0 (o := 0) (.slice none 0 0))
    have k1 := ((e0 (h + 1)).trans (if_neg (by omega))).trans HI.out.r1
    have k2 := ((heap_set k1 (o := 0) (.int .i64 i) (h + 1 + 1)).trans (if_neg (by omega))).trans (((e0 (h + 1 + 1)).trans (if_neg (by omega))).trans HI.out.r2)
    have r0 := (e0 h).trans (if_pos rfl)
    have r1 := (heap_set k1 (o := 0) (.int .i64 i) (h + 1)).trans (if_pos rfl)
    have x0 := ((heap_set k2 (o := 0) (.int .i64 20) h).trans (if_neg (by omega))).trans (((heap_set k1 (o := 0) (.int .i64 i) h).trans (if_neg (by omega))).trans r0)
    have x1 := ((heap_set k2 (o := 0) (.int .i64 20) (h + 1)).trans (if_neg (by omega))).trans r1
    have x2 := (heap_set k2 (o := 0) (.int .i64 20) (h + 1 + 1)).trans (if_pos rfl)
    have hbel := ((HI.out.bel.setCell (p := ⟨h, 0, none⟩) (Nat.le_refl _) (.slice none 0 0)).setCell (p := ⟨h + 1, 0, none⟩) (by simp) (.int .i64 i)).setCell (p := ⟨h + 1 + 1, 0, none⟩) (by simp; omega) (.int .i64 20)
    refine ⟨⟨?_, ?_⟩, rfl, ⟨x0, ⟨_, x1⟩, x2, ⟨hbel.os, hbel.tape, hbel.output, hbel.size, hbel.block⟩⟩, told_full HTO.out HM.out⟩
    ·show W.heap.size ≤ (World.heap (World.setCell _ _ _)).size
     simp
    ·intro k o hk ho _
     refine ((heap_set_ne (a := ⟨h + 1 + 1, 0, none⟩) (by simp; omega)).trans ((heap_set_ne (a := ⟨h + 1, 0, none⟩) (by simp; omega)).trans (heap_set_ne (a := ⟨h, 0, none⟩) (by simp; omega)))).trans ho
  ·have hl2 : m < 4096 := by omega
   obtain ⟨i0, hi0, hz0, hz1, hz2⟩ := info_parts infoL
   have hcs : ∀ (jj : Nat) (u : Value), [Value.int .i64 x.kind, .string t, .int .i64 i, .int .i64 j][jj]? = some u → (W.alloc (.cells #[.int .i64 x.kind, .string t, .int .i64 i, .int .i64 j] 139)).cell? ((⟨W.heap.size, 0, none⟩ : Addr).add jj) = some u := by
    intro jj u hu
    have hcell : ∀ o : Nat, (W.alloc (.cells #[.int .i64 x.kind, .string t, .int .i64 i, .int .i64 j] 139)).cell? ⟨W.heap.size, o, none⟩ = #[Value.int .i64 x.kind, .string t, .int .i64 i, .int .i64 j][o]? := fun o => cell_blk (heap_new_at rfl _)
    rw [Addr.add_lit, Nat.zero_add, hcell]
    simpa using hu
   have hone : ∀ u ∈ [Value.int .i64 x.kind, .string t, .int .i64 i, .int .i64 j], u.oneCell' = true := by
    intro u hu
    simp at hu
    rcases hu with rfl | rfl | rfl | rfl <;> rfl
   have hbase : h + 6 ≤ (W.alloc (.cells #[.int .i64 x.kind, .string t, .int .i64 i, .int .i64 j] 139)).heap.size := by
    have := lt_blk HI.out.cp
    simp; omega
   have HCS := Lib.hid hcs
   have HONE := Lib.hid hone
   have HBASE := Lib.hid hbase
   clear hcs hone hbase
   gi_wp2_with (gi_at_builtin; refine wpListIn_append_own _ rfl (.tmp 19) (.tmp 21) 128 rfl (h + 6) 139 i0 (.agg #[.int .i64 0, .string ⟨#[]⟩, .int .i64 0, .int .i64 0]) 4 40 Tryz.underlying128 hi0 hz0 hz1 hz2 rfl (by decide) (.slice ao m cap) m xs rfl (HQ2.out.alloc _) ⟨W.heap.size, 0, none⟩ 1 1 [.int .i64 x.kind, .string t, .int .i64 i, .int .i64 j] rfl rfl HCS.out HONE.out (by unfold maxLen; omega) (by omega) HBASE.out ?_)
   intro v' w5 hown hgr _
   obtain ⟨ao5, cap5, rfl⟩ := own_shape hown
   have hlt4 := lt_blk HQ1.out
   have hrow : ∀ g, (Value.slice ao m cap).ownBlock = some g → h + 6 ≤ g := fun g hg => (HQ2.out.lt g hg).1
   have hkeep : ∀ (k : Nat), k < h + 6 → w5.heap[k]? = W.heap[k]? := by
    intro k hk
    have hk2 : k < W.heap.size := by have := lt_blk HI.out.cp; omega
    exact (hgr.block k (by simp; omega) (fun e => by have := hrow k e.symm; omega)).trans (Below.heap_alloc _ _ _ hk2)
   have hb5 : w5.heap[h + 1 + 1 + 1 + 1]? = some (.cells #[.slice ao m cap] 128 (0,0)) := (hkeep _ (by omega)).trans HQ1.out
   have g0 : w5.cell? ⟨h + 1 + 1 + 1 + 1, 0, none⟩ = some (.slice ao m cap) := cell_blk hb5
   have g1 : w5.frozen? ⟨h + 1 + 1 + 1 + 1, 0, none⟩ = false := frz_blk hb5
   have HOWN := Lib.hid hown
   have HGR := Lib.hid hgr
   have HROW := Lib.hid hrow
   have HKEEP := Lib.hid hkeep
   have HB5 := Lib.hid hb5
   clear hown hgr hlt4 hrow hkeep hb5
   gi_wp2_with fail
   have keep6 : ∀ (k : Nat), k < h + 6 → k ≠ h + 1 + 1 + 1 + 1 → (w5.setCell ⟨h + 1 + 1 + 1 + 1, 0, none⟩ (.slice ao5 (m + 1) cap5)).heap[k]? = W.heap[k]? := fun k hk hne => (heap_set_ne (by simpa using hne)).trans (HKEEP.out k hk)
   have hszW := lt_blk HI.out.cp
   have hszw : w.heap.size ≤ W.heap.size := HI.out.bel.size
   refine ⟨⟨?_, ?_⟩, _, rfl, ⟨⟨?_, HI.out.lx.le, HI.out.lx.sz⟩, ?_, ?_, ?_, ?_, ⟨.slice ao5 (m + 1) cap5, _, ?_, ?_, HQ3.out.snoc t i j HT.out⟩, ?_, ?_⟩⟩
   ·rw [size_set]
    have := HGR.out.size
    simp at this; omega
   ·intro k o hk ho hc
    have hkW := lt_blk ho
    refine (heap_set_ne (a := ⟨h + 1 + 1 + 1 + 1, 0, none⟩) (by simp; omega)).trans ((HGR.out.block k (by simp; omega) ?_).trans ((Below.heap_alloc _ _ _ hkW).trans ho))
    intro e
    rcases HQ2.out.2 with ⟨h1, _⟩ | ⟨g, cap', cur, h1, _, h2, _⟩
    ·rw [h1] at e; simp [Value.ownBlock] at e
    ·rw [h1] at e
     have : k = g := by simpa [Value.ownBlock] using e
     rw [this, h2] at ho; cases ho; cases hc
   ·exact (keep6 _ (by omega) (by omega)).trans HI.out.lx.blk
   ·exact (keep6 _ (by omega) (by omega)).trans HI.out.r0
   ·exact (keep6 _ (by omega) (by omega)).trans HI.out.r1
   ·exact (keep6 _ (by omega) (by omega)).trans HI.out.r2
   ·exact (keep6 _ (by omega) (by omega)).trans HI.out.cp
   ·exact (heap_set HB5.out _ _).trans (if_pos rfl)
   ·rw [show (T ++ [x]).length = m + 1 by rw [List.length_append, HM.out]; rfl]
    exact ownsRow_setCell_below HOWN.out (by simp) _
   ·show (T ++ [x]).length ≤ 4096
    rw [List.length_append, HM.out]; simp; omega
   ·exact ((HI.out.bel.alloc (by omega) _).grown HGR.out (by simp; omega) (fun k hk => by have := HROW.out k hk; omega)).setCell (p := ⟨h + 1 + 1 + 1 + 1, 0, none⟩) (by simp; omega) _
 ·rintro D ⟨T, a, bad⟩ W hD hfin hi hK
  simp only at hfin
  obtain ⟨v, xs, q1, q2, q3⟩ := hi.row
  simp only at q1 q2 q3
  obtain ⟨ao, cap, rfl⟩ := own_shape q2
  obtain ⟨m, hm⟩ : ∃ m, T.length = m := ⟨_, rfl⟩
  rw [hm] at q1 q2
  have c0 : W.cell? ⟨h + 1 + 1 + 1 + 1, 0, none⟩ = some (.slice ao m cap) := cell_blk q1
  have d0 : W.cell? ⟨h, 0, none⟩ = some (.slice none 0 0) := cell_blk hi.r0
  have d1 : W.cell? ⟨h + 1, 0, none⟩ = some (.int .i64 0) := cell_blk hi.r1
  have d2 : W.cell? ⟨h + 1 + 1, 0, none⟩ = some (.int .i64 0) := cell_blk hi.r2
  have f0 : W.frozen? ⟨h, 0, none⟩ = false := frz_blk hi.r0
  have f1 : W.frozen? ⟨h + 1, 0, none⟩ = false := frz_blk hi.r1
  have f2 : W.frozen? ⟨h + 1 + 1, 0, none⟩ = false := frz_blk hi.r2
  have l1 : W.cell? ⟨h + 1 + 1 + 1, 1, none⟩ = some (.int .i64 a) := cell_blk hi.lx.blk
  have l2 : W.cell? ⟨h + 1 + 1 + 1, 2, none⟩ = some (.bool bad) := cell_blk hi.lx.blk
  have HI := Lib.hid hi
  have HF := Lib.hid hfin
  have HM := Lib.hid hm
  have HQ1 := Lib.hid q1
  have HQ2 := Lib.hid q2
  have HQ3 := Lib.hid q3
  have HK := Lib.hid hK
  clear hi hfin hm q1 q2 q3 hK
  cases bad with
  | true =>
   gi_wp2_with fail
   gi_region
   all_goals gi_wp2_with fail
   all_goals
    have e0 := (heap_set HI.out.r0 (o := 0) (.slice none 0 0))
    have k1 := ((e0 (h + 1)).trans (if_neg (by omega))).trans HI.out.r1
    have k2 := ((heap_set k1 (o := 0) (.int .i64 a) (h + 1 + 1)).trans (if_neg (by omega))).trans (((e0 (h + 1 + 1)).trans (if_neg (by omega))).trans HI.out.r2)
    have r0 := (e0 h).trans (if_pos rfl)
    have r1 := (heap_set k1 (o := 0) (.int .i64 a) (h + 1)).trans (if_pos rfl)
    have x0 := ((heap_set k2 (o := 0) (.int .i64 20) h).trans (if_neg (by omega))).trans (((heap_set k1 (o := 0) (.int .i64 a) h).trans (if_neg (by omega))).trans r0)
    have x1 := ((heap_set k2 (o := 0) (.int .i64 20) (h + 1)).trans (if_neg (by omega))).trans r1
    have x2 := (heap_set k2 (o := 0) (.int .i64 20) (h + 1 + 1)).trans (if_pos rfl)
    have hbel := ((HI.out.bel.setCell (p := ⟨h, 0, none⟩) (Nat.le_refl _) (.slice none 0 0)).setCell (p := ⟨h + 1, 0, none⟩) (by simp) (.int .i64 a)).setCell (p := ⟨h + 1 + 1, 0, none⟩) (by simp; omega) (.int .i64 20)
    have hn : lexS s.data.toList = none := by
     unfold lexS
     rcases HF.out with ⟨h1, _⟩ | ⟨_, h1⟩
     ·cases h1
     ·rw [h1]
    have hK2 := ((heap_set_ne (w := (W.setCell ⟨h, 0, none⟩ (.slice none 0 0)).setCell ⟨h + 1, 0, none⟩ (.int .i64 a)) (a := ⟨h + 1 + 1, 0, none⟩) (v := .int .i64 20) (k := D) (by simp; omega)).trans ((heap_set_ne (a := ⟨h + 1, 0, none⟩) (by simp; omega)).trans (heap_set_ne (a := ⟨h, 0, none⟩) (by simp; omega)))).trans HK.out
    refine ⟨by simp, .inl ⟨_, _, rfl, run_takeDeferred (w := (((W.setCell ⟨h, 0, none⟩ (.slice none 0 0)).setCell ⟨h + 1, 0, none⟩ (.int .i64 a)).setCell ⟨h + 1 + 1, 0, none⟩ (.int .i64 20)).drew) hK2, ?_⟩⟩
    refine long_ret (h := h) (D := D) hh ⟨x0, ⟨_, x1⟩, x2, ⟨hbel.os, hbel.tape, hbel.output, hbel.size, hbel.block⟩⟩ hn (by omega) ?_ ?_ ?_ <;> rfl
  | false =>
   gi_wp2_with fail
   have e0 := (heap_set HI.out.r0 (o := 0) (.slice ao m cap))
   have k1 := ((e0 (h + 1)).trans (if_neg (by omega))).trans HI.out.r1
   have k2 := ((heap_set k1 (o := 0) (.int .i64 0) (h + 1 + 1)).trans (if_neg (by omega))).trans (((e0 (h + 1 + 1)).trans (if_neg (by omega))).trans HI.out.r2)
   have r0 := (e0 h).trans (if_pos rfl)
   have r1 := (heap_set k1 (o := 0) (.int .i64 0) (h + 1)).trans (if_pos rfl)
   have x0 := ((heap_set k2 (o := 0) (.int .i64 0) h).trans (if_neg (by omega))).trans (((heap_set k1 (o := 0) (.int .i64 0) h).trans (if_neg (by omega))).trans r0)
   have x1 := ((heap_set k2 (o := 0) (.int .i64 0) (h + 1)).trans (if_neg (by omega))).trans r1
   have x2 := (heap_set k2 (o := 0) (.int .i64 0) (h + 1 + 1)).trans (if_pos rfl)
   have hbel := ((HI.out.bel.setCell (p := ⟨h, 0, none⟩) (Nat.le_refl _) (.slice ao m cap)).setCell (p := ⟨h + 1, 0, none⟩) (by simp) (.int .i64 0)).setCell (p := ⟨h + 1 + 1, 0, none⟩) (by simp; omega) (.int .i64 0)
   have hT : lexS s.data.toList = some T := by
    unfold lexS
    rcases HF.out with ⟨_, h1⟩ | ⟨h1, _⟩
    ·rw [h1]
     have := HI.out.len
     simp only
     rw [if_pos (by unfold maxLex; exact this)]
    ·cases h1
   have hK2 := ((heap_set_ne (w := (W.setCell ⟨h, 0, none⟩ (.slice ao m cap)).setCell ⟨h + 1, 0, none⟩ (.int .i64 0)) (a := ⟨h + 1 + 1, 0, none⟩) (v := .int .i64 0) (k := D) (by simp; omega)).trans ((heap_set_ne (a := ⟨h + 1, 0, none⟩) (by simp; omega)).trans (heap_set_ne (a := ⟨h, 0, none⟩) (by simp; omega)))).trans HK.out
   refine ⟨by simp, .inl ⟨_, _, rfl, run_takeDeferred hK2, ?_⟩⟩
   have hrow := ownsRow_setCell_below (a := ⟨h + 1 + 1, 0, none⟩) (ownsRow_setCell_below (a := ⟨h + 1, 0, none⟩) (ownsRow_setCell_below (a := ⟨h, 0, none⟩) HQ2.out (by simp) (.slice ao m cap)) (by simp) (.int .i64 0)) (by simp) (.int .i64 0)
   refine long_ok (h := h) (D := D) hh x0 x1 x2 hbel hT (by rw [HM.out]; exact hrow) HQ3.out (by omega) hK2 rfl ?_ ?_ ?_ <;> rfl
 ·rintro D c W hD ⟨rfl, hx, hn⟩ hK
  gi_wp2_with fail
  refine ⟨by simp, .inl ⟨_, _, rfl, run_takeDeferred hK, ?_⟩⟩
  refine long_ret (h := h) (D := D) hh hx hn (by omega) ?_ ?_ ?_ <;> rfl
end Go.Proofs.YtnpkdiffpgcbhaaGreatDoor
