/- What ScriptLines' walk needs. Conditions: each theorem's own. -/
import Derived.Test.YtnpkdiffpgcbhaaGreatDoorS46
import Derived.OwnWalk
import Derived.Laws.AppendOwnNone
import Derived.Test.YtnpkdiffpgcbhaaGreatDoorS48
namespace Go.Proofs.YtnpkdiffpgcbhaaGreatDoor
open Go.RowKit
theorem RdRow.append {α : Type} {R : List Value → α → Prop} {xs ys : List Value} {l m : List α} (h : RdRow R xs l) (k : RdRow R ys m) : RdRow R (xs ++ ys) (l ++ m) := by
 induction h with
 | nil => exact k
 | cons c xs a l hc _ ih => rw [List.append_assoc]; exact .cons _ _ _ _ hc ih
theorem own_far {w w' : World} {base : Nat} {e : TypeId} {size : Nat} {v : Value} {n : Nat} {xs : List Value} (h : w.ownsRow base e size v n xs) (hf : FP nob w w') : w'.ownsRow base e size v n xs := by
 refine ⟨h.1, ?_⟩
 rcases h.2 with ⟨rfl, rfl⟩ | ⟨g, cap, cur, rfl, hb, hg, hn, hc, hs, ht⟩
 ·exact .inl ⟨rfl, rfl⟩
 ·exact .inr ⟨g, cap, cur, rfl, hb, (hf.blk g (lt_blk hg) (fun x => x.elim)).trans hg, hn, hc, hs, ht⟩
def Got (w : World) (v : Value) (ops : List OpV) : Prop := ∃ base xs, w.ownsRow base 58 8 v ops.length xs ∧ RdRow (RdOp w (fun _ => True)) xs ops
theorem rd_far {w w' : World} {xs : List Value} {ops : List OpV} (h : RdRow (RdOp w (fun _ => True)) xs ops) (hf : FP nob w w') : RdRow (RdOp w' (fun _ => True)) xs ops :=
 h.imp (fun _ _ _ hc => RdOp.trans' (fun g _ hl => ⟨hf.blk g hl (fun x => x.elim), trivial⟩) hc)
theorem Got.far {w w' : World} {v : Value} {ops : List OpV} (h : Got w v ops) (hf : FP nob w w') : Got w' v ops := by
 obtain ⟨base, xs, h1, h2⟩ := h
 exact ⟨base, xs, own_far h1 hf, rd_far h2 hf⟩
theorem Got.shape {w : World} {v : Value} {ops : List OpV} (h : Got w v ops) : ∃ ao cap, v = .slice ao ops.length cap := by
 obtain ⟨base, xs, h1, _⟩ := h
 obtain ⟨ao, cap, rfl⟩ := own_shape1 h1
 exact ⟨ao, cap, rfl⟩
theorem Got.eq {w : World} {v v' : Value} {ops : List OpV} (h : Got w v ops) (h' : Got w v' ops) (hsh : ∀ o ∈ ops, ShOp o) (hn : ops.length ≤ 4611686018427387904) : YesC 15 #[v, v'] w := by
 obtain ⟨b, xs, h1, h2⟩ := h
 obtain ⟨b', xs', h3, h4⟩ := h'
 exact ops_any ((SliceAt.own h1).wide (fun _ _ _ => trivial)) h2 ((SliceAt.own h3).wide (fun _ _ _ => trivial)) h4 hsh hn
theorem rd_one {w : World} {F : Nat → Prop} {xs : List Value} {ops : List OpV} (h : RdRow (RdOp w F) xs ops) : ∀ u ∈ xs, u.oneCell' = true := by
 induction h with
 | nil => intro u hu; cases hu
 | cons c xs a l hc _ ih =>
  intro u hu
  rcases List.mem_append.1 hu with hu | hu
  ·obtain ⟨kk, cl, a0, n0, s0, hh, t, on, nn, a1, n1, s1, rfl⟩ := rdop_shape hc
   simp at hu
   rcases hu with rfl | rfl | rfl | rfl | rfl | rfl | rfl | rfl <;> rfl
  ·exact ih u hu
def PRes (w : World) (s : Bs) (w' : World) (v : Value) (n c : Int) : Prop :=
 FP nob w w' ∧ ((∃ j : Nat, parseA s = .error (j, c) ∧ n = j ∧ c ≠ 0) ∨ ∃ ops, parseA s = .ok ops ∧ n = 0 ∧ c = 0 ∧ Got w' v ops)
theorem parse_res {w : World} (s : ByteArray) (hlib : LibOk w) : Calls Tryz.prog 14 #[.string s] w fun e w' => ∃ v n c, e = .returned (.tuple #[v, .int .i64 n, .int .i64 c]) ∧ PRes w s.data.toList w' v n c := by
 refine (parse_any hlib).mono ?_
 rintro e w' ⟨hf, h⟩
 cases hp : parseA s.data.toList with
 | error q =>
  obtain ⟨j, c⟩ := q
  rw [hp] at h
  exact ⟨_, _, _, h, hf, .inl ⟨j, hp, rfl, parseA_err hp⟩⟩
 | ok ops =>
  rw [hp] at h
  obtain ⟨v, xs, rfl, h1, h2⟩ := h
  exact ⟨_, _, _, rfl, hf, .inr ⟨ops, hp, rfl, rfl, _, xs, h1, h2.imp (fun _ _ _ hc => RdOp.trans' (fun g _ _ => ⟨rfl, trivial⟩) hc)⟩⟩
theorem PRes.fp {w w' : World} {s : Bs} {v : Value} {n c : Int} (h : PRes w s w' v n c) : FP nob w w' := h.1
theorem PRes.got {w w' : World} {s : Bs} {v : Value} {n c : Int} (h : PRes w s w' v n c) (hc : c = 0) : ∃ ops, parseA s = .ok ops ∧ n = 0 ∧ Got w' v ops := by
 rcases h.2 with ⟨j, _, _, h3⟩ | ⟨ops, h1, h2, _, h4⟩
 ·exact absurd hc h3
 ·exact ⟨ops, h1, h2, h4⟩
theorem PRes.bad {w w' : World} {s : Bs} {v : Value} {n c : Int} (h : PRes w s w' v n c) (hc : c ≠ 0) : ∃ j : Nat, parseA s = .error (j, c) ∧ n = j := by
 rcases h.2 with ⟨j, h1, h2, _⟩ | ⟨_, _, _, h3, _⟩
 ·exact ⟨j, h1, h2⟩
 ·exact absurd h3 hc
theorem wpList_append_row {w : World} {ops : Array Oper} {rest : List Oper} {o : Oper} {a : Act} {Q : Exit → Act → World → Prop} (hgd : o.guard = none) (s x : Operand)
  (ho : o.op = .call { callee := .builtin .append, args := #[s, x], argTypes := #[22, 22] })
  (base : Nat) (v : Value) (n m : Nat) (xs : List Value) (hs : a.eval s = v) (hown : w.ownsRow base 58 8 v n xs)
  (y : Value) (hx : a.eval x = y) (b2 : Nat) (ys : List Value) (h1 : w.ownsRow b2 58 8 y m ys) (hone : ∀ u ∈ ys, u.oneCell' = true) (hl : n + m ≤ 1000000) (hbase : base ≤ w.heap.size)
  (h : ∀ v' w', w'.ownsRow base 58 8 v' (n + m) (xs ++ ys) → w.grownBy w' v.ownBlock → wpList Tryz.prog ops Q rest (a.put o.dst v') w') : wpList Tryz.prog ops Q (o :: rest) a w := by
 obtain ⟨i, hi, hz0, hz1, hz2⟩ := info_parts infoOp
 rcases h1.2 with ⟨rfl, hm0⟩ | ⟨g, cap, cur, rfl, hb, hg, hn, hc, hcs, ht⟩
 ·subst hm0
  have hys : ys = [] := List.length_eq_zero_iff.1 (by rw [h1.1])
  subst hys
  refine wpList_append_own_none hgd s x 22 ho base 58 i 8 Tryz.underlying22 hi v n xs hs hown hx ?_
  exact h v w (by rw [List.append_nil]; exact hown) ⟨rfl, rfl, rfl, Nat.le_refl _, fun _ _ _ => rfl⟩
 ·refine wpList_append_own w hgd s x 22 ho base 58 i (.agg #[.int .i64 0, .string ⟨#[]⟩, .slice none 0 0, .int .i64 0, .string ⟨#[]⟩, .bool false, .int .i64 0, .slice none 0 0]) 8 112 Tryz.underlying22 hi hz0 hz1 hz2 rfl (by decide) v n xs hs hown ⟨g, 0, none⟩ m cap ys hx h1.1 ((World.ownsRow.cells h1 (g := g) rfl)) hone (by unfold maxLen; omega) (by omega) hbase ?_
  intro v' w' q1 q2 _
  exact h v' w' q1 q2
end Go.Proofs.YtnpkdiffpgcbhaaGreatDoor
