/- EagerCounts: whatever its numbers, the law returns true: the walk up to the fixed rest of its code. No conditions. -/
import Derived.Test.YtggofakkkkkbcaaGreatDoorHm
import Derived.WalkKit
import Derived.ProofKit
import Derived.OpenShut
import Derived.Lib.SmallJoins
import Derived.Below
import Derived.Deep.Slices
import Derived.Deep.Fields
import Derived.Lib.Hide
namespace Go.Proofs.YtggofakkkkkbcaaGreatDoor.Ev
open Go Go.RowKit Go.ChangeShapes Go.WideShapes Go.Joins Go.ChangeAt Go.Deep
theorem restOk : codeOk Tryz.f3.ntmps rest = true := by kernel_rfl
theorem step_below {B : Nat} {π π' : Pi} {l : List (Nat × Nat × List AV)} {w w' : World} {H' : Hp} (h2 : Step B π (h0 l) w π' H' w') : Below w.heap.size w w' := by
  refine ⟨h2.out.1, h2.out.2.1, h2.out.2.2, h2.size, fun k hk => ?_⟩
  refine h2.fr k hk fun b x z hx hw _ => ?_
  obtain ⟨y, _, _, rfl⟩ := h0T_get hx
  cases hw
theorem tail_any {w : World} {a : Act} {n m : Nat} (hn : n < 8) (hm : m < 16) (hsz : gN ≤ w.heap.size) (hl' : ∀ y ∈ hl, y.1 < gN ∧ (∃ cs, w.heap[y.1]? = some (.cells cs y.2.1) ∧ ∀ π, VRs π y.2.2 cs.toList) ∧ y.2.2.all AV.isCell = true)
    (h3 : a.tmps[3]? = some (.int .i64 n)) (h4 : a.tmps[4]? = some (.int .i64 m)) (hz : a.tmps.size = Tryz.f3.ntmps) (hd : a.defers = []) {B : Nat} (hB : B ≤ w.heap.size) {w0 : World} (hw0 : Below B w0 w) :
    rest.wp Tryz.prog (bodyPost Tryz.prog Tryz.f3 fun e w' => e = .returned (.bool true) ∧ Below B w0 w') a w := by
  obtain ⟨kn, hk, hE⟩ := done n m hn hm
  have hH := HRel.first hsz hl'
  have hS : St (pi0 w) ⟨Tryz.f3.ntmps, [], .no, none⟩ (regs n m) a := by
    refine ⟨?_, hz, by rw [hd]; exact .nil⟩
    intro t v hv
    unfold regs at hv
    rw [T.get_putN, T.get_putN] at hv
    split at hv
    · rename_i e; subst e; cases hv; exact ⟨_, h4, .int _ _⟩
    · split at hv
      · rename_i e; subst e; cases hv; exact ⟨_, h3, .int _ _⟩
      · rw [T.get_e] at hv; cases hv
  refine Code.wp_mono ?_ (tail_sound mixed extFine hk hE restOk rfl rfl hH hS)
  intro e a' w' h
  cases e with
  | normal => obtain ⟨h1, v, h2, he, π', h', hst⟩ := h; exact ⟨h1, v, h2, he, hw0.trans ((step_below hst).mono hB)⟩
  | ret => obtain ⟨h1, v, h2, he, π', h', hst⟩ := h; exact ⟨h1, v, h2, he, hw0.trans ((step_below hst).mono hB)⟩
  | panic ch => obtain ⟨_, he, _⟩ := h; cases he
  | outgrown => obtain ⟨he, _⟩ := h; cases he
  | exit i => exact h.elim
  | goto l => exact h.elim
section
variable {H : Type} {enc : TypeId × Value → H} {P : Program} {w : World} {base : Nat} {spare : Nat → Bool} {held : Bool}
theorem open_agg1 {r : Reach} {b0 : Nat} {t : TypeId} {f0 : Field} {v : Value} {d : DataW H} {p : List MemPlace} (hs : P.underlying t = some (.struct #[f0])) (hone : oneCellFields P #[f0] = true) (hC : P.cellsOf t = 1)
    (hv : Value.okWide P w r b0 t v) (h : DataW.Trod enc P w base spare held t v d p) :
    ∃ (v0 : Value) (y0 : DataW H × List MemPlace) (n : Nat), v = .agg #[v0] ∧ DataW.trod enc P w base spare held n f0.type [v0] = some y0 := by
  obtain ⟨cs, rfl, hsz⟩ := okWide_struct hs hv
  obtain ⟨c0, rfl⟩ : ∃ c0, cs = #[c0] := by
    have h1 : cs.size = 1 := hsz.trans hC
    exact ⟨cs[0], Array.ext (by simp [h1]) (fun i h2 h3 => by
      obtain rfl : i = 0 := by omega
      simp)⟩
  obtain ⟨fuel, hf⟩ := h
  obtain ⟨xs, n, _, hx, hl, hlen, hff⟩ := DataW.trod_struct hs hf
  match xs, hlen with
  | [y0], _ =>
    obtain ⟨o0, k0⟩ := hone_of hone 0 f0 rfl
    have h0 := hff 0 f0 rfl
    exact ⟨c0, y0, n, rfl, by simpa [Value.cells, o0, k0] using h0⟩
end
theorem below_alloc (W : World) (o : Obj) : Below W.heap.size W (W.alloc o) := ⟨rfl, rfl, rfl, by simp, fun k hk => Below.heap_alloc _ _ _ hk⟩
theorem and7 (n : Int) : bits .and .i64 n 7 = n % 8 := by
  have h7 : (BitVec.ofInt 64 7).toNat = 2 ^ 3 - 1 := by decide
  have key : (BitVec.ofInt 64 n &&& BitVec.ofInt 64 7).toNat = (n % ((2 ^ 64 : Nat) : Int)).toNat % 2 ^ 3 := by
    rw [BitVec.toNat_and, BitVec.toNat_ofInt, h7, Nat.and_two_pow_sub_one_eq_mod]
  show IntKind.i64.wrap ((BitVec.ofInt 64 n &&& BitVec.ofInt 64 7).toNat : Nat) = n % 8
  rw [key, IntKind.wrap_i64]
  omega
theorem and15 (n : Int) : bits .and .i64 n 15 = n % 16 := by
  have h15 : (BitVec.ofInt 64 15).toNat = 2 ^ 4 - 1 := by decide
  have key : (BitVec.ofInt 64 n &&& BitVec.ofInt 64 15).toNat = (n % ((2 ^ 64 : Nat) : Int)).toNat % 2 ^ 4 := by
    rw [BitVec.toNat_and, BitVec.toNat_ofInt, h15, Nat.and_two_pow_sub_one_eq_mod]
  show IntKind.i64.wrap ((BitVec.ofInt 64 n &&& BitVec.ofInt 64 15).toNat : Nat) = n % 16
  rw [key, IntKind.wrap_i64]
  omega
theorem mod_nat (x : Int) (m : Nat) (hm : 0 < m) : ∃ k : Nat, k < m ∧ x % (m : Int) = (k : Int) := by
  have h1 := Int.emod_nonneg x (b := (m : Int)) (by omega)
  have h2 := Int.emod_lt_of_pos x (b := (m : Int)) (by omega)
  exact ⟨(x % m).toNat, by omega, by omega⟩
theorem cells24 : Tryz.prog.cellsOf 24 = 1 := by kernel_rfl
theorem cells3 : Tryz.prog.cellsOf 3 = 1 := by kernel_rfl
set_option maxRecDepth 100000 in
set_option maxHeartbeats 1600000 in
theorem walk {H : Type} {enc : TypeId × Value → H} {W : World} {base : Nat} {v0 : Value} {d0 : DataW H} {p0 : List MemPlace}
    (hv : Value.okWide Tryz.prog W .any base 24 v0) (h0 : DataW.Trod enc Tryz.prog W 0 (fun _ => true) true 24 v0 d0 p0)
    (hsz : gN ≤ W.heap.size) (hl' : ∀ y ∈ hl, y.1 < gN ∧ (∃ cs, W.heap[y.1]? = some (.cells cs y.2.1) ∧ ∀ π, VRs π y.2.2 cs.toList) ∧ y.2.2.all AV.isCell = true) :
    Calls Tryz.prog 3 #[v0] W fun e W' => e = .returned (.bool true) ∧ Below W.heap.size W W' := by
  obtain ⟨c0, y0, n0, rfl, hy⟩ := open_agg1 Tryz.underlying24 (by kernel_rfl) cells24 hv h0
  have TA : ∀ (w : World) (a : Act) (n m : Nat), n < 8 → m < 16 → Below W.heap.size W w → a.tmps[3]? = some (.int .i64 n) → a.tmps[4]? = some (.int .i64 m) → a.tmps.size = Tryz.f3.ntmps → a.defers = [] →
      rest.wp Tryz.prog (bodyPost Tryz.prog Tryz.f3 fun e w' => e = .returned (.bool true) ∧ Below W.heap.size W w') a w := by
    intro w a n m hn hm hb h3 h4 hz hd
    refine tail_any hn hm (Nat.le_trans hsz hb.size) (fun y hy => ?_) h3 h4 hz hd hb.size hb
    obtain ⟨q1, ⟨cs, q2, q3⟩, q4⟩ := hl' y hy
    exact ⟨q1, ⟨cs, (hb.block y.1 (Nat.lt_of_lt_of_le q1 hsz)).trans q2, q3⟩, q4⟩
  have HT := Lib.hid TA
  clear hv h0 TA hsz hl'
  rcases open_ints Tryz.underlying22 Tryz.underlying3 cells3 hy with ⟨hcs, hx⟩ | ⟨a, len, cap, zs, hcs, _, hl, hm, hz, hx, hcell, hwz⟩
  · simp only [List.cons.injEq, and_true] at hcs
    subst hcs
    clear hy hx
    go_enter Tryz.func3, Tryz.ntmps3
    change (Code.seq _ (Code.seq _ (Code.seq _ (Code.seq _ rest)))).wp _ _ _ _
    generalize rest = R at HT ⊢
    go_wp2_with fail
    exact HT.out _ _ 3 5 (by omega) (by omega) (below_alloc W _) rfl rfl rfl rfl
  · simp only [List.cons.injEq, and_true] at hcs
    subst hcs
    clear hy hx
    by_cases h1 : 1 < len
    · have hsz : len ≤ zs.length := by simp at hz; omega
      have e0 := hcell 0 (by omega)
      have e1 := hcell 1 (by omega)
      obtain ⟨x0, hx0⟩ : ∃ x, zs.getD 0 0 = x := ⟨_, rfl⟩
      obtain ⟨x1, hx1⟩ : ∃ x, zs.getD 1 0 = x := ⟨_, rfl⟩
      rw [hx0] at e0
      rw [hx1] at e1
      obtain ⟨n, hn, en⟩ := mod_nat x0 8 (by omega)
      obtain ⟨m, hm', em⟩ := mod_nat x1 16 (by omega)
      have b0 : bits .and .i64 x0 7 = (n : Int) := (and7 x0).trans en
      have b1 : bits .and .i64 x1 15 = (m : Int) := (and15 x1).trans em
      obtain ⟨g, o, hg, c0, c1⟩ : ∃ g o, a = ⟨g, o, none⟩ ∧ W.cell? ⟨g, o, none⟩ = some (.int .i64 x0) ∧ W.cell? ⟨g, o + 1, none⟩ = some (.int .i64 x1) := by
        obtain ⟨g, o, sp⟩ := a
        cases sp with
        | none => exact ⟨g, o, rfl, by simpa [Addr.add] using e0, by simpa [Addr.add] using e1⟩
        | some s =>
          unfold World.cell? at e0
          split at e0 <;> simp [Addr.add] at e0
      subst hg
      have hgl : g < W.heap.size := World.block_lt_of_cell? W _ c0
      have h0 : 0 < len := by omega
      have hl9 : len ≤ 9223372036854775807 := by unfold maxLen at hm; omega
      clear hcell hwz hz hx0 hx1 e0 e1 en em hsz hm
      go_enter Tryz.func3, Tryz.ntmps3
      change (Code.seq _ (Code.seq _ (Code.seq _ (Code.seq _ rest)))).wp _ _ _ _
      generalize rest = R at HT ⊢
      go_wp2_with fail
      exact HT.out _ _ n m hn hm' (below_alloc W _) rfl rfl rfl rfl
    · have hle : ¬ (1 : Int) < (len : Int) := by omega
      clear hcell hwz hz hm hl
      go_enter Tryz.func3, Tryz.ntmps3
      change (Code.seq _ (Code.seq _ (Code.seq _ (Code.seq _ rest)))).wp _ _ _ _
      generalize rest = R at HT ⊢
      go_wp2_with fail
      exact HT.out _ _ 3 5 (by omega) (by omega) (below_alloc W _) rfl rfl rfl rfl
end Go.Proofs.YtggofakkkkkbcaaGreatDoor.Ev
