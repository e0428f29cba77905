/- The listed variables; wakes; the argument as it came in. Conditions: each theorem's own. -/
import Derived.Test.YtnpkdiffpgcbhaaGreatDoorS04
import Derived.Test.YtnpkdiffpgcbhaaGreatDoorRows
import Derived.Test.YtnpkdiffpgcbhaaGreatDoorS50
import Derived.SliceStrings
set_option maxRecDepth 100000
namespace Go.Proofs.YtnpkdiffpgcbhaaGreatDoor.Ev
open Go Go.RowKit
def hl : List (Nat × Nat × List AV) := [(4, 213, [(.int .u8 (.ofNat 0)), (.int .u8 (.ofNat 1)), (.int .u8 (.ofNat 28)), (.int .u8 (.ofNat 2)), (.int .u8 (.ofNat 29)), (.int .u8 (.ofNat 14)), (.int .u8 (.ofNat 24)), (.int .u8 (.ofNat 3)), (.int .u8 (.ofNat 30)), (.int .u8 (.ofNat 22)), (.int .u8 (.ofNat 20)), (.int .u8 (.ofNat 15)), (.int .u8 (.ofNat 25)), (.int .u8 (.ofNat 17)), (.int .u8 (.ofNat 4)), (.int .u8 (.ofNat 8)), (.int .u8 (.ofNat 31)), (.int .u8 (.ofNat 27)), (.int .u8 (.ofNat 13)), (.int .u8 (.ofNat 23)), (.int .u8 (.ofNat 21)), (.int .u8 (.ofNat 19)), (.int .u8 (.ofNat 16)), (.int .u8 (.ofNat 7)), (.int .u8 (.ofNat 26)), (.int .u8 (.ofNat 12)), (.int .u8 (.ofNat 18)), (.int .u8 (.ofNat 6)), (.int .u8 (.ofNat 11)), (.int .u8 (.ofNat 5)), (.int .u8 (.ofNat 10)), (.int .u8 (.ofNat 9))]),
 (5, 214, [(.int .u8 (.ofNat 0)), (.int .u8 (.ofNat 1)), (.int .u8 (.ofNat 56)), (.int .u8 (.ofNat 2)), (.int .u8 (.ofNat 57)), (.int .u8 (.ofNat 49)), (.int .u8 (.ofNat 28)), (.int .u8 (.ofNat 3)), (.int .u8 (.ofNat 61)), (.int .u8 (.ofNat 58)), (.int .u8 (.ofNat 42)), (.int .u8 (.ofNat 50)), (.int .u8 (.ofNat 38)), (.int .u8 (.ofNat 29)), (.int .u8 (.ofNat 17)), (.int .u8 (.ofNat 4)), (.int .u8 (.ofNat 62)), (.int .u8 (.ofNat 47)), (.int .u8 (.ofNat 59)), (.int .u8 (.ofNat 36)), (.int .u8 (.ofNat 45)), (.int .u8 (.ofNat 43)), (.int .u8 (.ofNat 51)), (.int .u8 (.ofNat 22)), (.int .u8 (.ofNat 53)), (.int .u8 (.ofNat 39)), (.int .u8 (.ofNat 33)), (.int .u8 (.ofNat 30)), (.int .u8 (.ofNat 24)), (.int .u8 (.ofNat 18)), (.int .u8 (.ofNat 12)), (.int .u8 (.ofNat 5)), (.int .u8 (.ofNat 63)), (.int .u8 (.ofNat 55)), (.int .u8 (.ofNat 48)), (.int .u8 (.ofNat 27)), (.int .u8 (.ofNat 60)), (.int .u8 (.ofNat 41)), (.int .u8 (.ofNat 37)), (.int .u8 (.ofNat 16)), (.int .u8 (.ofNat 46)), (.int .u8 (.ofNat 35)), (.int .u8 (.ofNat 44)), (.int .u8 (.ofNat 21)), (.int .u8 (.ofNat 52)), (.int .u8 (.ofNat 32)), (.int .u8 (.ofNat 23)), (.int .u8 (.ofNat 11)), (.int .u8 (.ofNat 54)), (.int .u8 (.ofNat 26)), (.int .u8 (.ofNat 40)), (.int .u8 (.ofNat 15)), (.int .u8 (.ofNat 34)), (.int .u8 (.ofNat 20)), (.int .u8 (.ofNat 31)), (.int .u8 (.ofNat 10)), (.int .u8 (.ofNat 25)), (.int .u8 (.ofNat 14)), (.int .u8 (.ofNat 19)), (.int .u8 (.ofNat 9)), (.int .u8 (.ofNat 13)), (.int .u8 (.ofNat 8)), (.int .u8 (.ofNat 7)), (.int .u8 (.ofNat 6))]),
 (1, 194, [(.int .u64 (.ofNat 1)), (.int .u64 (.ofNat 10)), (.int .u64 (.ofNat 100)), (.int .u64 (.ofNat 1000)), (.int .u64 (.ofNat 10000)), (.int .u64 (.ofNat 100000)), (.int .u64 (.ofNat 1000000)), (.int .u64 (.ofNat 10000000)), (.int .u64 (.ofNat 100000000)), (.int .u64 (.ofNat 1000000000)), (.int .u64 (.ofNat 10000000000)), (.int .u64 (.ofNat 100000000000)), (.int .u64 (.ofNat 1000000000000)), (.int .u64 (.ofNat 10000000000000)), (.int .u64 (.ofNat 100000000000000)), (.int .u64 (.ofNat 1000000000000000)), (.int .u64 (.ofNat 10000000000000000)), (.int .u64 (.ofNat 100000000000000000)), (.int .u64 (.ofNat 1000000000000000000)), (.int .u64 (.ofNat 10000000000000000000))]),
 (7, 218, [(.int .u8 (.ofNat 128)), (.int .u8 (.ofNat 191)), (.int .u8 (.ofNat 160)), (.int .u8 (.ofNat 191)), (.int .u8 (.ofNat 128)), (.int .u8 (.ofNat 159)), (.int .u8 (.ofNat 144)), (.int .u8 (.ofNat 191)), (.int .u8 (.ofNat 128)), (.int .u8 (.ofNat 143)), (.int .u8 (.ofNat 0)), (.int .u8 (.ofNat 0)), (.int .u8 (.ofNat 0)), (.int .u8 (.ofNat 0)), (.int .u8 (.ofNat 0)), (.int .u8 (.ofNat 0)), (.int .u8 (.ofNat 0)), (.int .u8 (.ofNat 0)), (.int .u8 (.ofNat 0)), (.int .u8 (.ofNat 0)), (.int .u8 (.ofNat 0)), (.int .u8 (.ofNat 0)), (.int .u8 (.ofNat 0)), (.int .u8 (.ofNat 0)), (.int .u8 (.ofNat 0)), (.int .u8 (.ofNat 0)), (.int .u8 (.ofNat 0)), (.int .u8 (.ofNat 0)), (.int .u8 (.ofNat 0)), (.int .u8 (.ofNat 0)), (.int .u8 (.ofNat 0)), (.int .u8 (.ofNat 0))]),
 (3, 81, [.opi]),
 (2, 81, [.opi]),
 (6, 215, [(.int .u8 (.ofNat 240)), (.int .u8 (.ofNat 240)), (.int .u8 (.ofNat 240)), (.int .u8 (.ofNat 240)), (.int .u8 (.ofNat 240)), (.int .u8 (.ofNat 240)), (.int .u8 (.ofNat 240)), (.int .u8 (.ofNat 240)), (.int .u8 (.ofNat 240)), (.int .u8 (.ofNat 240)), (.int .u8 (.ofNat 240)), (.int .u8 (.ofNat 240)), (.int .u8 (.ofNat 240)), (.int .u8 (.ofNat 240)), (.int .u8 (.ofNat 240)), (.int .u8 (.ofNat 240)), (.int .u8 (.ofNat 240)), (.int .u8 (.ofNat 240)), (.int .u8 (.ofNat 240)), (.int .u8 (.ofNat 240)), (.int .u8 (.ofNat 240)), (.int .u8 (.ofNat 240)), (.int .u8 (.ofNat 240)), (.int .u8 (.ofNat 240)), (.int .u8 (.ofNat 240)), (.int .u8 (.ofNat 240)), (.int .u8 (.ofNat 240)), (.int .u8 (.ofNat 240)), (.int .u8 (.ofNat 240)), (.int .u8 (.ofNat 240)), (.int .u8 (.ofNat 240)), (.int .u8 (.ofNat 240)), (.int .u8 (.ofNat 240)), (.int .u8 (.ofNat 240)), (.int .u8 (.ofNat 240)), (.int .u8 (.ofNat 240)), (.int .u8 (.ofNat 240)), (.int .u8 (.ofNat 240)), (.int .u8 (.ofNat 240)), (.int .u8 (.ofNat 240)), (.int .u8 (.ofNat 240)), (.int .u8 (.ofNat 240)), (.int .u8 (.ofNat 240)), (.int .u8 (.ofNat 240)), (.int .u8 (.ofNat 240)), (.int .u8 (.ofNat 240)), (.int .u8 (.ofNat 240)), (.int .u8 (.ofNat 240)), (.int .u8 (.ofNat 240)), (.int .u8 (.ofNat 240)), (.int .u8 (.ofNat 240)), (.int .u8 (.ofNat 240)), (.int .u8 (.ofNat 240)), (.int .u8 (.ofNat 240)), (.int .u8 (.ofNat 240)), (.int .u8 (.ofNat 240)), (.int .u8 (.ofNat 240)), (.int .u8 (.ofNat 240)), (.int .u8 (.ofNat 240)), (.int .u8 (.ofNat 240)), (.int .u8 (.ofNat 240)), (.int .u8 (.ofNat 240)), (.int .u8 (.ofNat 240)), (.int .u8 (.ofNat 240)), (.int .u8 (.ofNat 240)), (.int .u8 (.ofNat 240)), (.int .u8 (.ofNat 240)), (.int .u8 (.ofNat 240)), (.int .u8 (.ofNat 240)), (.int .u8 (.ofNat 240)), (.int .u8 (.ofNat 240)), (.int .u8 (.ofNat 240)), (.int .u8 (.ofNat 240)), (.int .u8 (.ofNat 240)), (.int .u8 (.ofNat 240)), (.int .u8 (.ofNat 240)), (.int .u8 (.ofNat 240)), (.int .u8 (.ofNat 240)), (.int .u8 (.ofNat 240)), (.int .u8 (.ofNat 240)), (.int .u8 (.ofNat 240)), (.int .u8 (.ofNat 240)), (.int .u8 (.ofNat 240)), (.int .u8 (.ofNat 240)), (.int .u8 (.ofNat 240)), (.int .u8 (.ofNat 240)), (.int .u8 (.ofNat 240)), (.int .u8 (.ofNat 240)), (.int .u8 (.ofNat 240)), (.int .u8 (.ofNat 240)), (.int .u8 (.ofNat 240)), (.int .u8 (.ofNat 240)), (.int .u8 (.ofNat 240)), (.int .u8 (.ofNat 240)), (.int .u8 (.ofNat 240)), (.int .u8 (.ofNat 240)), (.int .u8 (.ofNat 240)), (.int .u8 (.ofNat 240)), (.int .u8 (.ofNat 240)), (.int .u8 (.ofNat 240)), (.int .u8 (.ofNat 240)), (.int .u8 (.ofNat 240)), (.int .u8 (.ofNat 240)), (.int .u8 (.ofNat 240)), (.int .u8 (.ofNat 240)), (.int .u8 (.ofNat 240)), (.int .u8 (.ofNat 240)), (.int .u8 (.ofNat 240)), (.int .u8 (.ofNat 240)), (.int .u8 (.ofNat 240)), (.int .u8 (.ofNat 240)), (.int .u8 (.ofNat 240)), (.int .u8 (.ofNat 240)), (.int .u8 (.ofNat 240)), (.int .u8 (.ofNat 240)), (.int .u8 (.ofNat 240)), (.int .u8 (.ofNat 240)), (.int .u8 (.ofNat 240)), (.int .u8 (.ofNat 240)), (.int .u8 (.ofNat 240)), (.int .u8 (.ofNat 240)), (.int .u8 (.ofNat 240)), (.int .u8 (.ofNat 240)), (.int .u8 (.ofNat 240)), (.int .u8 (.ofNat 240)), (.int .u8 (.ofNat 240)), (.int .u8 (.ofNat 240)), (.int .u8 (.ofNat 240)), (.int .u8 (.ofNat 241)), (.int .u8 (.ofNat 241)), (.int .u8 (.ofNat 241)), (.int .u8 (.ofNat 241)), (.int .u8 (.ofNat 241)), (.int .u8 (.ofNat 241)), (.int .u8 (.ofNat 241)), (.int .u8 (.ofNat 241)), (.int .u8 (.ofNat 241)), (.int .u8 (.ofNat 241)), (.int .u8 (.ofNat 241)), (.int .u8 (.ofNat 241)), (.int .u8 (.ofNat 241)), (.int .u8 (.ofNat 241)), (.int .u8 (.ofNat 241)), (.int .u8 (.ofNat 241)), (.int .u8 (.ofNat 241)), (.int .u8 (.ofNat 241)), (.int .u8 (.ofNat 241)), (.int .u8 (.ofNat 241)), (.int .u8 (.ofNat 241)), (.int .u8 (.ofNat 241)), (.int .u8 (.ofNat 241)), (.int .u8 (.ofNat 241)), (.int .u8 (.ofNat 241)), (.int .u8 (.ofNat 241)), (.int .u8 (.ofNat 241)), (.int .u8 (.ofNat 241)), (.int .u8 (.ofNat 241)), (.int .u8 (.ofNat 241)), (.int .u8 (.ofNat 241)), (.int .u8 (.ofNat 241)), (.int .u8 (.ofNat 241)), (.int .u8 (.ofNat 241)), (.int .u8 (.ofNat 241)), (.int .u8 (.ofNat 241)), (.int .u8 (.ofNat 241)), (.int .u8 (.ofNat 241)), (.int .u8 (.ofNat 241)), (.int .u8 (.ofNat 241)), (.int .u8 (.ofNat 241)), (.int .u8 (.ofNat 241)), (.int .u8 (.ofNat 241)), (.int .u8 (.ofNat 241)), (.int .u8 (.ofNat 241)), (.int .u8 (.ofNat 241)), (.int .u8 (.ofNat 241)), (.int .u8 (.ofNat 241)), (.int .u8 (.ofNat 241)), (.int .u8 (.ofNat 241)), (.int .u8 (.ofNat 241)), (.int .u8 (.ofNat 241)), (.int .u8 (.ofNat 241)), (.int .u8 (.ofNat 241)), (.int .u8 (.ofNat 241)), (.int .u8 (.ofNat 241)), (.int .u8 (.ofNat 241)), (.int .u8 (.ofNat 241)), (.int .u8 (.ofNat 241)), (.int .u8 (.ofNat 241)), (.int .u8 (.ofNat 241)), (.int .u8 (.ofNat 241)), (.int .u8 (.ofNat 241)), (.int .u8 (.ofNat 241)), (.int .u8 (.ofNat 241)), (.int .u8 (.ofNat 241)), (.int .u8 (.ofNat 2)), (.int .u8 (.ofNat 2)), (.int .u8 (.ofNat 2)), (.int .u8 (.ofNat 2)), (.int .u8 (.ofNat 2)), (.int .u8 (.ofNat 2)), (.int .u8 (.ofNat 2)), (.int .u8 (.ofNat 2)), (.int .u8 (.ofNat 2)), (.int .u8 (.ofNat 2)), (.int .u8 (.ofNat 2)), (.int .u8 (.ofNat 2)), (.int .u8 (.ofNat 2)), (.int .u8 (.ofNat 2)), (.int .u8 (.ofNat 2)), (.int .u8 (.ofNat 2)), (.int .u8 (.ofNat 2)), (.int .u8 (.ofNat 2)), (.int .u8 (.ofNat 2)), (.int .u8 (.ofNat 2)), (.int .u8 (.ofNat 2)), (.int .u8 (.ofNat 2)), (.int .u8 (.ofNat 2)), (.int .u8 (.ofNat 2)), (.int .u8 (.ofNat 2)), (.int .u8 (.ofNat 2)), (.int .u8 (.ofNat 2)), (.int .u8 (.ofNat 2)), (.int .u8 (.ofNat 2)), (.int .u8 (.ofNat 2)), (.int .u8 (.ofNat 19)), (.int .u8 (.ofNat 3)), (.int .u8 (.ofNat 3)), (.int .u8 (.ofNat 3)), (.int .u8 (.ofNat 3)), (.int .u8 (.ofNat 3)), (.int .u8 (.ofNat 3)), (.int .u8 (.ofNat 3)), (.int .u8 (.ofNat 3)), (.int .u8 (.ofNat 3)), (.int .u8 (.ofNat 3)), (.int .u8 (.ofNat 3)), (.int .u8 (.ofNat 3)), (.int .u8 (.ofNat 35)), (.int .u8 (.ofNat 3)), (.int .u8 (.ofNat 3)), (.int .u8 (.ofNat 52)), (.int .u8 (.ofNat 4)), (.int .u8 (.ofNat 4)), (.int .u8 (.ofNat 4)), (.int .u8 (.ofNat 68)), (.int .u8 (.ofNat 241)), (.int .u8 (.ofNat 241)), (.int .u8 (.ofNat 241)), (.int .u8 (.ofNat 241)), (.int .u8 (.ofNat 241)), (.int .u8 (.ofNat 241)), (.int .u8 (.ofNat 241)), (.int .u8 (.ofNat 241)), (.int .u8 (.ofNat 241)), (.int .u8 (.ofNat 241)), (.int .u8 (.ofNat 241))])]
theorem hl_eq : firstL Tryz.prog Rows.scriptLinesRow.laid = hl := by kernel_rfl
theorem mixed : Tryz.prog.follows .mixedOrders = true := by kernel_rfl
theorem extFine : extOk Tryz.prog = true := by kernel_rfl
theorem wakes_true {W : World} (hsz : gN ≤ W.heap.size) (hl' : ∀ y ∈ hl, y.1 < gN ∧ (∃ cs, W.heap[y.1]? = some (.cells cs y.2.1) ∧ ∀ π, VRs π y.2.2 cs.toList) ∧ y.2.2.all AV.isCell = true) :
  Calls Tryz.prog 9 #[] W fun e W' => e = .returned (.bool true) ∧ Below W.heap.size W W' :=
 closed_sound (n := 3000) (l := hl) mixed extFine (knId_ok _) (by kernel_rfl) hsz hl'
end Go.Proofs.YtnpkdiffpgcbhaaGreatDoor.Ev
namespace Go.Proofs.YtnpkdiffpgcbhaaGreatDoor
open Go.RowKit Go.ChangeShapes Go.WideShapes
theorem vrs_ints {π : Ev.Pi} {k : IntKind} : ∀ (zs : List Int) (l : List Value), Ev.VRs π (zs.map (Ev.AV.int k)) l → l = zs.map (Value.int k)
 | [], l, h => by cases h; rfl
 | z :: zs, l, h => by
  cases h with
  | cons v v' l l' h1 h2 =>
   cases h1
   rw [vrs_ints zs _ h2]
   rfl
theorem vrs_opi {π : Ev.Pi} {l : List Value} (h : Ev.VRs π [.opi] l) : ∃ t v, l = [.iface t v] := by
 cases h with
 | cons v v' l l' h1 h2 =>
  cases h1
  cases h2
  exact ⟨_, _, rfl⟩
theorem zero0 : ((begin Tryz.prog (fun _ _ => 0) default).world.heap[0]?).bind Obj.row? = some (#[.int .i64 0], 3) := by kernel_rfl
theorem types0 : Tryz.prog.cellTypes Tryz.prog.depth 3 = some [3] := by kernel_rfl
theorem build3 : Tryz.prog.buildable 3 = true := by kernel_rfl
theorem lib_of {W : World} (hS : W.ShapedOpen Tryz.prog) (hsz : Ev.gN ≤ W.heap.size)
  (hl' : ∀ y ∈ Ev.hl, y.1 < Ev.gN ∧ (∃ cs, W.heap[y.1]? = some (.cells cs y.2.1) ∧ ∀ π, Ev.VRs π y.2.2 cs.toList) ∧ y.2.2.all Ev.AV.isCell = true) : LibOk W := by
 refine ⟨?_, ?_, ?_, hsz⟩
 ·obtain ⟨cs, h1, h2, h3⟩ := hS.1 0 _ _ (of_decide_eq_true (by kernel_rfl)) zero0
  obtain ⟨ts, e1, _, e3⟩ := h3 build3
  rw [types0] at e1
  cases e1
  have hl : 0 < cs.size := by rw [h2]; decide
  obtain ⟨u, hu, hc⟩ := e3 0 (cs[0]) (by simp [hl])
  simp at hu
  subst hu
  have hu3 : Tryz.prog.underlying 3 = some (.int .i64) := Tryz.underlying3
  unfold Cell.ok at hc
  rw [hu3] at hc
  have hcell : W.cell? ⟨0, 0, none⟩ = some (cs[0]) := (cell_blk h1).trans (by simp [hl])
  generalize cs[0] = v at hc hcell
  cases v <;> simp at hc
  rename_i k m
  obtain ⟨rfl, _⟩ := hc
  exact ⟨m, hcell⟩
 ·obtain ⟨_, ⟨cs, h1, h2⟩, _⟩ := hl' (Ev.hl[2]'(by decide)) (List.getElem_mem _)
  have hg : Tryz.prog.globalNamed "internal/strconv.uint64pow10" = some 1 := by kernel_rfl
  have h1 : W.heap[1]? = some (.cells cs 194) := h1
  have e := vrs_ints (π := fun _ => none) (k := .u64) Lib.pow10Tab cs.toList (h2 _)
  unfold Lib.TabIs World.var?
  rw [hg]
  simp only [Option.bind_some, h1]
  rw [← e]
 ·obtain ⟨_, ⟨cs, h1, h2⟩, _⟩ := hl' (Ev.hl[4]'(by decide)) (List.getElem_mem _)
  have h1 : W.heap[3]? = some (.cells cs 81) := h1
  obtain ⟨t, v, e⟩ := vrs_opi (π := fun _ => none) (h2 _)
  refine ⟨t, v, (cell_blk h1).trans ?_⟩
  rw [← Array.getElem?_toList, e]
  rfl
theorem bytes9 : Tryz.prog.bytesOf 9 = 16 := by kernel_rfl
theorem kcells9 : Tryz.prog.cellsOf 9 = 1 := by kernel_rfl
theorem weights_strs {H : Type} : ∀ (ss : List ByteArray), DataW.weightsAll (H := H) Tryz.prog 9 (strs ss) = ss.map (·.size)
 | [] => rfl
 | s :: ss => by
  show DataW.weights Tryz.prog 9 _ ++ DataW.weightsAll Tryz.prog 9 (strs ss) = _
  rw [weights_strs ss]
  rfl
theorem strs_of {H : Type} {enc : TypeId × Value → H} {W : World} {r : Reach} {base : Nat} {v : Value} {d : DataW H} {p : List MemPlace} (hv : Value.okWide Tryz.prog W r base 42 v) (h : DataW.Trod enc Tryz.prog W 0 (fun _ => true) true 42 v d p)
  (hz : (d.weights Tryz.prog 42).all (fun x => decide (x ≤ reachBytes)) = true) : ∃ ts, Strs W v ts ∧ (∀ t ∈ ts, t.size ≤ 140737488351232) ∧ ts.length ≤ 140737488351232 := by
 obtain ⟨fuel, hf⟩ := h
 obtain ⟨x1, x2, x3, rfl⟩ := okWide_slice Tryz.underlying42 hv
 rcases open_strings Tryz.underlying42 Tryz.underlying9 kcells9 hf with ⟨h0, _⟩ | ⟨a, len, cap, ss, h0, _, hlc, _, hsl, hx, hcell, _⟩
 ·injection (List.cons.inj h0).1 with e1 e2 e3
  subst e1 e2 e3
  exact ⟨[], ⟨none, 0, rfl, Nat.le_refl _, .inl rfl⟩, by simp, by simp⟩
 ·injection (List.cons.inj h0).1 with e1 e2 e3
  rw [← e2] at hsl hx hlc
  rw [← e3] at hsl hlc
  rw [e1]
  clear e1 e2 e3
  obtain ⟨len, hlen⟩ : ∃ l, x2 = l := ⟨_, rfl⟩
  obtain ⟨cap, hcap⟩ : ∃ l, x3 = l := ⟨_, rfl⟩
  rw [hlen] at hsl hx hlc ⊢
  rw [hcap] at hsl hlc ⊢
  simp only [if_true] at hsl
  have hd : d = .slice (strs (ss.take len)) (strs (ss.drop len)) := congrArg Prod.fst hx
  subst hd
  have hl : (ss.take len).length = len := by rw [List.length_take]; omega
  unfold DataW.weights at hz
  rw [Tryz.underlying42] at hz
  simp only [List.all_cons, List.all_append, Bool.and_eq_true, weights_strs, bytes9] at hz
  obtain ⟨hz1, hz2, _⟩ := hz
  have hz1 := of_decide_eq_true hz1
  rw [List.all_map, List.all_eq_true] at hz2
  refine ⟨ss.take len, ⟨some a, cap, by rw [hl], by rw [hl]; exact hlc, ?_⟩, fun t ht => ?_, ?_⟩
  ·by_cases h0 : len = 0
   ·left; subst h0; rfl
   ·right
    have hc0 := hcell 0 (by omega)
    rw [Addr.add_zero'] at hc0
    obtain ⟨g, off, spot⟩ := a
    have hg : g < W.heap.size ∧ spot = none := by
     unfold World.cell? at hc0
     split at hc0
     ·rename_i he
      refine ⟨lt_blk he, ?_⟩
      cases spot with
      | none => rfl
      | some x => simp at hc0
     ·cases hc0
    obtain ⟨hg, rfl⟩ := hg
    refine ⟨g, off, rfl, hg, fun j t hj => ?_⟩
    have hj' := List.getElem?_eq_some_iff.1 hj
    obtain ⟨hj1, hj2⟩ := hj'
    rw [hl] at hj1
    have hc := hcell j (by omega)
    rw [Addr.add_lit] at hc
    rw [hc]
    congr 2
    rw [List.getElem?_take_of_lt hj1] at hj
    simp [List.getD, hj]
  ·exact of_decide_eq_true (hz2 t ht)
  ·have hs : (strs (H := H) (ss.take len)).length = len := by simp only [strs, List.length_map, hl]
   rw [hl]
   rw [hs] at hz1
   unfold reachBytes at hz1
   omega
end Go.Proofs.YtnpkdiffpgcbhaaGreatDoor
