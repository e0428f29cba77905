/- ScriptValues (one parameter, of bulk at most 1048576): the law returns true, its row's statement and its tied card. No conditions beside the row's own. -/
import Derived.Test.YtnpkdiffpgcbhaaGreatDoorC7
import Derived.Test.YtnpkdiffpgcbhaaGreatDoorRows
import Derived.ProofKit
import Derived.OpenShut
import Derived.Deep.Slices
import Derived.Deep.Fields
import Derived.Test.YtnpkdiffpgcbhaaGreatDoorC6
import Derived.SliceStrings
import Derived.Lib.LaidTab
import Derived.Test.YtnpkdiffpgcbhaaGreatDoorTie
import Derived.Test.YtnpkdiffpgcbhaaGreatDoorCards
import Derived.WalkKit
import Derived.Carry
import Derived.Lay
import Derived.ChangeSame
import Derived.Below
import Derived.LaidMore
import Derived.HandedShaped
import Derived.SevenTiedAt
import Derived.JoinedCond
set_option maxRecDepth 100000
set_option maxHeartbeats 3200000
namespace Go.Proofs.YtnpkdiffpgcbhaaGreatDoor
open Go.RowKit Go.Deep Go.WideShapes Go.ChangeShapes
section
variable {H : Type}
theorem bulk_snoc (l : List (DataW H)) (d : DataW H) : Rows.uptoBulkAll (l ++ [d]) = Rows.uptoBulkAll l + Rows.uptoBulk d := by
 induction l with
 | nil => simp [Rows.uptoBulkAll]
 | cons a l ih => simp only [List.cons_append, Rows.uptoBulkAll, ih]; omega
theorem opn_addr {w : World} {a : Addr} {v : Value} (h : w.cell? a = some v) : ∃ cs T mk, a.spot = none ∧ w.heap[a.block]? = some (.cells cs T mk) := by
 unfold World.cell? at h
 split at h
 ·rename_i cs T mk hh
  by_cases hs : a.spot.isSome = true
  ·rw [if_pos hs] at h; cases h
  ·exact ⟨cs, T, mk, by simpa using hs, hh⟩
 ·cases h
theorem opn_add (g o k : Nat) : (⟨g, o, none⟩ : Addr).add k = ⟨g, o + k, none⟩ := by
 unfold Addr.add; split <;> simp_all
theorem rows_v {w : World} {es : List (DataW H × List MemPlace)} (off : Nat) (cs : Array Value) :
  ∀ m : Nat, m ≤ es.length → (∀ i (hi : i < es.length), i < m → ∃ c v, RdV w anyB c v ∧ Rng v ∧ bulkG v ≤ Rows.uptoBulk (es[i]'hi).1 ∧ ∀ j, j < 5 → cs[off + (i * 5 + j)]? = c[j]?) →
  ∃ (l : List GV) (xs : List Value), l.length = m ∧ RdVs w anyB xs l ∧ (∀ v ∈ l, Rng v) ∧ bulkL l ≤ Rows.uptoBulkAll ((es.take m).map (·.1)) ∧ ∀ j, j < m * 5 → cs[off + j]? = xs[j]? := by
 intro m
 induction m with
 | zero => exact fun _ _ => ⟨[], [], rfl, .nil, by simp, by simp [bulkL], fun j hj => by omega⟩
 | succ m ih =>
  intro hm h
  obtain ⟨l, xs, h1, h2, h3, h4, h5⟩ := ih (by omega) (fun i hi hlt => h i hi (by omega))
  obtain ⟨c, v, hr, hg, hb, hc⟩ := h m (by omega) (by omega)
  refine ⟨l ++ [v], xs ++ c, by simp [h1], h2.snoc hr, ?_, ?_, fun j hj => ?_⟩
  ·intro x hx
   rcases List.mem_append.1 hx with hx | hx
   ·exact h3 x hx
   ·rw [List.mem_singleton] at hx; subst hx; exact hg
  ·rw [List.take_succ_eq_append_getElem (by omega), List.map_append, List.map_singleton, bulk_snoc]
   have e : bulkL (l ++ [v]) = bulkL l + bulkG v := by simp [bulkL]
   omega
  ·have hx := h2.len
   rw [h1] at hx
   by_cases hlt : j < m * 5
   ·rw [List.getElem?_append_left (by omega)]; exact h5 j hlt
   ·rw [List.getElem?_append_right (by omega), hx, ← hc (j - m * 5) (by omega)]
    congr 1; omega
theorem len5 {α : Type} {l : List α} (h : l.length = 5) : ∃ a b c d e, l = [a, b, c, d, e] := by
 match l, h with
 | [a, b, c, d, e], _ => exact ⟨a, b, c, d, e, rfl⟩
theorem kc2 : Tryz.prog.cellsOf 2 = 1 := by kernel_rfl
theorem kc3 : Tryz.prog.cellsOf 3 = 1 := by kernel_rfl
theorem kc4 : Tryz.prog.cellsOf 4 = 1 := by kernel_rfl
theorem kc9 : Tryz.prog.cellsOf 9 = 1 := by kernel_rfl
theorem kc38 : Tryz.prog.cellsOf 38 = 1 := by kernel_rfl
theorem kc49 : Tryz.prog.cellsOf 49 = 1 := by kernel_rfl
theorem kc52 : Tryz.prog.cellsOf 52 = 5 := by kernel_rfl
theorem two63 : (2 : Int) ^ 63 = 9223372036854775808 := by decide
variable {enc : TypeId × Value → H} {w : World} {base : Nat} {spare : Nat → Bool} {held : Bool}
def OpnV (w : World) (cs : List Value) (d : DataW H) : Prop := ∃ v, RdV w anyB cs v ∧ Rng v ∧ bulkG v ≤ Rows.uptoBulk d
def OpnL (w : World) (cs : List Value) (d : DataW H) : Prop := ∃ (a : Option Addr) (cp : Nat) (l : List GV) (xs : List Value), cs = [.slice a l.length cp] ∧ SliceAt w anyB (.slice a l.length cp) l.length (l.length * 5) xs ∧ RdVs w anyB xs l ∧ (∀ v ∈ l, Rng v) ∧ bulkL l + 1 ≤ Rows.uptoBulk d
theorem opn_list {m : Nat} (ih : ∀ c y, DataW.trod enc Tryz.prog w base spare held m 52 c = some y → OpnV w c y.1) {cs : List Value} {x : DataW H × List MemPlace} (h : DataW.trod enc Tryz.prog w base spare held (m + 1) 38 cs = some x) : OpnL w cs x.1 := by
 rcases DataW.trod_slice Tryz.underlying38 h with ⟨rfl, rfl⟩ | ⟨a, len, cap, elems, rest, m', hm, rfl, rfl, _, hle, hmax, hel, hat, _⟩
 ·exact ⟨none, 0, [], [], rfl, ⟨by simp, none, 0, rfl, Nat.le_refl _, .inl rfl⟩, .nil, by simp, by simp [bulkL, Rows.uptoBulk]⟩
 ·obtain rfl : m = m' := by omega
  rw [kc52] at hat
  have hall : ∀ i (hi : i < elems.length), i < len → ∃ c v, RdV w anyB c v ∧ Rng v ∧ bulkG v ≤ Rows.uptoBulk (elems[i]'hi).1 ∧ ∀ j, j < 5 → w.cell? ((a.add (i * 5)).add j) = c[j]? := by
   intro i hi hlt
   have := hat i hlt
   rw [List.getElem?_eq_getElem hi, Option.bind_eq_some_iff] at this
   obtain ⟨c, hc, hd⟩ := this
   obtain ⟨v, hv, hg, hb⟩ := ih _ _ hd
   exact ⟨c, v, hv, hg, hb, (World.cells?_some hc).2.2⟩
  have hlist : ∀ z : Nat, z ≤ Rows.uptoBulkAll (elems.map (·.1)) → z + 1 ≤ Rows.uptoBulk (DataW.slice (elems.map (fun x => x.1)) (rest.map (fun x => x.1))) := by
   intro z hz
   simp only [Rows.uptoBulk]; omega
  by_cases h0 : len = 0
  ·subst h0
   exact ⟨some a, cap, [], [], rfl, ⟨by simp, some a, cap, rfl, Nat.zero_le _, .inl rfl⟩, .nil, by simp, hlist _ (by simp [bulkL])⟩
  ·obtain ⟨c, v, hv, _, _, hc⟩ := hall 0 (by omega) (by omega)
   have hc0 := hc 0 (by omega)
   have hcl := hv.len
   rw [List.getElem?_eq_getElem (by omega)] at hc0
   obtain ⟨cs, T, mk, hs, hb⟩ := opn_addr hc0
   obtain ⟨g, off, sp⟩ := a
   have e0 : ((⟨g, off, sp⟩ : Addr).add (0 * 5)).add 0 = ⟨g, off, sp⟩ := by simp [Addr.add]
   rw [e0] at hs hb
   have hb' : w.heap[g]? = some (.cells cs T mk) := hb
   obtain rfl : sp = none := hs
   obtain ⟨l, xs, h1, h2, h3, h4, h5⟩ := rows_v (es := elems) off cs len (by omega) (fun i hi hlt => by
    obtain ⟨c, v, hv, hg, hbk, hc⟩ := hall i hi hlt
    refine ⟨c, v, hv, hg, hbk, fun j hj => ?_⟩
    rw [← hc j hj]
    rw [opn_add, opn_add, Nat.add_assoc]
    simp [World.cell?, hb'])
   rw [← hel, List.take_length] at h4
   refine ⟨some ⟨g, off, none⟩, cap, l, xs, by rw [h1], ⟨h2.len, some ⟨g, off, none⟩, cap, by rw [h1], by omega, .inr ⟨g, off, cs, T, mk, rfl, trivial, hb', ?_⟩⟩, h2, h3, hlist _ h4⟩
   rw [h1]; exact h5
theorem opn_value {m : Nat} (ih : ∀ cs x, DataW.trod enc Tryz.prog w base spare held m 38 cs = some x → OpnL w cs x.1) {cs : List Value} {x : DataW H × List MemPlace} (h : DataW.trod enc Tryz.prog w base spare held (m + 1) 52 cs = some x) : OpnV w cs x.1 := by
 obtain ⟨xs, n, hn, rfl, hl, hxl, hx⟩ := DataW.trod_struct Tryz.underlying52 h
 obtain rfl : m = n := by omega
 obtain ⟨c0, c1, c2, c3, c4, rfl⟩ := len5 (hl.trans kc52)
 match xs, hxl with
 | [y0, y1, y2, y3, y4], _ =>
  have x0 : DataW.trod enc Tryz.prog w base spare held m 3 (List.take (Tryz.prog.cellsOf 3) (List.drop 0 [c0, c1, c2, c3, c4])) = some y0 := hx 0 _ rfl
  rw [kc3] at x0
  have x0 : DataW.trod enc Tryz.prog w base spare held m 3 [c0] = some y0 := x0
  have x1 : DataW.trod enc Tryz.prog w base spare held m 4 (List.take (Tryz.prog.cellsOf 4) (List.drop 1 [c0, c1, c2, c3, c4])) = some y1 := hx 1 _ rfl
  rw [kc4] at x1
  have x1 : DataW.trod enc Tryz.prog w base spare held m 4 [c1] = some y1 := x1
  have x2 : DataW.trod enc Tryz.prog w base spare held m 2 (List.take (Tryz.prog.cellsOf 2) (List.drop 2 [c0, c1, c2, c3, c4])) = some y2 := hx 2 _ rfl
  rw [kc2] at x2
  have x2 : DataW.trod enc Tryz.prog w base spare held m 2 [c2] = some y2 := x2
  have x3 : DataW.trod enc Tryz.prog w base spare held m 9 (List.take (Tryz.prog.cellsOf 9) (List.drop 3 [c0, c1, c2, c3, c4])) = some y3 := hx 3 _ rfl
  rw [kc9] at x3
  have x3 : DataW.trod enc Tryz.prog w base spare held m 9 [c3] = some y3 := x3
  have x4 : DataW.trod enc Tryz.prog w base spare held m 38 (List.take (Tryz.prog.cellsOf 38) (List.drop 4 [c0, c1, c2, c3, c4])) = some y4 := hx 4 _ rfl
  rw [kc38] at x4
  have x4 : DataW.trod enc Tryz.prog w base spare held m 38 [c4] = some y4 := x4
  obtain ⟨k, e0, rfl, _⟩ := DataW.trod_int Tryz.underlying3 x0
  obtain ⟨b, e1, rfl⟩ := DataW.trod_bool Tryz.underlying4 x1
  obtain ⟨i, e2, rfl, hi⟩ := DataW.trod_int Tryz.underlying2 x2
  obtain ⟨t, e3, rfl, ht⟩ := DataW.trod_string Tryz.underlying9 x3
  obtain ⟨a, cp, l, ys, e4, hs, hr, hg, hb⟩ := ih _ _ x4
  injection e0 with e0 _
  injection e1 with e1 _
  injection e2 with e2 _
  injection e3 with e3 _
  injection e4 with e4 _
  subst e0 e1 e2 e3 e4
  have hi' : -9223372036854775808 ≤ i ∧ i ≤ 9223372036854775807 := by
   simpa [Lit.wf, IntKind.min, IntKind.max, IntKind.signed, IntKind.bits, two63] using hi
  refine ⟨.mk k b i t.data.toList l, .mk k b i t _ ys l hs hr, .mk _ _ _ _ _ hi'.1 hi'.2 hg, ?_⟩
  rw [bulkG_mk]
  simp only [List.map_cons, List.map_nil, Rows.uptoBulk, Rows.uptoBulkAll]
  omega
theorem opn_both : ∀ fuel, (∀ cs x, DataW.trod enc Tryz.prog w base spare held fuel 52 cs = some x → OpnV w cs x.1) ∧ ∀ cs x, DataW.trod enc Tryz.prog w base spare held fuel 38 cs = some x → OpnL w cs x.1 := by
 intro fuel
 induction fuel with
 | zero => exact ⟨fun cs x h => by simp [DataW.trod] at h, fun cs x h => by simp [DataW.trod] at h⟩
 | succ m ih => exact ⟨fun cs x h => opn_value ih.2 h, fun cs x h => opn_list ih.1 h⟩
theorem open_values {r : Reach} {b0 : Nat} {v : Value} {d : DataW H} {p : List MemPlace} (hv : Value.okWide Tryz.prog w r b0 49 v) (h : DataW.Trod enc Tryz.prog w base spare held 49 v d p) (hb : Rows.uptoBulkAll [d] ≤ 1048576) :
  ∃ (a : Option Addr) (cp : Nat) (l : List GV) (xs : List Value), v = .agg #[.slice a l.length cp] ∧ SliceAt w anyB (.slice a l.length cp) l.length (l.length * 5) xs ∧ RdVs w anyB xs l ∧ (∀ v ∈ l, Rng v) ∧ bulkL l ≤ 1048576 := by
 obtain ⟨cs, rfl, hsz⟩ := okWide_struct Tryz.underlying49 hv
 obtain ⟨c0, rfl⟩ : ∃ c0, cs = #[c0] := by
  have h1 : cs.size = 1 := hsz.trans kc49
  exact ⟨cs[0], Array.ext (by simp [h1]) (fun i h2 h3 => by
   obtain rfl : i = 0 := by omega
   simp)⟩
 obtain ⟨fuel, hf⟩ := h
 obtain ⟨xs, n, _, hx, hl, hlen, hff⟩ := DataW.trod_struct Tryz.underlying49 hf
 match xs, hlen with
 | [y0], _ =>
  have h0 : DataW.trod enc Tryz.prog w base spare held n 38 (List.take (Tryz.prog.cellsOf 38) (List.drop 0 [c0])) = some y0 := hff 0 _ rfl
  rw [kc38] at h0
  have h0 : DataW.trod enc Tryz.prog w base spare held n 38 [c0] = some y0 := h0
  obtain ⟨a, cp, l, ys, e4, hs, hr, hg, hbk⟩ := (opn_both n).2 _ _ h0
  injection e4 with e4 _
  subst e4
  refine ⟨a, cp, l, ys, rfl, hs, hr, hg, ?_⟩
  injection hx with hx _
  subst hx
  simp only [List.map_cons, List.map_nil, Rows.uptoBulk, Rows.uptoBulkAll] at hb
  omega
end
end Go.Proofs.YtnpkdiffpgcbhaaGreatDoor
namespace Go.Proofs.YtnpkdiffpgcbhaaGreatDoor
open Go.RowKit Go.ChangeShapes Go.WideShapes
theorem zero0 : ((begin Tryz.prog (fun _ _ => 0) default).world.heap[0]?).bind Obj.row? = some (#[.int .i64 0], 3) := by kernel_rfl
theorem types0 : Tryz.prog.cellTypes Tryz.prog.depth 3 = some [3] := by kernel_rfl
theorem build3 : Tryz.prog.buildable 3 = true := by kernel_rfl
theorem trod_ifc {P : Program} {w : World} {fuel : Nat} {t : TypeId} {ms : Array (String × TypeId)} {cs : List Value} {x : DataW Unit × List MemPlace} (hu : P.underlying t = some (.interface ms)) (ht : DataW.trod (fun _ => ()) P w 0 (fun _ => true) false fuel t cs = some x) :
  (cs = [.nilIface] ∧ x = (.nil, [])) ∨ ∃ u v name y, cs = [.iface u v] ∧ x.1 = .iface name y := by
 cases fuel with
 | zero => simp [DataW.trod] at ht
 | succ m =>
  unfold DataW.trod at ht
  rw [hu] at ht
  cases cs with
  | nil => simp at ht
  | cons c cs =>
   cases cs with
   | cons c2 cs => cases c <;> simp at ht
   | nil =>
    cases c <;> first | (simp at ht; done) | skip
    ·rename_i u v
     refine .inr ⟨u, v, ?_⟩
     cases hn : P.typeName? 3 u with
     | none => simp [hn] at ht
     | some name =>
      simp only [hn] at ht
      cases hq : DataW.trod (fun _ => ()) P w 0 (fun _ => true) false m u v.cells.toList with
      | none => rw [hq] at ht; cases ht
      | some y => rw [hq] at ht; cases ht; exact ⟨name, y.1, rfl, rfl⟩
    ·cases ht; exact .inl ⟨rfl, rfl⟩
theorem lib_laid {W : World} {ps : List MemPlace} (hS : W.ShapedOpen Tryz.prog) (hsz : 8 ≤ W.heap.size) (hL : DataW.LaidVars Tryz.prog W Rows.scriptBackRow.laid ps) : LibOk W := by
 obtain ⟨_, _, _, _, _, _, _, _, _, _, hL, _⟩ := hL
 obtain ⟨_, _, _, _, _, _, _, _, _, _, hL, _⟩ := hL
 obtain ⟨g, t, cs, fuel, p, q, hg, ht, hv, hd, hL, _⟩ := hL
 obtain ⟨_, _, _, _, _, _, _, _, _, _, hL, _⟩ := hL
 obtain ⟨g2, t2, cs2, fuel2, p2, q2, hg2, ht2, hv2, hd2, _, _⟩ := hL
 refine ⟨?_, ?_, ?_, hsz⟩
 ·obtain ⟨cs, h1, h2, h3⟩ := hS.1 0 _ _ (of_decide_eq_true (by kernel_rfl)) zero0
  obtain ⟨ts, e1, _, e3⟩ := h3 build3
  rw [types0] at e1
  cases e1
  have hl : 0 < cs.size := by rw [h2]; decide
  obtain ⟨u, hu, hc⟩ := e3 0 (cs[0]) (by simp [hl])
  simp at hu
  subst hu
  have hu3 : Tryz.prog.underlying 3 = some (.int .i64) := Tryz.underlying3
  unfold Cell.ok at hc
  rw [hu3] at hc
  have hcell : W.cell? ⟨0, 0, none⟩ = some (cs[0]) := (cell_blk h1).trans (by simp [hl])
  generalize cs[0] = v at hc hcell
  cases v <;> simp at hc
  rename_i k m
  obtain ⟨rfl, _⟩ := hc
  exact ⟨m, hcell⟩
 ·have e1 : Tryz.prog.globalNamed "internal/strconv.uint64pow10" = some 1 := by kernel_rfl
  obtain rfl : g = 1 := (Option.some.inj (e1.symm.trans hg)).symm
  have e2 : (Tryz.prog.globals[1]?).map (·.type) = some 194 := by kernel_rfl
  obtain rfl : t = 194 := (Option.some.inj (e2.symm.trans ht)).symm
  unfold Lib.TabIs
  rw [hv]
  have hd' : DataW.trod (fun _ => ()) Tryz.prog W 0 (fun _ => true) false fuel 194 cs.toList = some (Lib.tabData .u64 Lib.pow10Tab, p) := hd
  rw [← Lib.cells_of_tab Tryz.underlying194 Tryz.underlying174 (by kernel_rfl) (by kernel_rfl) hd']
 ·have e1 : Tryz.prog.globalNamed "strconv.ErrRange" = some 3 := by kernel_rfl
  obtain rfl : g2 = 3 := (Option.some.inj (e1.symm.trans hg2)).symm
  have e2 : (Tryz.prog.globals[3]?).map (·.type) = some 81 := by kernel_rfl
  obtain rfl : t2 = 81 := (Option.some.inj (e2.symm.trans ht2)).symm
  rcases trod_ifc Tryz.underlying81 hd2 with ⟨_, h⟩ | ⟨u, v, name, y, hc, _⟩
  ·cases h
  ·refine ⟨u, v, ?_⟩
   unfold World.var? at hv2
   rw [e1] at hv2
   simp only [Option.bind_some] at hv2
   unfold World.cell?
   split at hv2
   ·skip
    next hh =>
    rw [hh]
    cases hv2
    show cs2[0]? = _
    rw [← Array.getElem?_toList, hc]
    rfl
   ·cases hv2
end Go.Proofs.YtnpkdiffpgcbhaaGreatDoor
namespace Go.Proofs.YtnpkdiffpgcbhaaGreatDoor
open Go.RowKit
attribute [local go_sem] Oper.semAt_some
theorem sub_row {w : World} {F : Nat → Prop} {g o cap n k : Nat} {xs : List Value} {l : List GV} {v : GV} (h : SliceAt w F (.slice (some ⟨g, o, none⟩) n cap) n (n * 5) xs) (hl : RdVs w F xs l) (hv : l[k]? = some v) (hk : k < n) :
  ∃ c, RdV w F c v ∧ (∀ j, j < 5 → xs[k * 5 + j]? = c[j]?) ∧ SliceAt w F (.slice (some ⟨g, o + k * 5, none⟩) 1 (cap - k)) 1 (1 * 5) c ∧ RdVs w F c [v] := by
 obtain ⟨c, hr, hx⟩ := hl.get hv
 have hlen := hr.len
 obtain ⟨h0, ao, cp, e, hle, h3⟩ := h
 injection e with e1 e2 e3
 subst e1 e3
 rcases h3 with h3 | ⟨g', off, cs, T, mk, q1, q2, q3, q4⟩
 ·omega
 ·cases q1
  refine ⟨c, hr, hx, ⟨by rw [hlen], some ⟨g, o + k * 5, none⟩, cap - k, rfl, by omega, .inr ⟨g, o + k * 5, cs, T, mk, rfl, q2, q3, fun j hj => ?_⟩⟩, by simpa using RdVs.cons c [] v [] hr .nil⟩
  rw [← hx j (by omega), ← q4 (k * 5 + j) (by omega)]
  congr 1; omega
theorem opv_row {W : World} {g1 g2 : Nat} {m1 m2 : Nat × Nat} {k : Int} {b : Bool} {i : Int} {t : ByteArray} {s : Value} {v : GV} (hr : RdV W anyB [.int .i64 k, .bool b, .int .i64 i, .string t, s] v)
  (h1 : W.heap[g1]? = some (.cells #[.string ⟨#[120]⟩, .int .i64 k, .bool b, .int .i64 i, .string t, s] 54 m1))
  (h2 : W.heap[g2]? = some (.cells #[.int .i64 1, .string ⟨#[80]⟩, .slice (some ⟨g1, 0, none⟩) 1 1, .int .i64 0, .string ⟨#[]⟩, .bool false, .int .i64 0, .slice none 0 0] 58 m2)) :
  ∃ ys, SliceAt W anyB (.slice (some ⟨g2, 0, none⟩) 1 1) [opV v].length ([opV v].length * 8) ys ∧ RdRow (RdOp W anyB) ys [opV v] := by
 have e : RdG W anyB [.string ⟨#[120]⟩, .int .i64 k, .bool b, .int .i64 i, .string t, s] (wX, v) := .mk ⟨#[120]⟩ _ v hr
 have e2 : RdOp W anyB [.int .i64 1, .string ⟨#[80]⟩, .slice (some ⟨g1, 0, none⟩) 1 1, .int .i64 0, .string ⟨#[]⟩, .bool false, .int .i64 0, .slice none 0 0] (opV v) :=
  .mk 1 ⟨#[80]⟩ _ 0 ⟨#[]⟩ false 0 _ [.string ⟨#[120]⟩, .int .i64 k, .bool b, .int .i64 i, .string t, s] [] [(wX, v)] []
   ⟨rfl, some ⟨g1, 0, none⟩, 1, rfl, Nat.le_refl _, .inr ⟨g1, 0, _, _, _, rfl, trivial, h1, fun j hj => by rw [Nat.zero_add]; simp⟩⟩
   (by simpa using RdRow.cons _ [] (wX, v) [] e .nil) ⟨rfl, none, 0, rfl, Nat.le_refl _, .inl rfl⟩ .nil
 exact ⟨[.int .i64 1, .string ⟨#[80]⟩, .slice (some ⟨g1, 0, none⟩) 1 1, .int .i64 0, .string ⟨#[]⟩, .bool false, .int .i64 0, .slice none 0 0], ⟨rfl, some ⟨g2, 0, none⟩, 1, rfl, Nat.le_refl _, .inr ⟨g2, 0, _, _, _, rfl, trivial, h2, fun j hj => by rw [Nat.zero_add]; simp⟩⟩, by simpa using RdRow.cons _ [] (opV v) [] e2 .nil⟩
theorem line_one (v : GV) : linesG [opV v] = wHead ++ (wrB v ++ [32, 125, 10]) := by
 have e : linesG [opV v] = (lineG (opV v) ++ [10]) ++ linesG [] := rfl
 rw [e, line_opV, show linesG [] = [] from rfl]
 simp
theorem wr_some {v : GV} (hs : sizeN 101 [v] ≤ 1200) (h : Takes (opV v)) : 1 ≤ (wrB v).length := by
 obtain ⟨h1, h2, _⟩ := takes_lex hs h
 cases hw : wrB v with
 | nil => rw [hw] at h1; exact absurd (Option.some.inj (h1.symm.trans (by rfl : lexS [] = some []))) h2
 | cons a r => simp
theorem cut_head (v : GV) : ((mk (linesG [opV v])).extract 0 15) = ⟨#[105, 110, 115, 101, 114, 116, 32, 80, 32, 123, 32, 120, 32, 61, 32]⟩ := by
 apply data_inj
 rw [Lib.extract_data]
 show ((linesG [opV v]).drop 0).take 15 = _
 rw [line_one]
 rfl
theorem cut_body (v : GV) : ((mk (linesG [opV v])).extract 15 (15 + (wrB v).length)).data.toList = wrB v := by
 rw [Lib.extract_data]
 show ((linesG [opV v]).drop 15).take (15 + (wrB v).length - 15) = _
 rw [line_one, show wHead = [105, 110, 115, 101, 114, 116, 32, 80, 32, 123, 32, 120, 32, 61, 32] from rfl]
 rw [show 15 + (wrB v).length - 15 = (wrB v).length by omega]
 show (wrB v ++ [32, 125, 10]).take (wrB v).length = wrB v
 rw [List.take_left]
theorem line_size (v : GV) : (mk (linesG [opV v])).size = (wrB v).length + 18 := by
 show (linesG [opV v]).length = _
 rw [line_one]
 simp [wHead]
theorem vals_any {w : World} {a : Option Addr} {cap : Nat} {l : List GV} {xs : List Value} (hs : SliceAt w anyB (.slice a l.length cap) l.length (l.length * 5) xs) (hl : RdVs w anyB xs l) (hg : ∀ v ∈ l, Rng v) (hb : bulkL l ≤ 1048576) (hlib : LibOk w) :
    YesC 6 #[.agg #[.slice a l.length cap]] w := by
  have hln := bulk_len l
  have hbm : ∀ v ∈ l, bulkG v ≤ 1048576 := fun v hv => Nat.le_trans (bulk_mem hv) hb
  have hfa := (FP.refl nob w).alloc (.cells #[.slice a l.length cap] 49)
  have hsz := size_top (w := w.alloc (.cells #[.slice a l.length cap] 49)) (hs.frame (fun g _ hl => hfa.blk g hl (fun x => x.elim))) (hl.frame (fun g _ hl => hfa.blk g hl (fun x => x.elim))) (by omega)
  obtain ⟨n, hnn⟩ : ∃ n, l.length = n := ⟨_, rfl⟩
  rw [hnn] at hs hsz hln hfa ⊢
  obtain ⟨z, hz⟩ : ∃ z, sizeN 101 l = z := ⟨_, rfl⟩
  rw [hz] at hsz
  have HZ := Lib.hid hsz
  have HS := Lib.hid hs
  have HL := Lib.hid hl
  have HG := Lib.hid hg
  have HBM := Lib.hid hbm
  have HN := Lib.hid hnn
  have HLB := Lib.hid hlib
  have hn : n ≤ 524288 := by omega
  clear hs hl hg hb hbm hnn hlib hsz hln hfa hz
  unfold YesC
  go_enter Tryz.func6, Tryz.ntmps6
  go_wp2_with fail
  refine HZ.out.mono ?_
  rintro e w1 ⟨rfl, hf1⟩
  have HF1 : Hid (FP nob w w1) := Lib.hid (FP.trans (S := nob) ((FP.refl nob w).alloc _) hf1 (fun _ x => x.elim))
  have HB1 : Hid (w1.heap[w.heap.size]? = some (.cells #[.slice a n cap] 49 (0,0))) := Lib.hid ((hf1.blk _ (lt_blk (heap_new_at rfl _)) (fun x => x.elim)).trans (heap_new_at rfl _))
  clear hf1
  by_cases hbig : (1500 : Int) < (z : Int)
  · have HK := Lib.hid (wakes_all (w := w1) (HLB.out.fp HF1.out (fun _ x => x.elim)))
    go_wp2_with fail
    unfold YesC at HK
    refine HK.out.mono ?_
    rintro e w9 ⟨rfl, f9⟩
    have HF9 : Hid (FP nob w w9) := Lib.hid (FP.trans (S := nob) HF1.out f9 (fun _ x => False.elim x))
    go_wp2_with fail
    exact bodyPost_ret (v := .bool true) (by simp [results, Tryz.results6]) rfl (And.intro rfl HF9.out)
  go_wp2_with fail
  go_loopg [3] 12 (fun m i wr => ∃ k : Nat, i = .int .i64 (k : Nat) ∧ k ≤ 10 ∧ 11 - k < m ∧ n ≤ 524288 ∧ Hid (FP nob w wr) ∧ Hid (wr.heap[w.heap.size]? = some (.cells #[.slice a n cap] 49 (0,0))))
  case atStart => exact ⟨0, rfl, by omega, by omega, hn, HF1, HB1⟩
  case round =>
    obtain ⟨k, rfl, hk10, hm, hn, HF, HBX⟩ := hrel
    obtain ⟨wo, hwo⟩ : ∃ wo, wo = wr := ⟨_, rfl⟩
    subst hwo
    have z0 : wo.cell? ⟨w.heap.size, 0, none⟩ = some (.slice a n cap) := cell_blk HBX.out
    by_cases hlt : k < n
    · by_cases h6 : k < 10
      · have hi0 : (0 : Int) ≤ (k : Int) := by omega
        have hi1 : (k : Int) < (n : Int) := by omega
        have hi6 : (k : Int) < 10 := by omega
        have hw1 : IntKind.i64.wrap ((k : Int) + 1) = (k : Int) + 1 := IntWalk.i64_in _ (by omega)
        have hfr : ∀ b, b < w.heap.size → wo.heap[b]? = w.heap[b]? := fun b hl => HF.out.blk b hl (fun x => x.elim)
        have hso := HS.out.frame (w' := wo) (fun g _ hl => hfr g hl)
        obtain ⟨g0, o0, cp0, he0, hle0, _, _, hc0⟩ := hso.cell (by omega)
        cases he0
        have hv : l[k]? = some (l[k]'(by rw [HN.out]; exact hlt)) := List.getElem?_eq_getElem _
        have hmem : l[k]'(by rw [HN.out]; exact hlt) ∈ l := List.getElem_mem _
        generalize l[k]'(by rw [HN.out]; exact hlt) = v at hv hmem
        obtain ⟨c, hrc, hxc, hsc, hlc⟩ := sub_row hso (HL.out.frame (w' := wo) (fun g _ hl => hfr g hl)) hv hlt
        have hsb := size_top hsc hlc (l := [v]) (by have := HBM.out v hmem; simp only [bulkL, List.map_cons, List.map_nil, List.sum_cons, List.sum_nil]; omega)
        have HSB := Lib.hid hsb
        have hic : (k : Int) + 1 ≤ (cap : Int) := by omega
        have hkk : (k : Int) ≤ (k : Int) + 1 := by omega
        have hk1 : (0 : Int) ≤ (k : Int) + 1 := by omega
        go_wp2_with fail
        obtain ⟨z1, hz1⟩ : ∃ z1, sizeN 101 [v] = z1 := ⟨_, rfl⟩
        rw [hz1] at HSB
        refine HSB.out.mono ?_
        rintro e w2 ⟨rfl, hf2⟩
        have HF2 : Hid (FP nob w w2) := Lib.hid (FP.trans (S := nob) HF.out hf2 (fun _ x => x.elim))
        have HB2 := Lib.hid ((hf2.blk _ (lt_blk HBX.out) (fun x => x.elim)).trans HBX.out)
        have hr2 := hrc.frame (w' := w2) (fun g _ hl => hf2.blk g hl (fun x => x.elim))
        have HC2 : Hid (∀ j, j < 5 → ∀ u, c[j]? = some u → w2.cell? ⟨g0, o0 + (k * 5 + j), none⟩ = some u) := Lib.hid (fun j hj u hu => hf2.cell (hc0 _ _ ((hxc j hj).trans hu)))
        have HZ1 := Lib.hid hz1
        have HV := Lib.hid (And.intro hv hmem)
        have HSC := Lib.hid (hsc.frame (w' := w2) (fun g _ hl => hf2.blk g hl (fun x => x.elim)))
        have HLC := Lib.hid (hlc.frame (w' := w2) (fun g _ hl => hf2.blk g hl (fun x => x.elim)))
        clear hf2 hsb hc0 hxc hrc hv hmem hso hsc hlc hfr hz1 z0
        by_cases hbig : (1200 : Int) < (z1 : Int)
        · go_wp2_with fail
          go_roundg (11 - (k + 1) + 1)
          case measure => omega
          case rel => exact ⟨k + 1, rfl, by omega, by omega, hn, HF2, HB2⟩
        obtain ⟨kk, bb, ii, tt, sl, nl, cl, rfl⟩ := rdv_shp hr2
        have HR2 := Lib.hid hr2
        have z0 : w2.cell? ⟨w.heap.size, 0, none⟩ = some (.slice (some ⟨g0, o0, none⟩) n cap) := cell_blk HB2.out
        have x0 : w2.cell? ⟨g0, o0 + k * 5, none⟩ = some (.int .i64 kk) := by have := HC2.out 0 (by omega) _ rfl; rwa [Nat.add_zero] at this
        have x1 : w2.cell? ⟨g0, o0 + k * 5 + 1, none⟩ = some (.bool bb) := by rw [Nat.add_assoc]; exact HC2.out 1 (by omega) _ rfl
        have x2 : w2.cell? ⟨g0, o0 + k * 5 + 2, none⟩ = some (.int .i64 ii) := by rw [Nat.add_assoc]; exact HC2.out 2 (by omega) _ rfl
        have x3 : w2.cell? ⟨g0, o0 + k * 5 + 3, none⟩ = some (.string tt) := by rw [Nat.add_assoc]; exact HC2.out 3 (by omega) _ rfl
        have x4 : w2.cell? ⟨g0, o0 + k * 5 + 4, none⟩ = some (.slice sl nl cl) := by rw [Nat.add_assoc]; exact HC2.out 4 (by omega) _ rfl
        have hle12 : sizeN 101 [v] ≤ 1200 := by have := HZ1.out; omega
        have HSM := Lib.hid hle12
        have hq1 : ((w2.alloc (.cells #[.string ⟨#[120]⟩, .int .i64 kk, .bool bb, .int .i64 ii, .string tt, .slice sl nl cl] 54)).alloc (.cells #[.int .i64 1, .string ⟨#[80]⟩, .slice (some ⟨w2.heap.size, 0, none⟩) 1 1, .int .i64 0, .string ⟨#[]⟩, .bool false, .int .i64 0, .slice none 0 0] 58)).heap[w2.heap.size]? = some (.cells #[.string ⟨#[120]⟩, .int .i64 kk, .bool bb, .int .i64 ii, .string tt, .slice sl nl cl] 54 (0,0)) := (heap_alloc_ne (by simp)).trans (heap_new_at rfl _)
        have hq2 : ((w2.alloc (.cells #[.string ⟨#[120]⟩, .int .i64 kk, .bool bb, .int .i64 ii, .string tt, .slice sl nl cl] 54)).alloc (.cells #[.int .i64 1, .string ⟨#[80]⟩, .slice (some ⟨w2.heap.size, 0, none⟩) 1 1, .int .i64 0, .string ⟨#[]⟩, .bool false, .int .i64 0, .slice none 0 0] 58)).heap[w2.heap.size + 1]? = some (.cells #[.int .i64 1, .string ⟨#[80]⟩, .slice (some ⟨w2.heap.size, 0, none⟩) 1 1, .int .i64 0, .string ⟨#[]⟩, .bool false, .int .i64 0, .slice none 0 0] 58 (0,0)) := heap_new_at (by simp) _
        have hfq : FP nob w2 ((w2.alloc (.cells #[.string ⟨#[120]⟩, .int .i64 kk, .bool bb, .int .i64 ii, .string tt, .slice sl nl cl] 54)).alloc (.cells #[.int .i64 1, .string ⟨#[80]⟩, .slice (some ⟨w2.heap.size, 0, none⟩) 1 1, .int .i64 0, .string ⟨#[]⟩, .bool false, .int .i64 0, .slice none 0 0] 58)) := ((FP.refl nob w2).alloc _).alloc _
        obtain ⟨ys, hys, hrow⟩ := opv_row (hr2.frame (fun g _ hl => hfq.blk g hl (fun x => x.elim))) hq1 hq2
        have HFQ := Lib.hid hfq
        have HP := Lib.hid (print_gen hys hrow (fun o ho => by rw [List.mem_singleton] at ho; subst ho; exact prin_opV (HG.out v HV.out.2) HSM.out) (HLB.out.fp (FP.trans (S := nob) HF2.out HFQ.out (fun _ x => x.elim)) (fun _ x => x.elim)))
        clear hr2 hle12 hq1 hq2 hfq hys hrow
        go_wp2_with fail
        refine HP.out.mono ?_
        rintro e w3 ⟨hf3, hout⟩
        have hf23 : FP nob w2 w3 := FP.trans (S := nob) HFQ.out hf3 (fun _ x => x.elim)
        have HF3 : Hid (FP nob w w3) := Lib.hid (FP.trans (S := nob) HF2.out hf23 (fun _ x => x.elim))
        have HB3 := Lib.hid ((hf23.blk _ (lt_blk HB2.out) (fun x => x.elim)).trans HB2.out)
        have HR3 := Lib.hid (HR2.out.frame (w' := w3) (fun g _ hl => hf23.blk g hl (fun x => x.elim)))
        have HSC3 := Lib.hid (HSC.out.frame (w' := w3) (fun g _ hl => hf23.blk g hl (fun x => x.elim)))
        have HLC3 := Lib.hid (HLC.out.frame (w' := w3) (fun g _ hl => hf23.blk g hl (fun x => x.elim)))
        have y0 := hf23.cell x0
        have y1 := hf23.cell x1
        have y2 := hf23.cell x2
        have y3 := hf23.cell x3
        have y4 := hf23.cell x4
        have yz := hf23.cell z0
        clear hf3 hf23 x0 x1 x2 x3 x4 z0
        rcases hout with ⟨_, hT, hle6, rfl⟩ | ⟨_, _, _, rfl⟩ | ⟨hno, rfl⟩
        · have hT : Takes (opV v) := hT _ List.mem_cons_self
          have hL1 := wr_some HSM.out hT
          have hsz := line_size v
          have hx15 := cut_head v
          have hxb := cut_body v
          obtain ⟨L, hL⟩ : ∃ L, (wrB v).length = L := ⟨_, rfl⟩
          have hlen : (linesG [opV v]).length = L + 18 := by rw [← hL]; exact hsz
          obtain ⟨sv, hsv⟩ : ∃ sv, mk (linesG [opV v]) = sv := ⟨_, rfl⟩
          rw [hsv] at hsz hx15 hxb
          rw [hL] at hL1 hsz hxb
          have hxb : (sv.extract 15 (L + 15)).data.toList = wrB v := by rw [Nat.add_comm]; exact hxb
          have hml : (wrB v).length ≤ 65536 := by rw [hL]; have h := hlen; omega
          obtain ⟨t1, t2, t3⟩ := takes_lex HSM.out hT
          have hmay := takes_may hT hml
          have hvl := value_good (w := w3) (s := sv.extract 15 (L + 15)) (by show (sv.extract 15 (L + 15)).data.toList.length ≤ _; rw [hxb]; exact hml) (HLB.out.fp HF3.out (fun _ x => x.elim)) (by rw [hxb]; exact t1) t2 t3
          have HVL := Lib.hid hvl
          have HMAY := Lib.hid hmay
          have HXB := Lib.hid hxb
          clear t1 t2 t3 hxb hml hT hmay hvl
          go_wp2_with fail
          clear hlen hL hsv
          refine HVL.out.mono ?_
          rintro e w4 ⟨hf4, c', rfl, hrd⟩
          obtain ⟨k', b', i', t', sl', nl', cl', rfl⟩ := rdv_shp hrd
          have HRD := Lib.hid hrd
          have HF4 := Lib.hid hf4
          clear hf4 hrd
          go_upto_region 15 with fail
          have hqb : (w4.alloc (.cells #[.int .i64 k', .bool b', .int .i64 i', .string t', .slice sl' nl' cl'] 52)).heap[w4.heap.size]? = some (.cells #[.int .i64 k', .bool b', .int .i64 i', .string t', .slice sl' nl' cl'] 52 (0,0)) := heap_new_at rfl _
          have hfa : FP nob w3 (w4.alloc (.cells #[.int .i64 k', .bool b', .int .i64 i', .string t', .slice sl' nl' cl'] 52)) := HF4.out.alloc _
          have hfb : FP nob w4 (w4.alloc (.cells #[.int .i64 k', .bool b', .int .i64 i', .string t', .slice sl' nl' cl'] 52)) := (FP.refl nob w4).alloc _
          generalize w4.alloc (.cells #[.int .i64 k', .bool b', .int .i64 i', .string t', .slice sl' nl' cl'] 52) = wa at hqb hfa hfb ⊢
          have hsame : ∀ W, FP nob wa W → Calls Tryz.prog 21 #[.agg #[.int .i64 k', .bool b', .int .i64 i', .string t', .slice sl' nl' cl'], .agg #[.int .i64 kk, .bool bb, .int .i64 ii, .string tt, .slice sl nl cl]] W (fun e w' => e = .returned (.bool true) ∧ FP nob wa w' ∧ w'.cell? ⟨w.heap.size, 0, none⟩ = some (.slice (some ⟨g0, o0, none⟩) n cap) ∧ w'.cell? ⟨w4.heap.size, 0, none⟩ = some (.int .i64 k') ∧ w'.cell? ⟨w4.heap.size, 1, none⟩ = some (.bool b') ∧ w'.cell? ⟨w4.heap.size, 2, none⟩ = some (.int .i64 i') ∧ w'.cell? ⟨w4.heap.size, 3, none⟩ = some (.string t') ∧ w'.cell? ⟨w4.heap.size, 4, none⟩ = some (.slice sl' nl' cl') ∧ w'.cell? ⟨g0, o0 + k * 5, none⟩ = some (.int .i64 kk) ∧ w'.cell? ⟨g0, o0 + k * 5 + 1, none⟩ = some (.bool bb) ∧ w'.cell? ⟨g0, o0 + k * 5 + 2, none⟩ = some (.int .i64 ii) ∧ w'.cell? ⟨g0, o0 + k * 5 + 3, none⟩ = some (.string tt) ∧ w'.cell? ⟨g0, o0 + k * 5 + 4, none⟩ = some (.slice sl nl cl)) := fun W hW => by
            have h := same_any v (size_wok (HG.out v HV.out.2) 101 HSM.out).2 W _ _ _ _ (HRD.out.frame (w' := W) (fun g _ hl => (FP.trans (S := nob) hfb hW (fun _ x => x.elim)).blk g hl (fun x => x.elim))) (HR3.out.frame (w' := W) (fun g _ hl => (FP.trans (S := nob) hfa hW (fun _ x => x.elim)).blk g hl (fun x => x.elim)))
            refine h.mono ?_
            rintro e w' ⟨he, hf⟩
            have hg : FP nob wa w' := FP.trans (S := nob) hW hf (fun _ x => x.elim)
            have hh : FP nob w3 w' := FP.trans (S := nob) hfa hg (fun _ x => x.elim)
            exact ⟨he, hg, hh.cell yz, hg.cell (cell_blk hqb), hg.cell (cell_blk hqb), hg.cell (cell_blk hqb), hg.cell (cell_blk hqb), hg.cell (cell_blk hqb), hh.cell y0, hh.cell y1, hh.cell y2, hh.cell y3, hh.cell y4⟩
          have hchk : ∀ W, FP nob wa W → Calls Tryz.prog 18 #[.agg #[.int .i64 kk, .bool bb, .int .i64 ii, .string tt, .slice sl nl cl]] W (fun e w' => e = .returned (.bool true) ∧ FP nob wa w' ∧ w'.cell? ⟨w.heap.size, 0, none⟩ = some (.slice (some ⟨g0, o0, none⟩) n cap) ∧ w'.cell? ⟨w4.heap.size, 0, none⟩ = some (.int .i64 k') ∧ w'.cell? ⟨w4.heap.size, 1, none⟩ = some (.bool b') ∧ w'.cell? ⟨w4.heap.size, 2, none⟩ = some (.int .i64 i') ∧ w'.cell? ⟨w4.heap.size, 3, none⟩ = some (.string t') ∧ w'.cell? ⟨w4.heap.size, 4, none⟩ = some (.slice sl' nl' cl') ∧ w'.cell? ⟨g0, o0 + k * 5, none⟩ = some (.int .i64 kk) ∧ w'.cell? ⟨g0, o0 + k * 5 + 1, none⟩ = some (.bool bb) ∧ w'.cell? ⟨g0, o0 + k * 5 + 2, none⟩ = some (.int .i64 ii) ∧ w'.cell? ⟨g0, o0 + k * 5 + 3, none⟩ = some (.string tt) ∧ w'.cell? ⟨g0, o0 + k * 5 + 4, none⟩ = some (.slice sl nl cl)) := fun W hW => by
            have h := check_any (HR3.out.frame (w' := W) (fun g _ hl => (FP.trans (S := nob) hfa hW (fun _ x => x.elim)).blk g hl (fun x => x.elim)))
            have hmay : mayN 30 v = true := HMAY.out
            rw [hmay] at h
            refine Calls.mono h ?_
            rintro e w' ⟨he, hf⟩
            have hg : FP nob wa w' := FP.trans (S := nob) hW hf (fun _ x => x.elim)
            have hh : FP nob w3 w' := FP.trans (S := nob) hfa hg (fun _ x => x.elim)
            exact ⟨he, hg, hh.cell yz, hg.cell (cell_blk hqb), hg.cell (cell_blk hqb), hg.cell (cell_blk hqb), hg.cell (cell_blk hqb), hg.cell (cell_blk hqb), hh.cell y0, hh.cell y1, hh.cell y2, hh.cell y3, hh.cell y4⟩
          have HSA := Lib.hid hsame
          have HCH := Lib.hid hchk
          have hfd : FP nob wa wa.drew := FP.ofSame (same_drewN wa 1)
          have HFD := Lib.hid hfd
          have HFA := Lib.hid hfa
          have q0 : wa.cell? ⟨w4.heap.size, 0, none⟩ = some (.int .i64 k') := cell_blk hqb
          have q1 : wa.cell? ⟨w4.heap.size, 1, none⟩ = some (.bool b') := cell_blk hqb
          have q2 : wa.cell? ⟨w4.heap.size, 2, none⟩ = some (.int .i64 i') := cell_blk hqb
          have q3 : wa.cell? ⟨w4.heap.size, 3, none⟩ = some (.string t') := cell_blk hqb
          have q4 : wa.cell? ⟨w4.heap.size, 4, none⟩ = some (.slice sl' nl' cl') := cell_blk hqb
          have yz := hfa.cell yz
          have y0 := hfa.cell y0
          have y1 := hfa.cell y1
          have y2 := hfa.cell y2
          have y3 := hfa.cell y3
          have y4 := hfa.cell y4
          clear hsame hchk hfd hfa hfb hqb
          go_region_held3 (fun w' => w'.cell? ⟨w.heap.size, 0, none⟩ = some (.slice (some ⟨g0, o0, none⟩) n cap) ∧ w'.cell? ⟨w4.heap.size, 0, none⟩ = some (.int .i64 k') ∧ w'.cell? ⟨w4.heap.size, 1, none⟩ = some (.bool b') ∧ w'.cell? ⟨w4.heap.size, 2, none⟩ = some (.int .i64 i') ∧ w'.cell? ⟨w4.heap.size, 3, none⟩ = some (.string t') ∧ w'.cell? ⟨w4.heap.size, 4, none⟩ = some (.slice sl' nl' cl') ∧ w'.cell? ⟨g0, o0 + k * 5, none⟩ = some (.int .i64 kk) ∧ w'.cell? ⟨g0, o0 + k * 5 + 1, none⟩ = some (.bool bb) ∧ w'.cell? ⟨g0, o0 + k * 5 + 2, none⟩ = some (.int .i64 ii) ∧ w'.cell? ⟨g0, o0 + k * 5 + 3, none⟩ = some (.string tt) ∧ w'.cell? ⟨g0, o0 + k * 5 + 4, none⟩ = some (.slice sl nl cl)) (go_keep) ((first | (go_at_call 21; refine (HSA.out _ (by first | exact HFD.out | exact hf5)).mono ?_; rintro e w5 ⟨rfl, hf5, p0, p1, p2, p3, p4, p5, p6, p7, p8, p9, p10⟩) | (go_at_call 18; refine (HCH.out _ (by first | exact hf5 | exact HFD.out)).mono ?_; rintro e w6 ⟨rfl, hf6, r0, r1, r2, r3, r4, r5, r6, r7, r8, r9, r10⟩)))
          have hf36 : FP nob w3 w6 := FP.trans (S := nob) HFA.out hf6 (fun _ x => x.elim)
          have HF6 : Hid (FP nob w w6) := Lib.hid (FP.trans (S := nob) HF3.out hf36 (fun _ x => x.elim))
          have HB6 := Lib.hid ((hf36.blk _ (lt_blk HB3.out) (fun x => x.elim)).trans HB3.out)
          clear hf36 hf6
          go_wp2_with fail
          go_roundg (11 - (k + 1) + 1)
          case measure => omega
          case rel => exact ⟨k + 1, rfl, by omega, by omega, hn, HF6, HB6⟩
        · go_wp2_with fail
          go_roundg (11 - (k + 1) + 1)
          case measure => omega
          case rel => exact ⟨k + 1, rfl, by omega, by omega, hn, HF3, HB3⟩
        · have hnT : ¬ Takes (opV v) := by
            rcases hno with hno | ⟨o, ho, h⟩
            · exact absurd hno (by show ¬ 65536 < 1; decide)
            · rw [List.mem_singleton] at ho; subst ho; exact h
          have HNT := Lib.hid hnT
          have hck := check_any HR3.out
          obtain ⟨m, hmm⟩ : ∃ m, mayN 30 v = m := ⟨_, rfl⟩
          rw [hmm] at hck
          have HCK := Lib.hid hck
          have HMM := Lib.hid hmm
          unfold AnsC at HCK
          clear hno hnT hck hmm
          cases m with
          | false =>
            go_wp2_with fail
            refine HCK.out.mono ?_
            rintro e w4 ⟨rfl, hf4⟩
            have HF4 : Hid (FP nob w w4) := Lib.hid (FP.trans (S := nob) HF3.out hf4 (fun _ x => x.elim))
            have HB4 := Lib.hid ((hf4.blk _ (lt_blk HB3.out) (fun x => x.elim)).trans HB3.out)
            clear hf4
            go_wp2_with fail
            go_roundg (11 - (k + 1) + 1)
            case measure => omega
            case rel => exact ⟨k + 1, rfl, by omega, by omega, hn, HF4, HB4⟩
          | true =>
            go_wp2_with fail
            refine HCK.out.mono ?_
            rintro e w4 ⟨rfl, hf4⟩
            have HF4 : Hid (FP nob w w4) := Lib.hid (FP.trans (S := nob) HF3.out hf4 (fun _ x => x.elim))
            have HB4 := Lib.hid ((hf4.blk _ (lt_blk HB3.out) (fun x => x.elim)).trans HB3.out)
            have yz4 := hf4.cell yz
            have hcl := clean_any 1048576 [v] (by have := HBM.out v HV.out.2; simp only [bulkL, List.map_cons, List.map_nil, List.sum_cons, List.sum_nil]; omega) (by decide) w4 anyB _ _ (HSC3.out.frame (w' := w4) (fun g _ hl => hf4.blk g hl (fun x => x.elim))) (HLC3.out.frame (w' := w4) (fun g _ hl => hf4.blk g hl (fun x => x.elim)))
            have hcf : cleanL [v] = false := by
              cases hc : cleanL [v] with
              | false => rfl
              | true => exact absurd (takes_opV (HG.out v HV.out.2) HSM.out HMM.out (cleanL_mem hc List.mem_cons_self)) HNT.out
            rw [hcf] at hcl
            have HCL := Lib.hid hcl
            unfold AnsC at HCL
            clear hf4 hcl hcf
            go_wp2_with fail
            refine HCL.out.mono ?_
            rintro e w5 ⟨rfl, hf5⟩
            have HF5 : Hid (FP nob w w5) := Lib.hid (FP.trans (S := nob) HF4.out hf5 (fun _ x => x.elim))
            have HB5 := Lib.hid ((hf5.blk _ (lt_blk HB4.out) (fun x => x.elim)).trans HB4.out)
            clear hf5
            go_wp2_with fail
            go_roundg (11 - (k + 1) + 1)
            case measure => omega
            case rel => exact ⟨k + 1, rfl, by omega, by omega, hn, HF5, HB5⟩
      · have h6' : ¬ (k : Int) < 10 := by omega
        have hi1 : (k : Int) < (n : Int) := by omega
        have HK := Lib.hid (wakes_all (w := wo) (HLB.out.fp HF.out (fun _ x => x.elim)))
        unfold YesC at HK
        go_wp2_with fail
        refine HK.out.mono ?_
        rintro e w9 ⟨rfl, f9⟩
        have HF9 : Hid (FP nob w w9) := Lib.hid (FP.trans (S := nob) HF.out f9 (fun _ x => False.elim x))
        go_wp2_with fail
        exact bodyPost_ret (v := .bool true) (by simp [results, Tryz.results6]) rfl (And.intro rfl HF9.out)
    · have hi1 : ¬ (k : Int) < (n : Int) := by omega
      have HK := Lib.hid (wakes_all (w := wo) (HLB.out.fp HF.out (fun _ x => x.elim)))
      unfold YesC at HK
      go_wp2_with fail
      refine HK.out.mono ?_
      rintro e w9 ⟨rfl, f9⟩
      have HF9 : Hid (FP nob w w9) := Lib.hid (FP.trans (S := nob) HF.out f9 (fun _ x => False.elim x))
      go_wp2_with fail
      exact bodyPost_ret (v := .bool true) (by simp [results, Tryz.results6]) rfl (And.intro rfl HF9.out)
end Go.Proofs.YtnpkdiffpgcbhaaGreatDoor
namespace Go.Proofs.YtnpkdiffpgcbhaaGreatDoor.scriptValuesUpto
open Go.ChangeShapes Go.WideShapes Go.ChangeAt Go.RowKit
section
variable {H : Type} {enc : TypeId × Value → H}
theorem handed_laid {a : Assume} {C : Checked} {os : Os} {f : FuncId} {fn : Func} {s : OpenSpec} {k : (H : Type) → List (DataW H) → Bool} (hk : s.cond = some k) {F : Stop.Interp} {conds : List PathCond} {apart fresh handsOn again : Bool} {X : World → Array Value → Prop}
  (hX : ∀ (w w' : World) (args : Array Value), w.heap = w'.heap → X w args → X w' args)
  (own : ownKnob C.prog.godebug = none) (started : os.Started) (noInit : C.prog.inits.idxOf? f = none) (hfn : C.prog.funcs[f]? = some fn)
  (witness : ∃ (w : World) (tape : Tape) (i : Input), w.os = os ∧ (w.forCall tape i).Shaped C.prog ∧ i.vars = [] ∧ Input.okWide C.prog (w.forCall tape i) .any w.heap.size f i ∧
   ((s.pre enc C.prog fn conds apart (w.forCall tape i).memory i.args ∧ X (w.forCall tape i).memory i.args) ∧ sizedMet enc C.prog fn s apart (w.forCall tape i).memory i.args) ∧ a.holds C.prog (lone (Frame.enter C.prog f i.args .normal) [] (w.forCall tape i)))
  (contract : ∀ (W : World) (args : Array Value) (ds gs : List (DataW H)) (before : List MemPlace),
   (∀ (j : Nat) (t : TypeId) (v : Value), fn.params[j]? = some t → args[j]? = some v → ∃ base, Value.okWide C.prog W .any base t v) → DataW.Whole enc C.prog fn.params.toList s.vars apart W args.toList ds gs before → k H (ds ++ gs) = true → X W args → W.ShapedOpen C.prog →
   Calls C.prog f args W fun e W' => ∃ v, e = .returned v ∧ (s.at F).post enc C.prog fn apart fresh handsOn again W args v W') :
  ReturnsInHanded a C os f .any (fun w args => (s.pre enc C.prog fn conds apart w args ∧ X w args) ∧ sizedMet enc C.prog fn s apart w args) ((s.at F).post enc C.prog fn apart fresh handsOn again) := by
 refine returnsInHanded_of_calls own started noInit witness ?_
 intro w tape i _ hsh _ hok hpre _
 obtain ⟨_, _, _, fn', hfn', _, _, _, _, hval⟩ := hok
 have e : fn' = fn := Option.some.inj (hfn'.symm.trans hfn)
 subst e
 obtain ⟨⟨hp, hx⟩, _⟩ := hpre
 obtain ⟨ds, gs, before, hw, _, hkk⟩ := (OpenSpec.pre_some hk conds apart _ _).1 hp
 have hw' := DataW.Whole.of_heap (w' := w.forCall tape i) (by rfl) hw
 refine (contract (w.forCall tape i) i.args ds gs before (fun j t v h1 h2 => ⟨_, hval j t v h1 h2⟩) hw' hkk (hX _ _ _ (by rfl) hx) hsh).mono fun e W' ⟨v, he, hp⟩ => ?_
 subst he
 exact ChangeSpec.post_blind hp
theorem witness_cond {C : Checked} {os : Os} {f : FuncId} {fn : Func} {s : OpenSpec} {k : (H : Type) → List (DataW H) → Bool} (hk : s.cond = some k) {conds : List PathCond} {apart : Bool} {X : World → Array Value → Prop} (w0 : World) (args : Array Value) (fuel : Nat) (hos : w0.os = os)
  (hsh : (w0.forCall (fun _ _ => 0) ⟨#[], args, []⟩).Shaped C.prog)
  (hok : Input.okWideB C.prog (w0.forCall (fun _ _ => 0) ⟨#[], args, []⟩) f ⟨#[], args, []⟩ = true)
  (hpre : (match DataW.whole enc C.prog (w0.forCall (fun _ _ => 0) ⟨#[], args, []⟩).memory fn.params.toList s.vars apart args.toList fuel with
   | some x => conds.all (PathCond.test C.prog ⟨fn.params.toList, x.1, s.bare.plain.varTypes C.prog, x.2.1⟩) && k H (x.1 ++ x.2.1)
   | none => false) = true)
  (hsz : s.bare.sizedB enc C.prog fn apart (w0.forCall (fun _ _ => 0) ⟨#[], args, []⟩).memory args fuel = true)
  (hx : X (w0.forCall (fun _ _ => 0) ⟨#[], args, []⟩).memory args) :
  ∃ (w : World) (tape : Tape) (i : Input), w.os = os ∧ (w.forCall tape i).Shaped C.prog ∧ i.vars = [] ∧ Input.okWide C.prog (w.forCall tape i) .any w.heap.size f i ∧
   ((s.pre enc C.prog fn conds apart (w.forCall tape i).memory i.args ∧ X (w.forCall tape i).memory i.args) ∧ sizedMet enc C.prog fn s apart (w.forCall tape i).memory i.args) ∧ ({} : Assume).holds C.prog (lone (Frame.enter C.prog f i.args .normal) [] (w.forCall tape i)) := by
 split at hpre
 ·rename_i x hw
  rw [Bool.and_eq_true] at hpre
  exact ⟨w0, fun _ _ => 0, ⟨#[], args, []⟩, hos, hsh, (Input.okWide_of_okWideB (base := 0) hok).1, (Input.okWide_of_okWideB hok).2,
   ⟨⟨(OpenSpec.pre_some hk conds apart _ _).2 ⟨x.1, x.2.1, x.2.2, DataW.Whole_of_whole hw, hpre.1, hpre.2⟩, hx⟩, sizedMet_of_sizedB hsz⟩, by
   simp only [Assume.holds]
   exact ⟨by simp, by simp, by simp, by simp, by simp⟩⟩
 ·cases hpre
theorem post_of_below {P : Program} {f : Func} {s : ChangeSpec} {apart fresh handsOn again : Bool} {W W' : World} {args : Array Value} {v : Value} {ds gs : List (DataW H)} {before pa pv : List MemPlace}
  (hW : DataW.Whole enc P f.params.toList s.vars apart W args.toList ds gs before)
  (hres : ∀ (b : Nat) (sp : Nat → Bool) (hd : Bool), DataW.TrodAll enc P W' b sp hd f.resultTypes.toList (v.resultList f.resultTypes.size) (s.fn H (ds ++ gs)).results [])
  (hargs : ∀ sp : Nat → Bool, (∀ p ∈ before, sp p.block = true) → DataW.TrodAll enc P W' 0 sp true f.params.toList args.toList (s.fn H (ds ++ gs)).args pa)
  (hvars : ∀ sp : Nat → Bool, (∀ p ∈ before, sp p.block = true) → DataW.TrodVars enc P W' sp s.vars (s.fn H (ds ++ gs)).vars pv)
  (hps : before = pa ++ pv) (hb : Below W.heap.size W W')
  (hok : ∀ (j : Nat) (t : TypeId) (r : Value), f.resultTypes[j]? = some t → (v.resultList f.resultTypes.size)[j]? = some r → Value.okWide P W' .any 0 t r) :
  s.post enc P f apart fresh handsOn again W args v W' := by
 have hlt : ∀ p ∈ before, p.block < W.heap.size := fun p hp => hW.lt p hp
 have hold : ∀ p ∈ before, (fun b => decide (b < W.heap.size)) p.block = true := fun p hp => by simpa using hlt p hp
 refine ⟨ds, gs, before, [], pa, pv, hW, hres _ _ _, hargs _ hold, hvars _ hold, World.keptBut_mono (fun p hp => ⟨hp, ?_⟩) (hb.frame (· ∈ before)), fun _ => ?_⟩
 ·rw [hps, List.mem_append] at hp
  exact Or.inr hp
 ·obtain ⟨_, _, _, _, _, hz, hn⟩ := hW
  refine ⟨hok, _, _, ([] ++ pa) ++ pv, ⟨[] ++ pa, pv, trodAll_append (hargs _ (fun _ _ => rfl)) (hres _ _ _), hvars _ (fun _ _ => rfl), rfl, ?_, ?_⟩, ?_⟩
  ·intro b off hp
   have hin : MemPlace.cell b off ∈ before := by rw [hps]; simpa using hp
   rw [hb.frozen (hlt _ hin)]
   exact hz b off hin
  ·intro ha
   have := hn ha
   rw [hps] at this
   simpa using this
  ·intro p hp _
   rw [hps]
   simpa using hp
end
theorem own : ownKnob Tryz.prog.godebug = none := by kernel_rfl
theorem laidOut : laidOutB Tryz.prog = true := by kernel_rfl
theorem walk {H : Type} {enc : TypeId × Value → H} {W : World} {base : Nat} {v0 : Value} {d0 : DataW H} {p0 : List MemPlace}
  (hv : Value.okWide Tryz.prog W .any base 49 v0) (h0 : DataW.Trod enc Tryz.prog W 0 (fun _ => true) true 49 v0 d0 p0) (hb : Rows.uptoBulkAll [d0] ≤ 1048576) (hS : World.ShapedOpen Tryz.prog W)
  (hsz : 8 ≤ W.heap.size) {ps : List MemPlace} (hL : DataW.LaidVars Tryz.prog W Rows.scriptValuesUptoRow.laid ps) :
  Calls Tryz.prog 6 #[v0] W fun e W' => e = .returned (.bool true) ∧ Below W.heap.size W W' := by
 obtain ⟨a, cp, l, xs, rfl, h1, h2, h3, h4⟩ := open_values hv h0 hb
 exact (vals_any h1 h2 h3 h4 (lib_laid hS hsz hL)).mono fun e W' h => ⟨h.1, h.2.below (fun _ x => x.elim) (Nat.le_refl _)⟩
theorem lifted (os : Os) (started : os.Started) (H : Type) (enc : TypeId × Value → H) (F : Stop.Interp) :
  ReturnsInHanded {} Tryz.checked os 6 .any (fun w args => ((Rows.OpenSpec.upto Rows.scriptValuesSpec).pre enc Tryz.prog Tryz.f6 [] false w args ∧ laidMetH Tryz.prog Rows.scriptValuesUptoRow.laid w) ∧ sizedMet enc Tryz.prog Tryz.f6 (Rows.OpenSpec.upto Rows.scriptValuesSpec) false w args)
   (((Rows.OpenSpec.upto Rows.scriptValuesSpec).at F).post enc Tryz.prog Tryz.f6 false true false false) := by
 refine handed_laid (C := Tryz.checked) (s := (Rows.OpenSpec.upto Rows.scriptValuesSpec)) (k := Rows.uptoSmall) rfl (X := fun w _ => laidMetH Tryz.prog Rows.scriptValuesUptoRow.laid w) (fun _ _ _ hh h => h.of_heap hh) own started (by kernel_rfl) Tryz.func6
  (witness_cond (enc := enc) (C := Tryz.checked) (os := os) (s := (Rows.OpenSpec.upto Rows.scriptValuesSpec)) (k := Rows.uptoSmall) rfl (X := fun w _ => laidMetH Tryz.prog Rows.scriptValuesUptoRow.laid w) (World.laidAll Tryz.prog os Rows.scriptValuesUptoRow.laid) #[.agg #[.slice none 0 0]] 8 (World.laidAll_os _ _ _)
   (World.shaped_of_ZipB (by kernel_rfl) (by kernel_rfl)) (by kernel_rfl) (by kernel_rfl) (by kernel_rfl)
   (by rw [MakeChecks.laidMetH_plain _ _ _ (by kernel_rfl)]; exact laidMet_laidAll _ (by kernel_rfl) (by kernel_rfl))) ?_
 intro W args ds gs before hval hW hkk hL hS
 have hW' := hW
 obtain ⟨p, q, hA0, hV, rfl, hfz, hnd⟩ := hW
 have hA : DataW.TrodAll enc Tryz.prog W 0 (fun _ => true) true Tryz.f6.params.toList args.toList ds p := hA0
 rw [Tryz.params6] at hA hval
 obtain ⟨v0, vs0, d0, ds0, p0, q0, hargs, rfl, rfl, h0, r0⟩ := trodAll_cons hA
 obtain ⟨rfl, rfl, rfl⟩ := trodAll_nil r0
 obtain rfl : args = #[v0] := by cases args; simp_all
 obtain ⟨rfl, rfl⟩ := trodVars_none hV
 obtain ⟨base, hv0⟩ := hval 0 49 v0 rfl rfl
 clear hA0 hval
 simp only [List.append_nil] at hW'
 rw [MakeChecks.laidMetH_plain _ _ _ (by kernel_rfl)] at hL
 obtain ⟨ps, hLv, _⟩ := hL
 have hS : World.ShapedOpen Tryz.prog W := hS
 have hr : ((begin Tryz.prog (fun _ _ => 0) default).world.heap[7]?).bind Obj.row? ≠ none := by
  intro h
  have : (((begin Tryz.prog (fun _ _ => 0) default).world.heap[7]?).bind Obj.row?).isSome = true := by kernel_rfl
  rw [h] at this
  cases this
 obtain ⟨r, hr⟩ := Option.ne_none_iff_exists'.1 hr
 have hlt : ∀ x ∈ p0, x.block < W.heap.size := fun x hx => hW'.lt x hx
 have h8 : 8 ≤ W.heap.size := by
  obtain ⟨cs, k1, _⟩ := hS.1 7 r.1 r.2 (of_decide_eq_true (by kernel_rfl)) hr
  have := (Array.getElem?_eq_some_iff.1 k1).1
  omega
 have hkb : Rows.uptoBulkAll [d0] ≤ 1048576 := of_decide_eq_true hkk
 refine (walk hv0 h0 hkb hS h8 hLv).mono fun e W' ⟨he, hb⟩ => ?_
 subst he
 exact ⟨_, rfl, post_of_below (pa := p0) (pv := []) hW' (fun _ _ _ => (trodAll_cons_mk (shut_bool Tryz.underlying4 _) trodAll_mk0))
  (fun sp hsp => by
   have := trodAll_cons_mk (WideElems.Trod_stays laidOut (by kernel_rfl) (of_decide_eq_true (by kernel_rfl)) h0 (fun x hx => hb.same (hlt x hx)) (fun x hx => hsp x hx)) trodAll_mk0
   rw [List.append_nil] at this; exact this)
  (fun _ _ => rfl) (by simp) hb (ok_one (by kernel_rfl) rfl (okWide_bool_mk Tryz.underlying4 _))⟩
theorem said : Rows.ScriptValuesUptoSaid :=
 OpenClaim.holds_of_cond 6 Tryz.f6 rfl rfl rfl rfl rfl rfl rfl ⟨rfl, rfl, rfl, rfl, rfl⟩ rfl rfl rfl rfl rfl (by kernel_rfl) Tryz.func6 (by kernel_rfl)
  (of_decide_eq_true (by kernel_rfl)) (by unfold Func.isWrapper; first | (rw [if_pos (by decide +kernel)]; kernel_rfl) | (rw [if_neg (by decide +kernel)]; exact ⟨rfl, rfl⟩))
  (fun os started H enc _ F => lifted os started H enc F)
theorem proved : Rows.ScriptValuesUptoCardSaid :=
 Claim7.holds_tied_plain_at .later [] [.data, .data, .data, .data, .sentinel, .sentinel, .pinned] true (true, "7679bc01a58e740ef23450ff9de0023fc52534e86f6c488da53126dc2b8c83c0") true
  said (fun _ h => by cases h) (by kernel_rfl) (fun _ h => by cases h) scriptValuesUpto_row_tie rfl ⟨rfl, rfl⟩ (by kernel_rfl) rfl
  (fun f fn hf hfn => by
   obtain rfl : f = 6 := Option.some.inj ((show Tryz.prog.funcNamed Rows.scriptValuesUptoRow.func = some 6 by kernel_rfl).symm.trans hf) |>.symm
   obtain rfl : fn = Tryz.f6 := (Option.some.inj (Tryz.func6.symm.trans hfn)).symm
   exact ⟨by kernel_rfl, fun j t ht => by
    rw [Tryz.params6] at ht
    rcases j with _ | j
    ·simp at ht
     subst ht
     kernel_rfl
    ·simp at ht⟩)
  (by kernel_rfl)
#print axioms proved
end Go.Proofs.YtnpkdiffpgcbhaaGreatDoor.scriptValuesUpto
