/- ScriptBack (one parameter): the law returns true, its row's statement and its tied card. No conditions beside the row's own. -/
import Derived.Test.YtnpkdiffpgcbhaaGreatDoorB7
import Derived.Test.YtnpkdiffpgcbhaaGreatDoorRows
import Derived.SliceStrings
import Derived.Lib.LaidTab
import Derived.Test.YtnpkdiffpgcbhaaGreatDoorTie
import Derived.Test.YtnpkdiffpgcbhaaGreatDoorCards
import Derived.WalkKit
import Derived.ProofKit
import Derived.OpenShut
import Derived.Carry
import Derived.Lay
import Derived.ChangeSame
import Derived.Below
import Derived.LaidMore
import Derived.HandedShaped
import Derived.SevenTiedAt
set_option maxRecDepth 100000
set_option maxHeartbeats 3200000
namespace Go.Proofs.YtnpkdiffpgcbhaaGreatDoor
open Go.RowKit
attribute [local go_sem] Oper.semAt_some
theorem parse_res2 {w : World} (s : ByteArray) (hlib : LibOk w) : Calls Tryz.prog 14 #[.string s] w fun e w' => ∃ v n c, e = .returned (.tuple #[v, .int .i64 n, .int .i64 c]) ∧ PRes w s.data.toList w' v n c ∧ (c ≠ 0 → v = .slice none 0 0) := by
 refine (parse_any hlib).mono ?_
 rintro e w' ⟨hf, h⟩
 cases hp : parseA s.data.toList with
 | error q =>
  obtain ⟨j, c⟩ := q
  rw [hp] at h
  exact ⟨_, _, _, h, ⟨hf, .inl ⟨j, hp, rfl, parseA_err hp⟩⟩, fun _ => rfl⟩
 | ok ops =>
  rw [hp] at h
  obtain ⟨v, xs, rfl, h1, h2⟩ := h
  exact ⟨_, _, _, rfl, ⟨hf, .inr ⟨ops, hp, rfl, rfl, _, xs, h1, h2.imp (fun _ _ _ hc => RdOp.trans' (fun g _ _ => ⟨rfl, trivial⟩) hc)⟩⟩, fun h => absurd rfl h⟩
theorem print_got {w : World} {s : Bs} {ops : List OpV} {v : Value} (hg : Got w v ops) (h : parseS s = .ok ops) (hl : s.length ≤ 20000) (hlib : LibOk w) :
  Calls Tryz.prog 10 #[v] w fun e w' => e = .returned (.tuple #[.string (mk (linesG ops)), .int .i64 0]) ∧ FP nob w w' := by
 obtain ⟨b, xs, h1, h2⟩ := hg
 obtain ⟨k1, k2, _⟩ := prok_of_parse h hl
 exact print_ok ((SliceAt.own h1).wide (fun _ _ _ => trivial)) h2 (by have := parseS_len h; omega) k1 k2 hlib
theorem wk_lines : linesG wkOps = wkP := by
 have d2 : Lib.decDigits 2 = [50] := by kernel_rfl
 have i3 : Lib.itoa 3 = [51] := by kernel_rfl
 simp [linesG, lineG, spellB, wkOps, wkP, setsB, commas, joinSp, wrB_mk, intV, listV, boolV, factV, nullV, textV, argB, quoteB, escQ, wEq, wInsert, wQuery, wTrue, d2, i3]
theorem wakes_all {w : World} (hlib : LibOk w) : YesC 9 #[] w :=
 wakes_ok hlib (fun W v hW hg => by
  have := print_got hg (parseA_ok wk_parse) (by decide) (hlib.fp hW (fun _ x => x.elim))
  rwa [wk_lines] at this)
theorem parseA_again {ops : List OpV} (h : parseS (linesG ops) = .ok ops) (hl : (linesG ops).length ≤ 65535) : parseA (linesG ops) = .ok ops := by
 rw [parseA_short hl, h]
theorem lines_short {s : Bs} {ops : List OpV} (h : parseS s = .ok ops) : (linesG ops).length ≤ 3 * s.length ∧ parseS (linesG ops) = .ok ops := by
 obtain ⟨h1, h2, h3⟩ := parseS_read h
 rw [linesG_text h1]
 exact ⟨h2, h3⟩
theorem back_any {w : World} {v : Value} {ts : List ByteArray} (h : Strs w v ts) (hsz : ∀ t ∈ ts, t.size ≤ 140737488351232) (hn : ts.length ≤ 140737488351232) (hlib : LibOk w) : YesC 4 #[v] w := by
 obtain ⟨ao, cap, rfl, hcap, hcl⟩ := h
 obtain ⟨n, hnn⟩ : ∃ n, ts.length = n := ⟨_, rfl⟩
 rw [hnn] at hcap hn ⊢
 have HC := Lib.hid hcl
 have HS := Lib.hid hsz
 have HLB := Lib.hid hlib
 have HL := Lib.hid hnn
 clear hcl hsz hnn hlib
 unfold YesC at *
 go_enter Tryz.func4, Tryz.ntmps4
 go_wp2_with fail
 go_loopg [3] 8 (fun m i wr => ∃ k : Nat, i = .int .i64 (k : Nat) ∧ k ≤ 6 ∧ 7 - k < m ∧ n ≤ 140737488351232 ∧ Hid (FP nob w wr))
 case atStart => exact ⟨0, rfl, by omega, by omega, hn, Lib.hid (FP.refl _ _)⟩
 case round =>
  obtain ⟨k, rfl, hk6, hm, hn, hF⟩ := hrel
  obtain ⟨wo, hwo⟩ : ∃ wo, wo = wr := ⟨_, rfl⟩
  subst hwo
  by_cases hlt : k < n
  ·by_cases h6 : k < 6
   ·have hi0 : (0 : Int) ≤ (k : Int) := by omega
    have hi1 : (k : Int) < (n : Int) := by omega
    have hi6 : (k : Int) < 6 := by omega
    have hw1 : IntKind.i64.wrap ((k : Int) + 1) = (k : Int) + 1 := IntWalk.i64_in _ (by omega)
    have hcl := HC.out
    have e1 : ts[k]? = some (ts[k]'(by rw [HL.out]; omega)) := List.getElem?_eq_getElem _
    have z1 := HS.out _ (List.getElem_mem (l := ts) (n := k) (by rw [HL.out]; omega))
    generalize ts[k]'(by rw [HL.out]; omega) = s0 at e1 z1
    rcases hcl with rfl | ⟨g, off, rfl, hg, hcells⟩
    ·simp at e1
    have HX0 := Lib.hid (hcells _ _ e1)
    have x0 := hF.out.cell HX0.out
    clear hcells e1
    by_cases hlen : (3000 : Int) < (s0.size : Int)
    ·go_wp2_with fail
     go_roundg (7 - (k + 1) + 1)
     case measure => omega
     case rel => exact ⟨k + 1, rfl, by omega, by omega, hn, hF⟩
    ·have HP := Lib.hid (parse_res2 (w := wo) s0 (HLB.out.fp hF.out (fun _ x => x.elim)))
     go_wp2_with fail
     refine HP.out.mono ?_
     rintro e w1 ⟨v1, n1, c1, rfl, hr1, hv1⟩
     have HR1 := Lib.hid hr1
     have HF1 : Hid (FP nob w w1) := Lib.hid (FP.trans (S := nob) hF.out hr1.1 (fun _ x => False.elim x))
     have hz0 : s0.size ≤ 3000 := by omega
     have hz1 : s0.data.toList.length ≤ 3000 := hz0
     by_cases hc1 : c1 = 0
     ·obtain ⟨ops, p1, _, g1⟩ := HR1.out.got hc1
      subst hc1
      have p1 := parseA_ok p1
      obtain ⟨hl1, p2⟩ := lines_short p1
      have hlb1 : LibOk w1 := HLB.out.fp HF1.out (fun _ x => x.elim)
      have HPR := Lib.hid (print_got g1 p1 (by omega) hlb1)
      have HG1 := Lib.hid g1
      obtain ⟨sv, hsv⟩ : ∃ sv, mk (linesG ops) = sv := ⟨_, rfl⟩
      rw [hsv] at HPR
      have hsd : sv.data.toList = linesG ops := by rw [← hsv]
      have p3 : parseA sv.data.toList = .ok ops := by rw [hsd]; exact parseA_again p2 (by omega)
      have HP3 := Lib.hid p3
      have HP2 := Lib.hid p2
      have HP1 := Lib.hid p1
      have HL1 := Lib.hid hl1
      have HSV := Lib.hid hsv
      clear hr1 hv1 p1 p2 p3 g1 hlb1 hsd hl1 hsv
      go_wp2_with fail
      refine HPR.out.mono ?_
      rintro e w2 ⟨rfl, f2⟩
      have HF2 : Hid (FP nob w w2) := Lib.hid (FP.trans (S := nob) HF1.out f2 (fun _ x => False.elim x))
      have HG2 := Lib.hid (HG1.out.far f2)
      have HPP := Lib.hid (parse_res2 (w := w2) sv (HLB.out.fp HF2.out (fun _ x => x.elim)))
      clear f2
      go_wp2_with fail
      refine HPP.out.mono ?_
      rintro e w3 ⟨v3, n3, c3, rfl, hr3, _⟩
      obtain ⟨rfl, rfl, g3⟩ := hr3.det_ok HP3.out
      have HF3 : Hid (FP nob w w3) := Lib.hid (FP.trans (S := nob) HF2.out hr3.1 (fun _ x => False.elim x))
      have HG3 := Lib.hid (HG2.out.far hr3.1)
      have HGB := Lib.hid g3
      have hpr3 := print_got g3 HP2.out (by have := HL1.out; omega) (HLB.out.fp HF3.out (fun _ x => x.elim))
      rw [HSV.out] at hpr3
      have HPR3 := Lib.hid hpr3
      clear hr3 g3 hpr3
      go_wp2_with fail
      refine HPR3.out.mono ?_
      rintro e w4 ⟨rfl, f4⟩
      have HF4 : Hid (FP nob w w4) := Lib.hid (FP.trans (S := nob) HF3.out f4 (fun _ x => False.elim x))
      have HE := Lib.hid ((HG3.out.far f4).eq (HGB.out.far f4) (parseS_sh HP1.out) (by have := parseS_len HP1.out; omega))
      clear f4
      go_wp2_with fail
      refine HE.out.mono ?_
      rintro e w5 ⟨rfl, f5⟩
      have HF5 : Hid (FP nob w w5) := Lib.hid (FP.trans (S := nob) HF4.out f5 (fun _ x => False.elim x))
      clear f5
      go_wp2_with fail
      go_roundg (7 - (k + 1) + 1)
      case measure => omega
      case rel => exact ⟨k + 1, rfl, by omega, by omega, hn, HF5⟩
     ·obtain ⟨j, p1, rfl⟩ := HR1.out.bad hc1
      have hv := hv1 hc1
      subst hv
      rw [parseA_short (by omega)] at p1
      have h41 : c1 = 41 := by
       cases hp : parseS s0.data.toList with
       | error i => rw [hp] at p1; cases p1; rfl
       | ok l => rw [hp] at p1; cases p1
      subst h41
      have hj0 : ¬ (j : Int) < 0 := by omega
      clear hr1 hv1 p1 hc1
      go_wp2_with fail
      go_roundg (7 - (k + 1) + 1)
      case measure => omega
      case rel => exact ⟨k + 1, rfl, by omega, by omega, hn, HF1⟩
   ·have h6' : ¬ (k : Int) < 6 := by omega
    have hi1 : (k : Int) < (n : Int) := by omega
    have HK := Lib.hid (wakes_all (w := wo) (HLB.out.fp hF.out (fun _ x => x.elim)))
    go_wp2_with fail
    refine HK.out.mono ?_
    rintro e w9 ⟨rfl, f9⟩
    have HF9 : Hid (FP nob w w9) := Lib.hid (FP.trans (S := nob) hF.out f9 (fun _ x => False.elim x))
    go_wp2_with fail
    exact bodyPost_ret (v := .bool true) (by simp [results, Tryz.results4]) rfl (And.intro rfl HF9.out)
  ·have hi1 : ¬ (k : Int) < (n : Int) := by omega
   have HK := Lib.hid (wakes_all (w := wo) (HLB.out.fp hF.out (fun _ x => x.elim)))
   go_wp2_with fail
   refine HK.out.mono ?_
   rintro e w9 ⟨rfl, f9⟩
   have HF9 : Hid (FP nob w w9) := Lib.hid (FP.trans (S := nob) hF.out f9 (fun _ x => False.elim x))
   go_wp2_with fail
   exact bodyPost_ret (v := .bool true) (by simp [results, Tryz.results4]) rfl (And.intro rfl HF9.out)
end Go.Proofs.YtnpkdiffpgcbhaaGreatDoor
namespace Go.Proofs.YtnpkdiffpgcbhaaGreatDoor
open Go.RowKit Go.ChangeShapes Go.WideShapes
theorem zero0 : ((begin Tryz.prog (fun _ _ => 0) default).world.heap[0]?).bind Obj.row? = some (#[.int .i64 0], 3) := by kernel_rfl
theorem types0 : Tryz.prog.cellTypes Tryz.prog.depth 3 = some [3] := by kernel_rfl
theorem build3 : Tryz.prog.buildable 3 = true := by kernel_rfl
theorem trod_ifc {P : Program} {w : World} {fuel : Nat} {t : TypeId} {ms : Array (String × TypeId)} {cs : List Value} {x : DataW Unit × List MemPlace} (hu : P.underlying t = some (.interface ms)) (ht : DataW.trod (fun _ => ()) P w 0 (fun _ => true) false fuel t cs = some x) :
  (cs = [.nilIface] ∧ x = (.nil, [])) ∨ ∃ u v name y, cs = [.iface u v] ∧ x.1 = .iface name y := by
 cases fuel with
 | zero => simp [DataW.trod] at ht
 | succ m =>
  unfold DataW.trod at ht
  rw [hu] at ht
  cases cs with
  | nil => simp at ht
  | cons c cs =>
   cases cs with
   | cons c2 cs => cases c <;> simp at ht
   | nil =>
    cases c <;> first | (simp at ht; done) | skip
    ·rename_i u v
     refine .inr ⟨u, v, ?_⟩
     cases hn : P.typeName? 3 u with
     | none => simp [hn] at ht
     | some name =>
      simp only [hn] at ht
      cases hq : DataW.trod (fun _ => ()) P w 0 (fun _ => true) false m u v.cells.toList with
      | none => rw [hq] at ht; cases ht
      | some y => rw [hq] at ht; cases ht; exact ⟨name, y.1, rfl, rfl⟩
    ·cases ht; exact .inl ⟨rfl, rfl⟩
theorem lib_laid {W : World} {ps : List MemPlace} (hS : W.ShapedOpen Tryz.prog) (hsz : 8 ≤ W.heap.size) (hL : DataW.LaidVars Tryz.prog W Rows.scriptBackRow.laid ps) : LibOk W := by
 obtain ⟨_, _, _, _, _, _, _, _, _, _, hL, _⟩ := hL
 obtain ⟨_, _, _, _, _, _, _, _, _, _, hL, _⟩ := hL
 obtain ⟨g, t, cs, fuel, p, q, hg, ht, hv, hd, hL, _⟩ := hL
 obtain ⟨_, _, _, _, _, _, _, _, _, _, hL, _⟩ := hL
 obtain ⟨g2, t2, cs2, fuel2, p2, q2, hg2, ht2, hv2, hd2, _, _⟩ := hL
 refine ⟨?_, ?_, ?_, hsz⟩
 ·obtain ⟨cs, h1, h2, h3⟩ := hS.1 0 _ _ (of_decide_eq_true (by kernel_rfl)) zero0
  obtain ⟨ts, e1, _, e3⟩ := h3 build3
  rw [types0] at e1
  cases e1
  have hl : 0 < cs.size := by rw [h2]; decide
  obtain ⟨u, hu, hc⟩ := e3 0 (cs[0]) (by simp [hl])
  simp at hu
  subst hu
  have hu3 : Tryz.prog.underlying 3 = some (.int .i64) := Tryz.underlying3
  unfold Cell.ok at hc
  rw [hu3] at hc
  have hcell : W.cell? ⟨0, 0, none⟩ = some (cs[0]) := (cell_blk h1).trans (by simp [hl])
  generalize cs[0] = v at hc hcell
  cases v <;> simp at hc
  rename_i k m
  obtain ⟨rfl, _⟩ := hc
  exact ⟨m, hcell⟩
 ·have e1 : Tryz.prog.globalNamed "internal/strconv.uint64pow10" = some 1 := by kernel_rfl
  obtain rfl : g = 1 := (Option.some.inj (e1.symm.trans hg)).symm
  have e2 : (Tryz.prog.globals[1]?).map (·.type) = some 194 := by kernel_rfl
  obtain rfl : t = 194 := (Option.some.inj (e2.symm.trans ht)).symm
  unfold Lib.TabIs
  rw [hv]
  have hd' : DataW.trod (fun _ => ()) Tryz.prog W 0 (fun _ => true) false fuel 194 cs.toList = some (Lib.tabData .u64 Lib.pow10Tab, p) := hd
  rw [← Lib.cells_of_tab Tryz.underlying194 Tryz.underlying174 (by kernel_rfl) (by kernel_rfl) hd']
 ·have e1 : Tryz.prog.globalNamed "strconv.ErrRange" = some 3 := by kernel_rfl
  obtain rfl : g2 = 3 := (Option.some.inj (e1.symm.trans hg2)).symm
  have e2 : (Tryz.prog.globals[3]?).map (·.type) = some 81 := by kernel_rfl
  obtain rfl : t2 = 81 := (Option.some.inj (e2.symm.trans ht2)).symm
  rcases trod_ifc Tryz.underlying81 hd2 with ⟨_, h⟩ | ⟨u, v, name, y, hc, _⟩
  ·cases h
  ·refine ⟨u, v, ?_⟩
   unfold World.var? at hv2
   rw [e1] at hv2
   simp only [Option.bind_some] at hv2
   unfold World.cell?
   split at hv2
   ·skip
    next hh =>
    rw [hh]
    cases hv2
    show cs2[0]? = _
    rw [← Array.getElem?_toList, hc]
    rfl
   ·cases hv2
theorem bytes9 : Tryz.prog.bytesOf 9 = 16 := by kernel_rfl
theorem kcells9 : Tryz.prog.cellsOf 9 = 1 := by kernel_rfl
theorem weights_strs {H : Type} : ∀ (ss : List ByteArray), DataW.weightsAll (H := H) Tryz.prog 9 (strs ss) = ss.map (·.size)
 | [] => rfl
 | s :: ss => by
  show DataW.weights Tryz.prog 9 _ ++ DataW.weightsAll Tryz.prog 9 (strs ss) = _
  rw [weights_strs ss]
  rfl
theorem strs_of {H : Type} {enc : TypeId × Value → H} {W : World} {r : Reach} {base : Nat} {v : Value} {d : DataW H} {p : List MemPlace} (hv : Value.okWide Tryz.prog W r base 42 v) (h : DataW.Trod enc Tryz.prog W 0 (fun _ => true) true 42 v d p)
  (hz : (d.weights Tryz.prog 42).all (fun x => decide (x ≤ reachBytes)) = true) : ∃ ts, Strs W v ts ∧ (∀ t ∈ ts, t.size ≤ 140737488351232) ∧ ts.length ≤ 140737488351232 := by
 obtain ⟨fuel, hf⟩ := h
 obtain ⟨x1, x2, x3, rfl⟩ := okWide_slice Tryz.underlying42 hv
 rcases open_strings Tryz.underlying42 Tryz.underlying9 kcells9 hf with ⟨h0, _⟩ | ⟨a, len, cap, ss, h0, _, hlc, _, hsl, hx, hcell, _⟩
 ·injection (List.cons.inj h0).1 with e1 e2 e3
  subst e1 e2 e3
  exact ⟨[], ⟨none, 0, rfl, Nat.le_refl _, .inl rfl⟩, by simp, by simp⟩
 ·injection (List.cons.inj h0).1 with e1 e2 e3
  rw [← e2] at hsl hx hlc
  rw [← e3] at hsl hlc
  rw [e1]
  clear e1 e2 e3
  obtain ⟨len, hlen⟩ : ∃ l, x2 = l := ⟨_, rfl⟩
  obtain ⟨cap, hcap⟩ : ∃ l, x3 = l := ⟨_, rfl⟩
  rw [hlen] at hsl hx hlc ⊢
  rw [hcap] at hsl hlc ⊢
  simp only [if_true] at hsl
  have hd : d = .slice (strs (ss.take len)) (strs (ss.drop len)) := congrArg Prod.fst hx
  subst hd
  have hl : (ss.take len).length = len := by rw [List.length_take]; omega
  unfold DataW.weights at hz
  rw [Tryz.underlying42] at hz
  simp only [List.all_cons, List.all_append, Bool.and_eq_true, weights_strs, bytes9] at hz
  obtain ⟨hz1, hz2, _⟩ := hz
  have hz1 := of_decide_eq_true hz1
  rw [List.all_map, List.all_eq_true] at hz2
  refine ⟨ss.take len, ⟨some a, cap, by rw [hl], by rw [hl]; exact hlc, ?_⟩, fun t ht => ?_, ?_⟩
  ·by_cases h0 : len = 0
   ·left; subst h0; rfl
   ·right
    have hc0 := hcell 0 (by omega)
    rw [Addr.add_zero'] at hc0
    obtain ⟨g, off, spot⟩ := a
    have hg : g < W.heap.size ∧ spot = none := by
     unfold World.cell? at hc0
     split at hc0
     ·rename_i he
      refine ⟨lt_blk he, ?_⟩
      cases spot with
      | none => rfl
      | some x => simp at hc0
     ·cases hc0
    obtain ⟨hg, rfl⟩ := hg
    refine ⟨g, off, rfl, hg, fun j t hj => ?_⟩
    have hj' := List.getElem?_eq_some_iff.1 hj
    obtain ⟨hj1, hj2⟩ := hj'
    rw [hl] at hj1
    have hc := hcell j (by omega)
    rw [Addr.add_lit] at hc
    rw [hc]
    congr 2
    rw [List.getElem?_take_of_lt hj1] at hj
    simp [List.getD, hj]
  ·exact of_decide_eq_true (hz2 t ht)
  ·have hs : (strs (H := H) (ss.take len)).length = len := by simp only [strs, List.length_map, hl]
   rw [hl]
   rw [hs] at hz1
   unfold reachBytes at hz1
   omega
end Go.Proofs.YtnpkdiffpgcbhaaGreatDoor
namespace Go.Proofs.YtnpkdiffpgcbhaaGreatDoor.scriptBack
open Go.ChangeShapes Go.WideShapes Go.ChangeAt Go.RowKit
section
variable {H : Type} {enc : TypeId × Value → H}
theorem handed_laid {a : Assume} {C : Checked} {os : Os} {f : FuncId} {fn : Func} {s : ChangeSpec} {conds : List PathCond} {apart fresh handsOn again : Bool} {X : World → Array Value → Prop}
  (hX : ∀ (w w' : World) (args : Array Value), w.heap = w'.heap → X w args → X w' args)
  (own : ownKnob C.prog.godebug = none) (started : os.Started) (noInit : C.prog.inits.idxOf? f = none) (hfn : C.prog.funcs[f]? = some fn)
  (witness : ∃ (w : World) (tape : Tape) (i : Input), w.os = os ∧ (w.forCall tape i).Shaped C.prog ∧ i.vars = [] ∧ Input.okWide C.prog (w.forCall tape i) .any w.heap.size f i ∧
   ((s.pre enc C.prog fn conds apart (w.forCall tape i).memory i.args ∧ X (w.forCall tape i).memory i.args) ∧ sizedMet enc C.prog fn (OpenSpec.ofChange s) apart (w.forCall tape i).memory i.args) ∧ a.holds C.prog (lone (Frame.enter C.prog f i.args .normal) [] (w.forCall tape i)))
  (contract : ∀ (W : World) (args : Array Value) (ds gs : List (DataW H)) (before : List MemPlace),
   (∀ (j : Nat) (t : TypeId) (v : Value), fn.params[j]? = some t → args[j]? = some v → ∃ base, Value.okWide C.prog W .any base t v) →
   (DataW.weightsEach C.prog (fn.params.toList ++ (OpenSpec.ofChange s).bare.plain.varTypes C.prog) (ds ++ gs)).all (· ≤ reachBytes) = true →
   DataW.Whole enc C.prog fn.params.toList s.vars apart W args.toList ds gs before → X W args → W.ShapedOpen C.prog →
   Calls C.prog f args W fun e W' => ∃ v, e = .returned v ∧ s.post enc C.prog fn apart fresh handsOn again W args v W') :
  ReturnsInHanded a C os f .any (fun w args => (s.pre enc C.prog fn conds apart w args ∧ X w args) ∧ sizedMet enc C.prog fn (OpenSpec.ofChange s) apart w args) (s.post enc C.prog fn apart fresh handsOn again) := by
 refine returnsInHanded_of_calls own started noInit witness ?_
 intro w tape i _ hsh _ hok hpre hholds
 obtain ⟨_, _, _, fn', hfn', _, _, _, _, hval⟩ := hok
 have e : fn' = fn := Option.some.inj (hfn'.symm.trans hfn)
 subst e
 obtain ⟨⟨⟨ds, gs, before, hw, hc⟩, hx⟩, hz⟩ := hpre
 have hw' := DataW.Whole.of_heap (w' := w.forCall tape i) (by rfl) hw
 refine (contract (w.forCall tape i) i.args ds gs before (fun j t v h1 h2 => ⟨_, hval j t v h1 h2⟩) (hz.weights hw) hw' (hX _ _ _ (by rfl) hx) hsh).mono fun e W' ⟨v, he, hp⟩ => ?_
 subst he
 exact ChangeSpec.post_blind hp
theorem post_of_below {P : Program} {f : Func} {s : ChangeSpec} {apart fresh handsOn again : Bool} {W W' : World} {args : Array Value} {v : Value} {ds gs : List (DataW H)} {before pa pv : List MemPlace}
  (hW : DataW.Whole enc P f.params.toList s.vars apart W args.toList ds gs before)
  (hres : ∀ (b : Nat) (sp : Nat → Bool) (hd : Bool), DataW.TrodAll enc P W' b sp hd f.resultTypes.toList (v.resultList f.resultTypes.size) (s.fn H (ds ++ gs)).results [])
  (hargs : ∀ sp : Nat → Bool, (∀ p ∈ before, sp p.block = true) → DataW.TrodAll enc P W' 0 sp true f.params.toList args.toList (s.fn H (ds ++ gs)).args pa)
  (hvars : ∀ sp : Nat → Bool, (∀ p ∈ before, sp p.block = true) → DataW.TrodVars enc P W' sp s.vars (s.fn H (ds ++ gs)).vars pv)
  (hps : before = pa ++ pv) (hb : Below W.heap.size W W')
  (hok : ∀ (j : Nat) (t : TypeId) (r : Value), f.resultTypes[j]? = some t → (v.resultList f.resultTypes.size)[j]? = some r → Value.okWide P W' .any 0 t r) :
  s.post enc P f apart fresh handsOn again W args v W' := by
 have hlt : ∀ p ∈ before, p.block < W.heap.size := fun p hp => hW.lt p hp
 have hold : ∀ p ∈ before, (fun b => decide (b < W.heap.size)) p.block = true := fun p hp => by simpa using hlt p hp
 refine ⟨ds, gs, before, [], pa, pv, hW, hres _ _ _, hargs _ hold, hvars _ hold, World.keptBut_mono (fun p hp => ⟨hp, ?_⟩) (hb.frame (· ∈ before)), fun _ => ?_⟩
 ·rw [hps, List.mem_append] at hp
  exact Or.inr hp
 ·obtain ⟨_, _, _, _, _, hz, hn⟩ := hW
  refine ⟨hok, _, _, ([] ++ pa) ++ pv, ⟨[] ++ pa, pv, trodAll_append (hargs _ (fun _ _ => rfl)) (hres _ _ _), hvars _ (fun _ _ => rfl), rfl, ?_, ?_⟩, ?_⟩
  ·intro b off hp
   have hin : MemPlace.cell b off ∈ before := by rw [hps]; simpa using hp
   rw [hb.frozen (hlt _ hin)]
   exact hz b off hin
  ·intro ha
   have := hn ha
   rw [hps] at this
   simpa using this
  ·intro p hp _
   rw [hps]
   simpa using hp
end
theorem own : ownKnob Tryz.prog.godebug = none := by kernel_rfl
theorem laidOut : laidOutB Tryz.prog = true := by kernel_rfl
theorem walk {H : Type} {enc : TypeId × Value → H} {W : World} {base : Nat} {v0 : Value} {d0 : DataW H} {p0 : List MemPlace}
  (hv : Value.okWide Tryz.prog W .any base 42 v0) (h0 : DataW.Trod enc Tryz.prog W 0 (fun _ => true) true 42 v0 d0 p0) (hz : (d0.weights Tryz.prog 42).all (fun x => decide (x ≤ reachBytes)) = true) (hS : World.ShapedOpen Tryz.prog W)
  (hsz : 8 ≤ W.heap.size) {ps : List MemPlace} (hL : DataW.LaidVars Tryz.prog W Rows.scriptBackRow.laid ps) :
  Calls Tryz.prog 4 #[v0] W fun e W' => e = .returned (.bool true) ∧ Below W.heap.size W W' := by
 obtain ⟨ts, h1, h2, h3⟩ := strs_of hv h0 hz
 exact (back_any h1 h2 h3 (lib_laid hS hsz hL)).mono fun e W' h => ⟨h.1, h.2.below (fun _ x => x.elim) (Nat.le_refl _)⟩
theorem lifted (os : Os) (started : os.Started) (H : Type) (enc : TypeId × Value → H) :
  ReturnsInHanded {} Tryz.checked os 4 .any (fun w args => (Rows.scriptBackSpec.pre enc Tryz.prog Tryz.f4 [] false w args ∧ laidMetH Tryz.prog Rows.scriptBackRow.laid w) ∧ sizedMet enc Tryz.prog Tryz.f4 (OpenSpec.ofChange Rows.scriptBackSpec) false w args)
   (Rows.scriptBackSpec.post enc Tryz.prog Tryz.f4 false true false false) := by
 refine handed_laid (C := Tryz.checked) (X := fun w _ => laidMetH Tryz.prog Rows.scriptBackRow.laid w) (fun _ _ _ hh h => h.of_heap hh) own started (by kernel_rfl) Tryz.func4
  (ChangeSpec.witness_shaped (enc := enc) (C := Tryz.checked) (os := os) (X := fun w _ => laidMetH Tryz.prog Rows.scriptBackRow.laid w) false (World.laidAll Tryz.prog os Rows.scriptBackRow.laid) #[.slice none 0 0] 8 (World.laidAll_os _ _ _)
   (World.shaped_of_ZipB (by kernel_rfl) (by kernel_rfl)) (by kernel_rfl) (by kernel_rfl) (by kernel_rfl)
   (by rw [MakeChecks.laidMetH_plain _ _ _ (by kernel_rfl)]; exact laidMet_laidAll _ (by kernel_rfl) (by kernel_rfl))) ?_
 intro W args ds gs before hval hz hW hL hS
 have hW' := hW
 obtain ⟨p, q, hA0, hV, rfl, hfz, hnd⟩ := hW
 have hA : DataW.TrodAll enc Tryz.prog W 0 (fun _ => true) true Tryz.f4.params.toList args.toList ds p := hA0
 rw [Tryz.params4] at hA hval hz
 obtain ⟨v0, vs0, d0, ds0, p0, q0, hargs, rfl, rfl, h0, r0⟩ := trodAll_cons hA
 obtain ⟨rfl, rfl, rfl⟩ := trodAll_nil r0
 obtain rfl : args = #[v0] := by cases args; simp_all
 obtain ⟨rfl, rfl⟩ := trodVars_none hV
 obtain ⟨base, hv0⟩ := hval 0 42 v0 rfl rfl
 clear hA0 hval
 simp only [List.append_nil] at hW'
 rw [MakeChecks.laidMetH_plain _ _ _ (by kernel_rfl)] at hL
 obtain ⟨ps, hLv, _⟩ := hL
 have hS : World.ShapedOpen Tryz.prog W := hS
 have hr : ((begin Tryz.prog (fun _ _ => 0) default).world.heap[7]?).bind Obj.row? ≠ none := by
  intro h
  have : (((begin Tryz.prog (fun _ _ => 0) default).world.heap[7]?).bind Obj.row?).isSome = true := by kernel_rfl
  rw [h] at this
  cases this
 obtain ⟨r, hr⟩ := Option.ne_none_iff_exists'.1 hr
 have hlt : ∀ x ∈ p0, x.block < W.heap.size := fun x hx => hW'.lt x hx
 have hz0 : (d0.weights Tryz.prog 42).all (fun x => decide (x ≤ reachBytes)) = true := by
  have hz2 : (d0.weights Tryz.prog 42 ++ []).all (fun x => decide (x ≤ reachBytes)) = true := hz
  rwa [List.append_nil] at hz2
 have h8 : 8 ≤ W.heap.size := by
  obtain ⟨cs, k1, _⟩ := hS.1 7 r.1 r.2 (of_decide_eq_true (by kernel_rfl)) hr
  have := (Array.getElem?_eq_some_iff.1 k1).1
  omega
 refine (walk hv0 h0 hz0 hS h8 hLv).mono fun e W' ⟨he, hb⟩ => ?_
 subst he
 exact ⟨_, rfl, post_of_below (pa := p0) (pv := []) hW' (fun _ _ _ => (trodAll_cons_mk (shut_bool Tryz.underlying4 _) trodAll_mk0))
  (fun sp hsp => by
   have := trodAll_cons_mk (WideElems.Trod_stays laidOut (by kernel_rfl) (of_decide_eq_true (by kernel_rfl)) h0 (fun x hx => hb.same (hlt x hx)) (fun x hx => hsp x hx)) trodAll_mk0
   rw [List.append_nil] at this; exact this)
  (fun _ _ => rfl) (by simp) hb (ok_one (by kernel_rfl) rfl (okWide_bool_mk Tryz.underlying4 _))⟩
theorem said : Rows.ScriptBackSaid :=
 OpenClaim.holds_of_wide 4 Tryz.f4 rfl rfl rfl rfl rfl rfl rfl ⟨rfl, rfl, rfl, rfl, rfl⟩ rfl rfl rfl rfl rfl (by kernel_rfl) Tryz.func4 (by kernel_rfl)
  (of_decide_eq_true (by kernel_rfl)) (by unfold Func.isWrapper; first | (rw [if_pos (by decide +kernel)]; kernel_rfl) | (rw [if_neg (by decide +kernel)]; exact ⟨rfl, rfl⟩))
  (fun os started H enc _ => lifted os started H enc)
theorem proved : Rows.ScriptBackCardSaid :=
 Claim7.holds_tied_plain_at .later [] [.data, .data, .data, .data, .sentinel, .sentinel, .pinned] true (true, "7679bc01a58e740ef23450ff9de0023fc52534e86f6c488da53126dc2b8c83c0") true
  said (fun _ h => by cases h) (by kernel_rfl) (fun _ h => by cases h) scriptBack_row_tie rfl ⟨rfl, rfl⟩ (by kernel_rfl) rfl
  (fun f fn hf hfn => by
   obtain rfl : f = 4 := Option.some.inj ((show Tryz.prog.funcNamed Rows.scriptBackRow.func = some 4 by kernel_rfl).symm.trans hf) |>.symm
   obtain rfl : fn = Tryz.f4 := (Option.some.inj (Tryz.func4.symm.trans hfn)).symm
   exact ⟨by kernel_rfl, fun j t ht => by
    rw [Tryz.params4] at ht
    rcases j with _ | j
    ·simp at ht
     subst ht
     kernel_rfl
    ·simp at ht⟩)
  (by kernel_rfl)
#print axioms proved
end Go.Proofs.YtnpkdiffpgcbhaaGreatDoor.scriptBack
