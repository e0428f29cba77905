/- The parser, walked (ParP). Conditions: each theorem's own. -/
import Derived.Test.YtnpkdiffpgcbhaaGreatDoorS32
set_option maxRecDepth 100000
set_option maxHeartbeats 1600000
namespace Go.Proofs.YtnpkdiffpgcbhaaGreatDoor
open Go.RowKit
attribute [local go_sem] Oper.semAt_some
theorem set1_any {w0 : World} {pb h : Nat} {T : List Lx} (hl : pb < h) (acc : List (Bs × GV)) (k : Nat) (W : World) (hi : RI (sC pb h) w0 T acc k W) :
  Calls Tryz.prog 113 #[.pointer (some ⟨h, 0, none⟩), .pointer (some ⟨h + 1, 0, none⟩)] W (OneEnd T k (fun a k' W' => RI (sC pb h) w0 T (acc ++ [a]) k' W') (FP (fun i => i = pb) w0) (pGiven (T.drop k))) := by
 unfold pGiven
 rcases h0 : takeL 0 [] (T.drop k) with _ | ⟨f, r⟩
 ·exact set1_none0 hl acc k W hi h0
 ·simp only
  rcases h1 : takeL 4 [61] r with _ | ⟨t, r1⟩
  ·exact set1_none1 hl acc k W hi h0 h1
  ·simp only
   rcases h2 : pVal maxDeep r1 with _ | ⟨gv, r2⟩
   ·exact set1_none2 hl acc k W hi h0 h1 h2
   ·exact set1_some hl acc k W hi h0 h1 h2
theorem ri_list {α : Type} {C : RowC α} (ok : RowOk C) {w0 : World} {T : List Lx} (one : List Lx → Option (α × List Lx)) (s : ByteArray) (gf : Nat) (cap : Array Value)
  (hen : ∀ (args : Array Value) (w : World), (callFunc gf args).run Tryz.prog w = .ok (.enter gf args) w)
  (h3 : ∀ acc k W, RI C w0 T acc k W → Calls Tryz.prog gf cap W (OneEnd T k (fun a k' W' => RI C w0 T (acc ++ [a]) k' W') (FP (fun i => i = C.pb) w0) (one (T.drop k)))) {k0 : Nat} {w : World} (hI : RI C w0 T [] k0 w) :
  Calls Tryz.prog 76 #[.pointer (some ⟨C.pb, 0, none⟩), .string s, .func (.func gf) #[] cap] w (ListEnd T k0 (RI C w0 T) (FP (fun i => i = C.pb) w0) (listL one s.data.toList ((T.drop k0).length + 1) true (T.drop k0))) :=
 list_any (pb := C.pb) (T := T) one s gf cap (RI C w0 T) (FP (fun i => i = C.pb) w0) hen
  (fun _acc _k _W1 ⟨_v, _xs, hs, _⟩ => hs.p) (fun _acc _k _k' _W1 _W2 hk ⟨v, xs, hs, hc⟩ hp hf => ⟨v, xs, hs.far ok hf hp, Nat.le_trans hc hk⟩) h3
  (fun _acc _k _W1 _W2 ⟨_v, _xs, hs, _⟩ hf => hs.fp.trans hf (fun _i hi => .inl hi)) hI
def FieldsAt (w0 : World) (l : List (Bs × GV)) (v : Value) (w : World) : Prop :=
 ∃ xs, SliceAt w (fun b => w0.heap.size ≤ b) v l.length (l.length * 6) xs ∧ RdRow (RdG w (fun b => w0.heap.size ≤ b)) xs l
theorem set_none0 {w : World} {pb k : Nat} {T : List Lx} (hp : PAt w pb T k) (h0 : takeL 4 [123] (T.drop k) = none) : Calls Tryz.prog 82 #[.pointer (some ⟨pb, 0, none⟩)] w (REnd w pb T k (FieldsAt w) none) := by
 have hp1 : PAt ((w.alloc (.cells #[.pointer (some ⟨pb, 0, none⟩)] 104)).alloc (.cells #[.slice none 0 0] 55)) pb T k := hp.fp (S := nob) (((FP.refl _ w).alloc _).alloc _) (fun _ h => h.elim)
 have x1 : ((w.alloc (.cells #[.pointer (some ⟨pb, 0, none⟩)] 104)).alloc (.cells #[.slice none 0 0] 55)).cell? ⟨w.heap.size, 0, none⟩ = some (.pointer (some ⟨pb, 0, none⟩)) := cell_blk ((heap_alloc_ne (by simp)).trans (heap_new_at rfl _))
 have HP1 := Lib.hid hp1
 clear hp hp1
 go_enter Tryz.func82, Tryz.ntmps82
 go_wp2_with fail
 refine (take_none HP1.out 4 ⟨#[123]⟩ h0).mono ?_
 rintro e w9 ⟨rfl, hf⟩
 exact ⟨rfl, rfl, (((FP.refl _ w).alloc _).alloc _).trans hf (fun i hi => .inl hi)⟩
theorem set_list {w : World} {pb k : Nat} {T : List Lx} (hp : PAt w pb T k) {t : Bs} {r : List Lx} (h0 : takeL 4 [123] (T.drop k) = some (t, r)) : Calls Tryz.prog 82 #[.pointer (some ⟨pb, 0, none⟩)] w (REnd w pb T k (FieldsAt w) (listL pGiven [125] (r.length + 1) true r)) := by
 obtain ⟨hlt, t1, rfl, t2⟩ := takeL_drop h0
 have hlow : pb < w.heap.size := hp.lt
 have ok := sC_ok (h := w.heap.size) hlow
 have hst : RowSt (sC pb w.heap.size) w T [] [] k (.slice none 0 0) (.slice none 0 0) 0 [] none ((w.alloc (.cells #[.pointer (some ⟨pb, 0, none⟩)] 104)).alloc (.cells #[.slice none 0 0] 55)) := by
  refine ⟨hp.fp (S := nob) (((FP.refl _ w).alloc _).alloc _) (fun _ h => h.elim), fun y hy => ?_, heap_new_at (by simp [sC]) _, World.ownsRow_nil _ _ _ _, .nil, fun x hx => (by cases hx), ((FP.refl _ w).alloc _).alloc _, Nat.le_succ _⟩
  simp only [sC, List.mem_cons, List.not_mem_nil, or_false] at hy
  subst hy
  exact (heap_alloc_ne (by simp)).trans (heap_new_at rfl _)
 have x1 : ((w.alloc (.cells #[.pointer (some ⟨pb, 0, none⟩)] 104)).alloc (.cells #[.slice none 0 0] 55)).cell? ⟨w.heap.size, 0, none⟩ = some (.pointer (some ⟨pb, 0, none⟩)) := cell_blk (hst.kp _ (List.mem_cons_self ..))
 obtain ⟨res, hres⟩ : ∃ res, listL pGiven [125] ((T.drop (k + 1)).length + 1) true (T.drop (k + 1)) = res := ⟨_, rfl⟩
 rw [hres]
 have HST := Lib.hid hst
 have OK := Lib.hid ok
 have HLOW := Lib.hid hlow
 have HRES := Lib.hid hres
 clear hp hst ok hlow t1 t2 hres
 cases res with
 | none =>
  go_enter Tryz.func82, Tryz.ntmps82
  go_wp2_with fail
  refine (take_some HST.out.p 4 ⟨#[123]⟩ h0).mono ?_
  rintro e w1 ⟨y, rfl, _, hp, hf⟩
  have HS1 := Lib.hid (HST.out.far OK.out hf hp)
  have x2 : w1.cell? ⟨w.heap.size, 0, none⟩ = some (.pointer (some ⟨pb, 0, none⟩)) := cell_blk (HS1.out.kp _ (List.mem_cons_self ..))
  clear hp hf
  go_wp2_with fail
  have hl := ri_list (C := sC pb w.heap.size) OK.out (w0 := w) (T := T) pGiven ⟨#[125]⟩ 113 #[.pointer (some ⟨w.heap.size, 0, none⟩), .pointer (some ⟨w.heap.size + 1, 0, none⟩)] (fun _ _ => rfl) (fun acc k W hi => set1_any HLOW.out acc k W hi) (k0 := k + 1) (w := w1) ⟨_, _, HS1.out, Nat.zero_le _⟩
  have hl2 : listL pGiven (⟨#[125]⟩ : ByteArray).data.toList ((T.drop (k + 1)).length + 1) true (T.drop (k + 1)) = none := HRES.out
  rw [hl2] at hl
  refine hl.mono ?_
  rintro e w2 ⟨rfl, hf⟩
  exact ⟨rfl, rfl, hf⟩
 | some p =>
  obtain ⟨l, r2⟩ := p
  go_enter Tryz.func82, Tryz.ntmps82
  go_wp2_with fail
  refine (take_some HST.out.p 4 ⟨#[123]⟩ h0).mono ?_
  rintro e w1 ⟨y, rfl, _, hp, hf⟩
  have HS1 := Lib.hid (HST.out.far OK.out hf hp)
  have x2 : w1.cell? ⟨w.heap.size, 0, none⟩ = some (.pointer (some ⟨pb, 0, none⟩)) := cell_blk (HS1.out.kp _ (List.mem_cons_self ..))
  clear hp hf
  go_wp2_with fail
  have hl := ri_list (C := sC pb w.heap.size) OK.out (w0 := w) (T := T) pGiven ⟨#[125]⟩ 113 #[.pointer (some ⟨w.heap.size, 0, none⟩), .pointer (some ⟨w.heap.size + 1, 0, none⟩)] (fun _ _ => rfl) (fun acc k W hi => set1_any HLOW.out acc k W hi) (k0 := k + 1) (w := w1) ⟨_, _, HS1.out, Nat.zero_le _⟩
  have hl2 : listL pGiven (⟨#[125]⟩ : ByteArray).data.toList ((T.drop (k + 1)).length + 1) true (T.drop (k + 1)) = some (l, r2) := HRES.out
  rw [hl2] at hl
  refine hl.mono ?_
  rintro e w2 ⟨rfl, k', hr2, hk1, hk2, v, xs, hs, hcnt⟩
  have c0 : w2.cell? ⟨w.heap.size + 1, 0, none⟩ = some v := cell_blk hs.hd
  have HS := Lib.hid hs
  have HR : Hid (r2 = T.drop k' ∧ k + 1 < k' ∧ k' ≤ T.length) := Lib.hid ⟨hr2, hk1, hk2⟩
  clear hs hr2 hk1 hk2 hcnt hl hl2
  go_wp2_with fail
  refine bodyPost_end (v := v) (by simp [results, Tryz.results82]) rfl ?_
  have hsl : SliceAt w2 (fun b => w.heap.size + 1 + 1 ≤ b) v l.length (l.length * 6) xs := SliceAt.own HS.out.row
  refine ⟨v, k', rfl, ⟨xs, hsl.wide (fun g hg _ => by omega), HS.out.old.imp (fun c a _ hc => RdG.trans' (fun g hg _ => ⟨rfl, by have h1 : w.heap.size + 1 < g := hg.1; omega⟩) hc)⟩, HR.out.1, by have := HR.out.2.1; omega, HR.out.2.2, HS.out.p, HS.out.fp⟩
theorem set_any {w : World} {pb k : Nat} {T : List Lx} (hp : PAt w pb T k) : Calls Tryz.prog 82 #[.pointer (some ⟨pb, 0, none⟩)] w (REnd w pb T k (FieldsAt w) (pSet (T.drop k))) := by
 unfold pSet
 rcases h0 : takeL 4 [123] (T.drop k) with _ | ⟨t, r⟩
 ·exact set_none0 hp h0
 ·exact set_list hp h0
end Go.Proofs.YtnpkdiffpgcbhaaGreatDoor
