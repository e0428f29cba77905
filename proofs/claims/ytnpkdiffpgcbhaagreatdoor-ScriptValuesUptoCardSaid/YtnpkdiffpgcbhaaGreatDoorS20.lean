/- The parser, walked (ParC). Conditions: each theorem's own. -/
import Derived.Test.YtnpkdiffpgcbhaaGreatDoorS19
import Derived.Deep.LoopGhost
set_option maxRecDepth 100000
set_option maxHeartbeats 1600000
namespace Go.Proofs.YtnpkdiffpgcbhaaGreatDoor
open Go.RowKit
def OneEnd {α : Type} (T : List Lx) (k : Nat) (I : α → Nat → World → Prop) (J : World → Prop) (res : Option (α × List Lx)) (e : Ending) (w' : World) : Prop :=
 match res with
 | some (a, r) => e = .returned (.tuple #[]) ∧ ∃ k', r = T.drop k' ∧ k < k' ∧ k' ≤ T.length ∧ I a k' w'
 | none => e = .panicked [{ v := .iface 132 (.agg #[]), recovered := false }] ∧ J w'
theorem takeL_some {kd : Nat} {s : Bs} {l : List Lx} (h : isL kd s l = true) : ∃ t r, takeL kd s l = some (t, r) := by
 rw [← takeL_is] at h
 obtain ⟨p, hp⟩ := Option.isSome_iff_exists.1 h
 exact ⟨p.1, p.2, hp⟩
def Tie {α : Type} (T : List Lx) (one : List Lx → Option (α × List Lx)) (e : Bs) (R0 : Option (List α × List Lx)) (acc : List α) (b : Bool) (k : Nat) : Prop :=
 ∃ n, T.length - k < n ∧ R0 = (listL one e n b (T.drop k)).map fun p => (acc ++ p.1, p.2)
section
variable {α : Type} {T : List Lx} {one : List Lx → Option (α × List Lx)} {e : Bs} {R0 : Option (List α × List Lx)} {acc : List α} {k : Nat}
theorem Tie.end_true (h : Tie T one e R0 acc true k) (hi : isL 4 e (T.drop k) = true) : R0 = some (acc, T.drop (k + 1)) := by
 obtain ⟨n, hn, h⟩ := h
 match n, hn with
 | n + 1, hn =>
  obtain ⟨t, r, ht⟩ := takeL_some hi
  obtain ⟨_, _, hr, _⟩ := takeL_drop ht
  rw [h, listL, if_pos rfl, if_pos hi, ht, hr]; simp
theorem Tie.end_false (h : Tie T one e R0 acc false k) (hc : takeL 4 [44] (T.drop k) = none) : R0 = (takeL 4 e (T.drop k)).map fun p => (acc, p.2) := by
 obtain ⟨n, hn, h⟩ := h
 match n, hn with
 | n + 1, hn =>
  rw [h, listL, if_neg (by simp), hc]
  simp [Function.comp_def]
theorem Tie.first_none (h : Tie T one e R0 acc true k) (hi : isL 4 e (T.drop k) = false) (ho : one (T.drop k) = none) : R0 = none := by
 obtain ⟨n, hn, h⟩ := h
 match n, hn with
 | n + 1, hn => rw [h, listL, if_pos rfl, if_neg (by rw [hi]; simp), ho]; rfl
theorem Tie.first_some (h : Tie T one e R0 acc true k) (hi : isL 4 e (T.drop k) = false) {a : α} {k' : Nat} (hk : k < k') (hl : k' ≤ T.length) (ho : one (T.drop k) = some (a, T.drop k')) : Tie T one e R0 (acc ++ [a]) false k' := by
 obtain ⟨n, hn, h⟩ := h
 match n, hn with
 | n + 1, hn =>
  refine ⟨n, by omega, ?_⟩
  rw [h, listL, if_pos rfl, if_neg (by rw [hi]; simp), ho]
  simp [Function.comp_def]
theorem Tie.next_none (h : Tie T one e R0 acc false k) {t : Bs} {r : List Lx} (hc : takeL 4 [44] (T.drop k) = some (t, r)) (ho : one (T.drop (k + 1)) = none) : R0 = none := by
 obtain ⟨n, hn, h⟩ := h
 obtain ⟨_, _, hr, _⟩ := takeL_drop hc
 match n, hn with
 | n + 1, hn => rw [h, listL, if_neg (by simp), hc]; simp only; rw [hr, ho]; rfl
theorem Tie.next_some (h : Tie T one e R0 acc false k) {t : Bs} {r : List Lx} (hc : takeL 4 [44] (T.drop k) = some (t, r)) {a : α} {k' : Nat} (hk : k < k') (hl : k' ≤ T.length) (ho : one (T.drop (k + 1)) = some (a, T.drop k')) : Tie T one e R0 (acc ++ [a]) false k' := by
 obtain ⟨n, hn, h⟩ := h
 obtain ⟨_, _, hr, _⟩ := takeL_drop hc
 match n, hn with
 | n + 1, hn =>
  refine ⟨n, by omega, ?_⟩
  rw [h, listL, if_neg (by simp), hc]
  simp only
  rw [hr, ho]
  simp [Function.comp_def]
end
def ListEnd {α : Type} (T : List Lx) (k : Nat) (I : List α → Nat → World → Prop) (J : World → Prop) (res : Option (List α × List Lx)) (e : Ending) (w' : World) : Prop :=
 match res with
 | some (l, r) => e = .returned (.tuple #[]) ∧ ∃ k', r = T.drop k' ∧ k < k' ∧ k' ≤ T.length ∧ I l k' w'
 | none => e = .panicked [{ v := .iface 132 (.agg #[]), recovered := false }] ∧ J w'
theorem list_any {α : Type} {pb : Nat} {T : List Lx} (one : List Lx → Option (α × List Lx)) (s : ByteArray) (gf : Nat) (cap : Array Value) (I : List α → Nat → World → Prop) (J : World → Prop)
  (hen : ∀ (args : Array Value) (w : World), (callFunc gf args).run Tryz.prog w = .ok (.enter gf args) w)
  (h1 : ∀ acc k W, I acc k W → PAt W pb T k) (h2 : ∀ acc k k' W W', k ≤ k' → I acc k W → PAt W' pb T k' → FP (fun i => i = pb) W W' → I acc k' W')
  (h3 : ∀ acc k W, I acc k W → Calls Tryz.prog gf cap W (OneEnd T k (fun a k' W' => I (acc ++ [a]) k' W') J (one (T.drop k))))
  (h4 : ∀ acc k W W', I acc k W → FP (fun i => i = pb) W W' → J W') {k0 : Nat} {w : World} (hI : I [] k0 w) :
  Calls Tryz.prog 76 #[.pointer (some ⟨pb, 0, none⟩), .string s, .func (.func gf) #[] cap] w (ListEnd T k0 I J (listL one s.data.toList ((T.drop k0).length + 1) true (T.drop k0))) := by
 obtain ⟨R0, hR⟩ : ∃ R0, listL one s.data.toList ((T.drop k0).length + 1) true (T.drop k0) = R0 := ⟨_, rfl⟩
 have ht : Tie T one s.data.toList R0 [] true k0 := ⟨(T.drop k0).length + 1, by rw [List.length_drop]; exact Nat.lt_succ_self _, by rw [hR]; simp⟩
 rw [hR]
 have H1 := Lib.hid h1
 have H2 := Lib.hid h2
 have H3 := Lib.hid h3
 have H4 := Lib.hid h4
 have HI := Lib.hid hI
 have HT := Lib.hid ht
 clear h1 h2 h3 h4 hR hI ht
 go_enter Tryz.func76, Tryz.ntmps76
 go_wp2_with fail
 go_loopg [6] (T.length - k0 + 1) (fun m first wr => ∃ (acc : List α) (k : Nat) (b : Bool), first = .bool b ∧ k0 ≤ k ∧ T.length - k < m ∧ Hid (I acc k wr) ∧ Hid (Tie T one s.data.toList R0 acc b k))
 case atStart => exact ⟨[], k0, true, rfl, Nat.le_refl _, by omega, HI, HT⟩
 case round =>
  obtain ⟨acc, k, b, rfl, hk0, hm, hI, hT⟩ := hrel
  cases b with
  | true =>
   obtain ⟨bi, hbi⟩ : ∃ bi, isL 4 s.data.toList (T.drop k) = bi := ⟨_, rfl⟩
   have hc := is_any (H1.out _ _ _ hI.out) 4 s
   rw [hbi] at hc
   have HC : Hid (Calls Tryz.prog 72 #[.pointer (some ⟨pb, 0, none⟩), .int .i64 4, .string s] wr fun e w' => e = .returned (.bool bi) ∧ ∃ q, w' = wr.drewN q) := Lib.hid hc
   have HB := Lib.hid hbi
   clear hbi hc
   have HEN := Lib.hid hen
   clear hen
   cases bi with
   | true =>
    go_wp2_with fail
    refine HC.out.mono ?_
    rintro e w1 ⟨rfl, q, rfl⟩
    have hI1 := H2.out _ _ _ _ (wr.drewN q) (Nat.le_refl _) hI.out ((H1.out _ _ _ hI.out).same (w' := wr.drewN q) (fun _ _ => rfl)) (FP.ofSame (same_drewN _ _))
    obtain ⟨t, r, ht⟩ := takeL_some HB.out
    have hr := (takeL_drop ht).2.2.1
    have hk1 := (takeL_drop ht).1
    have hR0 := hT.out.end_true HB.out
    have HTK := Lib.hid (take_some (H1.out _ _ _ hI1) 4 s ht)
    have HI1 := Lib.hid hI1
    clear hI1 ht hr
    subst hR0
    go_wp2_with fail
    refine HTK.out.mono ?_
    rintro e w2 ⟨x, rfl, _, hp, hf⟩
    have HP := Lib.hid hp
    have HF := Lib.hid hf
    clear hp hf
    go_wp2_with fail
    go_end0
    exact ⟨rfl, k + 1, rfl, by omega, hk1, H2.out _ _ _ _ _ (Nat.le_succ _) HI1.out HP.out HF.out⟩
   | false =>
    obtain ⟨ro, hro⟩ : ∃ ro, one (T.drop k) = ro := ⟨_, rfl⟩
    have hen := HEN.out cap
    go_wp2_with fail
    refine HC.out.mono ?_
    rintro e w1 ⟨rfl, q, rfl⟩
    have hI1 := H2.out _ _ _ _ (wr.drewN q) (Nat.le_refl _) hI.out ((H1.out _ _ _ hI.out).same (w' := wr.drewN q) (fun _ _ => rfl)) (FP.ofSame (same_drewN _ _))
    have h3 := H3.out _ _ _ hI1
    rw [hro] at h3
    have HRO := Lib.hid hro
    have H3' := Lib.hid h3
    clear hI1 hro h3
    go_wp2_with fail
    refine H3'.out.mono ?_
    rintro e w2 h5
    cases ro with
    | none =>
     obtain ⟨rfl, hJ⟩ := h5
     have hR0 := hT.out.first_none HB.out HRO.out
     subst hR0
     exact ⟨rfl, rfl, hJ⟩
    | some p =>
     obtain ⟨a, r⟩ := p
     obtain ⟨rfl, k', rfl, hk1, hk2, hI2⟩ := h5
     have HT2 := Lib.hid (hT.out.first_some HB.out hk1 hk2 HRO.out)
     have HI2 := Lib.hid hI2
     clear hI2 hen
     go_wp2_with fail
     go_roundg (T.length - k' + 1)
     case measure => omega
     case rel => exact ⟨acc ++ [a], k', false, rfl, by omega, by omega, HI2, HT2⟩
  | false =>
   obtain ⟨bi, hbi⟩ : ∃ bi, takeL 4 [44] (T.drop k) = bi := ⟨_, rfl⟩
   have HEN := Lib.hid hen
   clear hen
   cases bi with
   | none =>
    have HC := Lib.hid (mark_none (H1.out _ _ _ hI.out) ⟨#[44]⟩ hbi)
    have HB := Lib.hid hbi
    clear hbi
    go_wp2_with fail
    refine HC.out.mono ?_
    rintro e w1 ⟨rfl, hs⟩
    have hI1 := H2.out _ _ _ _ w1 (Nat.le_refl _) hI.out ((H1.out _ _ _ hI.out).same (w' := w1) (fun _ _ => by rw [hs.1])) (FP.ofSame hs)
    have hR0 := hT.out.end_false HB.out
    have HI1 := Lib.hid hI1
    clear hI1 hs
    obtain ⟨ro, hro⟩ : ∃ ro, takeL 4 s.data.toList (T.drop k) = ro := ⟨_, rfl⟩
    rw [hro] at hR0
    cases ro with
    | none =>
     have HTK := Lib.hid (take_none (H1.out _ _ _ HI1.out) 4 s hro)
     clear hro
     subst hR0
     go_wp2_with fail
     refine HTK.out.mono ?_
     rintro e w2 ⟨rfl, hf⟩
     exact ⟨rfl, rfl, H4.out _ _ _ _ HI1.out hf⟩
    | some p =>
     obtain ⟨t, r⟩ := p
     have hr := (takeL_drop hro).2.2.1
     have hk1 := (takeL_drop hro).1
     have HTK := Lib.hid (take_some (H1.out _ _ _ HI1.out) 4 s hro)
     clear hro
     subst hr
     subst hR0
     go_wp2_with fail
     refine HTK.out.mono ?_
     rintro e w2 ⟨x, rfl, _, hp, hf⟩
     have HP := Lib.hid hp
     have HF := Lib.hid hf
     clear hp hf
     go_wp2_with fail
     go_end0
     exact ⟨rfl, k + 1, rfl, by omega, hk1, H2.out _ _ _ _ _ (Nat.le_succ _) HI1.out HP.out HF.out⟩
   | some p =>
    obtain ⟨t, r⟩ := p
    have HC := Lib.hid (mark_some (H1.out _ _ _ hI.out) ⟨#[44]⟩ hbi)
    have HB := Lib.hid hbi
    clear hbi
    obtain ⟨ro, hro⟩ : ∃ ro, one (T.drop (k + 1)) = ro := ⟨_, rfl⟩
    have hen := HEN.out cap
    go_wp2_with fail
    refine HC.out.mono ?_
    rintro e w1 ⟨rfl, hp, hf⟩
    have hI1 := H2.out _ _ _ _ _ (by omega) hI.out hp hf
    have h3 := H3.out _ _ _ hI1
    rw [hro] at h3
    have HRO := Lib.hid hro
    have H3' := Lib.hid h3
    clear hI1 hro h3 hp hf
    go_wp2_with fail
    refine H3'.out.mono ?_
    rintro e w2 h5
    cases ro with
    | none =>
     obtain ⟨rfl, hJ⟩ := h5
     have hR0 := hT.out.next_none HB.out HRO.out
     subst hR0
     exact ⟨rfl, rfl, hJ⟩
    | some p =>
     obtain ⟨a, r⟩ := p
     obtain ⟨rfl, k', rfl, hk1, hk2, hI2⟩ := h5
     have HT2 := Lib.hid (hT.out.next_some HB.out (by omega) hk2 HRO.out)
     have HI2 := Lib.hid hI2
     clear hI2 hen
     go_wp2_with fail
     go_roundg (T.length - k' + 1)
     case measure => omega
     case rel => exact ⟨acc ++ [a], k', false, rfl, by omega, by omega, HI2, HT2⟩
end Go.Proofs.YtnpkdiffpgcbhaaGreatDoor
