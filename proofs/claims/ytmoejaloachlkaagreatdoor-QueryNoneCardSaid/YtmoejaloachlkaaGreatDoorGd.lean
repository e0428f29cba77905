/- The evaluator's soundness, 35: texts out of bytes; conversions. -/
import Derived.Test.YtmoejaloachlkaaGreatDoorGc
import Derived.Laws.BytesString
namespace Go.Proofs.YtmoejaloachlkaaGreatDoor.Ev
open Go Go.RowKit

theorem ofBytes_sound : ∀ {l : List AV} {a v : Nat}, ofBytes l a = some v → ∃ bl : List UInt8, l = bl.map (fun b => AV.int .u8 (.ofNat b.toNat)) ∧ v = bl.foldl (fun a b => a * 256 + b.toNat) a
  | [], a, v, h => by cases h; exact ⟨[], rfl, rfl⟩
  | x :: l, a, v, h => by
    unfold ofBytes at h
    split at h
    · cases ‹x :: l = []›
    · rename_i a0 b l' heq
      cases heq
      rw [Bool.cond_eq_ite] at h
      split at h
      · rename_i hb
        have hb : b < 256 := by simpa [Nat.blt_eq] using hb
        obtain ⟨bl, h1, h2⟩ := ofBytes_sound h
        have : (UInt8.ofNat b).toNat = b := by simp; omega
        exact ⟨UInt8.ofNat b :: bl, by rw [List.map_cons, this, ← h1], by rw [List.foldl_cons, this]; exact h2⟩
      · cases h
    · cases h
section
variable {P : Program} {B : Nat} {π : Pi} {H H' : Hp} {w : World} {v : AV} {as : List AV} {cargs : Array Value} {ts : Array TypeId} {u : TypeId}
/-- Known bytes in a row. -/
theorem bytes_sound (hH : HRel π B H w) {b o n c z a : Nat} {x : Blk} (hx : H.get b = some x) (hp : π b = some (c, z)) {l : List AV} (h : x.rds o n = some l) (hb : ofBytes l 0 = some a) :
    ∃ bl : List UInt8, bl.length = n ∧ a = natOf bl ∧ (loadCells ⟨c, o, none⟩ n).run P w = .ok (bl.map fun b => Value.int .u8 b.toNat).toArray w ∧ ∀ j y, bl[j]? = some y → w.cell? ((⟨c, o, none⟩ : Addr).add j) = some (.int .u8 y.toNat) := by
  obtain ⟨bl, h1, h2⟩ := ofBytes_sound hb
  obtain ⟨cs, k1, k2⟩ := run_rds (P := P) hH hx hp h
  obtain ⟨q1, q2⟩ := rds_get h
  have hcs : cs = bl.map fun b => Value.int .u8 b.toNat := by
    subst h1
    clear h h2 hb q1 q2 k1 hx
    induction bl generalizing cs with
    | nil => cases k2; rfl
    | cons y bl ih =>
      cases k2 with
      | cons _ cy _ cs' k k' =>
        have := VR.int_inv k
        subst this
        rw [ih _ k']
        rfl
  have hlen : bl.length = n := by rw [h1, List.length_map] at q1; exact q1
  refine ⟨bl, hlen, h2, by rw [← hcs]; exact k1, fun j y hj => ?_⟩
  have hjn : j < n := by rw [← hlen]; exact (List.getElem?_eq_some_iff.1 hj).1
  obtain ⟨v, a1, a2⟩ := q2 j hjn
  obtain ⟨cv, a3, a4⟩ := rd_cell hH hx hp a2
  rw [h1, List.getElem?_map, hj] at a1
  cases a1
  have := VR.int_inv a4
  subst this
  rw [Addr.add_lit']
  exact a3
theorem liesAt_row {e t : TypeId} (hc : P.cellsOf e = 1) (hu : P.underlyingId e = P.underlyingId t) (count o n : Nat) (hn : o + n ≤ count) : liesAt P P.depth e count o t n = true := by
  have hd : P.depth = (2 * (P.types.size + Made.depth) + 1) + 1 := rfl
  rw [hd]
  simp only [liesAt, Bool.or_eq_true]
  left
  rw [hd]
  simp [rowAt, hc, hn, sameLayout, hu, Nat.mod_one]
theorem heap_freeze {w : World} {c o n e : Nat} {arr : Array Value} {fz : Nat × Nat} (h : w.heap[c]? = some (.cells arr e fz)) (hn : 0 < n) :
    (w.freeze ⟨c, o, none⟩ n).heap[c]? = some (.cells arr e (if fz.1 == fz.2 then (o, o + n) else (min fz.1 o, max fz.2 (o + n)))) ∧ (∀ k, k ≠ c → (w.freeze ⟨c, o, none⟩ n).heap[k]? = w.heap[k]?) ∧ (w.freeze ⟨c, o, none⟩ n).heap.size = w.heap.size ∧ ((w.freeze ⟨c, o, none⟩ n).os = w.os ∧ (w.freeze ⟨c, o, none⟩ n).tape = w.tape ∧ (w.freeze ⟨c, o, none⟩ n).output = w.output) := by
  unfold World.freeze
  rw [if_neg (by omega)]
  obtain ⟨f1, f2⟩ := fz
  refine ⟨?_, ?_, by simp, ⟨rfl, rfl, rfl⟩⟩
  · simp only [Array.getElem?_modify, if_true, h, Option.map_some]
  · intro k hk
    simp only [Array.getElem?_modify]
    rw [if_neg (fun e => hk e.symm)]
theorem string_run (hH : HRel π B H w) (ha : VRs π as cargs.toList) : ORun P B π H w (do let y ← Builtin.unsafeString_ ts u cargs; pure (.value y)) (builtinB P .unsafeString ts as H) := by
  have none_run : ∀ (p : Option Addr) (j : IntKind) (pt : TypeId), ts[0]? = some pt → (Builtin.unsafeString_ ts u #[.pointer p, .int j 0]).run P w = .ok (.string .empty) w := by
    intro p j pt ht
    have ha : (asInt (.int j 0)).run P w = .ok 0 w := rfl
    have hmax : IntKind.i64.max = 9223372036854775807 := rfl
    cases p with
    | none =>
      obtain ⟨m0, m1, m2, m3, hdef⟩ : ∃ m0 m1 m2 m3, Builtin.unsafeString_ ts u #[.pointer none, .int j 0] = (do
          let n ← asInt (.int j 0)
          let some pt := ts[0]? | stuck m0
          if n < 0 then runtimePanic (.error m1)
          if n > IntKind.i64.max then unsupported (.unsafePointer m2)
          if n = 0 then pure (.string .empty)
          else runtimePanic (.error m3)) := ⟨_, _, _, _, rfl⟩
      rw [hdef]
      simp only [Sem.run_bind, ha, Result.andThen_ok, ht]
      simp [hmax]
    | some a =>
      obtain ⟨m0, m1, m2, m3, hdef⟩ : ∃ m0 m1 m2 m3, Builtin.unsafeString_ ts u #[.pointer (some a), .int j 0] = (do
          let n ← asInt (.int j 0)
          let some pt := ts[0]? | stuck m0
          if n < 0 then runtimePanic (.error m1)
          if n > IntKind.i64.max then unsupported (.unsafePointer m2)
          if n = 0 then pure (.string .empty)
          else if ← variablesAt a (← elemOf pt) n.toNat then do
            let s ← loadBytes a .empty n.toNat
            freeze a n.toNat
            pure (.string s)
          else unsupported (.unsafePointer m3)) := ⟨_, _, _, _, rfl⟩
      rw [hdef]
      simp only [Sem.run_bind, ha, Result.andThen_ok, ht]
      simp [hmax]
  unfold builtinB
  simp only
  split
  · rename_i t j ht
    obtain ⟨cx, vs, rfl, h1, h2⟩ := arr_cons ha
    cases h2 with
    | cons _ cy _ vs' h2 h3 =>
    cases h3
    cases h1
    cases h2
    exact OVal.pure hH (none_run none j _ ht) (.str ByteArray.empty)
  · rename_i t b o j n ht
    obtain ⟨cx, vs, rfl, h1, h2⟩ := arr_cons ha
    cases h2 with
    | cons _ cy _ vs' h2 h3 =>
    cases h3
    cases h2
    cases h1 with
    | ptr _ _ c z hp =>
    split
    · exact OVal.pure hH (none_run _ j _ ht) (.str ByteArray.empty)
    · rename_i hn0
      split
      · rename_i t' ub tr d k e lo hi sib hu hb
        rw [Bool.cond_eq_ite]
        split
        · rename_i hc
          simp only [Bool.and_eq_true, Nat.beq_eq, Nat.ble_eq, Nat.blt_eq] at hc
          obtain ⟨⟨⟨⟨⟨c1, c2⟩, c3⟩, c4⟩, c5⟩, c6⟩ := hc
          split
          · rename_i l hl
            split
            · rename_i a hof
              obtain ⟨bl, q1, q2, q3, q4⟩ := bytes_sound (P := P) hH hb hp hl hof
              obtain ⟨c0, arr, fz, a1, a2, a3, a4, a5, a6, a7⟩ := hH.cells hb
              rw [hp] at a1; cases a1
              have hnp : 0 < n := Nat.pos_of_ne_zero fun e => hn0 e
              obtain ⟨f1, f2, f3, f4⟩ := heap_freeze (o := o) (n := n) a2 hnp
              have hsh : w.shape? c = some (e, arr.size) := by unfold World.shape?; rw [a2]
              have hlies : liesAt P P.depth e (arr.size / P.cellsOf e) o ub n = true := liesAt_row c3 c2.symm _ o n (by rw [c3, Nat.div_one]; omega)
              have hlb := Lib.run_loadBytes (P := P) w bl ⟨c, o, none⟩ .empty q4
              have hmax : IntKind.i64.max = 9223372036854775807 := rfl
              have hn63 : ¬ ((n : Int) > IntKind.i64.max) := by rw [hmax]; unfold big63 at c5; omega
              have hneg : ¬ ((n : Int) < 0) := by omega
              have hn0' : ¬ ((n : Int) = 0) := by omega
              have hai : (asInt (.int j (Int.ofNat n))).run P w = .ok (n : Int) w := rfl
              have hrun : (Builtin.unsafeString_ ts u [.pointer (some ⟨c, o, none⟩), .int j (Int.ofNat n)].toArray).run P w = .ok (.string ⟨bl.toArray⟩) (w.freeze ⟨c, o, none⟩ n) := by
                obtain ⟨m0, m1, m2, m3, hdef⟩ : ∃ m0 m1 m2 m3, Builtin.unsafeString_ ts u [.pointer (some ⟨c, o, none⟩), .int j (Int.ofNat n)].toArray = (do
                    let n ← asInt (.int j (Int.ofNat n))
                    let some pt := ts[0]? | stuck m0
                    if n < 0 then runtimePanic (.error m1)
                    if n > IntKind.i64.max then unsupported (.unsafePointer m2)
                    if n = 0 then pure (.string .empty)
                    else if ← variablesAt ⟨c, o, none⟩ (← elemOf pt) n.toNat then do
                      let s ← loadBytes ⟨c, o, none⟩ .empty n.toNat
                      freeze ⟨c, o, none⟩ n.toNat
                      pure (.string s)
                    else unsupported (.unsafePointer m3)) := ⟨_, _, _, _, rfl⟩
                rw [hdef]
                simp only [Sem.run_bind, hai, Result.andThen_ok, ht, hneg, hn63, hn0', if_false]
                rw [q1] at hlb
                simp [variablesAt, hsh, elemOf, run_underlying hu, hlies, hlb]
              have hv : VR π (.str n a) (.string ⟨bl.toArray⟩) := by
                have := VR.str (π := π) ⟨bl.toArray⟩
                have e1 : (⟨bl.toArray⟩ : ByteArray).size = n := by show bl.toArray.size = n; simpa using q1
                rw [e1, ← q2] at this
                exact this
              generalize hfz : (bif Nat.beq lo hi then (o, o + n) else (minN lo o, bif Nat.ble hi (o + n) then o + n else hi)) = fz2
              have hin : ∀ fz' : Nat × Nat, fz' = (if fz.1 == fz.2 then (o, o + n) else (min fz.1 o, max fz.2 (o + n))) → fz'.1 ≤ fz'.2 ∧ ∀ j, fz'.1 ≤ j → j < fz'.2 → (fz2.1 ≤ j ∧ j < fz2.2) ∨ (fz2.2 < fz2.1 ∧ arr.size ≤ j) := by
                intro fz' e'
                obtain ⟨g1, g2⟩ := a4 rfl
                have hmm : minN lo o = min lo o := by unfold minN; cases hq : Nat.ble lo o with
                  | true => have : lo ≤ o := by simpa using hq
                            rw [cond_true]; omega
                  | false => have : ¬ lo ≤ o := fun h => by rw [Nat.ble_eq_true_of_le h] at hq; cases hq
                             rw [cond_false]; omega
                have hM : (bif Nat.ble hi (o + n) then o + n else hi) = max hi (o + n) := by cases hq : Nat.ble hi (o + n) with
                  | true => have : hi ≤ o + n := by simpa using hq
                            rw [cond_true]; omega
                  | false => have : ¬ hi ≤ o + n := fun h => by rw [Nat.ble_eq_true_of_le h] at hq; cases hq
                             rw [cond_false]; omega
                rw [hmm, hM] at hfz
                by_cases hr : fz.1 = fz.2
                · have : (fz.1 == fz.2) = true := by simpa using hr
                  rw [this, if_pos rfl] at e'
                  subst e'
                  refine ⟨by simp, fun j j1 j2 => .inl ?_⟩
                  simp only at j1 j2
                  cases hlh : Nat.beq lo hi with
                  | true => rw [hlh, cond_true] at hfz; subst hfz; exact ⟨j1, j2⟩
                  | false => rw [hlh, cond_false] at hfz; subst hfz; simp only; omega
                · have : ¬ ((fz.1 == fz.2) = true) := by simpa using hr
                  rw [if_neg this] at e'
                  subst e'
                  have r1 := g2 fz.1 (Nat.le_refl _) (by omega)
                  have r2 := g2 (fz.2 - 1) (by omega) (by omega)
                  refine ⟨by simp only; omega, fun j j1 j2 => .inl ?_⟩
                  simp only at j1 j2
                  cases hlh : Nat.beq lo hi with
                  | true => have : lo = hi := Nat.eq_of_beq_eq_true hlh
                            omega
                  | false => rw [hlh, cond_false] at hfz; subst hfz; simp only; omega
              refine OVal.mk hrun hv (Step.write (x' := .cells tr d k e fz2.1 fz2.2 true sib) hH hb rfl hp f1 f2 f3 f4 (Evo.noMap (by simp)) ⟨arr, _, rfl, rfl, a3, fun _ => hin _ rfl, a5, a6⟩ rfl (fun _ => rfl) rfl ?_)
              intro i y hy
              rw [Hp.get_set] at hy
              split at hy
              · rename_i e1; cases hy; exact .inl ⟨e1, rfl⟩
              · rename_i hne
                refine .inr ⟨hne, hy, fun z' hz' => ?_⟩
                obtain ⟨s1, s2⟩ := hH.sep b _ i y c _ z' hb hy hp hz' (fun e => hne e.symm)
                obtain ⟨s3, s4⟩ := s2 rfl
                obtain ⟨ci, zi, oi, b1, b2, b3, b4⟩ := hH.blk i y hy
                rw [hz'] at b1; cases b1
                rw [a2] at b2; cases b2
                cases y with
                | cells ty dy ny ey loy hiy wy sy =>
                  obtain ⟨arr2, fz3, p1, p2, p3, p4, p5, p6⟩ := b3
                  cases p1
                  have hw : wy = false := s4
                  exact ⟨arr, _, rfl, p2, p3, fun e => (by rw [hw] at e; cases e), p5, p6⟩
                | map => exact absurd s4 (by simp [Blk.wr])
                | loop => exact absurd s4 (by simp [Blk.wr])
                | dfr => exact absurd s4 (by simp [Blk.wr])
                | siter => exact absurd s4 (by simp [Blk.wr])
                | miter => exact absurd s4 (by simp [Blk.wr])
            · trivial
          · trivial
        · trivial
      · trivial
  · trivial
end
end Go.Proofs.YtmoejaloachlkaaGreatDoor.Ev
