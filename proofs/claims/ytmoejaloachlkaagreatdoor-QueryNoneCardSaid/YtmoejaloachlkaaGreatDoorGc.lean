/- The evaluator's soundness, 34: append, whole. -/
import Derived.Test.YtmoejaloachlkaaGreatDoorGb
namespace Go.Proofs.YtmoejaloachlkaaGreatDoor.Ev
open Go Go.RowKit

theorem lays_append (b : List (Option AV)) : ∀ (a : List (Option AV)) (j : Nat) (c : T AV), lays j (a ++ b) c = lays (j + a.length) b (lays j a c)
  | [], j, c => by simp [lays]
  | v :: a, j, c => by
    rw [List.cons_append, lays, lays_append b a (j + 1), lays, List.length_cons, show j + 1 + a.length = j + (a.length + 1) by omega]
section
variable {P : Program} {B : Nat} {π : Pi} {H H' : Hp} {w : World} {v : AV} {as : List AV} {cargs : Array Value} {ts : Array TypeId} {u : TypeId}
/-- Less is known of a row. -/
theorem Step.cut (hH : HRel π B H w) {b c z : Nat} {tr : T AV} {d : Option AV} {m e flo fhi m' : Nat} {wr : Bool} {sib sb : List Nat} (hb : H.get b = some (.cells tr d m e flo fhi wr sib)) (hp : π b = some (c, z)) (hm : m' ≤ m) :
    Step B π H w π ((dels sb H).set b (.cells tr d m' e flo fhi false [])) w := by
  obtain ⟨c0, arr, fz, a1, a2, a3, a4, a5, a6, a7⟩ := hH.cells hb
  rw [hp] at a1; cases a1
  have inv : ∀ i y, ((dels sb H).set b (.cells tr d m' e flo fhi false [])).get i = some y → (i = b ∧ y = .cells tr d m' e flo fhi false []) ∨ (i ≠ b ∧ H.get i = some y) := by
    intro i y hy
    rw [Hp.get_set] at hy
    split at hy
    · rename_i e; cases hy; exact .inl ⟨e, rfl⟩
    · rename_i hib
      exact .inr ⟨hib, (dels_get hy).1⟩
  refine ⟨.refl π, ⟨hH.low, hH.glob, ?_, fun i p hi => by rw [Hp.nx_set, dels_nx]; exact hH.dom i p hi, ?_⟩, fun _ _ _ => rfl, Nat.le_refl _, by rw [Hp.nx_set, dels_nx]; exact Nat.le_refl _, fun b p h1 h2 => (by rw [h1] at h2; cases h2), ?_, ⟨rfl, rfl, rfl⟩, fun _ _ => Evo.refl _⟩
  · intro i y hy
    rcases inv i y hy with ⟨rfl, rfl⟩ | ⟨h2, h3⟩
    · refine ⟨c, arr.size, .cells arr e fz, hp, a2, ⟨arr, fz, rfl, rfl, by omega, fun h => (by cases h), ?_, a6⟩, fun h => (by cases h)⟩
      intro j v hj
      obtain ⟨q1, q2⟩ := ob_eq (b := Nat.blt j m') hj
      have q1 : j < m' := by simpa [Nat.blt_eq] using q1
      exact a5 j v (by
        show ob (Nat.blt j m) none _ = _
        have : Nat.blt j m = true := by rw [Nat.blt_eq]; omega
        rw [this]; exact q2)
    · exact hH.blk i y h3
  · intro i x i' x' c1 z1 z2 hx hx' hp1 hp2 hne
    rcases inv i x hx with ⟨rfl, rfl⟩ | ⟨h2, h3⟩
    · exact ⟨rfl, fun h => (by cases h)⟩
    · rcases inv i' x' hx' with ⟨rfl, rfl⟩ | ⟨h2', h3'⟩
      · have := hH.sep i x i' _ c1 z1 z2 h3 hb hp1 hp2 hne
        exact ⟨this.1, fun h => ⟨(this.2 h).1, rfl⟩⟩
      · exact hH.sep i x i' x' c1 z1 z2 h3 h3' hp1 hp2 hne
  · intro i y hy
    rcases inv i y hy with ⟨rfl, rfl⟩ | ⟨h2, h3⟩
    · exact .inl ⟨_, hb, fun h => (by cases h)⟩
    · exact .inl ⟨y, h3, id⟩
/-- A row of which the head is known. -/
theorem Step.row (hH : HRel π B H w) {w1 : World} (hw : w1.heap = w.heap) (ho : w1.os = w.os ∧ w1.tape = w.tape ∧ w1.output = w.output) {l : List (Option AV)} {vs rest : List Value} (hl : VOs π l vs) (h1 : ∀ v ∈ vs, v.oneCell' = true) (h2 : ∀ v ∈ rest, v.oneCell' = true) {n e flo fhi : Nat} {sib : List Nat} (hn : n = vs.length) :
    Step B π H w (piNew π H.nx w.heap.size (vs.length + rest.length)) (H.new (.cells (lays 0 l .e) none n e flo fhi true sib)) (w1.alloc (.cells (vs ++ rest).toArray e)) := by
  have hH1 := hH.same hw
  have he := piNew_ext (H := H) (hH.fresh (Nat.le_refl _)) w.heap.size (vs.length + rest.length)
  have hBR := BR_row (π := piNew π H.nx w.heap.size (vs.length + rest.length)) (w := w1.alloc (.cells (vs ++ rest).toArray e)) (e := e) (n := n) (lo := flo) (hi := fhi) (wr := true) (sib := sib) (l := l) (arr := (vs ++ rest).toArray) (by simp; omega)
    (fun j v hj hv => by
      obtain ⟨cv, a, b⟩ := hl.2 j v hv
      refine ⟨cv, ?_, b.mono he⟩
      rw [List.getElem?_toArray, List.getElem?_append_left (by omega)]
      exact a) (by
      intro v hv
      rcases List.mem_append.1 (by simpa using hv) with h | h
      · exact h1 v h
      · exact h2 v h) (0, 0) (fun _ => ⟨Nat.le_refl _, fun j a b => by omega⟩)
  have hs : (vs ++ rest).toArray.size = vs.length + rest.length := by simp
  rw [hs] at hBR
  refine Step.trans hH (Step.same hH hw ho) ?_
  rw [← show w1.heap.size = w.heap.size by rw [hw]] at hBR ⊢
  exact Step.alloc hH1 _ _ _ hBR
theorem apOk (hH : HRel π B H w) {x : AV} {cx : Value} {e s k : Nat} {g : Bool} {l : List (Option AV)} {i : TypeInfo} (hx : VR π x cx) (hg : tAgg P e = some (g, s)) (hi : P.info? e = some i)
    (h : (match (generalizing := false) appMk P ts with | some mk => (bif mk && !Nat.blt i.bytes 65536 then none else appended P e s mk x H) | none => none) = some (k, l)) :
    ∃ vs : List Value, ApOk P ts e s cx k vs w ∧ VOs π l vs ∧ (∀ v ∈ vs, v.oneCell' = true) ∧ l.length = k * s := by
  cases hmk : appMk P ts with
  | none => rw [hmk] at h; cases h
  | some mk =>
    rw [hmk] at h
    simp only at h
    cases mk with
    | false =>
      rw [Bool.false_and, cond_false] at h
      obtain ⟨vs, q1, q2, q3, q4, q5⟩ := appended_sound (P := P) hH hx h
      refine ⟨vs, ⟨q1, .inl ⟨hmk, q4, fun w' hw => ?_⟩⟩, q2, q3, q2.1.trans q1⟩
      rw [q5 k (Nat.le_refl _) w' hw, List.take_of_length_le (by omega)]
    | true =>
      rw [Bool.true_and] at h
      cases hb : Nat.blt i.bytes 65536 with
      | false => rw [hb] at h; cases h
      | true =>
        rw [hb, Bool.not_true, cond_false] at h
        unfold appended at h
        rw [cond_true] at h
        split at h
        · rename_i j n z hz
          rw [Bool.cond_eq_ite] at h
          split at h
          · rename_i hn
            cases h
            have hn : k < 16777216 := by simpa [Nat.blt_eq, maxNeed] using hn
            obtain ⟨cz, s2, g2, k1, k2, k3, k4, k5, k6⟩ := zeroCells_VRs (P := P) (π := π) hz k
            rw [hg] at k1; cases k1
            cases hx
            have hlen : (Builtin.zeroCells cz.cells k).toList.length = k * s := by rw [Array.length_toList, k6]
            refine ⟨(Builtin.zeroCells cz.cells k).toList, ⟨hlen, .inr ⟨hmk, ⟨j, rfl⟩, hn, fun i' hi' => ?_, cz, k2, k3, rfl⟩⟩, VOs.of k4, k5 k, by rw [List.length_map, k4.length, hlen]⟩
            rw [hi] at hi'; cases hi'
            simpa [Nat.blt_eq] using hb
          · cases h
        · cases h
theorem append_run (hH : HRel π B H w) (ha : VRs π as cargs.toList) : ORun P B π H w (do let y ← Builtin.append_ ts u cargs; pure (.value y)) (appendA P ts as H) := by
  unfold appendA
  split
  · rename_i st s x ht
    obtain ⟨cs, vs0, rfl, h1, h2⟩ := arr_cons ha
    cases h2 with
    | cons _ cx _ vs1 h2 h3 =>
    cases h3
    split
    · rename_i e he
      have hu := elemSl_eq he
      split
      · rename_i g sz i hg hi
        split
        · trivial
        · rename_i k new hap
          obtain ⟨vs, hA, hv, hone, hnl⟩ := apOk (ts := ts) hH h2 hg hi hap
          have hvl : vs.length = k * sz := hA.1
          split
          · -- nil
            cases h1
            split
            · refine OVal.pure hH (cv := .slice none 0 0) ?_ .nils
              rw [run_append_in ht hu hg hi hA (Nat.le_refl 0)]
              rfl
            · rename_i hk0
              rw [Bool.cond_eq_ite]
              split
              · rename_i hc
                simp only [Bool.and_eq_true, Nat.blt_eq, maxNeed] at hc
                obtain ⟨⟨⟨c1, c2⟩, c3⟩, c4⟩ := hc
                obtain ⟨z, hz⟩ := Option.isSome_iff_exists.1 c4
                obtain ⟨cz, s2, g2, k1, k2, k3, k4, k5, k6⟩ := zeroCells_VRs (P := P) (π := π) hz 0
                rw [hg] at k1; cases k1
                have hkp : 0 < k := Nat.pos_of_ne_zero fun e => hk0 e
                obtain ⟨nc, w1, r1, r2, r3, r4, r5⟩ := run_append_more (u := u) (n := 0) (cap := 0) (bs := none) (olds := []) ht hu hg hi hA k2 (fun w' _ => by simp [Builtin.firstCells]) (by omega) (by omega) c2
                have hst := Step.row (w1 := w1) (e := e) (flo := 0) (fhi := 0) (sib := []) (rest := (Builtin.zeroCells cz.cells (nc - (0 + k))).toList) hH r1 r2 hv hone (k5 _) (n := new.length) hv.1
                refine OVal.mk r5 ?_ (by rw [List.nil_append]; exact hst)
                rw [Nat.zero_add]
                have hz2 : vs.length + (Builtin.zeroCells cz.cells (nc - (0 + k))).toList.length = nc * sz := by
                  rw [hvl, Array.length_toList, k6, ← Nat.add_mul, Nat.zero_add, show k + (nc - k) = nc by omega]
                exact VR.sl _ _ _ _ _ _ w.heap.size _ nc (show piNew π H.nx w.heap.size _ H.nx = some (w.heap.size, nc * sz) by unfold piNew; rw [if_pos rfl]; rw [Nat.zero_add] at hz2; rw [hz2]) (Nat.le_refl _) (by omega) (fun h => by cases h) (by omega) r4
              · trivial
          · -- a slice
            rename_i b o n lo ex sz'
            rw [Bool.cond_eq_ite]
            split
            · trivial
            rename_i hsz
            have hsz : sz = sz' := by
              cases hb : Nat.beq sz sz' with
              | true => exact Nat.eq_of_beq_eq_true hb
              | false => rw [hb] at hsz; exact absurd rfl hsz
            subst hsz
            cases h1 with
            | sl _ _ _ _ _ _ c z cap hp q1 q2 q3 q4 q5 =>
            rw [Bool.cond_eq_ite]
            split
            · -- there is room
              rename_i hle
              have hle : n + k ≤ lo := by simpa using hle
              split
              · rename_i h' hst
                obtain ⟨w', r1, r2⟩ := stores_sound P hH hp hst hv hone
                refine OVal.mk (cv := .slice (some ⟨c, o, none⟩) (n + k) cap) ?_ (.sl _ _ _ _ _ _ c z cap hp hle q2 q3 q4 q5) r2
                rw [run_append_in ht hu hg hi hA (by omega)]
                simp only [Addr.add_lit', r1, Result.andThen_ok]
              · trivial
            rename_i hle
            have hle : ¬ n + k ≤ lo := by simpa using hle
            rw [Bool.cond_eq_ite]
            split
            · trivial
            rename_i hc
            have hc : (Nat.blt (n + k) maxNeed && Nat.blt i.bytes 65536 && allCells new && (zeroC P e).isSome) = true := by
              cases hb : (Nat.blt (n + k) maxNeed && Nat.blt i.bytes 65536 && allCells new && (zeroC P e).isSome) with
              | true => rfl
              | false => rw [hb] at hc; exact absurd rfl hc
            simp only [Bool.and_eq_true, Nat.blt_eq, maxNeed] at hc
            obtain ⟨⟨⟨c1, c2⟩, c3⟩, c4⟩ := hc
            obtain ⟨zz, hz⟩ := Option.isSome_iff_exists.1 c4
            obtain ⟨cz, s2, g2, k1, k2, k3, k4, k5, k6⟩ := zeroCells_VRs (P := P) (π := π) hz 0
            rw [hg] at k1; cases k1
            split
            · rename_i tr d m e' flo fhi wr sib hb
              have hns : n * sz ≤ cap * sz := Nat.mul_le_mul_right sz (Nat.le_trans q1 q2)
              obtain ⟨olds, o1, o2, o3, o4⟩ := rdo_sound (P := P) (o := o) (cnt := n * sz) hH hb hp (by omega)
              have hold : ∀ w' : World, w'.heap = w.heap → (Builtin.firstCells sz n (.slice (some ⟨c, o, none⟩) n cap)).run P w' = .ok olds.toArray w' := by
                intro w' hw
                show (loadCells ⟨c, o, none⟩ (n * sz)).run P w' = _
                rw [o2 w' hw (n * sz) (Nat.le_refl _), List.take_of_length_le (by omega)]
              have grow : cap < n + k → ∃ (nc : Nat) (w1 : World), w1.heap = w.heap ∧ (w1.os = w.os ∧ w1.tape = w.tape ∧ w1.output = w.output) ∧ n + k ≤ nc ∧ nc < big63 ∧ (olds ++ vs).length + (Builtin.zeroCells cz.cells (nc - (n + k))).toList.length = nc * sz ∧ (olds ++ vs).length = (n + k) * sz ∧
                  (Builtin.append_ ts u [.slice (some ⟨c, o, none⟩) n cap, cx].toArray).run P w = .ok (.slice (some ⟨w.heap.size, 0, none⟩) (n + k) nc) (w1.alloc (.cells (olds ++ vs ++ (Builtin.zeroCells cz.cells (nc - (n + k))).toList).toArray e)) := by
                intro hgr
                obtain ⟨nc, w1, r1, r2, r3, r4, r5⟩ := run_append_more (u := u) ht hu hg hi hA k2 hold hgr c1 c2
                have hl2 : (olds ++ vs).length = (n + k) * sz := by rw [List.length_append, o1, hvl, ← Nat.add_mul]
                refine ⟨nc, w1, r1, r2, r3, r4, ?_, hl2, r5⟩
                rw [hl2, Array.length_toList, k6, ← Nat.add_mul, show n + k + (nc - (n + k)) = nc by omega]
              have hvo := o3.append hv
              have hone2 : ∀ v ∈ olds ++ vs, v.oneCell' = true := fun v hv => by
                rcases List.mem_append.1 hv with h | h
                · exact o4 v h
                · exact hone v h
              simp only
              rw [Bool.cond_eq_ite]
              split
              · -- it moves
                rename_i hex
                obtain ⟨nc, w1, r1, r2, r3, r4, r5, r6, r7⟩ := grow (by have := q3 hex; omega)
                have hst := Step.row (w1 := w1) (e := e) (flo := 0) (fhi := 0) (sib := []) (rest := (Builtin.zeroCells cz.cells (nc - (n + k))).toList) hH r1 r2 hvo hone2 (k5 _) (n := ((Blk.cells tr d m e' flo fhi wr sib).rdo o (n * sz) ++ new).length) hvo.1
                rw [r5] at hst
                refine OVal.mk r7 ?_ hst
                exact VR.sl _ _ _ _ _ _ w.heap.size _ nc (by simp [piNew]; rfl) (Nat.le_refl _) r3 (fun h => by cases h) (by omega) r4
              · rename_i hex
                rw [Bool.cond_eq_ite]
                split
                · trivial
                rename_i hd
                have hd : (Nat.beq o 0 && wr && Nat.beq e e' && (Nat.ble fhi (n * sz) || Nat.beq flo fhi)) = true := by
                  cases hb : (Nat.beq o 0 && wr && Nat.beq e e' && (Nat.ble fhi (n * sz) || Nat.beq flo fhi)) with
                  | true => rfl
                  | false => rw [hb] at hd; exact absurd rfl hd
                simp only [Bool.and_eq_true, Bool.or_eq_true, Nat.beq_eq, Nat.ble_eq] at hd
                obtain ⟨⟨⟨d1, d2⟩, d3⟩, d4⟩ := hd
                subst d1 d2 d3
                have hm' : (bif Nat.ble m (n * sz) then m else n * sz) ≤ m ∧ (bif Nat.ble m (n * sz) then m else n * sz) ≤ n * sz := by
                  cases hq : Nat.ble m (n * sz) with
                  | true => rw [cond_true]; exact ⟨Nat.le_refl _, by simpa using hq⟩
                  | false =>
                    rw [cond_false]
                    have : ¬ m ≤ n * sz := fun h => by rw [Nat.ble_eq_true_of_le h] at hq; cases hq
                    exact ⟨by omega, Nat.le_refl _⟩
                generalize (bif Nat.ble m (n * sz) then m else n * sz) = m' at hm' ⊢
                by_cases hgr : cap < n + k
                · obtain ⟨nc, w1, r1, r2, r3, r4, r5, r6, r7⟩ := grow hgr
                  have hct := Step.cut (m' := m') (sb := sib) hH hb hp hm'.1
                  have hst := Step.row (w1 := w1) (e := e) (flo := flo) (fhi := fhi) (sib := [b]) (rest := (Builtin.zeroCells cz.cells (nc - (n + k))).toList) hct.rel r1 r2 hvo hone2 (k5 _) (n := (n + k) * sz) r6.symm
                  have hnx : ((dels sib H).set b (.cells tr d m' e flo fhi false [])).nx = H.nx := by rw [Hp.nx_set, dels_nx]
                  rw [r5, hnx] at hst
                  refine OVal.mk r7 ?_ (Step.trans hH hct hst)
                  exact VR.sl _ _ _ _ _ _ w.heap.size _ nc (by simp [piNew]; rfl) (Nat.le_refl _) r3 (fun h => by cases h) (by omega) r4
                · have hcap : (n + k) * sz ≤ cap * sz := Nat.mul_le_mul_right sz (by omega)
                  have hal := Step.alias (m' := m') (n := (n + k) * sz) (l := (Blk.cells tr d m e flo fhi true sib).rdo 0 (n * sz)) hH hb hp hm'.1 (by omega) (fun j v hj hl => by
                    rw [rdo_get] at hl
                    split at hl
                    · simpa using hl
                    · cases hl)
                  have hnx : ((dels sib H).set b (.cells tr d m' e flo fhi false [])).nx = H.nx := by rw [Hp.nx_set, dels_nx]
                  have hbn : b ≠ H.nx := by intro e; rw [e, hH.fresh (Nat.le_refl _)] at hp; cases hp
                  have hp' : piNew π H.nx c z H.nx = some (c, z) := by unfold piNew; rw [if_pos rfl]
                  have hsl : VR (piNew π H.nx c z) (.sl H.nx 0 (n + k) (n + k) false sz) (.slice (some ⟨c, 0, none⟩) (n + k) cap) := VR.sl _ _ _ _ _ _ c z cap hp' (Nat.le_refl _) (by omega) (fun h => by cases h) (by omega) q5
                  have hrun := run_append_in (u := u) (bs := some ⟨c, 0, none⟩) ht hu hg hi hA (show n + k ≤ cap by omega)
                  simp only [Addr.add_lit', Nat.zero_add] at hrun
                  have hnl' : new.length = k * sz := hnl
                  by_cases hnil : new = []
                  · subst hnil
                    have hv0 : vs = [] := List.length_eq_zero_iff.1 (by rw [← hv.1]; rfl)
                    subst hv0
                    rw [List.append_nil]
                    exact OVal.mk (hrun.trans rfl) hsl hal
                  · generalize hX : (dels sib H).set b (.cells tr d m' e flo fhi false []) = X at hal hnx ⊢
                    have gb : X.get b = some (.cells tr d m' e flo fhi false []) := by rw [← hX, Hp.get_set, if_pos rfl]
                    generalize hO : (Blk.cells tr d m e flo fhi true sib).rdo 0 (n * sz) = old at hal o3 ⊢
                    have g1 : (X.new (.cells (lays 0 old .e) none ((n + k) * sz) e flo fhi true [b])).get H.nx = some (.cells (lays 0 old .e) none ((n + k) * sz) e flo fhi true [b]) := by rw [Hp.get_new, hnx, if_pos rfl]
                    have gb1 : (X.new (.cells (lays 0 old .e) none ((n + k) * sz) e flo fhi true [b])).get b = some (.cells tr d m' e flo fhi false []) := by rw [Hp.get_new, hnx, if_neg hbn, gb]
                    have hk : kill (n * sz) [b] (X.new (.cells (lays 0 old .e) none ((n + k) * sz) e flo fhi true [b])) = X.new (.cells (lays 0 old .e) none ((n + k) * sz) e flo fhi true [b]) := by
                      rw [kill, gb1]
                      have : Nat.blt (n * sz) m' = false := by
                        cases hq : Nat.blt (n * sz) m' with
                        | false => rfl
                        | true => have : n * sz < m' := by simpa [Nat.blt_eq] using hq
                                  omega
                      simp only [this, cond_false]
                      rfl
                    have hcond : (Nat.ble (n * sz + new.length) ((n + k) * sz) && (Nat.ble fhi (n * sz) || Nat.ble (n * sz + new.length) flo || Nat.beq flo fhi) && allCells new) = true := by
                      simp only [Bool.and_eq_true, Bool.or_eq_true, Nat.ble_eq, Nat.beq_eq]
                      refine ⟨⟨by rw [hnl', Nat.add_mul]; exact Nat.le_refl _, ?_⟩, c3⟩
                      rcases d4 with h | h
                      · exact .inl (.inl h)
                      · exact .inr h
                    have hst : stores (X.new (.cells (lays 0 old .e) none ((n + k) * sz) e flo fhi true [b])) H.nx (n * sz) new = some ((X.new (.cells (lays 0 old .e) none ((n + k) * sz) e flo fhi true [b])).set H.nx (.cells (lays (n * sz) new (lays 0 old .e)) none ((n + k) * sz) e flo fhi true [b])) := by
                      cases hq : new with
                      | nil => exact absurd hq hnil
                      | cons v0 l0 =>
                        rw [hq] at hcond
                        unfold stores
                        simp only [g1, hcond, cond_true, hk]
                    obtain ⟨w', r1, r2⟩ := stores_sound P hal.rel hp' hst ⟨hv.1, fun i v h => let ⟨cv, a, b⟩ := hv.2 i v h; ⟨cv, a, b.mono hal.ext⟩⟩ hone
                    rw [r1] at hrun
                    refine OVal.mk hrun hsl ((Step.trans hH hal r2).less ?_ (Nat.le_refl _))
                    intro i y hy
                    rw [Hp.get_set]
                    rw [Hp.get_new, hnx] at hy
                    split at hy
                    · rename_i e1
                      rw [if_pos e1]
                      rw [← hy, lays_append, Nat.zero_add, ← hO, rdo_length]
                    · rename_i e1
                      rw [if_neg e1, Hp.get_new, hnx, if_neg e1]
                      exact hy
            · trivial
          · -- empty
            cases h1 with
            | slz a cap =>
              split
              · refine OVal.pure hH (cv := .slice (some a) 0 cap) ?_ (.slz a cap)
                rw [run_append_in ht hu hg hi hA (Nat.zero_le cap)]
                have hv0 : vs = [] := List.length_eq_zero_iff.1 (by rw [hvl, Nat.zero_mul])
                subst hv0
                rfl
              · trivial
          · trivial
      · trivial
    · trivial
  · trivial
end
end Go.Proofs.YtmoejaloachlkaaGreatDoor.Ev
