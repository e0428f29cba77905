/- The evaluator, 4: Ranges, joins, states, code, results, deferred calls. No conditions. -/
import Derived.Test.YthfenjgelbkloaaGreatDoorV3
import Derived.RangeFuncLeaves
import Derived.RecoverIn

namespace Go.Proofs.YthfenjgelbkloaaGreatDoor.Ev
open Go Go.RowKit

section
variable {P : Program} {B : Nat} {π : Pi} {H H' : Hp} {w : World} {v : AV} {r : T AV} {a : Act}
theorem range_sound (hH : HRel π B H w) (hR : RR π r a.tmps) {t : TypeId} {x : Operand} (h : opRange t x P r H = .val v H') : OVal P (do let y ← Instr.range t (a.eval x); pure (.value y)) B π H w v H' := by
  unfold opRange at h
  have fin : ∀ (blk : Blk) (o : Obj), (∀ w', (∀ c, c < w.heap.size → w'.heap[c]? = w.heap[c]?) → BR π w' blk 0 o) → (do let y ← Instr.range t (a.eval x); pure (.value y) : Sem Next).run P w = .ok (.value (.pointer (some ⟨w.heap.size, 0, none⟩))) (w.alloc o) → OVal P (do let y ← Instr.range t (a.eval x); pure (.value y)) B π H w (.ptr H.nx 0) (H.new blk) := by
    intro blk o hb hr
    have he := piNew_ext (H := H) (hH.fresh (Nat.le_refl _)) w.heap.size 0
    exact ⟨_, _, _, _, hr, .inl rfl, .ptr _ _ _ 0 (by simp [piNew]), Step.alloc hH blk 0 o ((hb _ (fun c hc => Below.heap_alloc _ _ _ hc)).mono he (fun b p hp => by have := (hH.dom b p hp).2; simp; omega))⟩
  split at h
  · rename_i kt vt hu hx
    cases h
    have hv := opnd_sound hH hR hx
    have hb : a.eval x = .map none := by generalize a.eval x = cv at hv; cases hv; rfl
    refine fin (.miter none 0 []) (.mapIter none 0 #[] 0) (fun _ _ => ⟨none, #[], 0, rfl, trivial⟩) ?_
    rw [hb]
    unfold Instr.range
    simp only [Sem.run_bind, run_underlying hu, Result.andThen_ok, Sem.run_pure, newObj, Sem.run]
    rfl
  · rename_i kt vt b hu hx
    split at h
    · rename_i es c hb
      cases h
      have hv := opnd_sound hH hR hx
      obtain ⟨mm, z, l, es', a1, a2, a3, a4, a5, a6, a7, a8⟩ := hH.map hb
      obtain ⟨m', z', hp, hcv⟩ : ∃ m' z', π b = some (m', z') ∧ a.eval x = .map (some m') := by
        generalize a.eval x = cv at hv
        cases hv with
        | map _ m z hp => exact ⟨_, _, hp, rfl⟩
      rw [hp] at a1; cases a1
      refine fin (.miter (some b) c []) (.mapIter (some mm) c #[] c) (fun w' hw' => ⟨some mm, #[], c, rfl, ⟨z, hp⟩, ?_⟩) ?_
      · intro l' k hl'
        rw [hw' mm (hH.dom _ _ hp).2, a2] at hl'
        cases hl'
        refine ⟨Nat.le_refl _, fun _ => ⟨⟨fun e _ => ?_, fun e _ k hk => (by cases hk), fun k hk => (by cases hk)⟩, fun h => absurd rfl h⟩⟩
        constructor
        · intro h; cases h
        · rintro ⟨k, hk, _⟩; cases hk
      · rw [hcv]
        unfold Instr.range
        simp only [Sem.run_bind, run_underlying hu, Result.andThen_ok, Sem.run_pure, run_getObj_map a2, newObj, Sem.run]
        rfl
    · cases h
  · cases h
theorem HRel.miter (hH : HRel π B H w) {i : Nat} {m : Option Nat} {since : Nat} {vis : List AV} (h : H.get i = some (.miter m since vis)) : ∃ ci z m' seen last, π i = some (ci, z) ∧ w.heap[ci]? = some (.mapIter m' since seen last) ∧ match (generalizing := false) m, m' with
    | none, none => True
    | some b, some c => (∃ z', π b = some (c, z')) ∧ ∀ l k, w.heap[c]? = some (.map l k) → since ≤ k ∧ (k = since → ItR l.toList seen.toList vis ∧ (seen.toList ≠ [] → last = since))
    | _, _ => False := by
  obtain ⟨c, z, o, h1, h2, ⟨m', seen, last, rfl, h3⟩, _⟩ := hH.blk i _ h
  exact ⟨c, z, m', seen, last, h1, h2, h3⟩
theorem memK_iff {k : AV} {vis : List AV} : memK k vis = true ↔ k ∈ vis := by
  unfold memK
  rw [List.any_eq_true]
  constructor
  · rintro ⟨x, h1, h2⟩; rw [AV.beq_eq k x h2]; exact h1
  · intro h; exact ⟨k, h, AV.beq_refl k⟩
theorem ERs.get {es : List (AV × AV)} {l : List MapEntry} (h : ERs π es l) : ∀ {j : Nat} {e : MapEntry}, l[j]? = some e → ∃ k u, es[j]? = some (k, u) ∧ VR π k e.key ∧ VR π u e.val := by
  induction h with
  | nil => intro j e h; simp at h
  | cons k v b k' v' l l' hk hv _ ih =>
    intro j e hj
    cases j with
    | zero => simp at hj; subst hj; exact ⟨k, v, rfl, hk, hv⟩
    | succ j => simpa using ih (by simpa using hj)
theorem ERs.get' {es : List (AV × AV)} {l : List MapEntry} (h : ERs π es l) : ∀ {j : Nat} {x : AV × AV}, es[j]? = some x → ∃ e, l[j]? = some e ∧ VR π x.1 e.key := by
  induction h with
  | nil => intro j e h; simp at h
  | cons k v b k' v' l l' hk hv _ ih =>
    intro j x hj
    cases j with
    | zero => simp at hj; subst hj; exact ⟨_, rfl, hk⟩
    | succ j => simpa using ih (by simpa using hj)
theorem nodup_idx {α : Type} {l : List α} (h : l.Nodup) {i j : Nat} {x : α} (hi : l[i]? = some x) (hj : l[j]? = some x) : i = j := by
  have h1 : i < l.length := by
    rcases Nat.lt_or_ge i l.length with k | k
    · exact k
    · rw [List.getElem?_eq_none k] at hi; cases hi
  exact (List.getElem?_inj h1 h).1 (hi.trans hj.symm)
theorem born_inj {l : List MapEntry} (h : (l.map (·.born)).Nodup) {e e' : MapEntry} (he : e ∈ l) (he' : e' ∈ l) (hb : e.born = e'.born) : e = e' := by
  obtain ⟨i, hi⟩ := List.mem_iff_getElem?.1 he
  obtain ⟨j, hj⟩ := List.mem_iff_getElem?.1 he'
  have : i = j := nodup_idx h (x := e.born) (by rw [List.getElem?_map, hi]; rfl) (by rw [List.getElem?_map, hj, hb]; rfl)
  subst this
  rw [hi] at hj; cases hj; rfl
theorem choose_run (n : Nat) : ∃ j w1, (choose (.mapNext n)).run P w = .ok j w1 ∧ w1.heap = w.heap ∧ (w1.os = w.os ∧ w1.tape = w.tape ∧ w1.output = w.output) ∧ (0 < n → j < n) := by
  by_cases h : n ≤ 1
  · exact ⟨0, w, by simp [choose, Sem.run, Question.forced, h], rfl, ⟨rfl, rfl, rfl⟩, fun h => h⟩
  · exact ⟨w.tape w.drawn (.mapNext n) % n, { w with drawn := w.drawn + 1 }, by simp [choose, Sem.run, Question.forced, h, Question.cut], rfl, ⟨rfl, rfl, rfl⟩, fun h => Nat.mod_lt _ h⟩
/-- What the model does. -/
theorem next_run {ty : TypeId} {ci cm since last c : Nat} {seen : Array Nat} {l : Array MapEntry} (hi : w.heap[ci]? = some (.mapIter (some cm) since seen last)) (hm : w.heap[cm]? = some (.map l c)) (hc : c = since) (hb : ∀ e ∈ l.toList, e.born < c) (hl : seen.toList ≠ [] → last = since) :
    ((∀ e ∈ l.toList, e.born ∈ seen.toList) ∧ (Instr.next (.pointer (some ⟨ci, 0, none⟩)) false ty).run P w = .ok (.tuple #[.bool false]) w) ∨
    ∃ e ∈ l.toList, e.born ∉ seen.toList ∧ ∃ w1 : World, w1.heap = w.heap ∧ (w1.os = w.os ∧ w1.tape = w.tape ∧ w1.output = w.output) ∧
      (Instr.next (.pointer (some ⟨ci, 0, none⟩)) false ty).run P w = ((setObj ci (.mapIter (some cm) since (seen.push e.born) c)).run P w1).andThen fun _ w' => .ok (.tuple #[.bool true, e.key, e.val]) w' := by
  have hchk : (!seen.isEmpty && !l.isEmpty && l.all (fun e => decide (e.born ≥ last))) = false := by
    cases hs : seen.isEmpty with
    | true => rfl
    | false =>
      cases hle : l.isEmpty with
      | true => rfl
      | false =>
        have hsn : seen.toList ≠ [] := by
          intro e
          have : seen = #[] := by apply Array.ext'; exact e
          rw [this] at hs; cases hs
        have hlast := hl hsn
        simp only [Bool.not_false, Bool.true_and]
        cases hall : l.all (fun e => decide (e.born ≥ last)) with
        | false => rfl
        | true =>
          exfalso
          have hne : l.size ≠ 0 := by intro e; rw [Array.isEmpty_iff_size_eq_zero.2 e] at hle; cases hle
          have h0 : 0 < l.size := by omega
          have h1 := Array.all_eq_true.1 hall 0 h0
          have h2 := hb l[0] (by simp)
          simp at h1
          omega
  unfold Instr.next
  simp only [Sem.run_bind, run_getObj hi (by simp), Result.andThen_ok, run_getObj hm (by simp)]
  rw [hchk, if_neg (by decide)]
  generalize hleft : l.filter (fun e => !seen.contains e.born) = left
  have hlm : ∀ e ∈ left, e ∈ l.toList ∧ e.born ∉ seen.toList := by
    intro e he
    rw [← hleft, Array.mem_filter] at he
    refine ⟨by simpa using he.1, ?_⟩
    have := he.2
    simp at this
    simpa using this
  have hf1 : left.filter (fun e => decide (e.born < since)) = left := by
    rw [Array.filter_eq_self]
    intro e he
    have := hb e (hlm e he).1
    simp; omega
  have hf2 : left.filter (fun e => decide (e.born ≥ since)) = #[] := by
    rw [Array.filter_eq_empty_iff]
    intro e he
    have := hb e (hlm e he).1
    simp; omega
  rw [hf1, hf2, Array.append_empty]
  obtain ⟨j, w1, c1, c2, c3, c4⟩ := choose_run (P := P) (w := w) ((if left.isEmpty = true then #[none] else #[]) ++ left.map some).size
  simp only [Sem.run_bind, c1, Result.andThen_ok]
  cases hle : left.isEmpty with
  | true =>
    have : left = #[] := by simpa using hle
    subst this
    rw [hle, if_pos rfl] at c1 c4
    have hj : j = 0 := by
      have := c4 (by simp)
      simp at this
      exact this
    subst hj
    left
    refine ⟨?_, ?_⟩
    · intro e he
      cases hs : decide (e.born ∈ seen.toList) with
      | true => simpa using hs
      | false =>
        exfalso
        have : e ∈ l.filter (fun e => !seen.contains e.born) := by
          rw [Array.mem_filter]
          refine ⟨by simpa using he, ?_⟩
          simpa using hs
        rw [hleft] at this
        simp at this
    · have hw1 : w1 = w := by
        have : (choose (.mapNext 1)).run P w = .ok 0 w := by simp [choose, Sem.run, Question.forced]
        have c1' : (choose (.mapNext 1)).run P w = .ok 0 w1 := by simpa using c1
        rw [this] at c1'
        cases c1'; rfl
      subst hw1
      have e0 : ((if true = true then #[none] else #[]) ++ Array.map some (#[] : Array MapEntry))[0]? = some none := by simp
      rw [e0]; rfl
  | false =>
    rw [hle] at c4
    simp only [Bool.false_eq_true, if_false, Array.empty_append, Array.size_map] at c4 ⊢
    have hpos : 0 < left.size := by
      rcases Nat.eq_zero_or_pos left.size with h0 | h0
      · rw [Array.isEmpty_iff_size_eq_zero.2 h0] at hle; cases hle
      · exact h0
    have hj := c4 hpos
    right
    have hm := hlm left[j] (by simp)
    refine ⟨left[j], hm.1, hm.2, w1, c2, c3, ?_⟩
    have : (left.map some)[j]? = some (some left[j]) := by simp [hj]
    simp only [this]
    simp only [Sem.run_bind, Sem.run_pure]
/-- An iterator's next step. -/
theorem next_sound (hH : HRel π B H w) (hR : RR π r a.tmps) {x : Operand} {s : Bool} {ty : TypeId} :
    (∀ v H', opNext x s P r H = .val v H' → OVal P (do let y ← Instr.next (a.eval x) s ty; pure (.value y)) B π H w v H') ∧
    (∀ l, opNext x s P r H = .alts l → ∃ p ∈ l, OVal P (do let y ← Instr.next (a.eval x) s ty; pure (.value y)) B π H w p.1 p.2) ∧
    (∀ q, opNext x s P r H = q → (∃ w, q = .bad w) ∨ (∃ v H', q = .val v H') ∨ ∃ l, q = .alts l) := by
  have main : (∃ ww, opNext x s P r H = .bad ww) ∨ (∃ l : List (AV × Hp), (opNext x s P r H = .alts l ∨ ∃ p, l = [p] ∧ opNext x s P r H = .val p.1 p.2) ∧ ∃ p ∈ l, OVal P (do let y ← Instr.next (a.eval x) s ty; pure (.value y)) B π H w p.1 p.2) := by
    unfold opNext
    cases hx : opnd r x with
    | none => exact .inl ⟨_, rfl⟩
    | some xv =>
      cases xv with
      | ptr i o =>
        cases o with
        | succ o => exact .inl ⟨_, rfl⟩
        | zero =>
          simp only
          cases hi : H.get i with
          | none => exact .inl ⟨_, rfl⟩
          | some blk =>
            cases blk with
            | miter m since vis =>
              obtain ⟨ci, z, m', seen, last, p1, p2, p3⟩ := hH.miter hi
              have hv := opnd_sound hH hR hx
              generalize hcv : a.eval x = cv at hv
              cases hv with
              | ptr _ _ c' z' hp =>
                rw [hp] at p1; cases p1
                cases m with
                | none =>
                  cases m' with
                  | some _ => exact p3.elim
                  | none =>
                    cases s with
                    | true => exact .inl ⟨_, rfl⟩
                    | false =>
                      refine .inr ⟨[(.tup [.bool false], H)], .inr ⟨_, rfl, rfl⟩, _, List.mem_singleton.2 rfl, ?_⟩
                      refine OVal.pure hH (cv := .tuple #[.bool false]) ?_ (.tup _ _ (.cons _ _ _ _ (.bool _) .nil))
                      unfold Instr.next
                      simp only [Sem.run_bind, run_getObj p2 (by simp), Result.andThen_ok, Sem.run_pure]
                | some b =>
                  cases m' with
                  | none => exact p3.elim
                  | some cm =>
                    obtain ⟨⟨zb, hpb⟩, p4⟩ := p3
                    simp only
                    cases hb : H.get b with
                    | none => exact .inl ⟨_, rfl⟩
                    | some mb =>
                      cases mb with
                      | map es c =>
                        simp only
                        cases hcs : Nat.beq c since && !s with
                        | false => exact .inl ⟨_, rfl⟩
                        | true =>
                          rw [Bool.and_eq_true] at hcs
                          have hc := Nat.eq_of_beq_eq_true hcs.1
                          have hsf : s = false := by simpa using hcs.2
                          subst hc; subst hsf
                          rw [cond_true]
                          obtain ⟨mm, zm, l, es', a1, a2, a3, a4, a5, a6, a7, a8⟩ := hH.map hb
                          rw [hpb] at a1; cases a1
                          obtain ⟨q1, q2⟩ := p4 l c a2
                          obtain ⟨it, hlast⟩ := q2 rfl
                          have hnd' : (es'.map (·.1)).Nodup := (a3.map _).nodup_iff.1 a8
                          -- an entry and its key
                          have own : ∀ e ∈ l.toList, ∃ k u, (k, u) ∈ es ∧ VR π k e.key ∧ VR π u e.val ∧ simpleK k = true ∧ (e.born ∈ seen.toList ↔ k ∈ vis) ∧ ∀ e2 ∈ l.toList, SV k e2.key → e2 = e := by
                            intro e he
                            obtain ⟨j, hj⟩ := List.mem_iff_getElem?.1 he
                            obtain ⟨k, u, g1, g2, g3⟩ := a4.get hj
                            have hmem : (k, u) ∈ es := a3.mem_iff.2 (List.mem_of_getElem? g1)
                            have hsk : simpleK k = true := a7 _ hmem
                            refine ⟨k, u, hmem, g2, g3, hsk, ?_, ?_⟩
                            · rw [it.mem e he]
                              constructor
                              · rintro ⟨k', h1, h2⟩
                                rw [simple_inj hsk (it.simple k' h1) g2 h2.vr]; exact h1
                              · intro h1; exact ⟨k, h1, simple_SV hsk g2⟩
                            · intro e2 he2 hsv
                              obtain ⟨j2, hj2⟩ := List.mem_iff_getElem?.1 he2
                              obtain ⟨k2, u2, m1, m2, m3⟩ := a4.get hj2
                              have hk2 : k2 = k := simple_inj (a7 _ (a3.mem_iff.2 (List.mem_of_getElem? m1))) hsk m2 (hsv.vr (π := π))
                              subst hk2
                              have n1 : (es'.map (·.1))[j]? = some k2 := by rw [List.getElem?_map, g1]; rfl
                              have n2 : (es'.map (·.1))[j2]? = some k2 := by rw [List.getElem?_map, m1]; rfl
                              have hjj : j = j2 := nodup_idx hnd' n1 n2
                              subst hjj
                              rw [hj] at hj2; cases hj2; rfl
                          have hlt : cm ≠ ci := by
                            intro e; subst e; rw [a2] at p2; cases p2
                          -- the candidates
                          have hcand : ∀ e ∈ l.toList, e.born ∉ seen.toList → ∃ k u, (k, u) ∈ es.filter (fun e => !memK e.1 vis) ∧ VR π k e.key ∧ VR π u e.val ∧ simpleK k = true ∧ ∀ e2 ∈ l.toList, SV k e2.key → e2 = e := by
                            intro e he hn
                            obtain ⟨k, u, h1, h2, h3, h4, h5, h6⟩ := own e he
                            refine ⟨k, u, List.mem_filter.2 ⟨h1, ?_⟩, h2, h3, h4, h6⟩
                            have : memK k vis = false := by
                              cases hk : memK k vis with
                              | false => rfl
                              | true => exact absurd (h5.2 (memK_iff.1 hk)) hn
                            simp [this]
                          have hnone : (∀ e ∈ l.toList, e.born ∈ seen.toList) → es.filter (fun e => !memK e.1 vis) = [] := by
                            intro hall
                            rw [List.filter_eq_nil_iff]
                            intro x hx
                            have hx' := a3.mem_iff.1 hx
                            obtain ⟨j, hj⟩ := List.mem_iff_getElem?.1 hx'
                            obtain ⟨e, he, g2⟩ := a4.get' hj
                            have he' := List.mem_of_getElem? he
                            obtain ⟨k', h1, h2⟩ := (it.mem e he').1 (hall e he')
                            have : x.1 = k' := simple_inj (a7 _ hx) (it.simple k' h1) g2 h2.vr
                            have : memK x.1 vis = true := memK_iff.2 (by rw [this]; exact h1)
                            simp [this]
                          have hrun := next_run (P := P) (w := w) (ty := ty) (ci := ci) (cm := cm) (since := c) (last := last) (seen := seen) (l := l) (c := c) p2 a2 rfl a6 hlast
                          rcases hrun with ⟨hall, hr⟩ | ⟨e, he, hn, w1, g1, g2, hr⟩
                          · refine .inr ⟨[(.tup [.bool false], H)], .inr ⟨_, rfl, by rw [hnone hall]; rfl⟩, _, List.mem_singleton.2 rfl, ?_⟩
                            exact OVal.pure hH (cv := .tuple #[.bool false]) hr (.tup _ _ (.cons _ _ _ _ (.bool _) .nil))
                          · obtain ⟨k, u, h1, h2, h3, h4, h5⟩ := hcand e he hn
                            have hH1 := hH.same g1
                            have hs := objSet_step (P := P) (w := w1) (x' := .miter (some b) c (k :: vis)) (o' := .mapIter (some cm) c (seen.push e.born) c) hH1 hi rfl rfl hp (by rw [g1]; exact p2) (by simp) (Evo.noMap (by simp)) ?_
                            · have hov : OVal P (do let y ← Instr.next (.pointer (some ⟨ci, 0, none⟩)) false ty; pure (.value y)) B π H w (.tup [.bool true, k, u]) (H.set i (.miter (some b) c (k :: vis))) := by
                                refine OVal.mk (cv := .tuple #[.bool true, e.key, e.val]) ?_ (.tup _ _ (.cons _ _ _ _ (.bool _) (.cons _ _ _ _ h2 (.cons _ _ _ _ h3 .nil)))) (Step.trans hH (Step.same hH g1 g2) hs.2)
                                rw [hr, hs.1]; rfl
                              refine .inr ⟨(es.filter (fun e => !memK e.1 vis)).map fun e => (.tup [.bool true, e.1, e.2], H.set i (.miter (some b) c (e.1 :: vis))), ?_, _, List.mem_map.2 ⟨(k, u), h1, rfl⟩, hov⟩
                              cases hf : es.filter (fun e => !memK e.1 vis) with
                              | nil => rw [hf] at h1; cases h1
                              | cons e0 rest =>
                                cases rest with
                                | nil => exact .inr ⟨_, rfl, rfl⟩
                                | cons e1 rest => exact .inl rfl
                            · refine ⟨some cm, seen.push e.born, c, rfl, ⟨zb, hpb⟩, fun l2 k2 hl2 => ?_⟩
                              have : w1.heap[cm]? = some (.map l2 k2) := by
                                rw [Array.getElem?_setIfInBounds_ne (fun e => hlt e.symm)] at hl2; exact hl2
                              rw [g1, a2] at this
                              cases this
                              refine ⟨Nat.le_refl _, fun _ => ⟨⟨?_, ?_, ?_⟩, fun _ => rfl⟩⟩
                              · intro e2 he2
                                rw [Array.toList_push, List.mem_append, it.mem e2 he2]
                                constructor
                                · rintro (⟨k', m1, m2⟩ | hm)
                                  · exact ⟨k', by simp [m1], m2⟩
                                  · have hbe : e2.born = e.born := by simpa using hm
                                    have : e2 = e := born_inj a5 he2 he hbe
                                    subst this
                                    exact ⟨k, by simp, simple_SV h4 h2⟩
                                · rintro ⟨k', m1, m2⟩
                                  rcases List.mem_cons.1 m1 with rfl | m1
                                  · right; rw [h5 e2 he2 m2]; simp
                                  · exact .inl ⟨k', m1, m2⟩
                              · intro e2 he2 k' hk' hsv
                                have : k' = k := by simpa using hk'.symm
                                subst this
                                rw [h5 e2 he2 hsv, Array.toList_push]; simp
                              · intro k' hk'
                                rcases List.mem_cons.1 hk' with rfl | hk'
                                · exact h4
                                · exact it.simple k' hk'
                      | _ => exact .inl ⟨_, rfl⟩
            | _ => exact .inl ⟨_, rfl⟩
      | _ => exact .inl ⟨_, rfl⟩
  rcases main with ⟨ww, e⟩ | ⟨l, e | ⟨p, rfl, e⟩, hm⟩
  · rw [e]
    exact ⟨fun v H' e => (by cases e), fun l e => (by cases e), fun q hq => .inl ⟨ww, hq.symm⟩⟩
  · rw [e]
    exact ⟨fun v H' e => (by cases e), fun l' e => (by cases e; exact hm), fun q hq => .inr (.inr ⟨l, hq.symm⟩)⟩
  · rw [e]
    refine ⟨fun v H' e => ?_, fun l' e => (by cases e), fun q hq => .inr (.inl ⟨_, _, hq.symm⟩)⟩
    cases e
    obtain ⟨p', hp', h⟩ := hm
    have := List.mem_singleton.1 hp'
    subst this
    exact h
theorem entry_sound (hH : HRel π B H w) (hR : RR π r a.tmps) {x : Operand} (h : opEntry x P r H = .val v H') : OVal P (do let y ← Instr.entry (a.eval x); pure (.value y)) B π H w v H' := by
  unfold opEntry at h
  split at h
  · rename_i i hx
    split at h
    · rename_i b since k rest hi
      split at h
      · rename_i es c hb
        obtain ⟨hcs, h2⟩ : Nat.beq c since = true ∧ (match es.find? (fun e => AV.beq k e.1) with
            | some e => OR.val (.tup [e.1, e.2]) H
            | none => .bad "entry") = .val v H' := by
          cases hc : Nat.beq c since with
          | false => rw [hc] at h; cases h
          | true => rw [hc] at h; exact ⟨rfl, h⟩
        have hc := Nat.eq_of_beq_eq_true hcs
        subst hc
        cases hf : es.find? (fun e => AV.beq k e.1) with
        | none => rw [hf] at h2; cases h2
        | some e0 =>
          rw [hf] at h2
          cases h2
          have hk0 := AV.beq_eq _ _ (List.find?_some (p := fun e : AV × AV => AV.beq k e.1) hf)
          have hm0 := List.mem_of_find?_eq_some hf
          obtain ⟨ci, z, m', seen, last, p1, p2, p3⟩ := hH.miter hi
          have hv := opnd_sound hH hR hx
          obtain ⟨mm, zm, l, es', a1, a2, a3, a4, a5, a6, a7, a8⟩ := hH.map hb
          cases m' with
          | none => exact p3.elim
          | some cm =>
            obtain ⟨⟨zb, hpb⟩, p4⟩ := p3
            rw [hpb] at a1; cases a1
            obtain ⟨q1, q2⟩ := p4 l c a2
            obtain ⟨it, hlast⟩ := q2 rfl
            obtain ⟨j, hj⟩ := List.mem_iff_getElem?.1 (a3.mem_iff.1 hm0)
            obtain ⟨e, he, g2⟩ := a4.get' hj
            obtain ⟨k2, u2, m1, m2, m3⟩ := a4.get he
            rw [hj] at m1; cases m1
            have he' := List.mem_of_getElem? he
            have hbk := it.head e he' k rfl (by rw [hk0]; exact simple_SV (a7 _ hm0) m2)
            have hne : seen.toList ≠ [] := by intro e; rw [e] at hbk; cases hbk
            have hl := hlast hne
            generalize a.eval x = cv at hv
            cases hv with
            | ptr _ _ c' z' hp =>
              rw [hp] at p1; cases p1
              refine OVal.pure hH (cv := .tuple #[e.key, e.val]) ?_ (.tup _ _ (.cons _ _ _ _ m2 (.cons _ _ _ _ m3 .nil)))
              have hback : seen.back? = some e.born := by rw [← hbk, Array.back?_eq_getElem?, List.getLast?_eq_getElem?]; simp
              have hfind : l.find? (fun x => x.born == e.born) = some e := by
                rw [← Array.find?_toList]
                cases hff : l.toList.find? (fun x => x.born == e.born) with
                | none =>
                  have := List.find?_eq_none.1 hff e he'
                  simp at this
                | some e1 =>
                  have b1 := List.find?_some hff
                  have b2 := List.mem_of_find?_eq_some hff
                  rw [born_inj a5 b2 he' (by simpa using b1)]
              unfold Instr.entry
              simp only [Sem.run_bind, run_getObj p2 (by simp), Result.andThen_ok, hback, run_getObj_map a2, hfind]
              rw [if_neg (by simp [hl])]
              simp only [Sem.run_pure]
      · cases h
    · cases h
  · cases h
end
end Go.Proofs.YthfenjgelbkloaaGreatDoor.Ev

namespace Go.Proofs.YthfenjgelbkloaaGreatDoor.Ev
open Go Go.RowKit

/-! ### One of several ways -/
theorem eqT_eq : ∀ (t u : T AV), eqT t u = true → t = u := by
  intro t
  induction t with
  | e => intro u h; cases u <;> first | rfl | cases h
  | n v l r ihl ihr =>
    intro u h
    cases u with
    | e => cases h
    | n v' l' r' =>
      have h : ob (oo v (oo v' true fun _ => false) fun a => oo v' false fun b => AV.beq a b) false (ob (eqT l l') false (eqT r r')) = true := h
      obtain ⟨h1, h2⟩ := ob_inv (p := (· = true)) h (by simp)
      obtain ⟨h3, h4⟩ := ob_inv (p := (· = true)) h2 (by simp)
      rw [ihl _ h3, ihr _ h4]
      cases v with
      | none => cases v' with
        | none => rfl
        | some b => cases h1
      | some a => cases v' with
        | none => cases h1
        | some b => rw [AV.beq_eq a b h1]
theorem eqNs_eq : ∀ (l m : List Nat), eqNs l m = true → l = m
  | [], [], _ => rfl
  | a :: l, b :: m, h => by
    unfold eqNs at h
    obtain ⟨h1, h2⟩ := beq_and h
    rw [Nat.eq_of_beq_eq_true h1, eqNs_eq l m h2]
  | [], _ :: _, h => by cases h
  | _ :: _, [], h => by cases h
theorem optB_eq (a b : Option AV) (h : optB a b = true) : a = b := by
  cases a <;> cases b <;> first | rfl | (cases h; done) | (rw [AV.beq_eq _ _ h])
theorem takeE_perm {e : AV × AV} : ∀ {l m : List (AV × AV)}, takeE e l = some m → l.Perm (e :: m)
  | [], m, h => by cases h
  | e' :: l, m, h => by
    unfold takeE at h
    cases hb : AV.beq e.1 e'.1 && AV.beq e.2 e'.2 with
    | true =>
      rw [hb, cond_true] at h; cases h
      obtain ⟨h1, h2⟩ := beq_and hb
      obtain ⟨a, b⟩ := e
      obtain ⟨a', b'⟩ := e'
      have e1 := AV.beq_eq _ _ h1
      have e2 := AV.beq_eq _ _ h2
      simp only at e1 e2
      rw [e1, e2]
    | false =>
      rw [hb, cond_false] at h
      simp only [Option.map_eq_some_iff] at h
      obtain ⟨m', h1, rfl⟩ := h
      exact ((takeE_perm h1).cons e').trans (List.Perm.swap e e' m')
theorem permE_perm : ∀ {l m : List (AV × AV)}, permE l m = true → l.Perm m
  | [], [], _ => .nil
  | e :: l, m, h => by
    unfold permE at h
    cases ht : takeE e m with
    | none => rw [ht] at h; cases h
    | some m' =>
      rw [ht] at h
      exact ((permE_perm h).cons e).trans (takeE_perm ht).symm
  | [], _ :: _, h => by cases h
theorem AV.beqs_eq : ∀ (l m : List AV), AV.beqs l m = true → l = m
  | [], [], _ => rfl
  | a :: l, b :: m, h => by
    rw [AV.beqs] at h
    obtain ⟨h1, h2⟩ := beq_and h
    rw [AV.beq_eq a b h1, AV.beqs_eq l m h2]
  | [], _ :: _, h => by simp [AV.beqs] at h
  | _ :: _, [], h => by simp [AV.beqs] at h
theorem eqBlk_spec {x y : Blk} (h : eqBlk x y = true) : x = y ∨ ∃ es es' c, x = .map es c ∧ y = .map es' c ∧ es.Perm es' := by
  unfold eqBlk at h
  split at h
  · obtain ⟨h, h8⟩ := beq_and h
    obtain ⟨h, h7⟩ := beq_and h
    obtain ⟨h, h6⟩ := beq_and h
    obtain ⟨h, h5⟩ := beq_and h
    obtain ⟨h, h4⟩ := beq_and h
    obtain ⟨h, h3⟩ := beq_and h
    obtain ⟨h1, h2⟩ := beq_and h
    rw [eqT_eq _ _ h8, optB_eq _ _ h7, eqNs_eq _ _ h6, eq_of_beq h5, Nat.eq_of_beq_eq_true h4, Nat.eq_of_beq_eq_true h3, Nat.eq_of_beq_eq_true h2, Nat.eq_of_beq_eq_true h1]
    exact .inl rfl
  · obtain ⟨h1, h2⟩ := beq_and h
    rw [Nat.eq_of_beq_eq_true h1]
    exact .inr ⟨_, _, _, rfl, rfl, permE_perm h2⟩
  · obtain ⟨h, h3⟩ := beq_and h
    obtain ⟨h1, h2⟩ := beq_and h
    rw [Nat.eq_of_beq_eq_true h1, Nat.eq_of_beq_eq_true h2, AV.beqs_eq _ _ h3]
    exact .inl rfl
  · exact .inl rfl
  · exact .inl rfl
  · cases h
theorem tJoin_get : ∀ (t u : T Blk) (p : Pos) (x : Blk), (tJoin t u).get p = some x → t.get p = some x ∧ ∃ y, u.get p = some y ∧ eqBlk x y = true := by
  intro t
  induction t with
  | e => intro u p x h; have h : (T.e : T Blk).get p = some x := h; rw [T.get_e] at h; cases h
  | n v l r ihl ihr =>
    intro u p x h
    cases u with
    | e => have h : (T.e : T Blk).get p = some x := h; rw [T.get_e] at h; cases h
    | n v' l' r' =>
      have h : (T.n (oo v none fun a => oo v' none fun b => ob (eqBlk a b) none (some a)) (tJoin l l') (tJoin r r')).get p = some x := h
      cases p with
      | h =>
        rw [T.get_nh] at h
        obtain ⟨a, rfl, h1⟩ := oo_eq h
        obtain ⟨b, rfl, h2⟩ := oo_eq h1
        obtain ⟨h3, h4⟩ := ob_eq h2
        cases h4
        exact ⟨rfl, b, rfl, h3⟩
      | o p => rw [T.get_no] at h; exact ihl _ _ _ h
      | i p => rw [T.get_ni] at h; exact ihr _ _ _ h
theorem joinH_nx (h h' : Hp) : h.nx ≤ (joinH h h').nx ∧ h'.nx ≤ (joinH h h').nx := by
  unfold joinH
  simp only
  cases hb : Nat.ble h.nx h'.nx with
  | true => rw [cond_true]; exact ⟨Nat.le_of_ble_eq_true hb, Nat.le_refl _⟩
  | false =>
    rw [cond_false]
    refine ⟨Nat.le_refl _, ?_⟩
    rcases Nat.le_total h.nx h'.nx with k | k
    · have : Nat.ble h.nx h'.nx = true := by rw [Nat.ble_eq]; exact k
      rw [this] at hb; cases hb
    · exact k
theorem eqPE_eq : ∀ (l m : List PE), eqPE l m = true → l = m
  | [], [], _ => rfl
  | ⟨a, ra⟩ :: l, ⟨b, rb⟩ :: m, h => by
    unfold eqPE at h
    obtain ⟨h, h3⟩ := beq_and h
    obtain ⟨h1, h2⟩ := beq_and h
    rw [eqPE_eq l m h3]
    have e1 := AV.beq_eq a b h1
    have e2 : ra = rb := eq_of_beq h2
    rw [e1, e2]
  | [], _ :: _, h => by cases h
  | _ :: _, [], h => by cases h
theorem joinC_le (a b : CR) : Le (joinC a b) a ∧ Le (joinC a b) b := by
  have key1 : ∀ (h h' : Hp) {B : Nat} {π π' : Pi} {H : Hp} {w w' : World}, Step B π H w π' h w' → Step B π H w π' (joinH h h') w' := fun h h' _ _ _ _ _ _ hs =>
    hs.less (fun b x hx => (tJoin_get _ _ _ _ hx).1) (joinH_nx h h').1
  have key2 : ∀ (h h' : Hp) {B : Nat} {π π' : Pi} {H : Hp} {w w' : World}, Step B π H w π' h' w' → Step B π H w π' (joinH h h') w' := fun h h' _ _ _ _ _ _ hs =>
    hs.alike (fun b x hx => by
      obtain ⟨_, y, h1, h2⟩ := tJoin_get _ _ _ _ hx
      rcases eqBlk_spec h2 with rfl | ⟨es, es', c, rfl, rfl, hp⟩
      · exact .inl h1
      · exact .inr ⟨es, es', c, rfl, h1, hp⟩) (joinH_nx h h').2
  cases a with
  | bad w => exact ⟨.bad _ _, .bad _ _⟩
  | ret v h =>
    cases b with
    | bad w => exact ⟨.bad _ _, .bad _ _⟩
    | pan c h' => exact ⟨.bad _ _, .bad _ _⟩
    | ret v' h' =>
      have e : joinC (.ret v h) (.ret v' h') = bif AV.beq v v' then .ret v (joinH h h') else .bad "orders: values" := rfl
      rw [e]
      cases hb : AV.beq v v' with
      | false => exact ⟨.bad _ _, .bad _ _⟩
      | true =>
        rw [cond_true]
        have := AV.beq_eq _ _ hb
        subst this
        exact ⟨fun _ => ⟨trivial, fun B π H w e w' ⟨π', cv, h1, h2, h3⟩ => ⟨π', cv, h1, h2, key1 h h' h3⟩⟩, fun _ => ⟨trivial, fun B π H w e w' ⟨π', cv, h1, h2, h3⟩ => ⟨π', cv, h1, h2, key2 h h' h3⟩⟩⟩
  | pan c h =>
    cases b with
    | bad w => exact ⟨.bad _ _, .bad _ _⟩
    | ret v' h' => exact ⟨.bad _ _, .bad _ _⟩
    | pan c' h' =>
      have e : joinC (.pan c h) (.pan c' h') = bif eqPE c c' then .pan c (joinH h h') else .bad "orders: panics" := rfl
      rw [e]
      cases hb : eqPE c c' with
      | false => exact ⟨.bad _ _, .bad _ _⟩
      | true =>
        rw [cond_true]
        have := eqPE_eq _ _ hb
        subst this
        exact ⟨fun _ => ⟨trivial, fun B π H w e w' ⟨π', cv, h1, h2, h3⟩ => ⟨π', cv, h1, h2, key1 h h' h3⟩⟩, fun _ => ⟨trivial, fun B π H w e w' ⟨π', cv, h1, h2, h3⟩ => ⟨π', cv, h1, h2, key2 h h' h3⟩⟩⟩
theorem joinL_le : ∀ {l : List CR} {c : CR}, c ∈ l → Le (joinL l) c
  | [], c, h => by cases h
  | [a], c, h => by
    have := List.mem_singleton.1 h
    subst this
    exact .refl _
  | a :: b :: l, c, h => by
    show Le (joinC a (joinL (b :: l))) c
    rcases List.mem_cons.1 h with rfl | h
    · exact (joinC_le _ _).1
    · exact (joinC_le _ _).2.trans (joinL_le h)

/-! ### What an operation is to do -/
/-- The outcome of an operation and what the model makes of it. -/
def ORun (P : Program) (B : Nat) (π : Pi) (H : Hp) (w : World) (s : Sem Next) : OR → Prop
  | .bad _ => True
  | .val v H' => OVal P s B π H w v H'
  | .pan v H' => ∃ π' cv w', s.run P w = .halt (.panic cv) w' ∧ VR π' v cv ∧ Step B π H w π' H' w'
  | .dfr d => ∃ d', s.run P w = .ok (.defer d') w ∧ DR π d d'
  | .rcv => s.run P w = .ok .recover w
  | .call f args H' => ∃ π' cargs w', s.run P w = .ok (.enter f cargs) w' ∧ VRs π' args cargs.toList ∧ Step B π H w π' H' w'
  | .rnd l args H' => H' = H ∧ ∃ c z cargs, π l = some (c, z) ∧ s.run P w = (Instr.yield c cargs).run P w ∧ VRs π args cargs.toList
  | .alts l => ∃ p ∈ l, OVal P s B π H w p.1 p.2
/-- Operations whose outcome is their operands' alone. -/
def OpsOk (P : Program) : Prop := ∀ (r : T AV) (o : Oper) (B : Nat) (π : Pi) (H : Hp) (w : World) (a : Act), HRel π B H w → RR π r a.tmps → ORun P B π H w (execOp a.eval o) (opA P r o H)
/-- A call's function. -/
def CfOk (P : Program) (cf : CallF) : Prop := ∀ (B : Nat) (π : Pi) (H : Hp) (w : World) (f : Nat) (args : List AV) (cargs : Array Value), HRel π B H w → VRs π args cargs.toList → (cf f args H).ok → Calls P f cargs w (COut B π H w (cf f args H))
/-- A fence around nothing, in a round or not. -/
def Fw (ro : Option Nat) : Fence := { Fence.wide with round := ro }
theorem Fw_fenced (P : Program) (ro : Option Nat) : Machine.fenced P (Fw ro) = Machine.fenced P Fence.wide := rfl
theorem Fw_room (ro : Option Nat) (n : Nat) : (Fw ro).room n := room_wide n
theorem callsIn_Fw {P : Program} {ro : Option Nat} {n : Nat} {f : FuncId} {args : Array Value} {w : World} {R : Ending → World → Prop} : CallsIn (Fw ro) n P f args w R ↔ Calls P f args w R :=
  ⟨fun h cs => let ⟨e, w', fr, r, s, x⟩ := h.2 cs (room_wide _); ⟨e, w', fr, r, comesIn_wide.1 s, x⟩,
   fun h => ⟨trivial, fun cs _ => let ⟨e, w', fr, r, s, x⟩ := h cs; ⟨e, w', fr, r, comesIn_wide.2 s, x⟩⟩⟩
/-- A round's function. -/
def RfOk (P : Program) (rf : RndF) : Prop := ∀ (B : Nat) (π : Pi) (H : Hp) (w : World) (l : Nat) (args : List AV) (cargs : Array Value) (c z : Nat) (ro : Option Nat) (n : Nat), HRel π B H w → π l = some (c, z) → VRs π args cargs.toList → (rf l args H).ok →
  ∃ l' f tmps asg body w', (Instr.yield c cargs).run P w = .ok (.round l' f tmps asg body) w' ∧ RoundIn (Fw ro) n P l' f tmps asg body w' (COut B π H w (rf l args H))
/-- What the enclosing round is. -/
def RO (π : Pi) : Option Nat → Option Nat → Prop
  | none, none => True
  | some l, some c => ∃ z, π l = some (c, z)
  | _, _ => False
theorem RO.mono {π π' : Pi} (hE : PExt π π') {a b : Option Nat} (h : RO π a b) : RO π' a b := by
  cases a <;> cases b <;> first | trivial | exact h.elim | (obtain ⟨z, hz⟩ := h; exact ⟨z, hE _ _ hz⟩)

section
variable {P : Program} {cf : CallF} {rf : RndF} {B : Nat} {π : Pi} {H H' : Hp} {w : World} {r : T AV} {a : Act} {o : Oper} {ro : Option Nat} {n : Nat} {next : Act → World → Prop} {Q : Exit → Act → World → Prop}
theorem about_Fw : ∀ f, o.about P w a.eval = some f → (Fw ro).fn f := fun _ _ => trivial
theorem opA_defer {c : Call} (h : o.op = .defer c) {v : AV} : opA P r o H ≠ .val v H' := by
  unfold opA; rw [h]
  show opDefer c P r H ≠ _
  unfold opDefer
  split
  · split
    · split
      · cases hb : (_ : Func).body.isSome && !((_ : Func).name == "runtime.NumGoroutine") <;> simp
      · simp
    · simp
  · simp
/-- What an operation with its call comes to, as the kit's logic says it. -/
def EPost (_P : Program) (B : Nat) (π : Pi) (H : Hp) (w : World) (o : Oper) (a : Act) (next : Act → World → Prop) (Q : Exit → Act → World → Prop) : ER → Prop
  | .bad _ => False
  | .val v H' => ∀ π' cv w', VR π' v cv → Step B π H w π' H' w' → next (a.put o.dst cv) w'
  | .pan ch H' => ∀ π' chain w', PRs π' ch chain → Step B π H w π' H' w' → Q (.panic chain) a w'
  | .dfr d => ∀ d', DR π d d' → next ({ a with defers := d' :: a.defers }.put o.dst undef) w
  | .rcv => False
theorem opE_wp (hO : OpsOk P) (hc : CfOk P cf) (hr : RfOk P rf) (hH : HRel π B H w) (hR : RR π r a.tmps) (hd : ∀ d, opE cf rf (opA P r o H) = .dfr d → ro = none)
    (h : EPost P B π H w o a next Q (opE cf rf (opA P r o H))) : o.wpIn (Fw ro) n P a w next Q := by
  refine ⟨about_Fw, ?_⟩
  show o.uponIn (Fw ro) n P a next Q ((o.semAt ro a.eval).run P w)
  have hs := hO r o B π H w a hH hR
  have sem : (∀ d, opA P r o H ≠ .dfr d) → (o.semAt ro a.eval).run P w = (execOp a.eval o).run P w ∨ (∃ c, o.op = .defer c) := by
    intro _
    by_cases hx : ∃ c, o.op = .defer c
    · exact .inr hx
    · exact .inl (by rw [Oper.semAt_eq ro _ o (fun c hc => hx ⟨c, hc⟩)])
  have nodef : ∀ c, o.op = .defer c → ∃ x, opA P r o H = .dfr x ∨ ∃ y, opA P r o H = .bad y := by
    intro c hc
    unfold opA; rw [hc]
    show ∃ x, opDefer c P r H = .dfr x ∨ ∃ y, opDefer c P r H = .bad y
    unfold opDefer
    split
    · split
      · split
        · rename_i fn _
          cases hb : (fn.body.isSome && !(fn.name == "runtime.NumGoroutine")) with
          | true => exact ⟨_, .inl rfl⟩
          | false => exact ⟨.coll 0, .inr ⟨_, rfl⟩⟩
        · exact ⟨.coll 0, .inr ⟨_, rfl⟩⟩
      · exact ⟨.coll 0, .inr ⟨_, rfl⟩⟩
    · exact ⟨.coll 0, .inr ⟨_, rfl⟩⟩
  have semE : (∀ d, opA P r o H ≠ .dfr d) → (∀ y, opA P r o H ≠ .bad y) → (o.semAt ro a.eval).run P w = (execOp a.eval o).run P w := by
    intro h1 h2
    rcases sem h1 with h | ⟨c, hc⟩
    · exact h
    · obtain ⟨x, hx | ⟨y, hy⟩⟩ := nodef c hc
      · exact absurd hx (h1 x)
      · exact absurd hy (h2 y)
  cases ho : opA P r o H with
  | bad w => rw [ho] at h; exact h.elim
  | val v H' =>
    rw [ho] at h hs
    obtain ⟨π', w', cv, nx, h1, h2, h3, h4⟩ := hs
    rw [semE (by simp [ho]) (by simp [ho]), h1]
    rcases h2 with rfl | ⟨rfl, rfl⟩
    · exact h π' cv w' h3 h4
    · exact h π' undef w' h3 h4
  | pan v H' =>
    rw [ho] at h hs
    obtain ⟨π', cv, w', h1, h2, h3⟩ := hs
    rw [semE (by simp [ho]) (by simp [ho]), h1]
    exact h π' _ w' (.cons _ _ _ _ _ h2 .nil) h3
  | dfr d =>
    have hro := hd d (by rw [ho]; rfl)
    subst hro
    rw [ho] at h hs
    obtain ⟨d', h1, h2⟩ := hs
    rw [Oper.semAt_none, h1]
    exact h d' h2
  | rcv => rw [ho] at h; exact h.elim
  | alts l => rw [ho] at h; exact h.elim
  | call f args H' =>
    rw [ho] at h hs
    obtain ⟨π', cargs, w', h1, h2, h3⟩ := hs
    rw [semE (by simp [ho]) (by simp [ho]), h1]
    have h : EPost P B π H w o a next Q (cER (cf f args H')) := h
    refine ⟨fun hx => by simp [Fw, Fence.wide] at hx, callsIn_Fw.2 ?_⟩
    cases hcf : cf f args H' with
    | bad w => rw [hcf] at h; exact h.elim
    | ret v H2 =>
      rw [hcf] at h
      refine (hc B π' H' w' f args cargs h3.rel h2 (by rw [hcf]; trivial)).mono ?_
      intro e w2 he
      rw [hcf] at he
      obtain ⟨π2, cv, rfl, k1, k2⟩ := he
      exact h π2 cv w2 k1 (Step.trans hH h3 k2)
    | pan ch H2 =>
      rw [hcf] at h
      refine (hc B π' H' w' f args cargs h3.rel h2 (by rw [hcf]; trivial)).mono ?_
      intro e w2 he
      rw [hcf] at he
      obtain ⟨π2, chain, rfl, k1, k2⟩ := he
      exact h π2 chain w2 k1 (Step.trans hH h3 k2)
  | rnd l args H' =>
    rw [ho] at h hs
    obtain ⟨rfl, c, z, cargs, h1, h2, h3⟩ := hs
    rw [semE (by simp [ho]) (by simp [ho]), h2]
    have h : EPost P B π H' w o a next Q (cER (rf l args H')) := h
    have hok : (rf l args H').ok := by
      cases hrf : rf l args H' with
      | bad w => rw [hrf] at h; exact h.elim
      | ret => trivial
      | pan => trivial
    obtain ⟨l', f, tmps, asg, body, w', k1, k2⟩ := hr B π H' w l args cargs c z ro (n - 1) hH h1 h3 hok
    rw [k1]
    refine ⟨fun hx => by simp [Fw, Fence.wide] at hx, RoundIn.mono k2 ?_⟩
    intro e w2 he
    cases hrf : rf l args H' with
    | bad w => rw [hrf] at h; exact h.elim
    | ret v H2 =>
      rw [hrf] at h he
      obtain ⟨π2, cv, rfl, k1, k2⟩ := he
      exact h π2 cv w2 k1 k2
    | pan ch H2 =>
      rw [hrf] at h he
      obtain ⟨π2, chain, rfl, k1, k2⟩ := he
      exact h π2 chain w2 k1 k2
end
end Go.Proofs.YthfenjgelbkloaaGreatDoor.Ev

namespace Go.Proofs.YthfenjgelbkloaaGreatDoor.Ev
open Go Go.RowKit

/-! ### States -/
structure St (π : Pi) (q : Q) (r : T AV) (a : Act) : Prop where
  rr : RR π r a.tmps
  sz : a.tmps.size = q.sz
  df : DRs π q.df a.defers
def XR (π : Pi) : X → Exit → Prop
  | .nrm, .normal => True
  | .ext i, .exit j => i = j
  | .gto l, .goto m => l = m
  | .ret, .ret => True
  | .pan ch, .panic c => PRs π ch c
  | _, _ => False
structure QSame (q q' : Q) : Prop where
  sz : q'.sz = q.sz
  rc : q'.rc = q.rc
  rd : q'.rd = q.rd
theorem QSame.refl (q : Q) : QSame q q := ⟨rfl, rfl, rfl⟩
theorem QSame.trans {a b c : Q} (h : QSame a b) (k : QSame b c) : QSame a c := ⟨k.sz.trans h.sz, k.rc.trans h.rc, k.rd.trans h.rd⟩
def Post (B : Nat) (π : Pi) (h : Hp) (w : World) (q : Q) (res : CR) (k : XK) : Exit → Act → World → Prop := fun e a' w' =>
  ∃ x r' h' q' π', XR π' x e ∧ St π' q' r' a' ∧ QSame q q' ∧ Step B π h w π' h' w' ∧ Le res (k x r' h' q')
theorem Post.step {B : Nat} {π π1 : Pi} {h h1 : Hp} {w w1 : World} {q q1 : Q} {res res1 : CR} {k : XK} (hH : HRel π B h w) (hs : Step B π h w π1 h1 w1) (hq : QSame q q1) (hl : Le res res1) {e : Exit} {a' : Act} {w' : World} (hp : Post B π1 h1 w1 q1 res1 k e a' w') : Post B π h w q res k e a' w' := by
  obtain ⟨x, r', h', q', π', a1, a2, a3, a4, a5⟩ := hp
  exact ⟨x, r', h', q', π', a1, a2, hq.trans a3, Step.trans hH hs a4, hl.trans a5⟩
/-- What a piece of code is to do. -/
def SS (P : Program) (c : Code) (f : SF) : Prop := ∀ (r : T AV) (h : Hp) (q : Q) (k : XK), (f r h q k).ok → codeOk q.sz c = true → q.rc = .no → ∀ (B : Nat) (π : Pi) (a : Act) (w : World) (ro : Option Nat) (m : Nat), HRel π B h w → St π q r a → RO π q.rd ro →
  c.wpIn (Fw ro) m P (Post B π h w q (f r h q k) k) a w
section
variable {π : Pi} {q : Q} {r : T AV} {a : Act} {B : Nat} {H : Hp} {w : World}
theorem put_size (a : Act) (d : Option Nat) (v : Value) : (a.put d v).tmps.size = a.tmps.size := by cases d <;> simp [Act.put]
theorem put_defers (a : Act) (d : Option Nat) (v : Value) : (a.put d v).defers = a.defers := by cases d <;> rfl
theorem RR.put (hR : RR π r a.tmps) {d : Option Nat} {v : AV} {cv : Value} (hd : ∀ t, d = some t → t < a.tmps.size) (hv : VR π v cv) : RR π (putD d v r) (a.put d cv).tmps := by
  cases d with
  | none => exact hR
  | some t =>
    intro s u hu
    have hu : (r.put (some v) (Pos.of t)).get (Pos.of s) = some u := hu
    rw [T.get_putN] at hu
    show ∃ cv', (a.tmps.setIfInBounds t cv)[s]? = some cv' ∧ _
    by_cases hs : s = t
    · subst hs
      rw [if_pos rfl] at hu; cases hu
      exact ⟨cv, by simp [hd _ rfl], hv⟩
    · rw [if_neg hs] at hu
      obtain ⟨cu, h1, h2⟩ := hR s u hu
      exact ⟨cu, by rw [Array.getElem?_setIfInBounds_ne (fun e => hs e.symm)]; exact h1, h2⟩
theorem St.put {π' : Pi} (hE : PExt π π') (hS : St π q r a) {d : Option Nat} {v : AV} {cv : Value} (hd : ∀ t, d = some t → t < q.sz) (hv : VR π' v cv) : St π' q (putD d v r) (a.put d cv) :=
  ⟨RR.put (hS.rr.mono hE) (fun t ht => by rw [hS.sz]; exact hd t ht) hv, by rw [put_size]; exact hS.sz, by rw [put_defers]; exact hS.df.mono hE⟩
theorem undA_R : VR π undA undef := .tup _ _ .nil
/-- A guard. -/
theorem grdA_sound {ops : Array Oper} {o : Oper} {g : Nat × Bool} (hg : o.guard = some g) (hR : RR π r a.tmps) {b : Bool} (h : grdA ops r g = some b) : Region.wanted o (yielded ops a.tmps) = b := by
  obtain ⟨d, h1, h2⟩ := oo_eq h
  obtain ⟨v, h3, h4⟩ := oo_eq h2
  obtain ⟨cv, h5, h6⟩ := hR d v h3
  have hy : ((ops[g.1]?).bind (·.dst)).bind (a.tmps[·]?) = some cv := by
    unfold grdD at h1
    cases ho : ops[g.1]? with
    | none => rw [ho] at h1; cases h1
    | some q =>
      rw [ho] at h1
      have h1 : q.dst = some d := h1
      simp [h1, h5]
  unfold Region.wanted
  rw [hg]
  show (yielded ops a.tmps g.1 == some g.2) = b
  unfold yielded
  rw [hy]
  cases h6 with
  | bool x =>
    have h4 : some (ob x (!g.2) g.2) = some b := h4
    cases h4
    cases x <;> cases g.2 <;> rfl
  | tup l l' hl =>
    have h4 : (match AV.tup l with | .tup [] => some false | _ => none) = some b := h4
    cases l with
    | nil => cases h4; rfl
    | cons => cases h4
  | _ => cases h4
theorem wantA_sound {ops : Array Oper} {o : Oper} (hR : RR π r a.tmps) {b : Bool} (h : wantA ops r o = some b) : Region.wanted o (yielded ops a.tmps) = b := by
  cases hg : o.guard with
  | none => unfold wantA at h; rw [hg] at h; cases h; unfold Region.wanted; rw [hg]
  | some g => unfold wantA at h; rw [hg] at h; exact grdA_sound hg hR h
end

/-! ### Monotony -/
section
variable {F : Fence} {n : Nat} {P : Program}
theorem Oper.wpIn_mono2 {o : Oper} {a : Act} {w : World} {K K' : Act → World → Prop} {Q Q' : Exit → Act → World → Prop} (h : ∀ a w, K a w → K' a w) (hq : ∀ e a w, Q e a w → Q' e a w)
    (hh : o.wpIn F n P a w K Q) : o.wpIn F n P a w K' Q' := by
  unfold Oper.wpIn at *
  refine ⟨hh.1, ?_⟩
  have hh := hh.2
  have hl : LetsOut Q → LetsOut Q' := fun ⟨a, w, k⟩ => ⟨a, w, hq _ _ _ k⟩
  generalize (o.semAt F.round a.eval).run P w = r at *
  cases r with
  | ok x w' =>
    cases x <;> simp only [Oper.uponIn] at hh ⊢ <;>
      first
        | exact h _ _ hh
        | exact ⟨hh.1, CallsIn.mono hh.2 (fun e w'' he => by cases e <;> first | exact h _ _ he | exact hq _ _ _ he | exact hl he)⟩
        | exact ⟨hh.1, RowsIn.mono hh.2 (fun _ _ he => h _ _ he)⟩
        | exact ⟨hh.1, RoundIn.mono hh.2 (fun e w'' he => by cases e <;> first | exact h _ _ he | exact hq _ _ _ he | exact hl he)⟩
  | halt x w' => cases x <;> simp only [Oper.uponIn] at hh ⊢ <;> first | exact hh | exact hq _ _ _ hh
theorem wpOpsIn_mono {ops : Array Oper} {Q Q' : Exit → Act → World → Prop} (hq : ∀ e a w, Q e a w → Q' e a w) : ∀ (l : List Nat) (a : Act) (w : World), wpOpsIn F n P ops Q l a w → wpOpsIn F n P ops Q' l a w
  | [], a, w, h => hq _ _ _ h
  | i :: rest, a, w, h => by
    unfold wpOpsIn at h ⊢
    cases ho : ops[i]? with
    | none => rw [ho] at h; exact wpOpsIn_mono hq rest a w h
    | some o =>
      rw [ho] at h
      simp only at h ⊢
      split
      · rename_i hw; rw [if_pos hw] at h; exact Oper.wpIn_mono2 (fun a w => wpOpsIn_mono hq rest a w) hq h
      · rename_i hw; rw [if_neg hw] at h; exact ⟨h.1, wpOpsIn_mono hq rest _ w h.2⟩
end

/-! ### Operations with continuations -/
noncomputable def onE (e : ER) (o : Oper) (ih : SF) (r : T AV) (h : Hp) (q : Q) (k : XK) : CR :=
  match e with
  | .bad w => .bad w
  | .val v h' => ih (putD o.dst v r) h' q k
  | .pan ch h' => k (.pan ch) r h' q
  | .dfr d => oo q.rd (ih (putD o.dst undA r) h ⟨q.sz, d :: q.df, q.rc, q.rd⟩ k) fun _ => .bad "defer in a round"
  | .rcv => .bad "recover"
theorem opS_eq (P : Program) (cf : CallF) (rf : RndF) (o : Oper) (ih : SF) (r : T AV) (h : Hp) (q : Q) (k : XK) (hna : ∀ l, opA P r o h ≠ .alts l) : opS P cf rf o ih r h q k = onE (opE cf rf (opA P r o h)) o ih r h q k := by
  unfold opS
  cases hA : opA P r o h with
  | call f args h' => show onCR (cf f args h') o ih r q k = onE (cER (cf f args h')) o ih r h q k; cases cf f args h' <;> rfl
  | rnd f args h' => show onCR (rf f args h') o ih r q k = onE (cER (rf f args h')) o ih r h q k; cases rf f args h' <;> rfl
  | alts l => exact absurd hA (hna l)
  | _ => rfl
theorem opS_alts (P : Program) (cf : CallF) (rf : RndF) (o : Oper) (ih : SF) (r : T AV) (h : Hp) (q : Q) (k : XK) {l : List (AV × Hp)} (ha : opA P r o h = .alts l) : opS P cf rf o ih r h q k = joinL (l.map fun p => ih (putD o.dst p.1 r) p.2 q k) := by
  unfold opS
  rw [ha]; rfl
section
variable {P : Program} {cf : CallF} {rf : RndF}
theorem dstOk_mem {n : Nat} {ops : List Oper} (h : dstOk n ops = true) {o : Oper} (ho : o ∈ ops) {t : Nat} (ht : o.dst = some t) : t < n := by
  have := List.all_eq_true.1 h o ho
  simp only [ht] at this
  simpa [Nat.blt_eq] using this
theorem opsS_cons (ops : Array Oper) (o : Oper) (l : List Oper) : opsS P cf rf ops (o :: l) = opsStep P cf rf ops o (opsS P cf rf ops l) := rfl
theorem opsS_sound (hO : OpsOk P) (hc : CfOk P cf) (hr : RfOk P rf) (ops : Array Oper) (B : Nat) (ro : Option Nat) (m : Nat) : ∀ (l : List Oper) (i : Nat), (∀ j, l[j]? = ops[i + j]?) → ∀ (r : T AV) (h : Hp) (q : Q) (k : XK), (opsS P cf rf ops l r h q k).ok → dstOk q.sz l = true → ∀ (π : Pi) (a : Act) (w : World), HRel π B h w → St π q r a → RO π q.rd ro →
    wpOpsIn (Fw ro) m P ops (Post B π h w q (opsS P cf rf ops l r h q k) k) (List.range' i l.length) a w := by
  intro l
  induction l with
  | nil =>
    intro i _ r h q k hok _ π a w hH hS _
    exact ⟨.nrm, r, h, q, π, trivial, hS, .refl q, .refl hH, .refl _⟩
  | cons o l ih =>
    intro i hl r h q k hok hd π a w hH hS hro
    have ho : ops[i]? = some o := by have := hl 0; simpa using this.symm
    have hl' : ∀ j, l[j]? = ops[i + 1 + j]? := fun j => by have := hl (j + 1); simpa [Nat.add_assoc, Nat.add_comm 1 j] using this
    have hdo : ∀ t, o.dst = some t → t < q.sz := fun t ht => dstOk_mem hd (by simp) ht
    have hdl : dstOk q.sz l = true := by unfold dstOk at hd ⊢; rw [List.all_cons, Bool.and_eq_true] at hd; exact hd.2
    rw [List.length_cons, List.range'_succ]
    unfold wpOpsIn
    simp only [ho]
    rw [opsS_cons] at hok ⊢
    have go : ∀ (res : CR), res.ok → res = opS P cf rf o (opsS P cf rf ops l) r h q k → o.wpIn (Fw ro) m P a w (wpOpsIn (Fw ro) m P ops (Post B π h w q res k) (List.range' (i + 1) l.length)) (Post B π h w q res k) := by
      intro res hres he
      by_cases hal : ∃ la, opA P r o h = .alts la
      · obtain ⟨la, hal⟩ := hal
        rw [opS_alts _ _ _ _ _ _ _ _ _ hal] at he
        have hs := hO r o B π h w a hH hS.rr
        rw [hal] at hs
        obtain ⟨p, hp, π', w', cv, nx, r1, r2, r3, r4⟩ := hs
        have hle : Le res (opsS P cf rf ops l (putD o.dst p.1 r) p.2 q k) := by rw [he]; exact joinL_le (List.mem_map.2 ⟨p, hp, rfl⟩)
        have hdf : ∀ c, o.op ≠ .defer c := by
          intro c hcc
          unfold opA at hal
          rw [hcc] at hal
          have hal : opDefer c P r h = .alts la := hal
          unfold opDefer at hal
          split at hal
          · split at hal
            · split at hal
              · rw [Bool.cond_eq_ite] at hal
                split at hal <;> cases hal
              · cases hal
            · cases hal
          · cases hal
        refine ⟨about_Fw, ?_⟩
        show o.uponIn (Fw ro) m P a _ _ ((o.semAt ro a.eval).run P w)
        rw [Oper.semAt_eq ro _ o hdf, r1]
        have := ih (i + 1) hl' _ p.2 q k (hle hres).1 hdl π' (a.put o.dst cv) w' r4.rel (hS.put r4.ext hdo r3) (hro.mono r4.ext)
        have go : wpOpsIn (Fw ro) m P ops (Post B π h w q res k) (List.range' (i + 1) l.length) (a.put o.dst cv) w' := by
          refine wpOpsIn_mono ?_ _ _ _ this
          intro e a' w'' hp
          exact hp.step hH r4 (.refl q) hle
        rcases r2 with rfl | ⟨rfl, rfl⟩
        · exact go
        · exact go
      have hna : ∀ la, opA P r o h ≠ .alts la := fun la e => hal ⟨la, e⟩
      rw [opS_eq _ _ _ _ _ _ _ _ _ hna] at he
      refine opE_wp hO hc hr hH hS.rr ?_ ?_
      · intro d hd'
        rw [hd'] at he
        have he : res = oo q.rd (opsS P cf rf ops l (putD o.dst undA r) h ⟨q.sz, d :: q.df, q.rc, q.rd⟩ k) fun _ => .bad "defer in a round" := he
        cases hq : q.rd with
        | none => rw [hq] at hro; cases ro with | none => rfl | some _ => exact hro.elim
        | some l' => rw [hq] at he; rw [he] at hres; exact hres.elim
      · cases hE : opE cf rf (opA P r o h) with
        | bad w => rw [hE] at he; rw [he] at hres; exact hres.elim
        | rcv => rw [hE] at he; rw [he] at hres; exact hres.elim
        | val v h' =>
          rw [hE] at he
          have he : res = opsS P cf rf ops l (putD o.dst v r) h' q k := he
          intro π' cv w' hv hs
          subst he
          have := ih (i + 1) hl' _ h' q k hres hdl π' (a.put o.dst cv) w' hs.rel (hS.put hs.ext hdo hv) (hro.mono hs.ext)
          refine wpOpsIn_mono ?_ _ _ _ this
          intro e a' w'' hp
          exact hp.step hH hs (.refl q) (.refl _)
        | pan ch h' =>
          rw [hE] at he
          have he : res = k (.pan ch) r h' q := he
          intro π' chain w' hv hs
          exact ⟨.pan ch, r, h', q, π', hv, ⟨hS.rr.mono hs.ext, hS.sz, hS.df.mono hs.ext⟩, .refl q, hs, .ofEq he⟩
        | dfr d =>
          rw [hE] at he
          have he : res = oo q.rd (opsS P cf rf ops l (putD o.dst undA r) h ⟨q.sz, d :: q.df, q.rc, q.rd⟩ k) fun _ => .bad "defer in a round" := he
          cases hq : q.rd with
          | some l' => rw [hq] at he; rw [he] at hres; exact hres.elim
          | none =>
            rw [hq] at he
            have he : res = opsS P cf rf ops l (putD o.dst undA r) h ⟨q.sz, d :: q.df, q.rc, none⟩ k := he
            intro d' hd'
            subst he
            have h1 : St π ⟨q.sz, d :: q.df, q.rc, none⟩ r { a with defers := d' :: a.defers } := ⟨hS.rr, hS.sz, .cons _ _ _ _ hd' hS.df⟩
            have := ih (i + 1) hl' (putD o.dst undA r) h ⟨q.sz, d :: q.df, q.rc, none⟩ k hres hdl π ({ a with defers := d' :: a.defers }.put o.dst undef) w hH (h1.put (.refl π) hdo undA_R) (by rw [hq] at hro; exact hro)
            refine wpOpsIn_mono ?_ _ _ _ this
            intro e a' w'' hp
            exact Post.step (q := q) (q1 := ⟨q.sz, d :: q.df, q.rc, none⟩) hH (.refl hH) ⟨rfl, rfl, hq.symm⟩ (.refl _) hp
    cases hg : o.guard with
    | none =>
      have e1 : opsStep P cf rf ops o (opsS P cf rf ops l) = opS P cf rf o (opsS P cf rf ops l) := by unfold opsStep; rw [hg]; rfl
      have hw : Region.wanted o (yielded ops a.tmps) = true := by unfold Region.wanted; rw [hg]
      rw [if_pos hw]
      rw [e1] at hok ⊢
      exact go _ hok rfl
    | some g =>
      have e1 : opsStep P cf rf ops o (opsS P cf rf ops l) = opsG P cf rf ops o (opsS P cf rf ops l) g := by unfold opsStep; rw [hg]; rfl
      rw [e1] at hok ⊢
      unfold opsG at hok ⊢
      cases hga : grdA ops r g with
      | none => rw [hga] at hok; exact hok.elim
      | some b =>
        rw [hga] at hok
        have hw := grdA_sound hg hS.rr hga
        rw [hw]
        cases b with
        | true =>
          rw [if_pos rfl]
          exact go _ hok rfl
        | false =>
          rw [if_neg (by simp)]
          refine ⟨about_Fw, ?_⟩
          exact ih (i + 1) hl' (putD o.dst undA r) h q k hok hdl π (a.put o.dst undef) w hH (hS.put (.refl π) hdo undA_R) hro

/-! ### Code -/
theorem SS.skip : SS P .skip (sX .nrm) := fun r h q _k _ _ _ _ _ _ _ _ _ hH hS _ => wpIn_skip ⟨.nrm, r, h, q, _, trivial, hS, .refl q, .refl hH, .refl _⟩
theorem SS.label {l : Nat} : SS P (.label l) (sX .nrm) := fun r h q _k _ _ _ _ _ _ _ _ _ hH hS _ => wpIn_label ⟨.nrm, r, h, q, _, trivial, hS, .refl q, .refl hH, .refl _⟩
theorem SS.exit {id : Nat} : SS P (.exit id) (sX (.ext id)) := fun r h q _k _ _ _ _ _ _ _ _ _ hH hS _ => wpIn_exit ⟨.ext id, r, h, q, _, rfl, hS, .refl q, .refl hH, .refl _⟩
theorem SS.goto {l : Nat} : SS P (.goto l) (sX (.gto l)) := fun r h q _k _ _ _ _ _ _ _ _ _ hH hS _ => wpIn_goto ⟨.gto l, r, h, q, _, rfl, hS, .refl q, .refl hH, .refl _⟩
theorem SS.ret : SS P .ret (sX .ret) := fun r h q _k _ _ _ _ _ _ _ _ _ hH hS _ => wpIn_ret ⟨.ret, r, h, q, _, trivial, hS, .refl q, .refl hH, .refl _⟩
theorem SS.refuse {s : String} : SS P (.refuse s) (fun _ _ _ _ => .bad s) := fun _r _h _q _k hok => hok.elim
theorem SS.region (hO : OpsOk P) (hc : CfOk P cf) (hr : RfOk P rf) {id : Nat} {ops : Array Oper} : SS P (.region id ops false) (opsS P cf rf ops ops.toList) := by
  intro r h q k hok hd _ B π a w ro m hH hS hro
  refine wpIn_region ?_
  have := opsS_sound hO hc hr ops B ro m ops.toList 0 (fun j => by simp) r h q k hok hd π a w hH hS hro
  rwa [Array.length_toList, ← List.range_eq_range'] at this
theorem XR.normal {π : Pi} {x : X} (h : XR π x .normal) : x = .nrm := by cases x <;> first | rfl | exact h.elim
theorem SS.seq {x y : Code} {f g : SF} (hf : SS P x f) (hg : SS P y g) : SS P (.seq x y) (fun r h q k => f r h q (seqK g k)) := by
  intro r h q k hok hd hrc B π a w ro m hH hS hro
  have hd : (codeOk q.sz x && codeOk q.sz y) = true := hd
  rw [Bool.and_eq_true] at hd
  refine wpIn_seq (wpIn_mono (hf r h q (seqK g k) hok hd.1 hrc B π a w ro m hH hS hro) ?_)
  intro e a' w' hp
  obtain ⟨x1, r', h', q', π', a1, a2, a3, a4, a5⟩ := hp
  cases e with
  | normal =>
    have := a1.normal; subst this
    have a5 : Le (f r h q (seqK g k)) (g r' h' q' k) := a5
    have hk := (a5 hok).1
    refine wpIn_mono (hg r' h' q' k hk (by rw [a3.sz]; exact hd.2) (a3.rc.trans hrc) B π' a' w' ro m a4.rel a2 (by rw [a3.rd]; exact hro.mono a4.ext)) ?_
    intro e a2 w2 hp
    exact Post.step hH a4 a3 a5 hp
  | outgrown => cases x1 <;> exact a1.elim
  | exit i => cases x1 <;> first | exact a1.elim | exact ⟨_, r', h', q', π', a1, a2, a3, a4, a5⟩
  | goto i => cases x1 <;> first | exact a1.elim | exact ⟨_, r', h', q', π', a1, a2, a3, a4, a5⟩
  | ret => cases x1 <;> first | exact a1.elim | exact ⟨_, r', h', q', π', a1, a2, a3, a4, a5⟩
  | panic i => cases x1 <;> first | exact a1.elim | exact ⟨_, r', h', q', π', a1, a2, a3, a4, a5⟩
theorem oo_ok {α : Type} {x : Option α} {s : String} {k : α → CR} (h : (oo x (.bad s) k).ok) : ∃ a, x = some a ∧ (k a).ok := oo_inv (p := CR.ok) h (fun h => h)
theorem SS.cond {c : Operand} {x y : Code} {f g : SF} (hf : SS P x f) (hg : SS P y g) : SS P (.cond c x y) (condS c f g) := by
  intro r h q k hok hd hrc B π a w ro m hH hS hro
  have hd : (codeOk q.sz x && codeOk q.sz y) = true := hd
  rw [Bool.and_eq_true] at hd
  obtain ⟨v, h1, h2⟩ := oo_ok hok
  obtain ⟨b, rfl, h3⟩ := avBool_some (p := CR.ok) h2 (fun h => h)
  have hv := opnd_sound hH hS.rr h1
  have hb : a.eval c = .bool b := by generalize a.eval c = cv at hv; cases hv; rfl
  have e : condS c f g r h q k = (ob b g f) r h q k := by unfold condS; rw [h1]; cases b <;> rfl
  rw [e] at hok ⊢
  cases b with
  | true => exact wpIn_cond_true hb (hf r h q k hok hd.1 hrc B π a w ro m hH hS hro)
  | false => exact wpIn_cond_false hb (hg r h q k hok hd.2 hrc B π a w ro m hH hS hro)
theorem SS.block {id : Nat} {x : Code} {f : SF} (hf : SS P x f) : SS P (.block id x) (fun r h q k => f r h q (blockK id k)) := by
  intro r h q k hok hd hrc B π a w ro m hH hS hro
  refine wpIn_block (wpIn_mono (hf r h q (blockK id k) hok hd hrc B π a w ro m hH hS hro) ?_)
  intro e a' w' hp
  obtain ⟨x1, r', h', q', π', a1, a2, a3, a4, a5⟩ := hp
  cases e with
  | normal => have := a1.normal; subst this; exact ⟨.nrm, r', h', q', π', trivial, a2, a3, a4, a5⟩
  | outgrown => cases x1 <;> exact a1.elim
  | exit i =>
    cases x1 <;> first | exact a1.elim | skip
    rename_i j
    have a1 : j = i := a1
    subst a1
    have a5 : Le (f r h q (blockK id k)) (ob (Nat.beq j id) (k (.ext j) r' h' q') (k .nrm r' h' q')) := a5
    by_cases hj : j = id
    · subst hj
      simp only [Exit.inBlock, if_true]
      rw [Nat.beq_refl] at a5
      exact ⟨.nrm, r', h', q', π', trivial, a2, a3, a4, a5⟩
    · simp only [Exit.inBlock, if_neg hj]
      have hb : Nat.beq j id = false := by
        cases hb : Nat.beq j id with
        | true => exact absurd (Nat.eq_of_beq_eq_true hb) hj
        | false => rfl
      rw [hb] at a5
      exact ⟨.ext j, r', h', q', π', rfl, a2, a3, a4, a5⟩
  | goto i => cases x1 <;> first | exact a1.elim | exact ⟨_, r', h', q', π', a1, a2, a3, a4, a5⟩
  | ret => cases x1 <;> first | exact a1.elim | exact ⟨_, r', h', q', π', a1, a2, a3, a4, a5⟩
  | panic i => cases x1 <;> first | exact a1.elim | exact ⟨_, r', h', q', π', a1, a2, a3, a4, a5⟩
theorem least {p : Nat → Prop} (h : ∃ n, p n) : ∃ n, p n ∧ ∀ m, p m → n ≤ m := by
  obtain ⟨n, hn⟩ := h
  induction n using Nat.strongRecOn with
  | _ n ih =>
    by_cases hm : ∃ m, m < n ∧ p m
    · obtain ⟨m, h1, h2⟩ := hm; exact ih m h1 h2
    · exact ⟨n, hn, fun m hp => Nat.le_of_not_lt fun hlt => hm ⟨m, hlt, hp⟩⟩
/-- A loop, with its rounds counted by the invariant. -/
theorem wpIn_loopN {F : Fence} {m : Nat} {c : Code} {Q : Exit → Act → World → Prop} {a : Act} {w : World} (I : Nat → Act → World → Prop) (n0 : Nat) (h0 : I n0 a w)
    (round : ∀ n a w, I n a w → c.wpIn F m P (Exit.then (fun a' w' => ∃ n', n' < n ∧ I n' a' w') Q) a w) : (Code.loop c).wpIn F m P Q a w := by
  classical
  refine wpIn_loop (fun a w => ∃ n, I n a w) (fun a w => if h : ∃ n, I n a w then Classical.choose (least h) else 0) ⟨n0, h0⟩ ?_
  intro a w h
  have hs := Classical.choose_spec (least h)
  refine wpIn_mono (round (Classical.choose (least h)) a w hs.1) ?_
  intro e a' w' hq
  cases e with
  | normal =>
    obtain ⟨n', h1, h2⟩ := hq
    refine ⟨⟨n', h2⟩, ?_⟩
    have h3 : ∃ n, I n a' w' := ⟨n', h2⟩
    rw [dif_pos h3, dif_pos h]
    exact Nat.lt_of_le_of_lt ((Classical.choose_spec (least h3)).2 _ h2) h1
  | _ => exact hq
theorem loopS_succ (body : SF) (k : XK) (n : Nat) (r : T AV) (h : Hp) (q : Q) : loopS body k (n + 1) r h q = body r h q (loopK k (loopS body k n)) := rfl
theorem SS.loop {x : Code} {f : SF} (n : Nat) (hf : SS P x f) : SS P (.loop x) (fun r h q k => loopS f k n r h q) := by
  intro r h q k hok hd hrc B π a w ro m hH hS hro
  refine wpIn_loopN (fun n' a' w' => ∃ r' h' q' π', St π' q' r' a' ∧ QSame q q' ∧ Step B π h w π' h' w' ∧ Le (loopS f k n r h q) (loopS f k n' r' h' q')) n ⟨r, h, q, π, hS, .refl q, .refl hH, .refl _⟩ ?_
  rintro n' a' w' ⟨r', h', q', π', b1, b2, b3, b4⟩
  have hk := (b4 hok).1
  cases n' with
  | zero => exact hk.elim
  | succ n' =>
    rw [loopS_succ] at hk b4
    refine wpIn_mono (hf r' h' q' (loopK k (loopS f k n')) hk (by rw [b2.sz]; exact hd) (b2.rc.trans hrc) B π' a' w' ro m b3.rel b1 (by rw [b2.rd]; exact hro.mono b3.ext)) ?_
    intro e a2 w2 hp
    obtain ⟨x1, r2, h2, q2, π2, a1, a2, a3, a4, a5⟩ := hp
    cases e with
    | normal =>
      have := a1.normal; subst this
      exact ⟨n', Nat.lt_succ_self _, r2, h2, q2, π2, a2, b2.trans a3, Step.trans hH b3 a4, b4.trans a5⟩
    | outgrown => cases x1 <;> exact a1.elim
    | exit i => cases x1 <;> first | exact a1.elim | exact ⟨_, r2, h2, q2, π2, a1, a2, b2.trans a3, Step.trans hH b3 a4, b4.trans a5⟩
    | goto i => cases x1 <;> first | exact a1.elim | exact ⟨_, r2, h2, q2, π2, a1, a2, b2.trans a3, Step.trans hH b3 a4, b4.trans a5⟩
    | ret => cases x1 <;> first | exact a1.elim | exact ⟨_, r2, h2, q2, π2, a1, a2, b2.trans a3, Step.trans hH b3 a4, b4.trans a5⟩
    | panic i => cases x1 <;> first | exact a1.elim | exact ⟨_, r2, h2, q2, π2, a1, a2, b2.trans a3, Step.trans hH b3 a4, b4.trans a5⟩
end
end Go.Proofs.YthfenjgelbkloaaGreatDoor.Ev

namespace Go.Proofs.YthfenjgelbkloaaGreatDoor.Ev
open Go Go.RowKit

/-! ### Scopes -/
section
variable {F : Fence} {n : Nat} {P : Program} {Q : Exit → Act → World → Prop}
theorem stepR_scope {b : Frame} {a : Act} {k : List Item} {cs : List Frame} {w : World} {c : Code} : step P (lone (b.atR a (.code (.scope c) :: k)) cs w) = .next (lone (b.atR a (.code c :: .inScope c :: k)) cs w) :=
  step_lone_go (by simp [stepG, stepG.exec, Frame.atR])
theorem stepR_inScope {b : Frame} {a : Act} {k : List Item} {cs : List Frame} {w : World} {c : Code} : step P (lone (b.atR a (.inScope c :: k)) cs w) = .next (lone (b.atR a k) cs w) :=
  step_lone_go (by simp [stepG, stepG.exec, Frame.atR])
/-- An exit of a scope's code. -/
def jumpQ (body : Code) (J : Code → Act → World → Prop) (Q : Exit → Act → World → Prop) : Exit → Act → World → Prop
  | .goto l, a, w => match findLabel body l with
    | some x => J x a w
    | none => Q (.goto l) a w
  | e, a, w => Q e a w
theorem wpIn_scopeN {body : Code} {a : Act} {w : World} (I : Nat → Code → Act → World → Prop) (n0 : Nat) (h0 : I n0 body a w)
    (round : ∀ m x a w, I m x a w → x.wpIn F n P (jumpQ body (fun x' a' w' => ∃ m', m' < m ∧ I m' x' a' w') Q) a w) : (Code.scope body).wpIn F n P Q a w := by
  intro b k cs hro hb hr
  have key : ∀ m x a w, I m x a w → ∃ e a' w', Q e a' w' ∧ ArrivesIn (Machine.fenced P F) P (lone (b.atR a (.code x :: .inScope body :: k)) cs w) b k cs e a' w' := by
    intro m
    induction m using Nat.strongRecOn with
    | _ m ih =>
      intro x a w hI
      obtain ⟨e, a₁, w₁, hq, harr⟩ := round m x a w hI b (.inScope body :: k) cs hro hb hr
      cases e with
      | normal => exact ⟨.normal, a₁, w₁, hq, StepsIn.trans harr (.one (fenced_calm hb hr rfl) stepR_inScope)⟩
      | exit id => exact ⟨.exit id, a₁, w₁, hq, fun k' hk => harr.1 k' (by simp [exitTo, hk]), fun hro hk => harr.2 hro (by simp [exitTo, hk])⟩
      | goto l =>
        cases hf : findLabel body l with
        | some x' =>
          have hq : ∃ m', m' < m ∧ I m' x' a₁ w₁ := by simpa [jumpQ, hf] using hq
          obtain ⟨m', hm, hI'⟩ := hq
          obtain ⟨e₂, a₂, w₂, hq₂, harr₂⟩ := ih m' hm x' a₁ w₁ hI'
          exact ⟨e₂, a₂, w₂, hq₂, .of_steps (harr.1 _ (by simp [gotoIn, hf])) harr₂⟩
        | none =>
          have hq : Q (.goto l) a₁ w₁ := by simpa [jumpQ, hf] using hq
          have hg : gotoIn l (.inScope body :: k) = gotoIn l k := by simp [gotoIn, hf]
          exact ⟨.goto l, a₁, w₁, hq, fun k' hk => harr.1 k' (by rw [hg]; exact hk), fun hro hk => harr.2 hro (by rw [hg]; exact hk)⟩
      | ret => exact ⟨_, a₁, w₁, hq, harr⟩
      | panic ch => exact ⟨_, a₁, w₁, hq, harr⟩
      | outgrown => exact ⟨_, a₁, w₁, hq, harr⟩
  obtain ⟨e, a', w', hq, harr⟩ := key n0 body a w h0
  exact ⟨e, a', w', hq, .of_steps (.one (fenced_calm hb hr rfl) stepR_scope) harr⟩
end
theorem findLabel_ok {n : Nat} {l : Nat} : ∀ {c x : Code}, codeOk n c = true → findLabel c l = some x → codeOk n x = true
  | .seq a b, x, hc, h => by
    have hc : (codeOk n a && codeOk n b) = true := hc
    rw [Bool.and_eq_true] at hc
    unfold findLabel at h
    cases h1 : findLabel a l with
    | some y =>
      rw [h1] at h; cases h
      show (codeOk n y && codeOk n b) = true
      rw [findLabel_ok hc.1 h1, hc.2]; rfl
    | none => rw [h1] at h; exact findLabel_ok hc.2 h
  | .label l', x, _, h => by
    unfold findLabel at h
    split at h
    · cases h; rfl
    · cases h
  | .skip, x, _, h => by cases h
  | .region .., x, _, h => by cases h
  | .cond .., x, _, h => by cases h
  | .block .., x, _, h => by cases h
  | .loop .., x, _, h => by cases h
  | .rangeFunc .., x, _, h => by cases h
  | .exit .., x, _, h => by cases h
  | .scope .., x, _, h => by cases h
  | .goto .., x, _, h => by cases h
  | .ret, x, _, h => by cases h
  | .refuse .., x, _, h => by cases h
/-- Code, by an evaluator of less fuel. -/
def EvOk (P : Program) (ev : CodeF) : Prop := ∀ c, SS P c (ev c)
theorem SS.scope {P : Program} {ev : CodeF} (hev : EvOk P ev) {x : Code} (n : Nat) : SS P (.scope x) (fun r h q k => scopeS ev x k n x r h q) := by
  intro r h q k hok hd hrc B π a w ro m hH hS hro
  have hd : codeOk q.sz x = true := hd
  refine wpIn_scopeN (fun n' c a' w' => codeOk q.sz c = true ∧ ∃ r' h' q' π', St π' q' r' a' ∧ QSame q q' ∧ Step B π h w π' h' w' ∧ Le (scopeS ev x k n x r h q) (scopeS ev x k n' c r' h' q')) n ⟨hd, r, h, q, π, hS, .refl q, .refl hH, .refl _⟩ ?_
  rintro n' c a' w' ⟨hc, r', h', q', π', b1, b2, b3, b4⟩
  have hk := (b4 hok).1
  cases n' with
  | zero => exact hk.elim
  | succ n' =>
    unfold scopeS at hk
    have b4' : Le (scopeS ev x k n x r h q) (ev c r' h' q' fun x1 r h q => match x1 with
      | .gto l => match findLabel x l with
        | some c' => tick (scopeS ev x k n' c' r h q)
        | none => k (.gto l) r h q
      | x1 => k x1 r h q) := by
      have := b4
      conv at this => rhs; unfold scopeS
      exact this
    refine wpIn_mono (hev c r' h' q' _ hk (by rw [b2.sz]; exact hc) (b2.rc.trans hrc) B π' a' w' ro m b3.rel b1 (by rw [b2.rd]; exact hro.mono b3.ext)) ?_
    intro e a2 w2 hp
    obtain ⟨x1, r2, h2, q2, π2, a1, a2, a3, a4, a5⟩ := hp
    replace a5 := b4'.trans a5
    cases e with
    | normal =>
      have := a1.normal; subst this
      exact ⟨.nrm, r2, h2, q2, π2, trivial, a2, b2.trans a3, Step.trans hH b3 a4, a5⟩
    | outgrown => cases x1 <;> exact a1.elim
    | exit i => cases x1 <;> first | exact a1.elim | exact ⟨_, r2, h2, q2, π2, a1, a2, b2.trans a3, Step.trans hH b3 a4, a5⟩
    | ret => cases x1 <;> first | exact a1.elim | exact ⟨_, r2, h2, q2, π2, a1, a2, b2.trans a3, Step.trans hH b3 a4, a5⟩
    | panic i => cases x1 <;> first | exact a1.elim | exact ⟨_, r2, h2, q2, π2, a1, a2, b2.trans a3, Step.trans hH b3 a4, a5⟩
    | goto i =>
      cases x1 <;> first | exact a1.elim | skip
      rename_i l
      have a1 : l = i := a1
      subst a1
      show match findLabel x l with
        | some x' => _
        | none => _
      cases hf : findLabel x l with
      | some c' =>
        simp only [hf] at a5
        exact ⟨n', Nat.lt_succ_self _, findLabel_ok hd hf, r2, h2, q2, π2, a2, b2.trans a3, Step.trans hH b3 a4, a5⟩
      | none =>
        simp only [hf] at a5
        exact ⟨.gto l, r2, h2, q2, π2, rfl, a2, b2.trans a3, Step.trans hH b3 a4, a5⟩
end Go.Proofs.YthfenjgelbkloaaGreatDoor.Ev

namespace Go.Proofs.YthfenjgelbkloaaGreatDoor.Ev
open Go Go.RowKit

section
variable {P : Program} {B : Nat} {π : Pi} {H : Hp} {w : World} {r : T AV}
/-! ### Results -/
theorem resA_sound (hH : HRel π B H w) {tmps : Array Value} (hR : RR π r tmps) {f : ResultVar → Sem Value} (f1 : ∀ t, f (.tmp t) = pure (tmps.getD t undef)) (f2 : ∀ a t, f (.cell a t) = do loadVar t (← asAddr (tmps.getD a undef))) :
    ∀ {rs : List ResultVar} {l : List AV}, resA P r H rs = some l → ∃ vs, (rs.mapM f).run P w = .ok vs w ∧ VRs π l vs
  | [], l, h => by cases h; exact ⟨[], rfl, .nil⟩
  | .tmp t :: rs, l, h => by
    unfold resA at h
    cases hg : r.get (Pos.of t) with
    | none => rw [hg] at h; cases h
    | some v =>
      rw [hg] at h
      simp only [Option.map_eq_some_iff] at h
      obtain ⟨l', h1, rfl⟩ := h
      obtain ⟨vs, a, b⟩ := resA_sound hH hR f1 f2 h1
      obtain ⟨cv, c1, c2⟩ := hR t v hg
      refine ⟨cv :: vs, ?_, .cons _ _ _ _ c2 b⟩
      rw [List.mapM_cons, f1]
      simp only [Sem.run_bind, Sem.run_pure, Result.andThen_ok, a, Array.getD_eq_getD_getElem?, c1, Option.getD_some]
  | .cell x t :: rs, l, h => by
    unfold resA at h
    cases hg : r.get (Pos.of x) with
    | none => rw [hg] at h; cases h
    | some p =>
      rw [hg] at h
      simp only at h
      cases hl : load P t p H with
      | none => rw [hl] at h; cases h
      | some v =>
        rw [hl] at h
        simp only [Option.map_eq_some_iff] at h
        obtain ⟨l', h1, rfl⟩ := h
        obtain ⟨vs, a, b⟩ := resA_sound hH hR f1 f2 h1
        obtain ⟨cp, c1, c2⟩ := hR x p hg
        obtain ⟨cv, d1, d2⟩ := load_sound (P := P) hH hl c2
        refine ⟨cv :: vs, ?_, .cons _ _ _ _ d2 b⟩
        have e : (do loadVar t (← asAddr cp) : Sem Value).run P w = .ok cv w := by
          obtain ⟨bb, oo', rfl, _⟩ := avPtr_some (p := (· = some v)) hl (by simp)
          cases c2 with
          | ptr _ _ c z hp =>
            have d1 := d1
            unfold Instr.loadAt at d1
            have hs : (Instr.sureAddr (.pointer (some ⟨c, oo', none⟩))).run P w = .ok ⟨c, oo', none⟩ w := rfl
            rw [Sem.run_bind, hs, Result.andThen_ok] at d1
            simp only [Sem.run_bind, asAddr, Sem.run_pure, Result.andThen_ok]
            exact d1
        rw [List.mapM_cons, f2]
        simp only [Array.getD_eq_getD_getElem?, c1, Option.getD_some]
        rw [Sem.run_bind, e, Result.andThen_ok, Sem.run_bind, a]; rfl
theorem resF_sound (hH : HRel π B H w) {tmps : Array Value} (hR : RR π r tmps) {fn : Func} {v : AV} (h : resF P fn r H = some v) : ∃ cv, (results fn tmps).run P w = .ok cv w ∧ VR π v cv := by
  unfold resF at h
  have main : ∀ l, resA P r H fn.results.toList = some l → ∃ cv, (results fn tmps).run P w = .ok cv w ∧ VR π (tupA l) cv := by
    intro l hl
    obtain ⟨vs, a, b⟩ := resA_sound (P := P) hH hR (f := fun x => match x with
      | .tmp t => pure (tmps.getD t undef)
      | .cell a t => do loadVar t (← asAddr (tmps.getD a undef))) (fun _ => rfl) (fun _ _ => rfl) hl
    have e : (results fn tmps).run P w = .ok (if h : vs.toArray.size = 1 then vs.toArray[0] else .tuple vs.toArray) w := by
      unfold results
      rw [Array.mapM_eq_mapM_toList, map_eq_pure_bind, Sem.run_bind, Sem.run_bind]
      have a2 : Sem.run P (List.mapM (fun x => match x with
        | .tmp t => pure (tmps.getD t undef)
        | .cell a t => do loadVar t (← asAddr (tmps.getD a undef))) fn.results.toList) w = .ok vs w := a
      refine (congrArg (fun z => Result.andThen (Result.andThen z _) _) (Eq.trans ?_ a2)).trans ?_
      · congr 2
      · rfl
    refine ⟨_, e, ?_⟩
    have hlen := b.length
    match l, vs, b with
    | [], [], b => exact .tup _ _ .nil
    | [x], [y], .cons _ _ _ _ h1 _ => exact h1
    | x :: x' :: l, y :: y' :: vs, b =>
      rw [dif_neg (by simp)]
      exact .tup _ _ (by simpa using b)
  cases ho : oneRes fn with
  | none =>
    rw [ho] at h
    obtain ⟨l, h1, h2⟩ := oo_eq h
    cases h2
    exact main l h1
  | some t =>
    rw [ho] at h
    have h : r.get (Pos.of t) = some v := h
    have hres : fn.results.toList = [.tmp t] := by
      unfold oneRes at ho
      split at ho
      · rename_i t' ht; cases ho; exact ht
      · cases ho
    have : resA P r H fn.results.toList = some [v] := by rw [hres]; unfold resA; rw [h]; rfl
    exact main [v] this

/-! ### Registers at the start -/
theorem regsOf_cons (v : AV) (l : List AV) (i : Nat) (r : T AV) : regsOf (v :: l) i r = regsOf l (i + 1) (r.put (some v) (Pos.of i)) := rfl
theorem regsOf_get : ∀ (l : List AV) (i : Nat) (r : T AV) (t : Nat), (regsOf l i r).get (Pos.of t) = if i ≤ t ∧ t < i + l.length then l[t - i]? else r.get (Pos.of t)
  | [], i, r, t => by rw [if_neg (by simp only [List.length_nil]; omega)]; rfl
  | v :: l, i, r, t => by
    rw [regsOf_cons, regsOf_get l (i + 1), T.get_putN]
    simp only [List.length_cons]
    by_cases h1 : i + 1 ≤ t ∧ t < i + 1 + l.length
    · rw [if_pos h1, if_pos (by omega), show t - i = (t - (i + 1)) + 1 by omega, List.getElem?_cons_succ]
    · rw [if_neg h1]
      by_cases h2 : t = i
      · subst h2; rw [if_pos rfl, if_pos (by omega), Nat.sub_self, List.getElem?_cons_zero]
      · rw [if_neg h2, if_neg (by omega)]
theorem start_St {args : List AV} {cargs : Array Value} {n : Nat} {rc : RC} {rd : Option Nat} (h : VRs π args cargs.toList) (hn : args.length ≤ n) : St π ⟨n, [], rc, rd⟩ (regsOf args 0 .e) { tmps := cargs ++ Array.replicate (n - cargs.size) undef, defers := [] } := by
  have hl : args.length = cargs.size := by rw [h.length]; simp
  refine ⟨?_, ?_, .nil⟩
  · intro t v hv
    rw [regsOf_get] at hv
    split at hv
    · rename_i ht
      rw [Nat.sub_zero] at hv
      obtain ⟨cv, a, b⟩ := h.get hv
      refine ⟨cv, ?_, b⟩
      show (cargs ++ _)[t]? = some cv
      rw [Array.getElem?_append_left (by omega), ← Array.getElem?_toList]; exact a
    · rw [T.get_e] at hv; cases hv
  · simp; omega
end

/-! ### Deferred bodies -/
/-- The mode of the frame below. -/
def RCR (π : Pi) : RC → FrameMode → Prop
  | .ret, .returning => True
  | .pan ch, .panicking c => PRs π ch c
  | _, _ => False
theorem RCR.mono {π π' : Pi} (hE : PExt π π') {rc : RC} {u : FrameMode} (h : RCR π rc u) : RCR π' rc u := by
  cases rc <;> cases u <;> first | exact h.elim | trivial | exact PRs.mono hE h
structure QSameD (q q' : Q) : Prop where
  sz : q'.sz = q.sz
  rd : q'.rd = q.rd
def PostS (B : Nat) (π : Pi) (h : Hp) (w : World) (q : Q) (res : CR) (k : XK) (c0 : Frame) (cs : List Frame) : Exit → Act → List Frame → World → Prop := fun e a' cs' w' =>
  ∃ x r' h' q' π' u', cs' = { c0 with mode := u' } :: cs ∧ RCR π' q'.rc u' ∧ XR π' x e ∧ St π' q' r' a' ∧ QSameD q q' ∧ Step B π h w π' h' w' ∧ Le res (k x r' h' q')
theorem PostS.step {B : Nat} {π π1 : Pi} {h h1 : Hp} {w w1 : World} {q q1 : Q} {res res1 : CR} {k : XK} {c0 : Frame} {cs : List Frame} (hH : HRel π B h w) (hs : Step B π h w π1 h1 w1) (hq : QSameD q q1) (hl : Le res res1) {e : Exit} {a' : Act} {cs' : List Frame} {w' : World} (hp : PostS B π1 h1 w1 q1 res1 k c0 cs e a' cs' w') : PostS B π h w q res k c0 cs e a' cs' w' := by
  obtain ⟨x, r', h', q', π', u', a1, a2, a3, a4, a5, a6, a7⟩ := hp
  exact ⟨x, r', h', q', π', u', a1, a2, a3, a4, ⟨a5.sz.trans hq.sz, a5.rd.trans hq.rd⟩, Step.trans hH hs a6, hl.trans a7⟩
def SD (P : Program) (c : Code) (f : SF) : Prop := ∀ (r : T AV) (h : Hp) (q : Q) (k : XK), (f r h q k).ok → codeOk q.sz c = true → q.rd = none → ∀ (B : Nat) (π : Pi) (a : Act) (w : World) (c0 : Frame) (cs : List Frame) (u : FrameMode) (m : Nat), HRel π B h w → St π q r a → RCR π q.rc u →
  c.wpSIn (Fw none) m P (PostS B π h w q (f r h q k) k c0 cs) a ({ c0 with mode := u } :: cs) w
section
variable {P : Program} {ev : CodeF}
theorem SD.rcNo (hev : EvOk P ev) (c : Code) : SD P c (rcNo ev c) := by
  intro r h q k hok hd hrd B π a w c0 cs u m hH hS hu
  refine wpSIn_of_wpIn rfl ?_
  refine wpIn_mono (hev c r h ⟨q.sz, q.df, .no, q.rd⟩ _ hok hd rfl B π a w none m hH ⟨hS.rr, hS.sz, hS.df⟩ (by rw [show (⟨q.sz, q.df, .no, q.rd⟩ : Q).rd = q.rd from rfl, hrd]; trivial)) ?_
  intro e a' w' hp
  obtain ⟨x, r', h', q', π', a1, a2, a3, a4, a5⟩ := hp
  exact ⟨x, r', h', ⟨q'.sz, q'.df, q.rc, q'.rd⟩, π', u, rfl, hu.mono a4.ext, a1, ⟨a2.rr, a2.sz, a2.df⟩, ⟨a3.sz, a3.rd⟩, a4, a5⟩
theorem SD.seq {x y : Code} {f g : SF} (hf : SD P x f) (hg : SD P y g) : SD P (.seq x y) (fun r h q k => f r h q (seqK g k)) := by
  intro r h q k hok hd hrd B π a w c0 cs u m hH hS hu
  have hd : (codeOk q.sz x && codeOk q.sz y) = true := hd
  rw [Bool.and_eq_true] at hd
  refine wpSIn_seq ?_
  have h1 := hf r h q (seqK g k) hok hd.1 hrd B π a w c0 cs u m hH hS hu
  intro b k0 hk1 hk2 hk3 hk4
  obtain ⟨e, a', cs', w', hl, hp, harr⟩ := h1 b k0 hk1 hk2 hk3 hk4
  refine ⟨e, a', cs', w', hl, ?_, harr⟩
  obtain ⟨x1, r', h', q', π', u', a1, a2, a3, a4, a5, a6, a7⟩ := hp
  cases e with
  | normal =>
    have := a3.normal; subst this
    have a7 : Le (f r h q (seqK g k)) (g r' h' q' k) := a7
    have hk := (a7 hok).1
    show (Code.wpSIn (Fw none) m P y _ a' cs' w')
    subst a1
    have := hg r' h' q' k hk (by rw [a5.sz]; exact hd.2) (a5.rd.trans hrd) B π' a' w' c0 cs u' m a6.rel a4 a2
    intro b k0 hk1 hk2 hk3 hk4
    obtain ⟨e, a', cs', w', hl, hp, harr⟩ := this b k0 hk1 hk2 hk3 hk4
    exact ⟨e, a', cs', w', hl, PostS.step hH a6 a5 a7 hp, harr⟩
  | outgrown => cases x1 <;> exact a3.elim
  | exit i => cases x1 <;> first | exact a3.elim | exact ⟨_, r', h', q', π', u', a1, a2, a3, a4, a5, a6, a7⟩
  | goto i => cases x1 <;> first | exact a3.elim | exact ⟨_, r', h', q', π', u', a1, a2, a3, a4, a5, a6, a7⟩
  | ret => cases x1 <;> first | exact a3.elim | exact ⟨_, r', h', q', π', u', a1, a2, a3, a4, a5, a6, a7⟩
  | panic i => cases x1 <;> first | exact a3.elim | exact ⟨_, r', h', q', π', u', a1, a2, a3, a4, a5, a6, a7⟩
theorem SD.cond {c : Operand} {x y : Code} {f g : SF} (hf : SD P x f) (hg : SD P y g) : SD P (.cond c x y) (condS c f g) := by
  intro r h q k hok hd hrd B π a w c0 cs u m hH hS hu
  have hd : (codeOk q.sz x && codeOk q.sz y) = true := hd
  rw [Bool.and_eq_true] at hd
  obtain ⟨v, h1, h2⟩ := oo_ok hok
  obtain ⟨b, rfl, h3⟩ := avBool_some (p := CR.ok) h2 (fun h => h)
  have hv := opnd_sound hH hS.rr h1
  have hb : a.eval c = .bool b := by generalize a.eval c = cv at hv; cases hv; rfl
  have e : condS c f g r h q k = (ob b g f) r h q k := by unfold condS; rw [h1]; cases b <;> rfl
  rw [e] at hok ⊢
  refine wpSIn_cond hb ?_
  cases b with
  | true => exact hf r h q k hok hd.1 hrd B π a w c0 cs u m hH hS hu
  | false => exact hg r h q k hok hd.2 hrd B π a w c0 cs u m hH hS hu
theorem opsR_cons (o : Oper) (l : List Oper) : opsR P (o :: l) = oo o.guard (opR P o (opsR P l)) fun _ _ _ _ _ => .bad "deferred: guard" := rfl
theorem opsR_sound (hO : OpsOk P) (ops : Array Oper) (B : Nat) (m : Nat) (c0 : Frame) (cs : List Frame) : ∀ (l : List Oper) (i : Nat), (∀ j, l[j]? = ops[i + j]?) → ∀ (r : T AV) (h : Hp) (q : Q) (k : XK), (opsR P l r h q k).ok → dstOk q.sz l = true → ∀ (π : Pi) (a : Act) (w : World) (u : FrameMode), HRel π B h w → St π q r a → RCR π q.rc u →
    ∀ (π0 : Pi) (h0 : Hp) (w0 : World) (q0 : Q) (res : CR), HRel π0 B h0 w0 → Step B π0 h0 w0 π h w → QSameD q0 q → Le res (opsR P l r h q k) →
    wpOpsSIn (Fw none) m P ops (PostS B π0 h0 w0 q0 res k c0 cs) (List.range' i l.length) a ({ c0 with mode := u } :: cs) w := by
  intro l
  induction l with
  | nil =>
    intro i _ r h q k _ _ π a w u hH hS hu π0 h0 w0 q0 res _ hs hq hl
    exact ⟨.nrm, r, h, q, π, u, rfl, hu, trivial, hS, hq, hs, hl⟩
  | cons o l ih =>
    intro i hl r h q k hok hd π a w u hH hS hu π0 h0 w0 q0 res hH0 hs0 hq hle
    have ho : ops[i]? = some o := by have := hl 0; simpa using this.symm
    have hl' : ∀ j, l[j]? = ops[i + 1 + j]? := fun j => by have := hl (j + 1); simpa [Nat.add_assoc, Nat.add_comm 1 j] using this
    have hdo : ∀ t, o.dst = some t → t < q.sz := fun t ht => dstOk_mem hd (by simp) ht
    have hdl : dstOk q.sz l = true := by unfold dstOk at hd ⊢; rw [List.all_cons, Bool.and_eq_true] at hd; exact hd.2
    rw [List.length_cons, List.range'_succ]
    unfold wpOpsSIn
    simp only [ho]
    rw [opsR_cons] at hok hle
    cases hg : o.guard with
    | some g => rw [hg] at hok; exact hok.elim
    | none =>
      rw [hg] at hok hle
      have hok : (opR P o (opsR P l) r h q k).ok := hok
      have hle : Le res (opR P o (opsR P l) r h q k) := hle
      have hw : Region.wanted o (yielded ops a.tmps) = true := by unfold Region.wanted; rw [hg]
      refine ⟨about_Fw (ro := none), ?_⟩
      rw [if_pos hw]
      have hr := hO r o B π h w a hH hS.rr
      unfold opR at hok hle
      cases hA : opA P r o h with
      | bad s => rw [hA] at hok; exact hok.elim
      | dfr d => rw [hA] at hok; exact hok.elim
      | alts l => rw [hA] at hok; exact hok.elim
      | call f args h' => rw [hA] at hok; exact hok.elim
      | rnd f args h' => rw [hA] at hok; exact hok.elim
      | val v h' =>
        rw [hA] at hok hle hr
        obtain ⟨π', w', cv, nx, r1, r2, r3, r4⟩ := hr
        have go : wpOpsSIn (Fw none) m P ops (PostS B π0 h0 w0 q0 res k c0 cs) (List.range' (i + 1) l.length) (a.put o.dst cv) ({ c0 with mode := u } :: cs) w' :=
          ih (i + 1) hl' (putD o.dst v r) h' q k hok hdl π' (a.put o.dst cv) w' u r4.rel (hS.put r4.ext hdo r3) (hu.mono r4.ext) π0 h0 w0 q0 res hH0 (Step.trans hH0 hs0 r4) hq hle
        rw [r1]
        rcases r2 with rfl | ⟨rfl, rfl⟩
        · exact go
        · exact go
      | pan v h' =>
        rw [hA] at hok hle hr
        obtain ⟨π', cv, w', r1, r2, r3⟩ := hr
        rw [r1]
        exact ⟨.pan [⟨v, false⟩], r, h', q, π', u, rfl, hu.mono r3.ext, .cons _ _ _ _ _ r2 .nil, ⟨hS.rr.mono r3.ext, hS.sz, hS.df.mono r3.ext⟩, hq, Step.trans hH0 hs0 r3, hle⟩
      | rcv =>
        rw [hA] at hok hle hr
        have r1 : (execOp a.eval o).run P w = .ok .recover w := hr
        rw [r1]
        obtain ⟨qsz, qdf, qrc, qrd⟩ := q
        cases qrc with
        | no => exact hok.elim
        | ret =>
          cases u with
          | returning =>
            have : recoverD ({ c0 with mode := .returning } :: cs) = none := rfl
            simp only [this]
            exact ih (i + 1) hl' (putD o.dst .nili r) h _ k hok hdl π (a.put o.dst .nilIface) w _ hH (hS.put (.refl π) hdo .nili) hu π0 h0 w0 q0 res hH0 hs0 hq hle
          | _ => exact hu.elim
        | pan ch =>
          cases u with
          | panicking c =>
            have hu : PRs π ch c := hu
            cases hu with
            | nil => exact hok.elim
            | cons v v' rcd l1 l1' hv hu' =>
              cases rcd with
              | true => exact hok.elim
              | false =>
                have : recoverD ({ c0 with mode := .panicking (⟨v', false, false⟩ :: l1') } :: cs) = some (v', { c0 with mode := .panicking (⟨v', true, false⟩ :: l1') } :: cs) := rfl
                simp only [this]
                exact ih (i + 1) hl' (putD o.dst v r) h ⟨qsz, qdf, .pan (⟨v, true⟩ :: l1), qrd⟩ k hok hdl π (a.put o.dst v') w (.panicking (⟨v', true, false⟩ :: l1')) hH (St.put (q := ⟨qsz, qdf, .pan (⟨v, true⟩ :: l1), qrd⟩) (.refl π) ⟨hS.rr, hS.sz, hS.df⟩ hdo hv) (PRs.cons _ _ _ _ _ hv hu') π0 h0 w0 q0 res hH0 hs0 ⟨hq.sz, hq.rd⟩ hle
          | _ => exact hu.elim
theorem SD.region (hO : OpsOk P) (hev : EvOk P ev) (id : Nat) (ops : Array Oper) (d : Bool) : SD P (.region id ops d) (regD P ev id ops d) := by
  intro r h q k hok hd hrd B π a w c0 cs u m hH hS hu
  unfold regD at hok ⊢
  cases hR : ops.toList.any isRcv with
  | false =>
    rw [hR] at hok
    exact SD.rcNo hev _ r h q k hok hd hrd B π a w c0 cs u m hH hS hu
  | true =>
    rw [hR] at hok
    cases d with
    | true => exact hok.elim
    | false =>
      refine wpSIn_region ?_
      have := opsR_sound hO ops B m c0 cs ops.toList 0 (fun j => by simp) r h q k hok hd π a w u hH hS hu π h w q _ hH (.refl hH) ⟨rfl, rfl⟩ (.refl _)
      rw [Array.length_toList, ← List.range_eq_range'] at this
      exact this
theorem codeD_sound (hO : OpsOk P) (hev : EvOk P ev) : ∀ c, SD P c (codeD P ev c)
  | .skip => SD.rcNo hev _
  | .region id ops d => SD.region hO hev id ops d
  | .seq a b => SD.seq (codeD_sound hO hev a) (codeD_sound hO hev b)
  | .cond _c a b => SD.cond (codeD_sound hO hev a) (codeD_sound hO hev b)
  | .block .. => SD.rcNo hev _
  | .loop .. => SD.rcNo hev _
  | .rangeFunc .. => SD.rcNo hev _
  | .exit .. => SD.rcNo hev _
  | .scope .. => SD.rcNo hev _
  | .label .. => SD.rcNo hev _
  | .goto .. => SD.rcNo hev _
  | .ret => SD.rcNo hev _
  | .refuse .. => SD.rcNo hev _
end
end Go.Proofs.YthfenjgelbkloaaGreatDoor.Ev

namespace Go.Proofs.YthfenjgelbkloaaGreatDoor.Ev
open Go Go.RowKit

section
variable {P : Program} {ev : CodeF}
/-- The mode in which a frame leaves. -/
def MR (π : Pi) : Mode → FrameMode → Prop
  | .ret, .returning => True
  | .pan ch, .panicking c => PRs π ch c
  | _, _ => False
theorem MR.mono {π π' : Pi} (hE : PExt π π') {m : Mode} {u : FrameMode} (h : MR π m u) : MR π' m u := by
  cases m <;> cases u <;> first | exact h.elim | trivial | exact PRs.mono hE h
theorem MR.rc {π : Pi} {m : Mode} {u : FrameMode} (h : MR π m u) : RCR π m.rc u := by
  cases m <;> cases u <;> first | exact h.elim | trivial | exact h
theorem PRs.noexit {π : Pi} {l : List PE} {l' : List PanicEntry} (h : PRs π l l') : l'.dropWhile (!·.goexit) = [] := by
  induction h with
  | nil => rfl
  | cons v v' r l l' h _ ih => simp [ih]
theorem settle_MR {π : Pi} {rc : RC} {u : FrameMode} (h : RCR π rc u) : MR π (settleA rc) (settle u) := by
  cases rc with
  | no => exact h.elim
  | ret => cases u <;> first | exact h.elim | trivial
  | pan ch =>
    cases u with
    | panicking c =>
      have h : PRs π ch c := h
      cases h with
      | nil => exact PRs.nil
      | cons v v' r l l' hv hl =>
        cases r with
        | true =>
          show MR π .ret (settle _)
          unfold settle
          simp only [hl.noexit]
          trivial
        | false => exact PRs.cons _ _ _ _ _ hv hl
    | _ => exact h.elim
theorem raised_MR {π : Pi} {rc : RC} {u : FrameMode} (h : RCR π rc u) {ch : List PE} {c : List PanicEntry} (hc : PRs π ch c) : MR π (raisedA rc ch) (raised u c) := by
  cases rc with
  | no => exact h.elim
  | ret => cases u <;> first | exact h.elim | exact hc
  | pan ch' =>
    cases u with
    | panicking c' => exact PRs.append hc h
    | _ => exact h.elim
theorem enter_run {f : FuncId} {fd : Func} {c : Code} (hf : P.funcs[f]? = some fd) (hb : fd.body = some c) (hn : (fd.name == "runtime.NumGoroutine") = false) (cap as : Array Value) (w : World) : (invoke (.fn (.func f) cap) as).run P w = .ok (.enter f (as ++ cap)) w := by
  unfold invoke callFunc
  have hp : (program).run P w = .ok P w := rfl
  simp only [Sem.run_bind, hp, Result.andThen_ok, hf, hn, Bool.false_eq_true, if_false, hb, Option.isNone_some, Sem.run_pure]
theorem leaveA_sound (hO : OpsOk P) (hev : EvOk P ev) {fn : Func} {r : T AV} {tmps : Array Value} {B : Nat} {π0 : Pi} {h0 : Hp} {w0 : World} {res : CR} (hH0 : HRel π0 B h0 w0) (m : Nat) : ∀ (n : Nat) (ds : List AD) (md : Mode) (h : Hp) (π : Pi) (w : World) (ds' : List Deferred) (u : FrameMode),
    (leaveA P ev fn r n ds md h).ok → HRel π B h w → RR π r tmps → DRs π ds ds' → MR π md u → Step B π0 h0 w0 π h w → Le res (leaveA P ev fn r n ds md h) → LeavesInM (Fw none) m P fn tmps (COut B π0 h0 w0 res) ds' u w := by
  intro n
  induction n with
  | zero => intro ds md h π w ds' u hok; exact hok.elim
  | succ n ih =>
    intro ds md h π w ds' u hok hH hR hD hM hs hle
    cases hD with
    | nil =>
      cases md with
      | ret =>
        cases u with
        | returning =>
          have hok : (oo (resF P fn r h) (.bad "results") fun v => CR.ret v h).ok := hok
          have hle : Le res (oo (resF P fn r h) (.bad "results") fun v => CR.ret v h) := hle
          cases hr : resF P fn r h with
          | none => rw [hr] at hok; exact hok.elim
          | some v =>
            rw [hr] at hok hle
            obtain ⟨cv, a1, a2⟩ := resF_sound (P := P) hH hR hr
            refine ⟨cv, a1, ?_⟩
            by_cases hres : res.ok
            · exact (hle hres).2 _ _ _ _ _ _ ⟨π, cv, rfl, a2, hs⟩
            · cases res with
              | bad s => trivial
              | ret => exact (hres trivial).elim
              | pan => exact (hres trivial).elim
        | _ => exact hM.elim
      | pan ch =>
        cases u with
        | panicking c =>
          have hle : Le res (.pan ch h) := hle
          show COut B π0 h0 w0 res (.panicked c) w
          by_cases hres : res.ok
          · exact (hle hres).2 _ _ _ _ _ _ ⟨π, c, rfl, hM, hs⟩
          · cases res with
            | bad s => trivial
            | ret => exact (hres trivial).elim
            | pan => exact (hres trivial).elim
        | _ => exact hM.elim
    | cons d d' ds ds' hd hds =>
      have hun : u ≠ .run := by rintro rfl; cases md <;> exact hM.elim
      refine ⟨hun, ?_⟩
      cases hd with
      | coll b c z hp =>
        left
        unfold leaveA at hok hle
        cases hb : h.get b with
        | none => rw [hb] at hok; exact hok.elim
        | some x =>
          rw [hb] at hok hle
          cases x with
          | dfr l =>
            cases l with
            | none => exact hok.elim
            | some l =>
              cases l with
              | cons _ _ => exact hok.elim
              | nil =>
                obtain ⟨c', z', o, p1, p2, ⟨l', rfl, p4⟩, p5⟩ := hH.blk b _ hb
                rw [hp] at p1; cases p1
                cases l' with
                | none => exact p4.elim
                | some l' =>
                  have p4 : DRs π [] l' := p4
                  cases p4
                  have hlt : c < w.heap.size := by
                    rcases Nat.lt_or_ge c w.heap.size with k | k
                    · exact k
                    · simp [Array.getElem?_eq_none k] at p2
                  have hst : Step B π h w π (h.set b (.dfr none)) { w with heap := w.heap.setIfInBounds c (.deferred none) } := by
                    exact (objSet_step (P := P) (x' := .dfr none) hH hb rfl rfl hp p2 (by simp) (Evo.noMap (by simp)) ⟨none, rfl, trivial⟩).2
                  refine ⟨c, { w with heap := w.heap.setIfInBounds c (.deferred none) }, rfl, ?_, ?_⟩
                  · have hg : (getObj c).run P w = .ok (.deferred (some [])) w := by simp [getObj, Sem.run, p2]
                    unfold Instr.takeDeferred
                    simp only [Sem.run_bind, hg, Result.andThen_ok]
                    have hset : (setObj c (.deferred none)).run P w = .ok () { w with heap := w.heap.setIfInBounds c (.deferred none) } := by simp [setObj, Sem.run, p2]
                    simp only [hset, Result.andThen_ok, Sem.run_pure]
                  · exact ih ds md _ π _ ds' u hok hst.rel hR hds hM (Step.trans hH0 hs hst) hle
          | _ => exact hok.elim
      | fn f args cap as hargs =>
        right
        unfold leaveA at hok hle
        cases hf : P.funcs[f]? with
        | none => rw [hf] at hok; exact hok.elim
        | some fd =>
          rw [hf] at hok hle
          simp only at hok hle
          cases hb : fd.body with
          | none => rw [hb] at hok; exact hok.elim
          | some c =>
            rw [hb] at hok hle
            simp only at hok hle
            cases hc : (codeOk fd.ntmps c && Nat.ble args.length fd.ntmps && !(fd.name == "runtime.NumGoroutine")) with
            | false => rw [hc] at hok; exact hok.elim
            | true =>
              rw [hc, cond_true] at hok hle
              simp only [Bool.and_eq_true, Nat.ble_eq, Bool.not_eq_true'] at hc
              refine ⟨fun hx => by simp [Fw, Fence.wide] at hx, .func f, cap, f, as ++ cap, rfl, enter_run hf hb hc.2 cap as w, fun _ _ => trivial, ?_⟩
              refine callsDIn_of_wpSIn hf hb trivial ?_
              intro c0 cs hu
              have hinit := start_St (rc := md.rc) (rd := none) hargs hc.1.2
              have hmu : ({ c0 with mode := u } : Frame) = c0 := by subst hu; rfl
              have := codeD_sound hO hev c (regsOf args 0 .e) h (frameQ fd md.rc) _ hok hc.1.1 rfl B π _ w c0 cs u (m - 1) hH hinit hM.rc
              rw [hmu] at this
              intro b k0 hk1 hk2 hk3 hk4
              obtain ⟨e, a', cs', w', hl, hp, harr⟩ := this b k0 hk1 hk2 hk3 hk4
              refine ⟨e, a', cs', w', hl, ?_, harr⟩
              obtain ⟨x1, r', h', q', π', u', a1, a2, a3, a4, a5, a6, a7⟩ := hp
              have hk := (a7 hok).1
              have hle' := hle.trans a7
              cases hqd : q'.df with
              | cons d1 l1 => simp only [hqd] at hk; exact hk.elim
              | nil =>
                have hdf : a'.defers = [] := by
                  have hd1 := a4.df
                  rw [hqd] at hd1
                  generalize a'.defers = l1 at hd1
                  cases hd1; rfl
                have done : (match resF P fd r' h' with
                    | some _ => leaveA P ev fn r n ds (settleA q'.rc) h'
                    | none => .bad "results").ok → Le res (match resF P fd r' h' with
                    | some _ => leaveA P ev fn r n ds (settleA q'.rc) h'
                    | none => .bad "results") → ∃ v, (results fd a'.tmps).run P w' = .ok v w' ∧ LeavesInM (Fw none) m P fn tmps (COut B π0 h0 w0 res) ds' (settle u') w' := by
                  intro k1 k2
                  cases hr : resF P fd r' h' with
                  | none => rw [hr] at k1; exact k1.elim
                  | some v =>
                    rw [hr] at k1 k2
                    obtain ⟨cv, b1, b2⟩ := resF_sound (P := P) a6.rel a4.rr hr
                    exact ⟨cv, b1, ih ds (settleA q'.rc) h' π' w' ds' (settle u') k1 a6.rel (hR.mono a6.ext) (hds.mono a6.ext) (settle_MR a2) (Step.trans hH0 hs a6) k2⟩
                cases e with
                | normal =>
                  cases x1 <;> first | exact a3.elim | skip
                  simp only [hqd] at hk hle'
                  obtain ⟨v, b1, b2⟩ := done hk hle'
                  exact ⟨hdf, u', a1, v, b1, b2⟩
                | ret =>
                  cases x1 <;> first | exact a3.elim | skip
                  simp only [hqd] at hk hle'
                  obtain ⟨v, b1, b2⟩ := done hk hle'
                  exact ⟨hdf, u', a1, v, b1, b2⟩
                | panic chain =>
                  cases x1 <;> first | exact a3.elim | skip
                  rename_i ch
                  simp only [hqd] at hk hle'
                  exact ⟨hdf, u', a1, ih ds (raisedA q'.rc ch) h' π' w' ds' (raised u' chain) hk a6.rel (hR.mono a6.ext) (hds.mono a6.ext) (raised_MR a2 a3) (Step.trans hH0 hs a6) hle'⟩
                | exit id =>
                  cases x1 <;> first | exact a3.elim | skip
                  simp only [hqd] at hk
                  exact hk.elim
                | goto id =>
                  cases x1 <;> first | exact a3.elim | skip
                  simp only [hqd] at hk
                  exact hk.elim
                | outgrown => cases x1 <;> exact a3.elim

/-! ### Calls -/
theorem leave0_eq (fn : Func) (r : T AV) (h : Hp) (l : List AD) : leave0 P ev fn r h l = leaveA P ev fn r 1000 l .ret h := by
  cases l <;> rfl
theorem callB_sound (hO : OpsOk P) (hev : EvOk P ev) : CfOk P (callB P ev) := by
  intro B π H w f args cargs hH ha hok
  unfold callB at hok ⊢
  cases hf : P.funcs[f]? with
  | none => rw [hf] at hok; exact hok.elim
  | some fn =>
    rw [hf] at hok
    have hok : (callC P ev args H fn).ok := hok
    show Calls P f cargs w (COut B π H w (callC P ev args H fn))
    unfold callC at hok ⊢
    cases hb : fn.body with
    | none => rw [hb] at hok; exact hok.elim
    | some c =>
      rw [hb] at hok
      have hok : (ob (both (codeOk fn.ntmps c) (Nat.ble args.length fn.ntmps)) (.bad "registers") (told fn.name (ev c (regsOf args 0 .e) H (frameQ fn .no) (leaveX P ev fn)))).ok := hok
      show Calls P f cargs w (COut B π H w (ob (both (codeOk fn.ntmps c) (Nat.ble args.length fn.ntmps)) (.bad "registers") (told fn.name (ev c (regsOf args 0 .e) H (frameQ fn .no) (leaveX P ev fn)))))
      cases hc : both (codeOk fn.ntmps c) (Nat.ble args.length fn.ntmps) with
      | false => rw [hc] at hok; exact hok.elim
      | true =>
        rw [hc] at hok
        have hok : (ev c (regsOf args 0 .e) H (frameQ fn .no) (leaveX P ev fn)).ok := hok
        show Calls P f cargs w (COut B π H w (ev c (regsOf args 0 .e) H (frameQ fn .no) (leaveX P ev fn)))
        rw [both_eq, Bool.and_eq_true, Nat.ble_eq] at hc
        refine callsIn_Fw (ro := none) (n := 0) |>.1 (callsIn_of_wp_marks hf hb trivial ?_)
        have hinit := start_St (rc := .no) (rd := none) ha hc.2
        refine wpIn_mono (hev c (regsOf args 0 .e) H (frameQ fn .no) (leaveX P ev fn) hok hc.1 rfl B π _ w none 0 hH hinit trivial) ?_
        intro e a' w' hp
        obtain ⟨x1, r', h', q', π', a1, a2, a3, a4, a5⟩ := hp
        have hk := (a5 hok).1
        cases e with
        | normal =>
          cases x1 <;> first | exact a1.elim | skip
          have e1 : leaveX P ev fn .nrm r' h' q' = leaveA P ev fn r' 1000 q'.df .ret h' := leave0_eq fn r' h' q'.df
          rw [e1] at hk a5
          exact leaveA_sound hO hev hH 0 1000 q'.df .ret h' π' w' a'.defers .returning hk a4.rel a2.rr a2.df trivial a4 a5
        | ret =>
          cases x1 <;> first | exact a1.elim | skip
          have e1 : leaveX P ev fn .ret r' h' q' = leaveA P ev fn r' 1000 q'.df .ret h' := leave0_eq fn r' h' q'.df
          rw [e1] at hk a5
          exact leaveA_sound hO hev hH 0 1000 q'.df .ret h' π' w' a'.defers .returning hk a4.rel a2.rr a2.df trivial a4 a5
        | panic chain =>
          cases x1 <;> first | exact a1.elim | skip
          rename_i ch
          have e1 : leaveX P ev fn (.pan ch) r' h' q' = leaveA P ev fn r' 1000 q'.df (.pan ch) h' := rfl
          rw [e1] at hk a5
          exact leaveA_sound hO hev hH 0 1000 q'.df (.pan ch) h' π' w' a'.defers (.panicking chain) hk a4.rel a2.rr a2.df a1 a4 a5
        | exit id =>
          cases x1 <;> first | exact a1.elim | exact hk.elim
        | goto id =>
          cases x1 <;> first | exact a1.elim | exact hk.elim
        | outgrown => cases x1 <;> exact a1.elim
end
end Go.Proofs.YthfenjgelbkloaaGreatDoor.Ev
