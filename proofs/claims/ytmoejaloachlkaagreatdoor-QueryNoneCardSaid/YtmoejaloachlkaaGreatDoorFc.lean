/- The evaluator's soundness, 8b: walks over maps. -/
import Derived.Test.YtmoejaloachlkaaGreatDoorFb
namespace Go.Proofs.YtmoejaloachlkaaGreatDoor.Ev
open Go Go.RowKit

section
variable {P : Program} {B : Nat} {π : Pi} {H H' : Hp} {w : World} {v : AV} {r : T AV} {a : Act}
theorem range_sound (hH : HRel π B H w) (hR : RR π r a.tmps) {t : TypeId} {x : Operand} (h : opRange t x P r H = .val v H') : OVal P (do let y ← Instr.range t (a.eval x); pure (.value y)) B π H w v H' := by
  unfold opRange at h
  have fin : ∀ (blk : Blk) (o : Obj), (∀ w', (∀ c, c < w.heap.size → w'.heap[c]? = w.heap[c]?) → BR π w' blk 0 o) → (do let y ← Instr.range t (a.eval x); pure (.value y) : Sem Next).run P w = .ok (.value (.pointer (some ⟨w.heap.size, 0, none⟩))) (w.alloc o) → OVal P (do let y ← Instr.range t (a.eval x); pure (.value y)) B π H w (.ptr H.nx 0) (H.new blk) := by
    intro blk o hb hr
    have he := piNew_ext (H := H) (hH.fresh (Nat.le_refl _)) w.heap.size 0
    exact ⟨_, _, _, _, hr, .inl rfl, .ptr _ _ _ 0 (by simp [piNew]), Step.alloc hH blk 0 o ((hb _ (fun c hc => Below.heap_alloc _ _ _ hc)).mono he (fun b p hp => by have := (hH.dom b p hp).2; simp; omega))⟩
  split at h
  · rename_i kt vt hu hx
    cases h
    have hv := opnd_sound hH hR hx
    have hb : a.eval x = .map none := by generalize a.eval x = cv at hv; cases hv; rfl
    refine fin (.miter none 0 []) (.mapIter none 0 #[] 0) (fun _ _ => ⟨none, #[], 0, rfl, trivial⟩) ?_
    rw [hb]
    unfold Instr.range
    simp only [Sem.run_bind, run_underlying hu, Result.andThen_ok, Sem.run_pure, newObj, Sem.run]
    rfl
  · rename_i kt vt b hu hx
    split at h
    · rename_i es c hb
      cases h
      have hv := opnd_sound hH hR hx
      obtain ⟨mm, z, l, es', a1, a2, a3, a4, a5, a6, a7, a8⟩ := hH.map hb
      obtain ⟨m', z', hp, hcv⟩ : ∃ m' z', π b = some (m', z') ∧ a.eval x = .map (some m') := by
        generalize a.eval x = cv at hv
        cases hv with
        | map _ m z hp => exact ⟨_, _, hp, rfl⟩
      rw [hp] at a1; cases a1
      refine fin (.miter (some b) c []) (.mapIter (some mm) c #[] c) (fun w' hw' => ⟨some mm, #[], c, rfl, ⟨z, hp⟩, ?_⟩) ?_
      · intro l' k hl'
        rw [hw' mm (hH.dom _ _ hp).2, a2] at hl'
        cases hl'
        refine ⟨Nat.le_refl _, fun _ => ⟨⟨fun e _ => ?_, fun e _ k hk => (by cases hk), fun k hk => (by cases hk)⟩, fun h => absurd rfl h⟩⟩
        constructor
        · intro h; cases h
        · rintro ⟨k, hk, _⟩; cases hk
      · rw [hcv]
        unfold Instr.range
        simp only [Sem.run_bind, run_underlying hu, Result.andThen_ok, Sem.run_pure, run_getObj_map a2, newObj, Sem.run]
        rfl
    · cases h
  · cases h
theorem HRel.miter (hH : HRel π B H w) {i : Nat} {m : Option Nat} {since : Nat} {vis : List AV} (h : H.get i = some (.miter m since vis)) : ∃ ci z m' seen last, π i = some (ci, z) ∧ w.heap[ci]? = some (.mapIter m' since seen last) ∧ match (generalizing := false) m, m' with
    | none, none => True
    | some b, some c => (∃ z', π b = some (c, z')) ∧ ∀ l k, w.heap[c]? = some (.map l k) → since ≤ k ∧ (k = since → ItR l.toList seen.toList vis ∧ (seen.toList ≠ [] → last = since))
    | _, _ => False := by
  obtain ⟨c, z, o, h1, h2, ⟨m', seen, last, rfl, h3⟩, _⟩ := hH.blk i _ h
  exact ⟨c, z, m', seen, last, h1, h2, h3⟩
theorem memK_iff {k : AV} {vis : List AV} : memK k vis = true ↔ k ∈ vis := by
  unfold memK
  rw [List.any_eq_true]
  constructor
  · rintro ⟨x, h1, h2⟩; rw [AV.beq_eq k x h2]; exact h1
  · intro h; exact ⟨k, h, AV.beq_refl k⟩
theorem ERs.get {es : List (AV × AV)} {l : List MapEntry} (h : ERs π es l) : ∀ {j : Nat} {e : MapEntry}, l[j]? = some e → ∃ k u, es[j]? = some (k, u) ∧ VR π k e.key ∧ VR π u e.val := by
  induction h with
  | nil => intro j e h; simp at h
  | cons k v b k' v' l l' hk hv _ ih =>
    intro j e hj
    cases j with
    | zero => simp at hj; subst hj; exact ⟨k, v, rfl, hk, hv⟩
    | succ j => simpa using ih (by simpa using hj)
theorem ERs.get' {es : List (AV × AV)} {l : List MapEntry} (h : ERs π es l) : ∀ {j : Nat} {x : AV × AV}, es[j]? = some x → ∃ e, l[j]? = some e ∧ VR π x.1 e.key := by
  induction h with
  | nil => intro j e h; simp at h
  | cons k v b k' v' l l' hk hv _ ih =>
    intro j x hj
    cases j with
    | zero => simp at hj; subst hj; exact ⟨_, rfl, hk⟩
    | succ j => simpa using ih (by simpa using hj)
theorem nodup_idx {α : Type} {l : List α} (h : l.Nodup) {i j : Nat} {x : α} (hi : l[i]? = some x) (hj : l[j]? = some x) : i = j := by
  have h1 : i < l.length := by
    rcases Nat.lt_or_ge i l.length with k | k
    · exact k
    · rw [List.getElem?_eq_none k] at hi; cases hi
  exact (List.getElem?_inj h1 h).1 (hi.trans hj.symm)
theorem born_inj {l : List MapEntry} (h : (l.map (·.born)).Nodup) {e e' : MapEntry} (he : e ∈ l) (he' : e' ∈ l) (hb : e.born = e'.born) : e = e' := by
  obtain ⟨i, hi⟩ := List.mem_iff_getElem?.1 he
  obtain ⟨j, hj⟩ := List.mem_iff_getElem?.1 he'
  have : i = j := nodup_idx h (x := e.born) (by rw [List.getElem?_map, hi]; rfl) (by rw [List.getElem?_map, hj, hb]; rfl)
  subst this
  rw [hi] at hj; cases hj; rfl
theorem choose_run (n : Nat) : ∃ j w1, (choose (.mapNext n)).run P w = .ok j w1 ∧ w1.heap = w.heap ∧ (w1.os = w.os ∧ w1.tape = w.tape ∧ w1.output = w.output) ∧ (0 < n → j < n) := by
  by_cases h : n ≤ 1
  · exact ⟨0, w, by simp [choose, Sem.run, Question.forced, h], rfl, ⟨rfl, rfl, rfl⟩, fun h => h⟩
  · exact ⟨w.tape w.drawn (.mapNext n) % n, { w with drawn := w.drawn + 1 }, by simp [choose, Sem.run, Question.forced, h, Question.cut], rfl, ⟨rfl, rfl, rfl⟩, fun h => Nat.mod_lt _ h⟩
/-- What the model does. -/
theorem next_run {ty : TypeId} {ci cm since last c : Nat} {seen : Array Nat} {l : Array MapEntry} (hi : w.heap[ci]? = some (.mapIter (some cm) since seen last)) (hm : w.heap[cm]? = some (.map l c)) (hc : c = since) (hb : ∀ e ∈ l.toList, e.born < c) (hl : seen.toList ≠ [] → last = since) :
    ((∀ e ∈ l.toList, e.born ∈ seen.toList) ∧ (Instr.next (.pointer (some ⟨ci, 0, none⟩)) false ty).run P w = .ok (.tuple #[.bool false]) w) ∨
    ∃ e ∈ l.toList, e.born ∉ seen.toList ∧ ∃ w1 : World, w1.heap = w.heap ∧ (w1.os = w.os ∧ w1.tape = w.tape ∧ w1.output = w.output) ∧
      (Instr.next (.pointer (some ⟨ci, 0, none⟩)) false ty).run P w = ((setObj ci (.mapIter (some cm) since (seen.push e.born) c)).run P w1).andThen fun _ w' => .ok (.tuple #[.bool true, e.key, e.val]) w' := by
  have hchk : (!seen.isEmpty && !l.isEmpty && l.all (fun e => decide (e.born ≥ last))) = false := by
    cases hs : seen.isEmpty with
    | true => rfl
    | false =>
      cases hle : l.isEmpty with
      | true => rfl
      | false =>
        have hsn : seen.toList ≠ [] := by
          intro e
          have : seen = #[] := by apply Array.ext'; exact e
          rw [this] at hs; cases hs
        have hlast := hl hsn
        simp only [Bool.not_false, Bool.true_and]
        cases hall : l.all (fun e => decide (e.born ≥ last)) with
        | false => rfl
        | true =>
          exfalso
          have hne : l.size ≠ 0 := by intro e; rw [Array.isEmpty_iff_size_eq_zero.2 e] at hle; cases hle
          have h0 : 0 < l.size := by omega
          have h1 := Array.all_eq_true.1 hall 0 h0
          have h2 := hb l[0] (by simp)
          simp at h1
          omega
  unfold Instr.next
  simp only [Sem.run_bind, run_getObj hi (by simp), Result.andThen_ok, run_getObj hm (by simp)]
  rw [hchk, if_neg (by decide)]
  generalize hleft : l.filter (fun e => !seen.contains e.born) = left
  have hlm : ∀ e ∈ left, e ∈ l.toList ∧ e.born ∉ seen.toList := by
    intro e he
    rw [← hleft, Array.mem_filter] at he
    refine ⟨by simpa using he.1, ?_⟩
    have := he.2
    simp at this
    simpa using this
  have hf1 : left.filter (fun e => decide (e.born < since)) = left := by
    rw [Array.filter_eq_self]
    intro e he
    have := hb e (hlm e he).1
    simp; omega
  have hf2 : left.filter (fun e => decide (e.born ≥ since)) = #[] := by
    rw [Array.filter_eq_empty_iff]
    intro e he
    have := hb e (hlm e he).1
    simp; omega
  rw [hf1, hf2, Array.append_empty]
  obtain ⟨j, w1, c1, c2, c3, c4⟩ := choose_run (P := P) (w := w) ((if left.isEmpty = true then #[none] else #[]) ++ left.map some).size
  simp only [Sem.run_bind, c1, Result.andThen_ok]
  cases hle : left.isEmpty with
  | true =>
    have : left = #[] := by simpa using hle
    subst this
    rw [hle, if_pos rfl] at c1 c4
    have hj : j = 0 := by
      have := c4 (by simp)
      simp at this
      exact this
    subst hj
    left
    refine ⟨?_, ?_⟩
    · intro e he
      cases hs : decide (e.born ∈ seen.toList) with
      | true => simpa using hs
      | false =>
        exfalso
        have : e ∈ l.filter (fun e => !seen.contains e.born) := by
          rw [Array.mem_filter]
          refine ⟨by simpa using he, ?_⟩
          simpa using hs
        rw [hleft] at this
        simp at this
    · have hw1 : w1 = w := by
        have : (choose (.mapNext 1)).run P w = .ok 0 w := by simp [choose, Sem.run, Question.forced]
        have c1' : (choose (.mapNext 1)).run P w = .ok 0 w1 := by simpa using c1
        rw [this] at c1'
        cases c1'; rfl
      subst hw1
      have e0 : ((if true = true then #[none] else #[]) ++ Array.map some (#[] : Array MapEntry))[0]? = some none := by simp
      rw [e0]; rfl
  | false =>
    rw [hle] at c4
    simp only [Bool.false_eq_true, if_false, Array.empty_append, Array.size_map] at c4 ⊢
    have hpos : 0 < left.size := by
      rcases Nat.eq_zero_or_pos left.size with h0 | h0
      · rw [Array.isEmpty_iff_size_eq_zero.2 h0] at hle; cases hle
      · exact h0
    have hj := c4 hpos
    right
    have hm := hlm left[j] (by simp)
    refine ⟨left[j], hm.1, hm.2, w1, c2, c3, ?_⟩
    have : (left.map some)[j]? = some (some left[j]) := by simp [hj]
    simp only [this]
    simp only [Sem.run_bind, Sem.run_pure]
/-- An iterator's next step. -/
theorem next_sound (hH : HRel π B H w) (hR : RR π r a.tmps) {x : Operand} {s : Bool} {ty : TypeId} :
    (∀ v H', opNext x s P r H = .val v H' → OVal P (do let y ← Instr.next (a.eval x) s ty; pure (.value y)) B π H w v H') ∧
    (∀ l, opNext x s P r H = .alts l → ∃ p ∈ l, OVal P (do let y ← Instr.next (a.eval x) s ty; pure (.value y)) B π H w p.1 p.2) ∧
    (∀ q, opNext x s P r H = q → (∃ w, q = .bad w) ∨ (∃ v H', q = .val v H') ∨ ∃ l, q = .alts l) := by
  have main : (∃ ww, opNext x s P r H = .bad ww) ∨ (∃ l : List (AV × Hp), (opNext x s P r H = .alts l ∨ ∃ p, l = [p] ∧ opNext x s P r H = .val p.1 p.2) ∧ ∃ p ∈ l, OVal P (do let y ← Instr.next (a.eval x) s ty; pure (.value y)) B π H w p.1 p.2) := by
    unfold opNext
    cases hx : opnd r x with
    | none => exact .inl ⟨_, rfl⟩
    | some xv =>
      cases xv with
      | ptr i o =>
        cases o with
        | succ o => exact .inl ⟨_, rfl⟩
        | zero =>
          simp only
          cases hi : H.get i with
          | none => exact .inl ⟨_, rfl⟩
          | some blk =>
            cases blk with
            | miter m since vis =>
              obtain ⟨ci, z, m', seen, last, p1, p2, p3⟩ := hH.miter hi
              have hv := opnd_sound hH hR hx
              generalize hcv : a.eval x = cv at hv
              cases hv with
              | ptr _ _ c' z' hp =>
                rw [hp] at p1; cases p1
                cases m with
                | none =>
                  cases m' with
                  | some _ => exact p3.elim
                  | none =>
                    cases s with
                    | true => exact .inl ⟨_, rfl⟩
                    | false =>
                      refine .inr ⟨[(.tup [.bool false], H)], .inr ⟨_, rfl, rfl⟩, _, List.mem_singleton.2 rfl, ?_⟩
                      refine OVal.pure hH (cv := .tuple #[.bool false]) ?_ (.tup _ _ (.cons _ _ _ _ (.bool _) .nil))
                      unfold Instr.next
                      simp only [Sem.run_bind, run_getObj p2 (by simp), Result.andThen_ok, Sem.run_pure]
                | some b =>
                  cases m' with
                  | none => exact p3.elim
                  | some cm =>
                    obtain ⟨⟨zb, hpb⟩, p4⟩ := p3
                    simp only
                    cases hb : H.get b with
                    | none => exact .inl ⟨_, rfl⟩
                    | some mb =>
                      cases mb with
                      | map es c =>
                        simp only
                        cases hcs : Nat.beq c since && !s with
                        | false => exact .inl ⟨_, rfl⟩
                        | true =>
                          rw [Bool.and_eq_true] at hcs
                          have hc := Nat.eq_of_beq_eq_true hcs.1
                          have hsf : s = false := by simpa using hcs.2
                          subst hc; subst hsf
                          rw [cond_true]
                          obtain ⟨mm, zm, l, es', a1, a2, a3, a4, a5, a6, a7, a8⟩ := hH.map hb
                          rw [hpb] at a1; cases a1
                          obtain ⟨q1, q2⟩ := p4 l c a2
                          obtain ⟨it, hlast⟩ := q2 rfl
                          have hnd' : (es'.map (·.1)).Nodup := (a3.map _).nodup_iff.1 a8
                          -- an entry and its key
                          have own : ∀ e ∈ l.toList, ∃ k u, (k, u) ∈ es ∧ VR π k e.key ∧ VR π u e.val ∧ simpleK k = true ∧ (e.born ∈ seen.toList ↔ k ∈ vis) ∧ ∀ e2 ∈ l.toList, SV k e2.key → e2 = e := by
                            intro e he
                            obtain ⟨j, hj⟩ := List.mem_iff_getElem?.1 he
                            obtain ⟨k, u, g1, g2, g3⟩ := a4.get hj
                            have hmem : (k, u) ∈ es := a3.mem_iff.2 (List.mem_of_getElem? g1)
                            have hsk : simpleK k = true := a7 _ hmem
                            refine ⟨k, u, hmem, g2, g3, hsk, ?_, ?_⟩
                            · rw [it.mem e he]
                              constructor
                              · rintro ⟨k', h1, h2⟩
                                rw [simple_inj hsk (it.simple k' h1) g2 h2.vr]; exact h1
                              · intro h1; exact ⟨k, h1, simple_SV hsk g2⟩
                            · intro e2 he2 hsv
                              obtain ⟨j2, hj2⟩ := List.mem_iff_getElem?.1 he2
                              obtain ⟨k2, u2, m1, m2, m3⟩ := a4.get hj2
                              have hk2 : k2 = k := simple_inj (a7 _ (a3.mem_iff.2 (List.mem_of_getElem? m1))) hsk m2 (hsv.vr (π := π))
                              subst hk2
                              have n1 : (es'.map (·.1))[j]? = some k2 := by rw [List.getElem?_map, g1]; rfl
                              have n2 : (es'.map (·.1))[j2]? = some k2 := by rw [List.getElem?_map, m1]; rfl
                              have hjj : j = j2 := nodup_idx hnd' n1 n2
                              subst hjj
                              rw [hj] at hj2; cases hj2; rfl
                          have hlt : cm ≠ ci := by
                            intro e; subst e; rw [a2] at p2; cases p2
                          -- the candidates
                          have hcand : ∀ e ∈ l.toList, e.born ∉ seen.toList → ∃ k u, (k, u) ∈ es.filter (fun e => !memK e.1 vis) ∧ VR π k e.key ∧ VR π u e.val ∧ simpleK k = true ∧ ∀ e2 ∈ l.toList, SV k e2.key → e2 = e := by
                            intro e he hn
                            obtain ⟨k, u, h1, h2, h3, h4, h5, h6⟩ := own e he
                            refine ⟨k, u, List.mem_filter.2 ⟨h1, ?_⟩, h2, h3, h4, h6⟩
                            have : memK k vis = false := by
                              cases hk : memK k vis with
                              | false => rfl
                              | true => exact absurd (h5.2 (memK_iff.1 hk)) hn
                            simp [this]
                          have hnone : (∀ e ∈ l.toList, e.born ∈ seen.toList) → es.filter (fun e => !memK e.1 vis) = [] := by
                            intro hall
                            rw [List.filter_eq_nil_iff]
                            intro x hx
                            have hx' := a3.mem_iff.1 hx
                            obtain ⟨j, hj⟩ := List.mem_iff_getElem?.1 hx'
                            obtain ⟨e, he, g2⟩ := a4.get' hj
                            have he' := List.mem_of_getElem? he
                            obtain ⟨k', h1, h2⟩ := (it.mem e he').1 (hall e he')
                            have : x.1 = k' := simple_inj (a7 _ hx) (it.simple k' h1) g2 h2.vr
                            have : memK x.1 vis = true := memK_iff.2 (by rw [this]; exact h1)
                            simp [this]
                          have hrun := next_run (P := P) (w := w) (ty := ty) (ci := ci) (cm := cm) (since := c) (last := last) (seen := seen) (l := l) (c := c) p2 a2 rfl a6 hlast
                          rcases hrun with ⟨hall, hr⟩ | ⟨e, he, hn, w1, g1, g2, hr⟩
                          · refine .inr ⟨[(.tup [.bool false], H)], .inr ⟨_, rfl, by rw [hnone hall]; rfl⟩, _, List.mem_singleton.2 rfl, ?_⟩
                            exact OVal.pure hH (cv := .tuple #[.bool false]) hr (.tup _ _ (.cons _ _ _ _ (.bool _) .nil))
                          · obtain ⟨k, u, h1, h2, h3, h4, h5⟩ := hcand e he hn
                            have hH1 := hH.same g1
                            have hs := objSet_step (P := P) (w := w1) (x' := .miter (some b) c (k :: vis)) (o' := .mapIter (some cm) c (seen.push e.born) c) hH1 hi rfl rfl hp (by rw [g1]; exact p2) (by simp) (Evo.noMap (by simp)) ?_
                            · have hov : OVal P (do let y ← Instr.next (.pointer (some ⟨ci, 0, none⟩)) false ty; pure (.value y)) B π H w (.tup [.bool true, k, u]) (H.set i (.miter (some b) c (k :: vis))) := by
                                refine OVal.mk (cv := .tuple #[.bool true, e.key, e.val]) ?_ (.tup _ _ (.cons _ _ _ _ (.bool _) (.cons _ _ _ _ h2 (.cons _ _ _ _ h3 .nil)))) (Step.trans hH (Step.same hH g1 g2) hs.2)
                                rw [hr, hs.1]; rfl
                              refine .inr ⟨(es.filter (fun e => !memK e.1 vis)).map fun e => (.tup [.bool true, e.1, e.2], H.set i (.miter (some b) c (e.1 :: vis))), ?_, _, List.mem_map.2 ⟨(k, u), h1, rfl⟩, hov⟩
                              cases hf : es.filter (fun e => !memK e.1 vis) with
                              | nil => rw [hf] at h1; cases h1
                              | cons e0 rest =>
                                cases rest with
                                | nil => exact .inr ⟨_, rfl, rfl⟩
                                | cons e1 rest => exact .inl rfl
                            · refine ⟨some cm, seen.push e.born, c, rfl, ⟨zb, hpb⟩, fun l2 k2 hl2 => ?_⟩
                              have : w1.heap[cm]? = some (.map l2 k2) := by
                                rw [Array.getElem?_setIfInBounds_ne (fun e => hlt e.symm)] at hl2; exact hl2
                              rw [g1, a2] at this
                              cases this
                              refine ⟨Nat.le_refl _, fun _ => ⟨⟨?_, ?_, ?_⟩, fun _ => rfl⟩⟩
                              · intro e2 he2
                                rw [Array.toList_push, List.mem_append, it.mem e2 he2]
                                constructor
                                · rintro (⟨k', m1, m2⟩ | hm)
                                  · exact ⟨k', by simp [m1], m2⟩
                                  · have hbe : e2.born = e.born := by simpa using hm
                                    have : e2 = e := born_inj a5 he2 he hbe
                                    subst this
                                    exact ⟨k, by simp, simple_SV h4 h2⟩
                                · rintro ⟨k', m1, m2⟩
                                  rcases List.mem_cons.1 m1 with rfl | m1
                                  · right; rw [h5 e2 he2 m2]; simp
                                  · exact .inl ⟨k', m1, m2⟩
                              · intro e2 he2 k' hk' hsv
                                have : k' = k := by simpa using hk'.symm
                                subst this
                                rw [h5 e2 he2 hsv, Array.toList_push]; simp
                              · intro k' hk'
                                rcases List.mem_cons.1 hk' with rfl | hk'
                                · exact h4
                                · exact it.simple k' hk'
                      | _ => exact .inl ⟨_, rfl⟩
            | _ => exact .inl ⟨_, rfl⟩
      | _ => exact .inl ⟨_, rfl⟩
  rcases main with ⟨ww, e⟩ | ⟨l, e | ⟨p, rfl, e⟩, hm⟩
  · rw [e]
    exact ⟨fun v H' e => (by cases e), fun l e => (by cases e), fun q hq => .inl ⟨ww, hq.symm⟩⟩
  · rw [e]
    exact ⟨fun v H' e => (by cases e), fun l' e => (by cases e; exact hm), fun q hq => .inr (.inr ⟨l, hq.symm⟩)⟩
  · rw [e]
    refine ⟨fun v H' e => ?_, fun l' e => (by cases e), fun q hq => .inr (.inl ⟨_, _, hq.symm⟩)⟩
    cases e
    obtain ⟨p', hp', h⟩ := hm
    have := List.mem_singleton.1 hp'
    subst this
    exact h
theorem entry_sound (hH : HRel π B H w) (hR : RR π r a.tmps) {x : Operand} (h : opEntry x P r H = .val v H') : OVal P (do let y ← Instr.entry (a.eval x); pure (.value y)) B π H w v H' := by
  unfold opEntry at h
  split at h
  · rename_i i hx
    split at h
    · rename_i b since k rest hi
      split at h
      · rename_i es c hb
        obtain ⟨hcs, h2⟩ : Nat.beq c since = true ∧ (match es.find? (fun e => AV.beq k e.1) with
            | some e => OR.val (.tup [e.1, e.2]) H
            | none => .bad "entry") = .val v H' := by
          cases hc : Nat.beq c since with
          | false => rw [hc] at h; cases h
          | true => rw [hc] at h; exact ⟨rfl, h⟩
        have hc := Nat.eq_of_beq_eq_true hcs
        subst hc
        cases hf : es.find? (fun e => AV.beq k e.1) with
        | none => rw [hf] at h2; cases h2
        | some e0 =>
          rw [hf] at h2
          cases h2
          have hk0 := AV.beq_eq _ _ (List.find?_some (p := fun e : AV × AV => AV.beq k e.1) hf)
          have hm0 := List.mem_of_find?_eq_some hf
          obtain ⟨ci, z, m', seen, last, p1, p2, p3⟩ := hH.miter hi
          have hv := opnd_sound hH hR hx
          obtain ⟨mm, zm, l, es', a1, a2, a3, a4, a5, a6, a7, a8⟩ := hH.map hb
          cases m' with
          | none => exact p3.elim
          | some cm =>
            obtain ⟨⟨zb, hpb⟩, p4⟩ := p3
            rw [hpb] at a1; cases a1
            obtain ⟨q1, q2⟩ := p4 l c a2
            obtain ⟨it, hlast⟩ := q2 rfl
            obtain ⟨j, hj⟩ := List.mem_iff_getElem?.1 (a3.mem_iff.1 hm0)
            obtain ⟨e, he, g2⟩ := a4.get' hj
            obtain ⟨k2, u2, m1, m2, m3⟩ := a4.get he
            rw [hj] at m1; cases m1
            have he' := List.mem_of_getElem? he
            have hbk := it.head e he' k rfl (by rw [hk0]; exact simple_SV (a7 _ hm0) m2)
            have hne : seen.toList ≠ [] := by intro e; rw [e] at hbk; cases hbk
            have hl := hlast hne
            generalize a.eval x = cv at hv
            cases hv with
            | ptr _ _ c' z' hp =>
              rw [hp] at p1; cases p1
              refine OVal.pure hH (cv := .tuple #[e.key, e.val]) ?_ (.tup _ _ (.cons _ _ _ _ m2 (.cons _ _ _ _ m3 .nil)))
              have hback : seen.back? = some e.born := by rw [← hbk, Array.back?_eq_getElem?, List.getLast?_eq_getElem?]; simp
              have hfind : l.find? (fun x => x.born == e.born) = some e := by
                rw [← Array.find?_toList]
                cases hff : l.toList.find? (fun x => x.born == e.born) with
                | none =>
                  have := List.find?_eq_none.1 hff e he'
                  simp at this
                | some e1 =>
                  have b1 := List.find?_some hff
                  have b2 := List.mem_of_find?_eq_some hff
                  rw [born_inj a5 b2 he' (by simpa using b1)]
              unfold Instr.entry
              simp only [Sem.run_bind, run_getObj p2 (by simp), Result.andThen_ok, hback, run_getObj_map a2, hfind]
              rw [if_neg (by simp [hl])]
              simp only [Sem.run_pure]
      · cases h
    · cases h
  · cases h
end
end Go.Proofs.YtmoejaloachlkaaGreatDoor.Ev
