/- The index's methods, strings for keys. -/
import Derived.Test.YtgpekeemmambkaaBW
import Derived.Test.YtgpekeemmambkaaIXA

namespace Go.Proofs.Ytgpekeemmambkaa
open Go.RowKit Go.ChangeMaps Go.MapKept

theorem keyed_S : Maps.Keyed Try.prog 9 := Maps.string_keyed Try.underlying9
abbrev Ix_S := Ix Try.prog 3 60 55 9

theorem new_S (w : World) : Calls Try.prog 7 #[] w (fun e w' => ∃ xb S, e = .returned (.pointer (some ⟨xb, 0, none⟩)) ∧ Ix_S w' xb S (fun _ => []) 0 0 0 ∧ (∀ i, S i → w.heap.size ≤ i) ∧ FP nob w w') := by
  go_enter Try.func7, Try.ntmps7
  go_wp2_with (refine wpList_make rfl _ rfl ?_)
  go_ret
  refine ⟨_, _, rfl, Ix.new (mb := w.heap.size) ?_ ?_, ?_, ?_⟩
  · exact heap_new_at (by simp) _
  · rw [Below.heap_alloc _ _ _ (by simp)]; exact heap_new_at rfl _
  · intro i hi; omega
  · exact ((FP.refl nob w).alloc _).alloc _

section
variable {w : World} {xb : Nat} {S : Nat → Prop} {M : Lit → List Int} {nk : Nat} {cnt : Int} {N : Nat}

theorem has_S (h : Ix_S w xb S M nk cnt N) {key : Value} {kl : Lit} (hk : keyOf Try.prog 9 key = some kl) {id : Int} (hid : I64 id) :
    Calls Try.prog 17 #[.pointer (some ⟨xb, 0, none⟩), key, .int .i64 id] w (fun e w' => e = .returned (.bool (hasB M kl id)) ∧ Same w w') := by
  obtain ⟨mb, F, hi, hM, hS⟩ := h.open_
  have c0 : w.cell? ⟨xb, 0, none⟩ = some (.map (some mb)) := by rw [cell_blk hi.blk]; rfl
  have hrun := hi.map.look keyed_S Try.underlying53 (zero56 w) hk
  cases hF : F kl with
  | none =>
    rw [hF] at hrun
    replace hrun : (Instr.lookup 53 (.map (some mb)) key false).run Try.prog w = .ok (.pointer none) w := hrun
    have hn : hasB M kl id = false := hasB_false (by rw [hM, hF]; simp [idsOf])
    have HN := Lib.hid hn
    clear hi hM hS h hn hF
    go_enter Try.func17, Try.ntmps17
    go_wp2
    go_ret
    exact ⟨by rw [HN.out]; rfl, rfl, rfl, rfl, rfl⟩
  | some r =>
    rw [hF] at hrun
    replace hrun : (Instr.lookup 53 (.map (some mb)) key false).run Try.prog w = .ok (.pointer (some ⟨r.B, 0, none⟩)) w := hrun
    obtain ⟨hb, hne, hx, hm⟩ := hi.bks kl r hF
    obtain ⟨pv, hblk, hrow⟩ := hb.blk
    have c1 : w.cell? ⟨r.B, 2, none⟩ = some (.map (some r.ab)) := by rw [cell_blk hblk]; rfl
    have hrun2 := hb.am.look_ok Try.underlying3 Try.underlying57 (zero3 w) hid
    have hn : hasB M kl id = (r.f id).isSome := by
      have := hb.bk.isSome id
      rw [Bool.eq_iff_iff, this, hasB, hM, hF, decide_eq_true_iff]; exact Iff.rfl
    have HN := Lib.hid hn
    clear hi hM hS h hn hF hb hne hx hm hblk hrow
    go_enter Try.func17, Try.ntmps17
    go_wp2
    go_ret
    exact ⟨by rw [HN.out]; rfl, rfl, rfl, rfl, rfl⟩

theorem len_S (h : Ix_S w xb S M nk cnt N) : Calls Try.prog 18 #[.pointer (some ⟨xb, 0, none⟩)] w (fun e w' => e = .returned (.int .i64 cnt) ∧ Same w w') := by
  obtain ⟨mb, F, hi, hM, hS⟩ := h.open_
  have c0 : w.cell? ⟨xb, 1, none⟩ = some (.int .i64 cnt) := by rw [cell_blk hi.blk]; rfl
  clear hi hM hS h
  go_enter Try.func18, Try.ntmps18
  go_wp2
  go_ret
  exact ⟨rfl, rfl, rfl, rfl, rfl⟩

theorem keys_S (h : Ix_S w xb S M nk cnt N) : Calls Try.prog 19 #[.pointer (some ⟨xb, 0, none⟩)] w (fun e w' => e = .returned (.int .i64 nk) ∧ Same w w') := by
  obtain ⟨mb, F, hi, hM, hS⟩ := h.open_
  have c0 : w.cell? ⟨xb, 0, none⟩ = some (.map (some mb)) := by rw [cell_blk hi.blk]; rfl
  have hlen := fun ty => hi.map.len Try.underlying53 ty
  clear hi hM hS h
  go_enter Try.func19, Try.ntmps19
  go_wp2
  go_ret
  exact ⟨rfl, rfl, rfl, rfl, rfl⟩

theorem bucket_S (h : Ix_S w xb S M nk cnt N) (hN : N < 1099511627776) {key : Value} {kl : Lit} (hk : keyOf Try.prog 9 key = some kl) :
    Calls Try.prog 14 #[.pointer (some ⟨xb, 0, none⟩), key] w (AllPost w (M kl)) := by
  obtain ⟨mb, F, hi, hM, hS⟩ := h.open_
  have c0 : w.cell? ⟨xb, 0, none⟩ = some (.map (some mb)) := by rw [cell_blk hi.blk]; rfl
  have hrun := hi.map.look keyed_S Try.underlying53 (zero56 w) hk
  cases hF : F kl with
  | none =>
    rw [hF] at hrun
    replace hrun : (Instr.lookup 53 (.map (some mb)) key false).run Try.prog w = .ok (.pointer none) w := hrun
    have hn : M kl = [] := by rw [hM, hF]; rfl
    have HN := Lib.hid hn
    clear hi hM hS h hn hF
    go_enter Try.func14, Try.ntmps14
    go_wp2
    go_ret
    exact ⟨_, none, rfl, by rw [HN.out]; exact .inl ⟨rfl, rfl, rfl⟩, FP.refl _ _, fun g hg => by simp at hg⟩
  | some r =>
    rw [hF] at hrun
    replace hrun : (Instr.lookup 53 (.map (some mb)) key false).run Try.prog w = .ok (.pointer (some ⟨r.B, 0, none⟩)) w := hrun
    have hall := all_any (hi.bks kl r hF).1 hN
    have hn : M kl = r.ids := by rw [hM, hF]; rfl
    rw [← hn] at hall
    clear hi hM hS h hn hF
    go_enter Try.func14, Try.ntmps14
    go_wp2_with fail
    refine hall.mono ?_
    intro e w1 hA
    obtain ⟨v, go, he, hrow, hfp, hlt⟩ := hA
    subst he
    have HA := Lib.hid hrow
    have HB := Lib.hid hfp
    have HC := Lib.hid hlt
    clear hrow hfp hlt
    go_wp2
    go_ret
    exact ⟨_, go, rfl, HA.out, HB.out, HC.out⟩

def AddPost_S (w : World) (xb : Nat) (S : Nat → Prop) (M : Lit → List Int) (nk : Nat) (cnt : Int) (N : Nat) (kl : Lit) (id : Int) (e : Ending) (w' : World) : Prop :=
  e = .returned (.bool (!hasB M kl id)) ∧ ∃ S', Ix_S w' xb S' (addM M kl id) (if hasB M kl id then nk else addK M kl nk) (if hasB M kl id then cnt else cnt + 1) (N + 1) ∧ FP S w w' ∧ ∀ i, S' i → S i ∨ w.heap.size ≤ i

set_option maxHeartbeats 1600000 in
theorem add_S (h : Ix_S w xb S M nk cnt N) (hN : N + 1 < 1099511627776) (hnk : nk < 1099511627776) (hc : 0 ≤ cnt ∧ cnt < 1099511627776) {key : Value} {kl : Lit} (hk : keyOf Try.prog 9 key = some kl) {id : Int} (hid : I64 id) :
    Calls Try.prog 8 #[.pointer (some ⟨xb, 0, none⟩), key, .int .i64 id] w (AddPost_S w xb S M nk cnt N kl id) := by
  by_cases hm : id ∈ M kl
  · have hb := hasB_true hm
    have hcall := has_S h hk hid
    rw [hb] at hcall
    have HH := Lib.hid h
    have HB := Lib.hid hb
    have HM := Lib.hid hm
    clear h hb hm
    go_enter Try.func8, Try.ntmps8
    go_wp2_with fail
    refine hcall.mono ?_
    rintro e w1 ⟨rfl, hs⟩
    have HS := Lib.hid hs
    clear hs hcall
    go_wp2
    go_ret
    refine ⟨by rw [HB.out]; rfl, S, ?_, FP.ofSame HS.out, fun i hi => .inl hi⟩
    rw [HB.out, if_pos rfl, if_pos rfl, addM, if_pos HM.out]
    exact (HH.out.same HS.out.1).mono (Nat.le_succ N)
  · obtain ⟨i0, hi0, hz0, hz1, hz2⟩ := info_parts info3
    have hb := hasB_false hm
    have hcall := has_S h hk hid
    rw [hb] at hcall
    have HH := Lib.hid h
    have HB := Lib.hid hb
    have HM := Lib.hid hm
    clear h hb hm
    go_enter Try.func8, Try.ntmps8
    go_wp2_with fail
    refine hcall.mono ?_
    rintro e w1 ⟨rfl, hs⟩
    clear hcall
    obtain ⟨mb, F, hi, hM, hS⟩ := (HH.out.same hs.1).open_
    have HSS := Lib.hid hs
    clear hs
    have c0 : w1.cell? ⟨xb, 0, none⟩ = some (.map (some mb)) := by rw [cell_blk hi.blk]; rfl
    have hxl : xb < w1.heap.size := lt_blk hi.blk
    have hml : mb < w1.heap.size := by obtain ⟨es, c, hb⟩ := hi.map.blk; exact lt_blk hb
    have hrun := hi.map.look keyed_S Try.underlying53 (zero56 w1) hk
    have HMM := Lib.hid hM
    have HS := Lib.hid hS
    have HI := Lib.hid hi
    clear hi hM hS
    cases hF : F kl with
    | none =>
      rw [hF] at hrun
      replace hrun : (Instr.lookup 53 (.map (some mb)) key false).run Try.prog w1 = .ok (.pointer none) w1 := hrun
      obtain ⟨w2, hrun2, hm2, hf2⟩ := MapP.store keyed_S Try.underlying53 (HI.out.map.frame (w' := ((w1.alloc (.map #[] 0)).alloc (.map #[] 0)).alloc (.cells #[.slice none 0 0, .map (some (w1.heap.size + 1)), .map (some w1.heap.size)] 60 (0,0)))
        (by rw [Below.heap_alloc _ _ _ (by simp; omega), Below.heap_alloc _ _ _ (by simp; omega), Below.heap_alloc _ _ _ hml])) hnk hk (w1.heap.size + 1 + 1)
      have hzM : M kl = [] := by rw [HMM.out, hF]; rfl
      have hk2 : (if (Option.map BR.B (F kl)).isSome then nk else nk + 1) = addK M kl nk := by
        rw [addK, if_pos hzM, hF]; rfl
      rw [hk2] at hm2
      obtain ⟨r, hr⟩ : ∃ r : BR, r = ⟨w1.heap.size + 1 + 1, none, w1.heap.size + 1, w1.heap.size, [], fun _ => false, fun _ => none⟩ := ⟨_, rfl⟩
      have HRB : Hid (r.B = w1.heap.size + 1 + 1) := Lib.hid (by rw [hr])
      have HMID : Hid (Mid Try.prog 3 60 55 9 w1 w2 xb mb F kl r (addK M kl nk) cnt N) := Lib.hid (by rw [hr]; exact Mid.of_none HI.out hF hm2 hf2)
      have HF := Lib.hid hF
      have cA : (((w1.alloc (.map #[] 0)).alloc (.map #[] 0)).alloc (.cells #[.slice none 0 0, .map (some (w1.heap.size + 1)), .map (some w1.heap.size)] 60 (0,0))).cell? ⟨xb, 0, none⟩ = some (.map (some mb)) := by
        rw [World.cell?_of_block (w := w1) (by rw [Below.heap_alloc _ _ _ (by simp; omega), Below.heap_alloc _ _ _ (by simp; omega), Below.heap_alloc _ _ _ hxl])]; exact c0
      clear hF hk2 hm2 hf2 hr hzM
      go_wp2_with (first | (refine wpList_make rfl _ rfl ?_) | (refine wpList_store_run rfl (.tmp 27) (.tmp 28) (.tmp 29) 53 rfl mb key (.pointer (some ⟨w1.heap.size + 1 + 1, 0, none⟩)) rfl rfl rfl w2 hrun2 ?_))
      clear hrun hrun2 c0 cA
      have hrB := HRB.out
      obtain ⟨pv, hblk, hrow⟩ := HMID.out.hb.blk
      obtain ⟨ao, cap, hpv, hcp⟩ := hrow.shape
      rw [List.length_map] at hpv
      obtain ⟨n, hn⟩ : ∃ n, r.l.length = n := ⟨_, rfl⟩
      have hnN : n ≤ N := by rw [← hn]; exact HMID.out.hb.len
      rw [hn] at hpv
      rw [hrB, hpv] at hblk
      obtain ⟨a1, a2, a3, a4, a5⟩ := HMID.out.hb.apart (by decide)
      rw [hrB] at a1 a2 a3
      have d0 : w2.cell? ⟨(w1.heap.size + 1 + 1), 0, none⟩ = some (.slice ao n cap) := by rw [cell_blk hblk]; rfl
      have d2 : w2.cell? ⟨(w1.heap.size + 1 + 1), 2, none⟩ = some (.map (some r.ab)) := by rw [cell_blk hblk]; rfl
      have hst := MapI.store Try.underlying3 Try.underlying57 (HMID.out.hb.am.frame (w' := w2.drew) rfl) (by omega) (id := id) (c := (n : Int)) hid ⟨by omega, by omega⟩
      have hst' : ∃ w', (Instr.mapUpdate 57 (.map (some r.ab)) (.int .i64 id) (.int .i64 n)).run Try.prog w2.drew = .ok () w' ∧ MapI Try.prog 3 w' r.ab (updB r.f id (some (r.l.length : Int))) (N + 1) ∧ FP (fun k => k = r.ab) w2.drew w' := by
        obtain ⟨w', q1, q2, q3⟩ := hst
        exact ⟨w', q1, by rw [hn]; exact q2.mono (by split <;> omega), q3⟩
      obtain ⟨w3, hrun3, hm3, hf3⟩ := hst'
      have hB2 : (w1.heap.size + 1 + 1) < w2.heap.size := lt_blk hblk
      have hB3 : w3.heap[(w1.heap.size + 1 + 1)]? = some (.cells #[.slice ao n cap, .map (some r.hb), .map (some r.ab)] 60 (0,0)) := (hf3.blk _ hB2 (fun e => a3 e.symm)).trans hblk
      have e0 : w3.cell? ⟨(w1.heap.size + 1 + 1), 0, none⟩ = some (.slice ao n cap) := cell_blk hB3
      have hb3 : (w1.heap.size + 1 + 1) < w3.heap.size := lt_blk hB3
      have hxbB : xb ≠ (w1.heap.size + 1 + 1) := fun e => HMID.out.nx (.inl (e.trans hrB.symm))
      have hx3 : w3.heap[xb]? = some (.cells #[.map (some mb), .int .i64 cnt] 55 (0,0)) := (hf3.blk _ (lt_blk HMID.out.hx) (fun e => HMID.out.nx (.inr (.inr (.inr e))))).trans HMID.out.hx
      have hrow3 : RowC w3 3 (.slice ao n cap) r.g (r.l.map (Value.int .i64)) := by
        rw [← hpv]
        exact hrow.frame fun g hg => hf3.blk _ (hrow.lt g hg) (fun e => a5 (by rw [← e]; exact hg))
      have hlen3 : (r.l.map (Value.int .i64)).length < 1099511627776 := by rw [List.length_map, hn]; omega
      have hgx : r.g ≠ some xb := fun e => HMID.out.nx (.inr (.inl e))
      have hxl3 : xb < w3.heap.size := lt_blk hx3
      have HX3 := Lib.hid hx3
      have HB3 := Lib.hid hB3
      have HM3 := Lib.hid hm3
      have HF3 := Lib.hid hf3
      have HROW3 := Lib.hid hrow3
      have HL3 := Lib.hid hlen3
      clear hst hblk hrow hpv hcp hn a2 a4 a5 hx3 hB3 hm3 hf3 hrow3 hlen3 hrB
      go_still_tail 10, (by kernel_rfl)
      change wpList _ _ _ _ _ w2.drew
      refine wpList_store_run rfl (.tmp 33) (.tmp 34) (.tmp 39) 57 rfl r.ab (.int .i64 id) (.int .i64 n) rfl rfl rfl w3 hrun3 ?_
      clear hrun3
      go_wp2_with (at_builtin; refine wpList_append_c rfl (.tmp 44) (.tmp 46) 36 rfl 3 i0 (.int .i64 0) Try.underlying36 hi0 hz0 hz1 hz2 rfl _ r.g _ rfl (HROW3.out.alloc _) ⟨w3.heap.size, 0, none⟩ 1 (.int .i64 id) rfl (by rw [cell_blk (heap_new_at rfl _)]; rfl) rfl HL3.out ?_; intro v' g' w5 hrow5 hfp5 hg5; obtain ⟨ao5, cap5, hv5, _⟩ := hrow5.shape; obtain ⟨q5, hq5⟩ : ∃ q5, (r.l.map (Value.int .i64) ++ [Value.int .i64 id]).length = q5 := ⟨_, rfl⟩; rw [hq5] at hv5; subst hv5; clear hq5; have hB5 := (hfp5.blk _ (by simp; omega) a1).trans ((Below.heap_alloc _ _ _ hb3).trans HB3.out); have hX5 := (hfp5.blk _ (by simp; omega) hgx).trans ((Below.heap_alloc _ _ _ (lt_blk HX3.out)).trans HX3.out); have k5 := frz_blk (o := 0) hB5; have k6 : w5.cell? ⟨(w1.heap.size + 1 + 1), 0, none⟩ = some (.slice ao n cap) := cell_blk hB5; have k7 := frz_blk (o := 1) ((heap_set_ne (a := ⟨(w1.heap.size + 1 + 1), 0, none⟩) (v := .slice ao5 q5 cap5) hxbB).trans hX5); have k8 : (w5.setCell ⟨(w1.heap.size + 1 + 1), 0, none⟩ (.slice ao5 q5 cap5)).cell? ⟨xb, 1, none⟩ = some (.int .i64 cnt) := cell_blk ((heap_set_ne hxbB).trans hX5); have HR5 := Lib.hid hrow5; have HP5 := Lib.hid hfp5; have HG5 := Lib.hid hg5; clear hB5 hX5 hrow5 hfp5 hg5)
      go_ret
      obtain ⟨S', q1, q2, q3⟩ := add_end HMID.out HI.out HMM.out HS.out (by decide) hid HM.out (⟨rfl, rfl, rfl, rfl⟩ : Same w2 w2.drew) HF3.out HM3.out HP5.out HR5.out HG5.out
      rw [HRB.out] at q1 q2
      refine ⟨by rw [HB.out]; rfl, S', ?_, (FP.ofSame HSS.out).trans q2 (fun i hi => .inl hi), fun i hi => ?_⟩
      · rw [HB.out, if_neg (by decide), if_neg (by decide), addM, if_neg HM.out]; exact q1
      · have := q3 i hi
        rw [HSS.out.1] at this
        exact this
    | some r =>
      rw [hF] at hrun
      replace hrun : (Instr.lookup 53 (.map (some mb)) key false).run Try.prog w1 = .ok (.pointer (some ⟨r.B, 0, none⟩)) w1 := hrun
      have hzM : M kl ≠ [] := fun e => by rw [HMM.out, HI.out.none_iff, hF] at e; simp at e
      have hk2 : nk = addK M kl nk := by rw [addK, if_neg hzM]
      have HMID : Hid (Mid Try.prog 3 60 55 9 w1 w1 xb mb F kl r (addK M kl nk) cnt N) := Lib.hid (by rw [← hk2]; exact Mid.of_some HI.out hF)
      obtain ⟨B, hB0⟩ : ∃ B, r.B = B := ⟨_, rfl⟩
      rw [hB0] at hrun
      have HRB := Lib.hid hB0
      clear hB0
      have HF := Lib.hid hF
      clear hF hk2 hzM
      go_wp2_with fail
      clear hrun c0
      have hrB := HRB.out
      obtain ⟨pv, hblk, hrow⟩ := HMID.out.hb.blk
      obtain ⟨ao, cap, hpv, hcp⟩ := hrow.shape
      rw [List.length_map] at hpv
      obtain ⟨n, hn⟩ : ∃ n, r.l.length = n := ⟨_, rfl⟩
      have hnN : n ≤ N := by rw [← hn]; exact HMID.out.hb.len
      rw [hn] at hpv
      rw [hrB, hpv] at hblk
      obtain ⟨a1, a2, a3, a4, a5⟩ := HMID.out.hb.apart (by decide)
      rw [hrB] at a1 a2 a3
      have d0 : w1.cell? ⟨B, 0, none⟩ = some (.slice ao n cap) := by rw [cell_blk hblk]; rfl
      have d2 : w1.cell? ⟨B, 2, none⟩ = some (.map (some r.ab)) := by rw [cell_blk hblk]; rfl
      have hst := MapI.store Try.underlying3 Try.underlying57 (HMID.out.hb.am.frame (w' := w1.drew) rfl) (by omega) (id := id) (c := (n : Int)) hid ⟨by omega, by omega⟩
      have hst' : ∃ w', (Instr.mapUpdate 57 (.map (some r.ab)) (.int .i64 id) (.int .i64 n)).run Try.prog w1.drew = .ok () w' ∧ MapI Try.prog 3 w' r.ab (updB r.f id (some (r.l.length : Int))) (N + 1) ∧ FP (fun k => k = r.ab) w1.drew w' := by
        obtain ⟨w', q1, q2, q3⟩ := hst
        exact ⟨w', q1, by rw [hn]; exact q2.mono (by split <;> omega), q3⟩
      obtain ⟨w3, hrun3, hm3, hf3⟩ := hst'
      have hB2 : B < w1.heap.size := lt_blk hblk
      have hB3 : w3.heap[B]? = some (.cells #[.slice ao n cap, .map (some r.hb), .map (some r.ab)] 60 (0,0)) := (hf3.blk _ hB2 (fun e => a3 e.symm)).trans hblk
      have e0 : w3.cell? ⟨B, 0, none⟩ = some (.slice ao n cap) := cell_blk hB3
      have hb3 : B < w3.heap.size := lt_blk hB3
      have hxbB : xb ≠ B := fun e => HMID.out.nx (.inl (e.trans hrB.symm))
      have hx3 : w3.heap[xb]? = some (.cells #[.map (some mb), .int .i64 cnt] 55 (0,0)) := (hf3.blk _ (lt_blk HMID.out.hx) (fun e => HMID.out.nx (.inr (.inr (.inr e))))).trans HMID.out.hx
      have hrow3 : RowC w3 3 (.slice ao n cap) r.g (r.l.map (Value.int .i64)) := by
        rw [← hpv]
        exact hrow.frame fun g hg => hf3.blk _ (hrow.lt g hg) (fun e => a5 (by rw [← e]; exact hg))
      have hlen3 : (r.l.map (Value.int .i64)).length < 1099511627776 := by rw [List.length_map, hn]; omega
      have hgx : r.g ≠ some xb := fun e => HMID.out.nx (.inr (.inl e))
      have hxl3 : xb < w3.heap.size := lt_blk hx3
      have HX3 := Lib.hid hx3
      have HB3 := Lib.hid hB3
      have HM3 := Lib.hid hm3
      have HF3 := Lib.hid hf3
      have HROW3 := Lib.hid hrow3
      have HL3 := Lib.hid hlen3
      clear hst hblk hrow hpv hcp hn a2 a4 a5 hx3 hB3 hm3 hf3 hrow3 hlen3 hrB
      go_still_tail 10, (by kernel_rfl)
      change wpList _ _ _ _ _ w1.drew
      refine wpList_store_run rfl (.tmp 33) (.tmp 34) (.tmp 39) 57 rfl r.ab (.int .i64 id) (.int .i64 n) rfl rfl rfl w3 hrun3 ?_
      clear hrun3
      go_wp2_with (at_builtin; refine wpList_append_c rfl (.tmp 44) (.tmp 46) 36 rfl 3 i0 (.int .i64 0) Try.underlying36 hi0 hz0 hz1 hz2 rfl _ r.g _ rfl (HROW3.out.alloc _) ⟨w3.heap.size, 0, none⟩ 1 (.int .i64 id) rfl (by rw [cell_blk (heap_new_at rfl _)]; rfl) rfl HL3.out ?_; intro v' g' w5 hrow5 hfp5 hg5; obtain ⟨ao5, cap5, hv5, _⟩ := hrow5.shape; obtain ⟨q5, hq5⟩ : ∃ q5, (r.l.map (Value.int .i64) ++ [Value.int .i64 id]).length = q5 := ⟨_, rfl⟩; rw [hq5] at hv5; subst hv5; clear hq5; have hB5 := (hfp5.blk _ (by simp; omega) a1).trans ((Below.heap_alloc _ _ _ hb3).trans HB3.out); have hX5 := (hfp5.blk _ (by simp; omega) hgx).trans ((Below.heap_alloc _ _ _ (lt_blk HX3.out)).trans HX3.out); have k5 := frz_blk (o := 0) hB5; have k6 : w5.cell? ⟨B, 0, none⟩ = some (.slice ao n cap) := cell_blk hB5; have k7 := frz_blk (o := 1) ((heap_set_ne (a := ⟨B, 0, none⟩) (v := .slice ao5 q5 cap5) hxbB).trans hX5); have k8 : (w5.setCell ⟨B, 0, none⟩ (.slice ao5 q5 cap5)).cell? ⟨xb, 1, none⟩ = some (.int .i64 cnt) := cell_blk ((heap_set_ne hxbB).trans hX5); have HR5 := Lib.hid hrow5; have HP5 := Lib.hid hfp5; have HG5 := Lib.hid hg5; clear hB5 hX5 hrow5 hfp5 hg5)
      go_ret
      obtain ⟨S', q1, q2, q3⟩ := add_end HMID.out HI.out HMM.out HS.out (by decide) hid HM.out (⟨rfl, rfl, rfl, rfl⟩ : Same w1 w1.drew) HF3.out HM3.out HP5.out HR5.out HG5.out
      rw [HRB.out] at q1 q2
      refine ⟨by rw [HB.out]; rfl, S', ?_, (FP.ofSame HSS.out).trans q2 (fun i hi => .inl hi), fun i hi => ?_⟩
      · rw [HB.out, if_neg (by decide), if_neg (by decide), addM, if_neg HM.out]; exact q1
      · have := q3 i hi
        rw [HSS.out.1] at this
        exact this

def RemPost_S (w : World) (xb : Nat) (S : Nat → Prop) (M : Lit → List Int) (nk : Nat) (cnt : Int) (N : Nat) (kl : Lit) (id : Int) (e : Ending) (w' : World) : Prop :=
  e = .returned (.bool (hasB M kl id)) ∧ ∃ S', Ix_S w' xb S' (remM M kl id) (if hasB M kl id then remK M kl id nk else nk) (if hasB M kl id then cnt - 1 else cnt) (N + 1) ∧ FP S w w' ∧ ∀ i, S' i → S i ∨ w.heap.size ≤ i

set_option maxHeartbeats 1600000 in
theorem rem_S (h : Ix_S w xb S M nk cnt N) (hN : N + 1 < 1099511627776) (hc : 0 ≤ cnt ∧ cnt < 1099511627776) {key : Value} {kl : Lit} (hk : keyOf Try.prog 9 key = some kl) {id : Int} (hid : I64 id) :
    Calls Try.prog 10 #[.pointer (some ⟨xb, 0, none⟩), key, .int .i64 id] w (RemPost_S w xb S M nk cnt N kl id) := by
  by_cases hm : id ∈ M kl
  · have hb := hasB_true hm
    have hcall := has_S h hk hid
    rw [hb] at hcall
    have HH := Lib.hid h
    have HB := Lib.hid hb
    have HM := Lib.hid hm
    clear h hb hm
    go_enter Try.func10, Try.ntmps10
    go_wp2_with fail
    refine hcall.mono ?_
    rintro e w1 ⟨rfl, hs⟩
    clear hcall
    obtain ⟨mb, F, hi, hM, hS⟩ := (HH.out.same hs.1).open_
    have HSS := Lib.hid hs
    clear hs
    have hrun := hi.map.look keyed_S Try.underlying53 (zero56 w1) hk
    obtain ⟨r, hF⟩ : ∃ r, F kl = some r := by
      cases hF : F kl with
      | none => exact absurd HM.out (by rw [hM, hF]; simp [idsOf])
      | some r => exact ⟨r, rfl⟩
    obtain ⟨B, hB0⟩ : ∃ B, r.B = B := ⟨_, rfl⟩
    rw [hF] at hrun
    replace hrun : (Instr.lookup 53 (.map (some mb)) key false).run Try.prog w1 = .ok (.pointer (some ⟨r.B, 0, none⟩)) w1 := hrun
    rw [hB0] at hrun
    obtain ⟨g1, g2, g3, g4⟩ := hi.bks kl r hF
    have hmem : id ∈ r.ids := by have := HM.out; rw [hM, hF] at this; exact this
    obtain ⟨c, hc2⟩ : ∃ c, r.f id = some c := Option.isSome_iff_exists.1 ((g1.bk.isSome id).2 hmem)
    have hc3 : I64 c := by
      obtain ⟨i, rfl, e1, _⟩ := (g1.bk.at_ id c).1 hc2
      have := (List.getElem?_eq_some_iff.1 e1).1
      have := g1.len
      exact ⟨by omega, by omega⟩
    obtain ⟨pv, hblk, hrow⟩ := g1.blk
    obtain ⟨a1, a2, a3, a4, a5⟩ := g1.apart (by decide)
    rw [hB0] at hblk a1 a2 a3
    have d1 : w1.cell? ⟨B, 1, none⟩ = some (.map (some r.hb)) := by rw [cell_blk hblk]; rfl
    have d2 : w1.cell? ⟨B, 2, none⟩ = some (.map (some r.ab)) := by rw [cell_blk hblk]; rfl
    have hrun2 : ∀ d, (Instr.lookup 57 (.map (some r.ab)) (.int .i64 id) false).run Try.prog { heap := w1.heap, tape := w1.tape, drawn := d, os := w1.os, output := w1.output } = .ok (.int .i64 c) { heap := w1.heap, tape := w1.tape, drawn := d, os := w1.os, output := w1.output } := fun d => by
      have := (g1.am.frame (w' := { heap := w1.heap, tape := w1.tape, drawn := d, os := w1.os, output := w1.output }) rfl).look Try.underlying3 Try.underlying57 (zero3 _) hid
      rw [hc2] at this
      exact this
    obtain ⟨w3, hrun3, hm3, hf3⟩ := SetI.store Try.underlying3 Try.underlying58 (g1.hm.frame (w' := w1.drew) rfl) (by omega) (id := c) hc3
    have hblk3 := (hf3.blk _ (lt_blk hblk) (fun e => a2 e.symm)).trans hblk
    have d3 : w3.cell? ⟨B, 2, none⟩ = some (.map (some r.ab)) := by rw [cell_blk hblk3]; rfl
    obtain ⟨w4, hrun4, hm4, hf4⟩ := MapI.drop Try.underlying3 Try.underlying57 (g1.am.frame (w' := w3) (hf3.blk _ (g1.lt r.ab (.inr (.inr (.inr rfl)))) (fun e => g1.hne e.symm))) (id := id) hid 0
    obtain ⟨r1, r2, r3⟩ := rem_mid hi hF (by decide) hc2 (w2q := w1.drew) ⟨rfl, rfl, rfl, rfl⟩ hf3 hm3 hf4 hm4
    have hclose := close_any r1 (by omega)
    replace hclose : Calls Try.prog 36 #[.pointer (some ⟨B, 0, none⟩)] w4 (ClosePost w4 { r with s := updB r.s c true, f := updB r.f id none } (N + 1)) := by
      rw [← hB0]; exact hclose
    have hMk : M kl = r.ids := by rw [hM, hF]; rfl
    have c0 : w1.cell? ⟨xb, 0, none⟩ = some (.map (some mb)) := by rw [cell_blk hi.blk]; rfl
    have hxl : xb < w1.heap.size := lt_blk hi.blk
    have hml : mb < w1.heap.size := by obtain ⟨es, c, hb⟩ := hi.map.blk; exact lt_blk hb
    have HMM := Lib.hid hM
    have HS := Lib.hid hS
    have HI := Lib.hid hi
    have HF := Lib.hid hF
    have HB0 := Lib.hid hB0
    have HL := Lib.hid r2
    have HF4 := Lib.hid r3
    have HMK := Lib.hid hMk
    have HG3 := Lib.hid g3
    have HG4 := Lib.hid g4
    have HCL := Lib.hid hclose
    clear hi hM hS hF hB0 r1 r2 r3 hMk g1 g2 g3 g4 hmem hc2 hc3 hblk hrow a1 a2 a3 a4 a5 hm3 hf3 hblk3 hm4 hf4 hclose
    go_wp2_with fail
    go_still_tail 11, (by kernel_rfl)
    refine wpStill_look rfl (.tmp 26) (.tmp 27) 57 false rfl r.ab (.int .i64 id) rfl rfl (.int .i64 c) (hrun2 _) ?_
    repeat still_step
    refine wpStill_nil ?_
    change wpList _ _ _ _ _ w1.drew
    refine wpList_store_run rfl (.tmp 22) (.tmp 28) (.tmp 29) 58 rfl r.hb (.int .i64 c) (.agg #[]) rfl rfl rfl w3 hrun3 ?_
    clear hrun hrun2 hrun3 d1 d2
    go_wp2_with (at_delete; refine wpList_drop_run rfl (.tmp 33) (.tmp 34) 57 3 rfl r.ab (.int .i64 id) rfl rfl w4 hrun4 ?_)
    refine HCL.out.mono ?_
    intro e w5 hC
    obtain ⟨he, r', e1, e2, e3, e4, e5, e6⟩ := hC
    subst he
    have hids : r'.ids = (M kl).erase id := by rw [HMK.out]; exact Eq.trans e3 HL.out
    have hnil : r'.l = [] ↔ (M kl).erase id = [] := by rw [HMK.out, ← HL.out]; exact e4
    have hB' : r'.B = B := Eq.trans e1 HB0.out
    obtain ⟨pv5, hblk5, hrow5⟩ := e2.blk
    rw [hB'] at hblk5
    obtain ⟨ao5, cap5, hpv5, hcp5⟩ := hrow5.shape
    rw [List.length_map] at hpv5
    obtain ⟨n5, hn5⟩ : ∃ n5, r'.l.length = n5 := ⟨_, rfl⟩
    rw [hn5] at hpv5
    have b0 : w5.cell? ⟨B, 0, none⟩ = some (.slice ao5 n5 cap5) := by rw [← hpv5]; exact cell_blk hblk5
    have hf15 : FP r.fp w1 w5 := HF4.out.trans (T := r.fp) e5 (fun i hi => .inl hi)
    have hx5 : w5.heap[xb]? = some (.cells #[.map (some mb), .int .i64 cnt] 55 (0,0)) := (hf15.blk _ hxl HG3.out).trans HI.out.blk
    have x0 : w5.cell? ⟨xb, 0, none⟩ = some (.map (some mb)) := cell_blk hx5
    have HIDS := Lib.hid hids
    have HNIL := Lib.hid hnil
    have HE2 := Lib.hid e2
    have HE5 : Hid (FP r.fp w4 w5) := Lib.hid e5
    have HE6 : Hid (∀ i, r'.fp i → r.fp i ∨ w4.heap.size ≤ i) := Lib.hid e6
    have HE1 : Hid (r'.B = r.B) := Lib.hid e1
    have HN5 := Lib.hid hn5
    have HX5 := Lib.hid hx5
    have HF15 := Lib.hid hf15
    clear hids hnil hB' hblk5 hrow5 hpv5 hcp5 hn5 hf15 hx5 e1 e2 e3 e4 e5 e6 hrun4 c0 d3
    by_cases h0 : n5 = 0
    · subst h0
      have hl : r'.l = [] := List.eq_nil_of_length_eq_zero HN5.out
      obtain ⟨w6, hrun6, hm6, hf6⟩ := MapP.drop keyed_S Try.underlying53 (HI.out.map.frame (w' := w5) (HF15.out.blk _ hml HG4.out)) hk 0
      rw [HF.out] at hm6
      have hx6 := (hf6.blk _ (lt_blk HX5.out) HI.out.ne).trans HX5.out
      have y1 : w6.cell? ⟨xb, 1, none⟩ = some (.int .i64 cnt) := cell_blk hx6
      have yf : w6.frozen? ⟨xb, 1, none⟩ = false := frz_blk hx6
      have HM6 := Lib.hid hm6
      have HF6 := Lib.hid hf6
      have HLL := Lib.hid hl
      clear hm6 hf6 hx6 hl
      go_wp2_with (at_delete; refine wpList_drop_run rfl (.tmp 46) (.tmp 47) 53 9 rfl mb key rfl rfl w6 hrun6 ?_)
      go_ret
      obtain ⟨S', q1, q2, q3⟩ := rem_end HI.out HMM.out HS.out HF.out (Nat.le_succ N) HF4.out HE2.out HIDS.out HNIL.out HE5.out HE6.out (.inr ⟨HLL.out, rfl, HF6.out, HM6.out⟩) HE1.out
      refine ⟨by rw [HB.out]; rfl, S', ?_, (FP.ofSame HSS.out).trans q2 (fun i hi => .inl hi), fun i hi => ?_⟩
      · rw [HB.out, if_pos rfl, if_pos rfl, remM, remK, if_pos (HNIL.out.1 HLL.out)]; exact q1
      · have := q3 i hi
        rw [HSS.out.1] at this
        exact this
    · have hl : r'.l ≠ [] := fun e => h0 (by rw [← HN5.out, e]; rfl)
      have x1 : w5.cell? ⟨xb, 1, none⟩ = some (.int .i64 cnt) := cell_blk HX5.out
      have xf : w5.frozen? ⟨xb, 1, none⟩ = false := frz_blk HX5.out
      have HLL := Lib.hid hl
      have hz : ((n5 : Int) == 0) = false := by simpa using h0
      clear hl
      go_wp2
      go_ret
      obtain ⟨S', q1, q2, q3⟩ := rem_end HI.out HMM.out HS.out HF.out (Nat.le_succ N) HF4.out HE2.out HIDS.out HNIL.out HE5.out HE6.out (.inl ⟨HLL.out, rfl, rfl⟩) HE1.out
      refine ⟨by rw [HB.out]; rfl, S', ?_, (FP.ofSame HSS.out).trans q2 (fun i hi => .inl hi), fun i hi => ?_⟩
      · rw [HB.out, if_pos rfl, if_pos rfl, remM, remK, if_neg (fun e => HLL.out (HNIL.out.2 e))]; exact q1
      · have := q3 i hi
        rw [HSS.out.1] at this
        exact this
  · have hb := hasB_false hm
    have hcall := has_S h hk hid
    rw [hb] at hcall
    have HH := Lib.hid h
    have HB := Lib.hid hb
    have HM := Lib.hid hm
    clear h hb hm
    go_enter Try.func10, Try.ntmps10
    go_wp2_with fail
    refine hcall.mono ?_
    rintro e w1 ⟨rfl, hs⟩
    have HS := Lib.hid hs
    clear hs hcall
    go_wp2
    go_ret
    refine ⟨by rw [HB.out]; rfl, S, ?_, FP.ofSame HS.out, fun i hi => .inl hi⟩
    rw [HB.out, if_neg (by decide), if_neg (by decide), remM, List.erase_of_not_mem HM.out, updL_self]
    exact (HH.out.same HS.out.1).mono (Nat.le_succ N)
end
end Go.Proofs.Ytgpekeemmambkaa

