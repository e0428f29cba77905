/- The index's methods, pairs for keys. -/
import Derived.Test.YtgpekeemmambkaaBW
import Derived.Test.YtgpekeemmambkaaIXA
import Derived.StillTailTactics
namespace Go.Proofs.Ytgpekeemmambkaa
open Go.RowKit Go.ChangeMaps Go.MapKept

open WideMaps in
theorem law50 : KeyLaw Try.prog 50 := deep_law_laid (by kernel_rfl) (m := 2) (by omega) (of_decide_eq_true (by kernel_rfl)) (by kernel_rfl) (by rw [Try.underlying50])
theorem keyed_A : Maps.Keyed Try.prog 50 := Maps.Keyed.of_law law50
abbrev Ix_A := Ix Try.prog 3 60 71 50
abbrev boxA (w : World) (a b : Int) : World := w.alloc (.cells #[.int .i64 a, .int .i64 b] 50)
theorem Ix_boxA {w : World} {xb : Nat} {S : Nat → Prop} {M : Lit → List Int} {nk : Nat} {cnt : Int} {N : Nat} (h : Ix_A w xb S M nk cnt N) (a b : Int) : Ix_A (boxA w a b) xb S M nk cnt N := h.fp ((FP.refl nob w).alloc _) (fun _ _ q => q)
theorem IxIn.same {P : Program} {IT BT XT KT : TypeId} {w w' : World} {xb mb : Nat} {F : Lit → Option BR} {nk : Nat} {cnt : Int} {N : Nat} (h : IxIn P IT BT XT KT w xb mb F nk cnt N) (hs : w'.heap = w.heap) : IxIn P IT BT XT KT w' xb mb F nk cnt N :=
  ⟨by rw [hs]; exact h.blk, h.map.frame (by rw [hs]), fun k r hr => ⟨(h.bks k r hr).1.frame (fun _ _ => by rw [hs]), (h.bks k r hr).2⟩, h.sep⟩
theorem BkIn.not_tag {P : Program} {IT BT : TypeId} {w : World} {r : BR} {N : Nat} (h : BkIn P IT BT w r N) {i t : Nat} {cs : Array Value} (hi : w.heap[i]? = some (.cells cs t (0,0))) (h1 : t ≠ BT) (h2 : t ≠ IT) : ¬ r.fp i := by
  obtain ⟨pv, e1, e2⟩ := h.blk
  rintro (rfl | hf | rfl | rfl)
  · rw [e1] at hi; simp at hi; exact h1 hi.2.symm
  · obtain ⟨cs', hc⟩ := e2.tagged i hf; rw [hc] at hi; simp at hi; exact h2 hi.2.symm
  · obtain ⟨es, c, hm⟩ := h.hm.blk; rw [hm] at hi; simp at hi
  · obtain ⟨es, c, hm⟩ := h.am.blk; rw [hm] at hi; simp at hi
theorem same_drewN (w : World) (q : Nat) : Same w (w.drewN q) := ⟨rfl, rfl, rfl, rfl⟩

theorem new_A (w : World) : Calls Try.prog 30 #[] w (fun e w' => ∃ xb S, e = .returned (.pointer (some ⟨xb, 0, none⟩)) ∧ Ix_A w' xb S (fun _ => []) 0 0 0 ∧ (∀ i, S i → w.heap.size ≤ i) ∧ FP nob w w') := by
  go_enter Try.func30, Try.ntmps30
  go_wp2_with (refine wpList_make rfl _ rfl ?_)
  go_ret
  refine ⟨_, _, rfl, Ix.new (mb := w.heap.size) ?_ ?_, ?_, ?_⟩
  · exact heap_new_at (by simp) _
  · rw [Below.heap_alloc _ _ _ (by simp)]; exact heap_new_at rfl _
  · intro i hi; omega
  · exact ((FP.refl nob w).alloc _).alloc _

section
variable {w : World} {xb : Nat} {S : Nat → Prop} {M : Lit → List Int} {nk : Nat} {cnt : Int} {N : Nat}

theorem has_A (h : Ix_A w xb S M nk cnt N) {a b : Int} {kl : Lit} (hk : keyOf Try.prog 50 (.agg #[.int .i64 a, .int .i64 b]) = some kl) {id : Int} (hid : I64 id) :
    Calls Try.prog 38 #[.pointer (some ⟨xb, 0, none⟩), .agg #[.int .i64 a, .int .i64 b], .int .i64 id] w (fun e w' => e = .returned (.bool (hasB M kl id)) ∧ FP nob w w') := by
  obtain ⟨mb, F, hi, hM, hS⟩ := h.open_
  have hxl : xb < w.heap.size := lt_blk hi.blk
  have hml : mb < w.heap.size := by obtain ⟨es, c, hb⟩ := hi.map.blk; exact lt_blk hb
  have c0 : w.cell? ⟨xb, 0, none⟩ = some (.map (some mb)) := by rw [cell_blk hi.blk]; rfl
  have hrun := fun q => (hi.map.frame (w' := (boxA w a b).drewN q) (Below.heap_alloc _ _ _ hml)).look keyed_A Try.underlying69 (zero56 _) hk
  cases hF : F kl with
  | none =>
    rw [hF] at hrun
    replace hrun : ∀ q, (Instr.lookup 69 (.map (some mb)) (.agg #[.int .i64 a, .int .i64 b]) false).run Try.prog ((boxA w a b).drewN q) = .ok (.pointer none) ((boxA w a b).drewN q) := hrun
    have hn : hasB M kl id = false := hasB_false (by rw [hM, hF]; simp [idsOf])
    have HN := Lib.hid hn
    clear hi hM hS h hn hF
    go_enter Try.func38, Try.ntmps38
    go_wp2
    go_quiet (fail)
    go_wp2
    go_ret
    exact ⟨by rw [HN.out]; rfl, ((FP.refl nob w).alloc _).same (same_drewN _ _)⟩
  | some r =>
    rw [hF] at hrun
    replace hrun : ∀ q, (Instr.lookup 69 (.map (some mb)) (.agg #[.int .i64 a, .int .i64 b]) false).run Try.prog ((boxA w a b).drewN q) = .ok (.pointer (some ⟨r.B, 0, none⟩)) ((boxA w a b).drewN q) := hrun
    obtain ⟨hb, hne, hx, hm⟩ := hi.bks kl r hF
    obtain ⟨pv, hblk, hrow⟩ := hb.blk
    have hBl : r.B < w.heap.size := lt_blk hblk
    have c1 : w.cell? ⟨r.B, 2, none⟩ = some (.map (some r.ab)) := by rw [cell_blk hblk]; rfl
    have hrun2 := fun q => (hb.am.frame (w' := (boxA w a b).drewN q) (Below.heap_alloc _ _ _ (hb.lt r.ab (.inr (.inr (.inr rfl)))))).look_ok Try.underlying3 Try.underlying57 (zero3 _) hid
    have hn : hasB M kl id = (r.f id).isSome := by
      have := hb.bk.isSome id
      rw [Bool.eq_iff_iff, this, hasB, hM, hF, decide_eq_true_iff]; exact Iff.rfl
    have HN := Lib.hid hn
    clear hi hM hS h hn hF hb hne hx hm hblk hrow
    go_enter Try.func38, Try.ntmps38
    go_wp2
    go_quiet (fail)
    go_wp2
    go_ret
    exact ⟨by rw [HN.out]; rfl, ((FP.refl nob w).alloc _).same (same_drewN _ _)⟩

theorem len_A (h : Ix_A w xb S M nk cnt N) : Calls Try.prog 34 #[.pointer (some ⟨xb, 0, none⟩)] w (fun e w' => e = .returned (.int .i64 cnt) ∧ Same w w') := by
  obtain ⟨mb, F, hi, hM, hS⟩ := h.open_
  have c0 : w.cell? ⟨xb, 1, none⟩ = some (.int .i64 cnt) := by rw [cell_blk hi.blk]; rfl
  clear hi hM hS h
  go_enter Try.func34, Try.ntmps34
  go_wp2
  go_ret
  exact ⟨rfl, rfl, rfl, rfl, rfl⟩

theorem keys_A (h : Ix_A w xb S M nk cnt N) : Calls Try.prog 35 #[.pointer (some ⟨xb, 0, none⟩)] w (fun e w' => e = .returned (.int .i64 nk) ∧ Same w w') := by
  obtain ⟨mb, F, hi, hM, hS⟩ := h.open_
  have c0 : w.cell? ⟨xb, 0, none⟩ = some (.map (some mb)) := by rw [cell_blk hi.blk]; rfl
  have hlen := fun ty => hi.map.len Try.underlying69 ty
  clear hi hM hS h
  go_enter Try.func35, Try.ntmps35
  go_wp2
  go_ret
  exact ⟨rfl, rfl, rfl, rfl, rfl⟩

theorem bucket_A (h : Ix_A w xb S M nk cnt N) (hN : N < 1099511627776) {a b : Int} {kl : Lit} (hk : keyOf Try.prog 50 (.agg #[.int .i64 a, .int .i64 b]) = some kl) :
    Calls Try.prog 33 #[.pointer (some ⟨xb, 0, none⟩), .agg #[.int .i64 a, .int .i64 b]] w (AllPost w (M kl)) := by
  obtain ⟨mb, F, hi, hM, hS⟩ := h.open_
  have hxl : xb < w.heap.size := lt_blk hi.blk
  have hml : mb < w.heap.size := by obtain ⟨es, c, hb⟩ := hi.map.blk; exact lt_blk hb
  have c0 : w.cell? ⟨xb, 0, none⟩ = some (.map (some mb)) := by rw [cell_blk hi.blk]; rfl
  have hrun := fun q => (hi.map.frame (w' := (boxA w a b).drewN q) (Below.heap_alloc _ _ _ hml)).look keyed_A Try.underlying69 (zero56 _) hk
  cases hF : F kl with
  | none =>
    rw [hF] at hrun
    replace hrun : ∀ q, (Instr.lookup 69 (.map (some mb)) (.agg #[.int .i64 a, .int .i64 b]) false).run Try.prog ((boxA w a b).drewN q) = .ok (.pointer none) ((boxA w a b).drewN q) := hrun
    have hn : M kl = [] := by rw [hM, hF]; rfl
    have HN := Lib.hid hn
    clear hi hM hS h hn hF
    go_enter Try.func33, Try.ntmps33
    go_wp2
    go_quiet (fail)
    go_wp2
    go_ret
    exact ⟨_, none, rfl, by rw [HN.out]; exact .inl ⟨rfl, rfl, rfl⟩, ((FP.refl nob w).alloc _).same (same_drewN _ _), fun g hg => by simp at hg⟩
  | some r =>
    rw [hF] at hrun
    replace hrun : ∀ q, (Instr.lookup 69 (.map (some mb)) (.agg #[.int .i64 a, .int .i64 b]) false).run Try.prog ((boxA w a b).drewN q) = .ok (.pointer (some ⟨r.B, 0, none⟩)) ((boxA w a b).drewN q) := hrun
    have hb := Lib.hid (hi.bks kl r hF).1
    have hall := fun q => all_any (hb.out.frame (w' := (boxA w a b).drewN q) (fun k hk => Below.heap_alloc _ _ _ (hb.out.lt k hk))) hN
    have hn : M kl = r.ids := by rw [hM, hF]; rfl
    rw [← hn] at hall
    have HALL := Lib.hid hall
    clear hi hM hS h hn hF hall
    go_enter Try.func33, Try.ntmps33
    go_wp2
    go_quiet (fail)
    go_wp2_with fail
    refine (HALL.out _).mono ?_
    intro e w1 hA
    obtain ⟨v, go, he, hrow, hfp, hlt⟩ := hA
    subst he
    have HA := Lib.hid hrow
    have HB : Hid (FP nob w w1) := Lib.hid ((((FP.refl nob w).alloc (.cells #[.int .i64 a, .int .i64 b] 50)).same (same_drewN _ nq)).trans hfp (fun _ q => q.elim))
    have HC : Hid (∀ g, go = some g → w.heap.size ≤ g) := Lib.hid (fun g hg => by have := hlt g hg; simp at this; omega)
    clear hrow hfp hlt
    go_wp2
    go_ret
    exact ⟨_, go, rfl, HA.out, HB.out, HC.out⟩

def AddPost_A (w : World) (xb : Nat) (S : Nat → Prop) (M : Lit → List Int) (nk : Nat) (cnt : Int) (N : Nat) (kl : Lit) (id : Int) (e : Ending) (w' : World) : Prop :=
  e = .returned (.bool (!hasB M kl id)) ∧ ∃ S', Ix_A w' xb S' (addM M kl id) (if hasB M kl id then nk else addK M kl nk) (if hasB M kl id then cnt else cnt + 1) (N + 1) ∧ FP S w w' ∧ ∀ i, S' i → S i ∨ w.heap.size ≤ i

set_option maxHeartbeats 1600000 in
theorem add_A (h : Ix_A w xb S M nk cnt N) (hN : N + 1 < 1099511627776) (hnk : nk < 1099511627776) (hc : 0 ≤ cnt ∧ cnt < 1099511627776) {a b : Int} {kl : Lit} (hk : keyOf Try.prog 50 (.agg #[.int .i64 a, .int .i64 b]) = some kl) {id : Int} (hid : I64 id) :
    Calls Try.prog 31 #[.pointer (some ⟨xb, 0, none⟩), .agg #[.int .i64 a, .int .i64 b], .int .i64 id] w (AddPost_A w xb S M nk cnt N kl id) := by
  by_cases hm : id ∈ M kl
  · have hb := hasB_true hm
    have hcall := has_A (Ix_boxA h a b) hk hid
    rw [hb] at hcall
    have HH := Lib.hid h
    have HB := Lib.hid hb
    have HM := Lib.hid hm
    clear h hb hm
    go_enter Try.func31, Try.ntmps31
    go_wp2_with fail
    refine hcall.mono ?_
    rintro e w1 ⟨rfl, hs⟩
    have HS := Lib.hid hs
    clear hs hcall
    go_wp2
    go_ret
    refine ⟨by rw [HB.out]; rfl, S, ?_, (((FP.refl nob w).alloc (.cells #[.int .i64 a, .int .i64 b] 50)).trans HS.out (fun _ q => q.elim)).mono (fun _ q => q.elim), fun i hi => .inl hi⟩
    rw [HB.out, if_pos rfl, if_pos rfl, addM, if_pos HM.out]
    exact ((Ix_boxA HH.out a b).fp HS.out (fun _ _ q => q)).mono (Nat.le_succ N)
  · obtain ⟨i0, hi0, hz0, hz1, hz2⟩ := info_parts info3
    have hb := hasB_false hm
    have hcall := has_A (Ix_boxA h a b) hk hid
    rw [hb] at hcall
    have HH := Lib.hid h
    have HB := Lib.hid hb
    have HM := Lib.hid hm
    clear h hb hm
    go_enter Try.func31, Try.ntmps31
    go_wp2_with fail
    refine hcall.mono ?_
    rintro e w1 ⟨rfl, hs⟩
    clear hcall
    have hs0 := ((FP.refl nob w).alloc (.cells #[.int .i64 a, .int .i64 b] 50)).trans hs (fun _ q => q.elim)
    have hk1 : w1.heap[w.heap.size]? = some (.cells #[.int .i64 a, .int .i64 b] 50 (0,0)) := (hs.blk _ (by simp) (fun q => q)).trans (heap_new_at rfl _)
    obtain ⟨mb, F, hi, hM, hS⟩ := (HH.out.fp hs0 (fun _ _ q => q)).open_
    have HSS := Lib.hid hs0
    have HK1 := Lib.hid hk1
    have k0c : w1.cell? ⟨w.heap.size, 0, none⟩ = some (.int .i64 a) := cell_blk hk1
    have k1c : w1.cell? ⟨w.heap.size, 1, none⟩ = some (.int .i64 b) := cell_blk hk1
    have hkl : w.heap.size < w1.heap.size := lt_blk hk1
    clear hs hs0 hk1
    have c0 : w1.cell? ⟨xb, 0, none⟩ = some (.map (some mb)) := by rw [cell_blk hi.blk]; rfl
    have hxl : xb < w1.heap.size := lt_blk hi.blk
    have hml : mb < w1.heap.size := by obtain ⟨es, c, hb⟩ := hi.map.blk; exact lt_blk hb
    have hrun := fun q => (hi.map.frame (w' := w1.drewN q) rfl).look keyed_A Try.underlying69 (zero56 _) hk
    have HMM := Lib.hid hM
    have HS := Lib.hid hS
    have HI := Lib.hid hi
    clear hi hM hS
    cases hF : F kl with
    | none =>
      rw [hF] at hrun
      replace hrun : ∀ q, (Instr.lookup 69 (.map (some mb)) (.agg #[.int .i64 a, .int .i64 b]) false).run Try.prog (w1.drewN q) = .ok (.pointer none) (w1.drewN q) := hrun
      go_wp2
      go_quiet (fail)
      obtain ⟨wq, hwq⟩ : ∃ wq, w1.drewN nq = wq := ⟨_, rfl⟩
      have hzq : Same w1 wq := hwq ▸ same_drewN w1 nq
      rw [hwq]
      have HSQ : Hid (FP nob w wq) := Lib.hid (HSS.out.same hzq)
      have HKQ : Hid (wq.heap[w.heap.size]? = some (.cells #[.int .i64 a, .int .i64 b] 50 (0,0))) := Lib.hid (by rw [hzq.1]; exact HK1.out)
      have HIq := Lib.hid (HI.out.same hzq.1)
      clear hwq hzq HI HSS HK1 c0 hxl hml hrun k0c k1c hkl
      have HI := HIq
      clear HIq
      have c0 : wq.cell? ⟨xb, 0, none⟩ = some (.map (some mb)) := by rw [cell_blk HI.out.blk]; rfl
      have hxl : xb < wq.heap.size := lt_blk HI.out.blk
      have hml : mb < wq.heap.size := by obtain ⟨es, c, hb⟩ := HI.out.map.blk; exact lt_blk hb
      have k0c : wq.cell? ⟨w.heap.size, 0, none⟩ = some (.int .i64 a) := cell_blk HKQ.out
      have k1c : wq.cell? ⟨w.heap.size, 1, none⟩ = some (.int .i64 b) := cell_blk HKQ.out
      have hkl : w.heap.size < wq.heap.size := lt_blk HKQ.out
      have hX : ∀ k, k < wq.heap.size → (((wq.alloc (.map #[] 0)).alloc (.map #[] 0)).alloc (.cells #[.slice none 0 0, .map (some (wq.heap.size + 1)), .map (some wq.heap.size)] 60 (0,0))).heap[k]? = wq.heap[k]? := fun k hk => by
        rw [Below.heap_alloc _ _ _ (by simp; omega), Below.heap_alloc _ _ _ (by simp; omega), Below.heap_alloc _ _ _ hk]
      obtain ⟨w2, hrun2, hm2, hf2'⟩ := MapP.store keyed_A Try.underlying69 (HI.out.map.frame (w' := (((wq.alloc (.map #[] 0)).alloc (.map #[] 0)).alloc (.cells #[.slice none 0 0, .map (some (wq.heap.size + 1)), .map (some wq.heap.size)] 60 (0,0))).drew) (hX mb hml)) hnk hk (wq.heap.size + 1 + 1)
      have hf2 := (FP.ofSame (S := fun i => i = mb) (⟨rfl, rfl, rfl, rfl⟩ : Same (((wq.alloc (.map #[] 0)).alloc (.map #[] 0)).alloc (.cells #[.slice none 0 0, .map (some (wq.heap.size + 1)), .map (some wq.heap.size)] 60 (0,0))) (((wq.alloc (.map #[] 0)).alloc (.map #[] 0)).alloc (.cells #[.slice none 0 0, .map (some (wq.heap.size + 1)), .map (some wq.heap.size)] 60 (0,0))).drew)).trans hf2' (fun i hi => .inl hi)
      have hzM : M kl = [] := by rw [HMM.out, hF]; rfl
      have hk2 : (if (Option.map BR.B (F kl)).isSome then nk else nk + 1) = addK M kl nk := by
        rw [addK, if_pos hzM, hF]; rfl
      rw [hk2] at hm2
      obtain ⟨r, hr⟩ : ∃ r : BR, r = ⟨wq.heap.size + 1 + 1, none, wq.heap.size + 1, wq.heap.size, [], fun _ => false, fun _ => none⟩ := ⟨_, rfl⟩
      have HRB : Hid (r.B = wq.heap.size + 1 + 1) := Lib.hid (by rw [hr])
      have HMID : Hid (Mid Try.prog 3 60 71 50 wq w2 xb mb F kl r (addK M kl nk) cnt N) := Lib.hid (by rw [hr]; exact Mid.of_none HI.out hF hm2 hf2)
      have HF := Lib.hid hF
      have cA : (((wq.alloc (.map #[] 0)).alloc (.map #[] 0)).alloc (.cells #[.slice none 0 0, .map (some (wq.heap.size + 1)), .map (some wq.heap.size)] 60 (0,0))).cell? ⟨xb, 0, none⟩ = some (.map (some mb)) := (World.cell?_of_block (w := wq) (hX xb hxl)).trans c0
      have kA : (((wq.alloc (.map #[] 0)).alloc (.map #[] 0)).alloc (.cells #[.slice none 0 0, .map (some (wq.heap.size + 1)), .map (some wq.heap.size)] 60 (0,0))).cell? ⟨w.heap.size, 0, none⟩ = some (.int .i64 a) := (World.cell?_of_block (w := wq) (hX _ hkl)).trans k0c
      have kB : (((wq.alloc (.map #[] 0)).alloc (.map #[] 0)).alloc (.cells #[.slice none 0 0, .map (some (wq.heap.size + 1)), .map (some wq.heap.size)] 60 (0,0))).cell? ⟨w.heap.size, 1, none⟩ = some (.int .i64 b) := (World.cell?_of_block (w := wq) (hX _ hkl)).trans k1c
      clear hF hk2 hm2 hf2 hf2' hr hzM hX
      go_wp2_with (refine wpList_make rfl _ rfl ?_)
      obtain ⟨wm, hwm⟩ : ∃ wm, ((wq.alloc (.map #[] 0)).alloc (.map #[] 0)).alloc (.cells #[.slice none 0 0, .map (some (wq.heap.size + 1)), .map (some wq.heap.size)] 60 (0,0)) = wm := ⟨_, rfl⟩
      rw [hwm] at cA kA kB hrun2 ⊢
      clear hwm
      go_still_tail 6, (by kernel_rfl)
      change wpList _ _ _ _ _ wm.drew
      refine wpList_store_run rfl (.tmp 27) (.tmp 28) (.tmp 29) 69 rfl mb (.agg #[.int .i64 a, .int .i64 b]) (.pointer (some ⟨wq.heap.size + 1 + 1, 0, none⟩)) rfl rfl rfl w2 hrun2 ?_
      go_wp2_with fail
      clear hrun2 c0 cA kA kB k0c k1c
      have hrB := HRB.out
      obtain ⟨pv, hblk, hrow⟩ := HMID.out.hb.blk
      obtain ⟨ao, cap, hpv, hcp⟩ := hrow.shape
      rw [List.length_map] at hpv
      obtain ⟨n, hn⟩ : ∃ n, r.l.length = n := ⟨_, rfl⟩
      have hnN : n ≤ N := by rw [← hn]; exact HMID.out.hb.len
      rw [hn] at hpv
      rw [hrB, hpv] at hblk
      obtain ⟨a1, a2, a3, a4, a5⟩ := HMID.out.hb.apart (by decide)
      rw [hrB] at a1 a2 a3
      have d0 : w2.cell? ⟨(wq.heap.size + 1 + 1), 0, none⟩ = some (.slice ao n cap) := by rw [cell_blk hblk]; rfl
      have d2 : w2.cell? ⟨(wq.heap.size + 1 + 1), 2, none⟩ = some (.map (some r.ab)) := by rw [cell_blk hblk]; rfl
      have hst := MapI.store Try.underlying3 Try.underlying57 (HMID.out.hb.am.frame (w' := w2.drew) rfl) (by omega) (id := id) (c := (n : Int)) hid ⟨by omega, by omega⟩
      have hst' : ∃ w', (Instr.mapUpdate 57 (.map (some r.ab)) (.int .i64 id) (.int .i64 n)).run Try.prog w2.drew = .ok () w' ∧ MapI Try.prog 3 w' r.ab (updB r.f id (some (r.l.length : Int))) (N + 1) ∧ FP (fun k => k = r.ab) w2.drew w' := by
        obtain ⟨w', q1, q2, q3⟩ := hst
        exact ⟨w', q1, by rw [hn]; exact q2.mono (by split <;> omega), q3⟩
      obtain ⟨w3, hrun3, hm3, hf3⟩ := hst'
      have hB2 : (wq.heap.size + 1 + 1) < w2.heap.size := lt_blk hblk
      have hB3 : w3.heap[(wq.heap.size + 1 + 1)]? = some (.cells #[.slice ao n cap, .map (some r.hb), .map (some r.ab)] 60 (0,0)) := (hf3.blk _ hB2 (fun e => a3 e.symm)).trans hblk
      have e0 : w3.cell? ⟨(wq.heap.size + 1 + 1), 0, none⟩ = some (.slice ao n cap) := cell_blk hB3
      have hb3 : (wq.heap.size + 1 + 1) < w3.heap.size := lt_blk hB3
      have hxbB : xb ≠ (wq.heap.size + 1 + 1) := fun e => HMID.out.nx (.inl (e.trans hrB.symm))
      have hx3 : w3.heap[xb]? = some (.cells #[.map (some mb), .int .i64 cnt] 71 (0,0)) := (hf3.blk _ (lt_blk HMID.out.hx) (fun e => HMID.out.nx (.inr (.inr (.inr e))))).trans HMID.out.hx
      have hrow3 : RowC w3 3 (.slice ao n cap) r.g (r.l.map (Value.int .i64)) := by
        rw [← hpv]
        exact hrow.frame fun g hg => hf3.blk _ (hrow.lt g hg) (fun e => a5 (by rw [← e]; exact hg))
      have hlen3 : (r.l.map (Value.int .i64)).length < 1099511627776 := by rw [List.length_map, hn]; omega
      have hgx : r.g ≠ some xb := fun e => HMID.out.nx (.inr (.inl e))
      have hxl3 : xb < w3.heap.size := lt_blk hx3
      have HX3 := Lib.hid hx3
      have HB3 := Lib.hid hB3
      have HM3 := Lib.hid hm3
      have HF3 := Lib.hid hf3
      have HROW3 := Lib.hid hrow3
      have HL3 := Lib.hid hlen3
      clear hst hblk hrow hpv hcp hn a2 a4 a5 hx3 hB3 hm3 hf3 hrow3 hlen3 hrB
      go_still_tail 10, (by kernel_rfl)
      change wpList _ _ _ _ _ w2.drew
      refine wpList_store_run rfl (.tmp 33) (.tmp 34) (.tmp 39) 57 rfl r.ab (.int .i64 id) (.int .i64 n) rfl rfl rfl w3 hrun3 ?_
      clear hrun3
      go_wp2_with (at_builtin; refine wpList_append_c rfl (.tmp 44) (.tmp 46) 36 rfl 3 i0 (.int .i64 0) Try.underlying36 hi0 hz0 hz1 hz2 rfl _ r.g _ rfl (HROW3.out.alloc _) ⟨w3.heap.size, 0, none⟩ 1 (.int .i64 id) rfl (by rw [cell_blk (heap_new_at rfl _)]; rfl) rfl HL3.out ?_; intro v' g' w5 hrow5 hfp5 hg5; obtain ⟨ao5, cap5, hv5, _⟩ := hrow5.shape; obtain ⟨q5, hq5⟩ : ∃ q5, (r.l.map (Value.int .i64) ++ [Value.int .i64 id]).length = q5 := ⟨_, rfl⟩; rw [hq5] at hv5; subst hv5; clear hq5; have hB5 := (hfp5.blk _ (by simp; omega) a1).trans ((Below.heap_alloc _ _ _ hb3).trans HB3.out); have hX5 := (hfp5.blk _ (by simp; omega) hgx).trans ((Below.heap_alloc _ _ _ (lt_blk HX3.out)).trans HX3.out); have k5 := frz_blk (o := 0) hB5; have k6 : w5.cell? ⟨(wq.heap.size + 1 + 1), 0, none⟩ = some (.slice ao n cap) := cell_blk hB5; have k7 := frz_blk (o := 1) ((heap_set_ne (a := ⟨(wq.heap.size + 1 + 1), 0, none⟩) (v := .slice ao5 q5 cap5) hxbB).trans hX5); have k8 : (w5.setCell ⟨(wq.heap.size + 1 + 1), 0, none⟩ (.slice ao5 q5 cap5)).cell? ⟨xb, 1, none⟩ = some (.int .i64 cnt) := cell_blk ((heap_set_ne hxbB).trans hX5); have HR5 := Lib.hid hrow5; have HP5 := Lib.hid hfp5; have HG5 := Lib.hid hg5; clear hB5 hX5 hrow5 hfp5 hg5)
      go_ret
      obtain ⟨S', q1, q2, q3⟩ := add_end HMID.out HI.out HMM.out HS.out (by decide) hid HM.out (⟨rfl, rfl, rfl, rfl⟩ : Same w2 w2.drew) HF3.out HM3.out HP5.out HR5.out HG5.out
      rw [HRB.out] at q1 q2
      refine ⟨by rw [HB.out]; rfl, S', ?_, (HSQ.out.mono (T := S) (fun _ q => q.elim)).trans q2 (fun i hi => .inl hi), fun i hi => ?_⟩
      · rw [HB.out, if_neg (by decide), if_neg (by decide), addM, if_neg HM.out]; exact q1
      · rcases q3 i hi with q | q
        · exact .inl q
        · have := HSQ.out.size
          have q' : wq.heap.size ≤ i := q
          exact .inr (by omega)
    | some r =>
      rw [hF] at hrun
      replace hrun : ∀ q, (Instr.lookup 69 (.map (some mb)) (.agg #[.int .i64 a, .int .i64 b]) false).run Try.prog (w1.drewN q) = .ok (.pointer (some ⟨r.B, 0, none⟩)) (w1.drewN q) := hrun
      obtain ⟨B, hB0⟩ : ∃ B, r.B = B := ⟨_, rfl⟩
      rw [hB0] at hrun
      have HF0 := Lib.hid hF
      have HB00 := Lib.hid hB0
      clear hF hB0
      go_wp2
      go_quiet (fail)
      obtain ⟨wq, hwq⟩ : ∃ wq, w1.drewN nq = wq := ⟨_, rfl⟩
      have hzq : Same w1 wq := hwq ▸ same_drewN w1 nq
      rw [hwq]
      have HSQ : Hid (FP nob w wq) := Lib.hid (HSS.out.same hzq)
      have HKQ : Hid (wq.heap[w.heap.size]? = some (.cells #[.int .i64 a, .int .i64 b] 50 (0,0))) := Lib.hid (by rw [hzq.1]; exact HK1.out)
      have HIq := Lib.hid (HI.out.same hzq.1)
      clear hwq hzq HI HSS HK1 c0 hxl hml hrun k0c k1c hkl
      have HI := HIq
      clear HIq
      have c0 : wq.cell? ⟨xb, 0, none⟩ = some (.map (some mb)) := by rw [cell_blk HI.out.blk]; rfl
      have hxl : xb < wq.heap.size := lt_blk HI.out.blk
      have hml : mb < wq.heap.size := by obtain ⟨es, c, hb⟩ := HI.out.map.blk; exact lt_blk hb
      have k0c : wq.cell? ⟨w.heap.size, 0, none⟩ = some (.int .i64 a) := cell_blk HKQ.out
      have k1c : wq.cell? ⟨w.heap.size, 1, none⟩ = some (.int .i64 b) := cell_blk HKQ.out
      have hkl : w.heap.size < wq.heap.size := lt_blk HKQ.out
      have hF := HF0.out
      have hB0 := HB00.out
      clear HF0 HB00
      have hzM : M kl ≠ [] := fun e => by rw [HMM.out, HI.out.none_iff, hF] at e; simp at e
      have hk2 : nk = addK M kl nk := by rw [addK, if_neg hzM]
      have HMID : Hid (Mid Try.prog 3 60 71 50 wq wq xb mb F kl r (addK M kl nk) cnt N) := Lib.hid (by rw [← hk2]; exact Mid.of_some HI.out hF)
      have HRB := Lib.hid hB0
      clear hB0
      have HF := Lib.hid hF
      clear hF hk2 hzM
      go_wp2_with fail
      clear c0 k0c k1c
      have hrB := HRB.out
      obtain ⟨pv, hblk, hrow⟩ := HMID.out.hb.blk
      obtain ⟨ao, cap, hpv, hcp⟩ := hrow.shape
      rw [List.length_map] at hpv
      obtain ⟨n, hn⟩ : ∃ n, r.l.length = n := ⟨_, rfl⟩
      have hnN : n ≤ N := by rw [← hn]; exact HMID.out.hb.len
      rw [hn] at hpv
      rw [hrB, hpv] at hblk
      obtain ⟨a1, a2, a3, a4, a5⟩ := HMID.out.hb.apart (by decide)
      rw [hrB] at a1 a2 a3
      have d0 : wq.cell? ⟨B, 0, none⟩ = some (.slice ao n cap) := by rw [cell_blk hblk]; rfl
      have d2 : wq.cell? ⟨B, 2, none⟩ = some (.map (some r.ab)) := by rw [cell_blk hblk]; rfl
      have hst := MapI.store Try.underlying3 Try.underlying57 (HMID.out.hb.am.frame (w' := wq.drew) rfl) (by omega) (id := id) (c := (n : Int)) hid ⟨by omega, by omega⟩
      have hst' : ∃ w', (Instr.mapUpdate 57 (.map (some r.ab)) (.int .i64 id) (.int .i64 n)).run Try.prog wq.drew = .ok () w' ∧ MapI Try.prog 3 w' r.ab (updB r.f id (some (r.l.length : Int))) (N + 1) ∧ FP (fun k => k = r.ab) wq.drew w' := by
        obtain ⟨w', q1, q2, q3⟩ := hst
        exact ⟨w', q1, by rw [hn]; exact q2.mono (by split <;> omega), q3⟩
      obtain ⟨w3, hrun3, hm3, hf3⟩ := hst'
      have hB2 : B < wq.heap.size := lt_blk hblk
      have hB3 : w3.heap[B]? = some (.cells #[.slice ao n cap, .map (some r.hb), .map (some r.ab)] 60 (0,0)) := (hf3.blk _ hB2 (fun e => a3 e.symm)).trans hblk
      have e0 : w3.cell? ⟨B, 0, none⟩ = some (.slice ao n cap) := cell_blk hB3
      have hb3 : B < w3.heap.size := lt_blk hB3
      have hxbB : xb ≠ B := fun e => HMID.out.nx (.inl (e.trans hrB.symm))
      have hx3 : w3.heap[xb]? = some (.cells #[.map (some mb), .int .i64 cnt] 71 (0,0)) := (hf3.blk _ (lt_blk HMID.out.hx) (fun e => HMID.out.nx (.inr (.inr (.inr e))))).trans HMID.out.hx
      have hrow3 : RowC w3 3 (.slice ao n cap) r.g (r.l.map (Value.int .i64)) := by
        rw [← hpv]
        exact hrow.frame fun g hg => hf3.blk _ (hrow.lt g hg) (fun e => a5 (by rw [← e]; exact hg))
      have hlen3 : (r.l.map (Value.int .i64)).length < 1099511627776 := by rw [List.length_map, hn]; omega
      have hgx : r.g ≠ some xb := fun e => HMID.out.nx (.inr (.inl e))
      have hxl3 : xb < w3.heap.size := lt_blk hx3
      have HX3 := Lib.hid hx3
      have HB3 := Lib.hid hB3
      have HM3 := Lib.hid hm3
      have HF3 := Lib.hid hf3
      have HROW3 := Lib.hid hrow3
      have HL3 := Lib.hid hlen3
      clear hst hblk hrow hpv hcp hn a2 a4 a5 hx3 hB3 hm3 hf3 hrow3 hlen3 hrB
      go_still_tail 10, (by kernel_rfl)
      change wpList _ _ _ _ _ wq.drew
      refine wpList_store_run rfl (.tmp 33) (.tmp 34) (.tmp 39) 57 rfl r.ab (.int .i64 id) (.int .i64 n) rfl rfl rfl w3 hrun3 ?_
      clear hrun3
      go_wp2_with (at_builtin; refine wpList_append_c rfl (.tmp 44) (.tmp 46) 36 rfl 3 i0 (.int .i64 0) Try.underlying36 hi0 hz0 hz1 hz2 rfl _ r.g _ rfl (HROW3.out.alloc _) ⟨w3.heap.size, 0, none⟩ 1 (.int .i64 id) rfl (by rw [cell_blk (heap_new_at rfl _)]; rfl) rfl HL3.out ?_; intro v' g' w5 hrow5 hfp5 hg5; obtain ⟨ao5, cap5, hv5, _⟩ := hrow5.shape; obtain ⟨q5, hq5⟩ : ∃ q5, (r.l.map (Value.int .i64) ++ [Value.int .i64 id]).length = q5 := ⟨_, rfl⟩; rw [hq5] at hv5; subst hv5; clear hq5; have hB5 := (hfp5.blk _ (by simp; omega) a1).trans ((Below.heap_alloc _ _ _ hb3).trans HB3.out); have hX5 := (hfp5.blk _ (by simp; omega) hgx).trans ((Below.heap_alloc _ _ _ (lt_blk HX3.out)).trans HX3.out); have k5 := frz_blk (o := 0) hB5; have k6 : w5.cell? ⟨B, 0, none⟩ = some (.slice ao n cap) := cell_blk hB5; have k7 := frz_blk (o := 1) ((heap_set_ne (a := ⟨B, 0, none⟩) (v := .slice ao5 q5 cap5) hxbB).trans hX5); have k8 : (w5.setCell ⟨B, 0, none⟩ (.slice ao5 q5 cap5)).cell? ⟨xb, 1, none⟩ = some (.int .i64 cnt) := cell_blk ((heap_set_ne hxbB).trans hX5); have HR5 := Lib.hid hrow5; have HP5 := Lib.hid hfp5; have HG5 := Lib.hid hg5; clear hB5 hX5 hrow5 hfp5 hg5)
      go_ret
      obtain ⟨S', q1, q2, q3⟩ := add_end HMID.out HI.out HMM.out HS.out (by decide) hid HM.out (⟨rfl, rfl, rfl, rfl⟩ : Same wq wq.drew) HF3.out HM3.out HP5.out HR5.out HG5.out
      rw [HRB.out] at q1 q2
      refine ⟨by rw [HB.out]; rfl, S', ?_, (HSQ.out.mono (T := S) (fun _ q => q.elim)).trans q2 (fun i hi => .inl hi), fun i hi => ?_⟩
      · rw [HB.out, if_neg (by decide), if_neg (by decide), addM, if_neg HM.out]; exact q1
      · rcases q3 i hi with q | q
        · exact .inl q
        · have := HSQ.out.size
          have q' : wq.heap.size ≤ i := q
          exact .inr (by omega)

def RemPost_A (w : World) (xb : Nat) (S : Nat → Prop) (M : Lit → List Int) (nk : Nat) (cnt : Int) (N : Nat) (kl : Lit) (id : Int) (e : Ending) (w' : World) : Prop :=
  e = .returned (.bool (hasB M kl id)) ∧ ∃ S', Ix_A w' xb S' (remM M kl id) (if hasB M kl id then remK M kl id nk else nk) (if hasB M kl id then cnt - 1 else cnt) (N + 1) ∧ FP S w w' ∧ ∀ i, S' i → S i ∨ w.heap.size ≤ i

set_option maxHeartbeats 1600000 in
theorem rem_A (h : Ix_A w xb S M nk cnt N) (hN : N + 1 < 1099511627776) (hc : 0 ≤ cnt ∧ cnt < 1099511627776) {a b : Int} {kl : Lit} (hk : keyOf Try.prog 50 (.agg #[.int .i64 a, .int .i64 b]) = some kl) {id : Int} (hid : I64 id) :
    Calls Try.prog 32 #[.pointer (some ⟨xb, 0, none⟩), .agg #[.int .i64 a, .int .i64 b], .int .i64 id] w (RemPost_A w xb S M nk cnt N kl id) := by
  by_cases hm : id ∈ M kl
  · have hb := hasB_true hm
    have hcall := has_A (Ix_boxA h a b) hk hid
    rw [hb] at hcall
    have HH := Lib.hid h
    have HB := Lib.hid hb
    have HM := Lib.hid hm
    clear h hb hm
    go_enter Try.func32, Try.ntmps32
    go_wp2_with fail
    refine hcall.mono ?_
    rintro e w1 ⟨rfl, hs⟩
    clear hcall
    have hs0 := ((FP.refl nob w).alloc (.cells #[.int .i64 a, .int .i64 b] 50)).trans hs (fun _ q => q.elim)
    have hk1 : w1.heap[w.heap.size]? = some (.cells #[.int .i64 a, .int .i64 b] 50 (0,0)) := (hs.blk _ (by simp) (fun q => q)).trans (heap_new_at rfl _)
    obtain ⟨mb, F, hi, hM, hS⟩ := (HH.out.fp hs0 (fun _ _ q => q)).open_
    have HSS := Lib.hid hs0
    have HK1 := Lib.hid hk1
    have k0c : w1.cell? ⟨w.heap.size, 0, none⟩ = some (.int .i64 a) := cell_blk hk1
    have k1c : w1.cell? ⟨w.heap.size, 1, none⟩ = some (.int .i64 b) := cell_blk hk1
    have hkl : w.heap.size < w1.heap.size := lt_blk hk1
    clear hs hs0 hk1
    have hrun := fun q => (hi.map.frame (w' := w1.drewN q) rfl).look keyed_A Try.underlying69 (zero56 _) hk
    obtain ⟨r, hF⟩ : ∃ r, F kl = some r := by
      cases hF : F kl with
      | none => exact absurd HM.out (by rw [hM, hF]; simp [idsOf])
      | some r => exact ⟨r, rfl⟩
    obtain ⟨B, hB0⟩ : ∃ B, r.B = B := ⟨_, rfl⟩
    rw [hF] at hrun
    replace hrun : ∀ q, (Instr.lookup 69 (.map (some mb)) (.agg #[.int .i64 a, .int .i64 b]) false).run Try.prog (w1.drewN q) = .ok (.pointer (some ⟨r.B, 0, none⟩)) (w1.drewN q) := hrun
    rw [hB0] at hrun
    have HI := Lib.hid hi
    have HMM0 := Lib.hid hM
    have HS0 := Lib.hid hS
    have HF0 := Lib.hid hF
    have HB00 := Lib.hid hB0
    have c0 : w1.cell? ⟨xb, 0, none⟩ = some (.map (some mb)) := by rw [cell_blk hi.blk]; rfl
    have hxl : xb < w1.heap.size := lt_blk hi.blk
    have hml : mb < w1.heap.size := by obtain ⟨es, c, hb⟩ := hi.map.blk; exact lt_blk hb
    clear hi hM hS hF hB0
    go_wp2
    go_quiet (fail)
    obtain ⟨wq, hwq⟩ : ∃ wq, w1.drewN nq = wq := ⟨_, rfl⟩
    have hzq : Same w1 wq := hwq ▸ same_drewN w1 nq
    rw [hwq]
    have HSQ : Hid (FP nob w wq) := Lib.hid (HSS.out.same hzq)
    have HKQ : Hid (wq.heap[w.heap.size]? = some (.cells #[.int .i64 a, .int .i64 b] 50 (0,0))) := Lib.hid (by rw [hzq.1]; exact HK1.out)
    have HIq := Lib.hid (HI.out.same hzq.1)
    clear hwq hzq HI HSS HK1 c0 hxl hml hrun k0c k1c hkl
    have HI := HIq
    clear HIq
    have c0 : wq.cell? ⟨xb, 0, none⟩ = some (.map (some mb)) := by rw [cell_blk HI.out.blk]; rfl
    have hxl : xb < wq.heap.size := lt_blk HI.out.blk
    have hml : mb < wq.heap.size := by obtain ⟨es, c, hb⟩ := HI.out.map.blk; exact lt_blk hb
    have k0c : wq.cell? ⟨w.heap.size, 0, none⟩ = some (.int .i64 a) := cell_blk HKQ.out
    have k1c : wq.cell? ⟨w.heap.size, 1, none⟩ = some (.int .i64 b) := cell_blk HKQ.out
    have hkl : w.heap.size < wq.heap.size := lt_blk HKQ.out
    have hi := HI.out
    have hM := HMM0.out
    have hS := HS0.out
    have hF := HF0.out
    have hB0 := HB00.out
    obtain ⟨g1, g2, g3, g4⟩ := hi.bks kl r hF
    have HNT : Hid (¬ r.fp w.heap.size) := Lib.hid (g1.not_tag HKQ.out (by decide) (by decide))
    have hmem : id ∈ r.ids := by have := HM.out; rw [hM, hF] at this; exact this
    obtain ⟨c, hc2⟩ : ∃ c, r.f id = some c := Option.isSome_iff_exists.1 ((g1.bk.isSome id).2 hmem)
    have hc3 : I64 c := by
      obtain ⟨i, rfl, e1, _⟩ := (g1.bk.at_ id c).1 hc2
      have := (List.getElem?_eq_some_iff.1 e1).1
      have := g1.len
      exact ⟨by omega, by omega⟩
    obtain ⟨pv, hblk, hrow⟩ := g1.blk
    obtain ⟨a1, a2, a3, a4, a5⟩ := g1.apart (by decide)
    rw [hB0] at hblk a1 a2 a3
    have d1 : wq.cell? ⟨B, 1, none⟩ = some (.map (some r.hb)) := by rw [cell_blk hblk]; rfl
    have d2 : wq.cell? ⟨B, 2, none⟩ = some (.map (some r.ab)) := by rw [cell_blk hblk]; rfl
    have hrun2 : ∀ d, (Instr.lookup 57 (.map (some r.ab)) (.int .i64 id) false).run Try.prog { heap := wq.heap, tape := wq.tape, drawn := d, os := wq.os, output := wq.output } = .ok (.int .i64 c) { heap := wq.heap, tape := wq.tape, drawn := d, os := wq.os, output := wq.output } := fun d => by
      have := (g1.am.frame (w' := { heap := wq.heap, tape := wq.tape, drawn := d, os := wq.os, output := wq.output }) rfl).look Try.underlying3 Try.underlying57 (zero3 _) hid
      rw [hc2] at this
      exact this
    obtain ⟨w3, hrun3, hm3, hf3⟩ := SetI.store Try.underlying3 Try.underlying58 (g1.hm.frame (w' := wq.drew) rfl) (by omega) (id := c) hc3
    have hblk3 := (hf3.blk _ (lt_blk hblk) (fun e => a2 e.symm)).trans hblk
    have d3 : w3.cell? ⟨B, 2, none⟩ = some (.map (some r.ab)) := by rw [cell_blk hblk3]; rfl
    obtain ⟨w4, hrun4, hm4, hf4⟩ := MapI.drop Try.underlying3 Try.underlying57 (g1.am.frame (w' := w3) (hf3.blk _ (g1.lt r.ab (.inr (.inr (.inr rfl)))) (fun e => g1.hne e.symm))) (id := id) hid 0
    obtain ⟨r1, r2, r3⟩ := rem_mid hi hF (by decide) hc2 (w2q := wq.drew) ⟨rfl, rfl, rfl, rfl⟩ hf3 hm3 hf4 hm4
    have hclose := close_any r1 (by omega)
    replace hclose : Calls Try.prog 36 #[.pointer (some ⟨B, 0, none⟩)] w4 (ClosePost w4 { r with s := updB r.s c true, f := updB r.f id none } (N + 1)) := by
      rw [← hB0]; exact hclose
    have hMk : M kl = r.ids := by rw [hM, hF]; rfl
    have HMM := Lib.hid hM
    have HS := Lib.hid hS
    clear HMM0 HS0 HF0 HB00
    have HF := Lib.hid hF
    have HB0 := Lib.hid hB0
    have HL := Lib.hid r2
    have HF4 := Lib.hid r3
    have HMK := Lib.hid hMk
    have HG3 := Lib.hid g3
    have HG4 := Lib.hid g4
    have HCL := Lib.hid hclose
    clear hM hS hF hB0 hi r1 r2 r3 hMk g1 g2 g3 g4 hmem hc2 hc3 hblk hrow a1 a2 a3 a4 a5 hm3 hf3 hblk3 hm4 hf4 hclose
    go_wp2_with fail
    go_still_tail 11, (by kernel_rfl)
    refine wpStill_look rfl (.tmp 26) (.tmp 27) 57 false rfl r.ab (.int .i64 id) rfl rfl (.int .i64 c) (hrun2 _) ?_
    repeat still_step
    refine wpStill_nil ?_
    change wpList _ _ _ _ _ wq.drew
    refine wpList_store_run rfl (.tmp 22) (.tmp 28) (.tmp 29) 58 rfl r.hb (.int .i64 c) (.agg #[]) rfl rfl rfl w3 hrun3 ?_
    clear hrun2 hrun3 d1 d2
    go_wp2_with (at_delete; refine wpList_drop_run rfl (.tmp 33) (.tmp 34) 57 3 rfl r.ab (.int .i64 id) rfl rfl w4 hrun4 ?_)
    refine HCL.out.mono ?_
    intro e w5 hC
    obtain ⟨he, r', e1, e2, e3, e4, e5, e6⟩ := hC
    subst he
    have hids : r'.ids = (M kl).erase id := by rw [HMK.out]; exact Eq.trans e3 HL.out
    have hnil : r'.l = [] ↔ (M kl).erase id = [] := by rw [HMK.out, ← HL.out]; exact e4
    have hB' : r'.B = B := Eq.trans e1 HB0.out
    obtain ⟨pv5, hblk5, hrow5⟩ := e2.blk
    rw [hB'] at hblk5
    obtain ⟨ao5, cap5, hpv5, hcp5⟩ := hrow5.shape
    rw [List.length_map] at hpv5
    obtain ⟨n5, hn5⟩ : ∃ n5, r'.l.length = n5 := ⟨_, rfl⟩
    rw [hn5] at hpv5
    have b0 : w5.cell? ⟨B, 0, none⟩ = some (.slice ao5 n5 cap5) := by rw [← hpv5]; exact cell_blk hblk5
    have hf15 : FP r.fp wq w5 := HF4.out.trans (T := r.fp) e5 (fun i hi => .inl hi)
    have hx5 : w5.heap[xb]? = some (.cells #[.map (some mb), .int .i64 cnt] 71 (0,0)) := (hf15.blk _ hxl HG3.out).trans HI.out.blk
    have x0 : w5.cell? ⟨xb, 0, none⟩ = some (.map (some mb)) := cell_blk hx5
    have HIDS := Lib.hid hids
    have HNIL := Lib.hid hnil
    have HE2 := Lib.hid e2
    have HE5 : Hid (FP r.fp w4 w5) := Lib.hid e5
    have HE6 : Hid (∀ i, r'.fp i → r.fp i ∨ w4.heap.size ≤ i) := Lib.hid e6
    have HE1 : Hid (r'.B = r.B) := Lib.hid e1
    have HN5 := Lib.hid hn5
    have HX5 := Lib.hid hx5
    have HF15 := Lib.hid hf15
    have hk5 := (HF15.out.blk _ hkl HNT.out).trans HKQ.out
    have k0d : w5.cell? ⟨w.heap.size, 0, none⟩ = some (.int .i64 a) := cell_blk hk5
    have k1d : w5.cell? ⟨w.heap.size, 1, none⟩ = some (.int .i64 b) := cell_blk hk5
    clear hids hnil hB' hblk5 hrow5 hpv5 hcp5 hn5 hf15 hx5 e1 e2 e3 e4 e5 e6 hrun4 c0 d3 hk5 k0c k1c
    by_cases h0 : n5 = 0
    · subst h0
      have hl : r'.l = [] := List.eq_nil_of_length_eq_zero HN5.out
      obtain ⟨w6, hrun6, hm6, hf6'⟩ := MapP.drop keyed_A Try.underlying69 (HI.out.map.frame (w' := w5.drew) (HF15.out.blk _ hml HG4.out)) hk 0
      have hf6 := (FP.ofSame (S := fun i => i = mb) (⟨rfl, rfl, rfl, rfl⟩ : Same w5 w5.drew)).trans hf6' (fun i hi => .inl hi)
      rw [HF.out] at hm6
      have hx6 := (hf6.blk _ (lt_blk HX5.out) HI.out.ne).trans HX5.out
      have y1 : w6.cell? ⟨xb, 1, none⟩ = some (.int .i64 cnt) := cell_blk hx6
      have yf : w6.frozen? ⟨xb, 1, none⟩ = false := frz_blk hx6
      have HM6 := Lib.hid hm6
      have HF6 := Lib.hid hf6
      have HLL := Lib.hid hl
      clear hm6 hf6 hf6' hx6 hl
      go_wp2_with fail
      go_still_tail 5, (by kernel_rfl)
      change wpList _ _ _ _ _ w5.drew
      refine wpList_drop_run rfl (.tmp 46) (.tmp 47) 69 50 rfl mb (.agg #[.int .i64 a, .int .i64 b]) rfl rfl w6 hrun6 ?_
      go_wp2
      go_ret
      obtain ⟨S', q1, q2, q3⟩ := rem_end HI.out HMM.out HS.out HF.out (Nat.le_succ N) HF4.out HE2.out HIDS.out HNIL.out HE5.out HE6.out (.inr ⟨HLL.out, rfl, HF6.out, HM6.out⟩) HE1.out
      refine ⟨by rw [HB.out]; rfl, S', ?_, (HSQ.out.mono (T := S) (fun _ q => q.elim)).trans q2 (fun i hi => .inl hi), fun i hi => ?_⟩
      · rw [HB.out, if_pos rfl, if_pos rfl, remM, remK, if_pos (HNIL.out.1 HLL.out)]; exact q1
      · rcases q3 i hi with q | q
        · exact .inl q
        · have := HSQ.out.size
          have q' : wq.heap.size ≤ i := q
          exact .inr (by omega)
    · have hl : r'.l ≠ [] := fun e => h0 (by rw [← HN5.out, e]; rfl)
      have x1 : w5.cell? ⟨xb, 1, none⟩ = some (.int .i64 cnt) := cell_blk HX5.out
      have xf : w5.frozen? ⟨xb, 1, none⟩ = false := frz_blk HX5.out
      have HLL := Lib.hid hl
      have hz : ((n5 : Int) == 0) = false := by simpa using h0
      clear hl
      go_wp2
      go_ret
      obtain ⟨S', q1, q2, q3⟩ := rem_end HI.out HMM.out HS.out HF.out (Nat.le_succ N) HF4.out HE2.out HIDS.out HNIL.out HE5.out HE6.out (.inl ⟨HLL.out, rfl, rfl⟩) HE1.out
      refine ⟨by rw [HB.out]; rfl, S', ?_, (HSQ.out.mono (T := S) (fun _ q => q.elim)).trans q2 (fun i hi => .inl hi), fun i hi => ?_⟩
      · rw [HB.out, if_pos rfl, if_pos rfl, remM, remK, if_neg (fun e => HLL.out (HNIL.out.2 e))]; exact q1
      · rcases q3 i hi with q | q
        · exact .inl q
        · have := HSQ.out.size
          have q' : wq.heap.size ≤ i := q
          exact .inr (by omega)
  · have hb := hasB_false hm
    have hcall := has_A (Ix_boxA h a b) hk hid
    rw [hb] at hcall
    have HH := Lib.hid h
    have HB := Lib.hid hb
    have HM := Lib.hid hm
    clear h hb hm
    go_enter Try.func32, Try.ntmps32
    go_wp2_with fail
    refine hcall.mono ?_
    rintro e w1 ⟨rfl, hs⟩
    have HS := Lib.hid hs
    clear hs hcall
    go_wp2
    go_ret
    refine ⟨by rw [HB.out]; rfl, S, ?_, (((FP.refl nob w).alloc (.cells #[.int .i64 a, .int .i64 b] 50)).trans HS.out (fun _ q => q.elim)).mono (fun _ q => q.elim), fun i hi => .inl hi⟩
    rw [HB.out, if_neg (by decide), if_neg (by decide), remM, List.erase_of_not_mem HM.out, updL_self]
    exact ((Ix_boxA HH.out a b).fp HS.out (fun _ _ q => q)).mono (Nat.le_succ N)
end
end Go.Proofs.Ytgpekeemmambkaa


