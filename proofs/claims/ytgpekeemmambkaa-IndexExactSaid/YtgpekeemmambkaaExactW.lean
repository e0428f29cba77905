/- The walk of proctorlaw13.IndexExact: it returns true for every Script. -/
import Derived.Test.YtgpekeemmambkaaDN
import Derived.Test.YtgpekeemmambkaaOpen
import Derived.Deep.RegionHeld3
import Derived.Deep.DeepCutAuto
import Derived.Deep.CutBlock
namespace Go.Proofs.Ytgpekeemmambkaa
open Go.RowKit

theorem IxD.new {base : Nat} {w : World} {xb : Nat} {S : Nat → Prop} (h : Ix_S w xb S (fun _ => []) 0 0 0) (hS : ∀ i, S i → base ≤ i) : IxD base w xb [] 0 := ⟨S, _, h, fun _ => rfl, hS⟩
theorem BkD.new {base : Nat} {w : World} (hb : base ≤ w.heap.size) : BkD base (w.alloc (.cells #[.slice none 0 0] 30)) w.heap.size [] :=
  ⟨none, ⟨.slice none 0 0, heap_new_at rfl _, World.ownsRow_nil _ _ _ _, rfl⟩, hb⟩

/-- Where the loop stands: k operations are done. -/
structure At (w w2 : World) (xb bb : Nat) (k : Nat) (wl : World) (L : List Slot) (N : Nat) : Prop where
  ix : IxD w.heap.size wl xb L N
  bk : BkD w.heap.size wl bb L
  st : Stp w.heap.size w2 wl
  len : L.length ≤ k
  N : N ≤ 2 * k

set_option maxRecDepth 100000 in
set_option maxHeartbeats 3200000 in
theorem exact_walk (w : World) (v : Value) (La : Option Addr) (ln lc : Nat) (D I : Nat → Int) (K T : Nat → ByteArray) (hs : ScriptAt w v La ln lc D I K T) :
    Calls Try.prog 3 #[v] w (fun e w' => e = .returned (.bool true) ∧ Below w.heap.size w w') := by
  have hsh := hs.shape
  subst hsh
  have HSC := Lib.hid hs
  clear hs
  go_enter Try.func3, Try.ntmps3
  go_wp2_with fail
  refine (new_S _).mono ?_
  intro e w1 hA
  obtain ⟨xb, S, he, h1, h2, h3⟩ := hA
  subst he
  have hpb : w1.heap[w.heap.size]? = some (.cells #[.slice La ln lc] 24 (0,0)) := (h3.blk _ (by simp) (fun q => q)).trans (heap_new_at rfl _)
  have hf1 : FP (fun i => w.heap.size ≤ i) w w1 := ((FP.refl _ w).alloc _).trans h3 (fun _ q => q.elim)
  have hz1 := hf1.size
  have hI1 : IxD w.heap.size w1 xb [] 0 := IxD.new h1 (fun i hi => by have := h2 i hi; simp at this; omega)
  have HI1 := Lib.hid hI1
  have HF1 := Lib.hid hf1
  have HPB := Lib.hid hpb
  clear h1 h2 h3 hI1 hf1 hpb
  go_wp2_with fail
  have hst2 : Stp w.heap.size w1 (w1.alloc (.cells #[.slice none 0 0] 30)) := Stp.nob ((FP.refl nob w1).alloc _)
  have hat0 : At w (w1.alloc (.cells #[.slice none 0 0] 30)) xb w1.heap.size 0 (w1.alloc (.cells #[.slice none 0 0] 30)) [] 0 :=
    ⟨HI1.out.nob ((FP.refl nob w1).alloc _), BkD.new hz1, Stp.refl _ _, Nat.le_refl _, Nat.le_refl _⟩
  have hpb2 : (w1.alloc (.cells #[.slice none 0 0] 30)).heap[w.heap.size]? = some (.cells #[.slice La ln lc] 24 (0,0)) := hst2.1 _ _ _ (.inl rfl) HPB.out
  have hf2 : FP (fun i => w.heap.size ≤ i) w (w1.alloc (.cells #[.slice none 0 0] 30)) := HF1.out.alloc _
  obtain ⟨bb, hbb⟩ : ∃ bb, w1.heap.size = bb := ⟨_, rfl⟩
  rw [hbb] at hat0
  obtain ⟨w2, hw2⟩ : ∃ w2, w1.alloc (.cells #[.slice none 0 0] 30) = w2 := ⟨_, rfl⟩
  rw [hw2] at hat0 hpb2 hf2
  rw [hbb, hw2]
  have HAT0 := Lib.hid hat0
  have HPB2 := Lib.hid hpb2
  have HF2 := Lib.hid hf2
  clear hst2 hat0 hpb2 hf2 hbb hw2 hz1 HI1 HF1 HPB
  go_loopw [5] (fun i wl => ∃ (k N : Nat) (L : List Slot), k ≤ ln ∧ k ≤ 150 ∧ i = .int .i64 k ∧ Hid (At w w2 xb bb k wl L N)) (fun i _ => 150 - (intOf i).toNat)
  case atStart => exact ⟨0, 0, [], Nat.zero_le _, Nat.zero_le _, rfl, HAT0.out⟩
  case round =>
    obtain ⟨k, N, L, hk, hk2, rfl, HA⟩ := hrel
    have hbr : wr.heap[w.heap.size]? = some (.cells #[.slice La ln lc] 24 (0,0)) := HA.out.st.1 _ _ _ (.inl rfl) HPB2.out
    have c0 : wr.cell? ⟨w.heap.size, 0, none⟩ = some (.slice La ln lc) := cell_blk hbr
    have hpl : w.heap.size < wr.heap.size := lt_blk hbr
    have HBR := Lib.hid hbr
    clear hbr
    by_cases hlt : k < ln
    · by_cases hlt2 : k < 150
      · obtain ⟨b, o, rfl, hb, hcells⟩ := HSC.out.ops (by omega)
        obtain ⟨q0, q1, q2, q3⟩ := hcells k hlt
        have hbl : wr.heap[b]? = w.heap[b]? := (HA.out.st.2.blk b (by have := HF2.out.size; omega) (by omega)).trans (HF2.out.blk b hb (by omega))
        have d0 : wr.cell? ⟨b, o + k * 4, none⟩ = some (.int .i64 (D k)) := (World.cell?_of_block (w := w) hbl).trans q0
        have d1 : wr.cell? ⟨b, o + k * 4 + 1, none⟩ = some (.string (K k)) := (World.cell?_of_block (w := w) hbl).trans q1
        have d2 : wr.cell? ⟨b, o + k * 4 + 2, none⟩ = some (.string (T k)) := (World.cell?_of_block (w := w) hbl).trans q2
        have d3 : wr.cell? ⟨b, o + k * 4 + 3, none⟩ = some (.int .i64 (I k)) := (World.cell?_of_block (w := w) hbl).trans q3
        have hlmx : ln ≤ 9223372036854775807 := HSC.out.lmax
        clear q0 q1 q2 q3 hcells hbl
        go_upto_block 2 with fail
        have hdn0 : Dn w.heap.size w2 xb bb wr.heap.size #[.int .i64 (D k), .string (K k), .string (T k), .int .i64 (I k)] (wr.alloc (.cells #[.int .i64 (D k), .string (K k), .string (T k), .int .i64 (I k)] 32)) L L N :=
          ⟨HA.out.ix.nob ((FP.refl nob wr).alloc _), HA.out.bk.nob ((FP.refl nob wr).alloc _), HA.out.st.trans (Stp.nob ((FP.refl nob wr).alloc _)), heap_new_at rfl _⟩
        have hlenL := HA.out.len
        have hlenN := HA.out.N
        obtain ⟨ob, hob⟩ : ∃ ob, wr.heap.size = ob := ⟨_, rfl⟩
        rw [hob] at hdn0 ⊢
        obtain ⟨wo, hwo⟩ : ∃ wo, wr.alloc (.cells #[.int .i64 (D k), .string (K k), .string (T k), .int .i64 (I k)] 32) = wo := ⟨_, rfl⟩
        rw [hwo] at hdn0 ⊢
        have t1 : wo.cell? ⟨ob, 1, none⟩ = some (.string (K k)) := hdn0.cell 1
        have t2 : wo.cell? ⟨ob, 2, none⟩ = some (.string (T k)) := hdn0.cell 2
        have t3 : wo.cell? ⟨ob, 3, none⟩ = some (.int .i64 (I k)) := hdn0.cell 3
        have HD := Lib.hid hdn0
        have HR : Hid (Room L N) := Lib.hid ⟨by omega, by omega⟩
        have HR1 : Hid (Room L (N + 1)) := Lib.hid ⟨by omega, by omega⟩
        obtain ⟨bL, hbL⟩ : ∃ bL, hasL L (K k, I k) = bL := ⟨_, rfl⟩
        have HB := Lib.hid hbL
        clear d0 d1 d2 d3 hdn0 hob hwo hbL c0 hpl
        go_cut [] (fun wx => ∃ L' N', List.length L' ≤ k + 1 ∧ N' ≤ 2 * k + 2 ∧ Hid (Dn w.heap.size w2 xb bb ob #[.int .i64 (D k), .string (K k), .string (T k), .int .i64 (I k)] wx L' L' N'))
        case first => as_aux_lemma =>
          by_cases hD0 : D k = 0
          · have hle := addL_le L (K k, I k)
            have HLA : Hid ((addL L (K k, I k)).length ≤ k + 1) := Lib.hid (by omega)
            clear hle
            have hz0 : (D k == 0) = true := by simp [hD0]
            clear hD0
            go_wp2_with fail
            go_region_held3 (fun w' => w'.cell? ⟨ob, 1, none⟩ = some (.string (K k)) ∧ w'.cell? ⟨ob, 3, none⟩ = some (.int .i64 (I k))) (go_keep)
              (first | (go_at_call 8; refine (dn_iadd (s := K k) (id := I k) HD.out HR.out (HSC.out.wfK k) (HSC.out.wfI k) (by exact ⟨rfl, rfl, rfl, rfl⟩)).mono ?_; rintro e x1 ⟨he, hd⟩; rw [HB.out] at he; subst he; have s1 : x1.cell? ⟨ob, 1, none⟩ = some (.string (K k)) := hd.cell 1; have s3 : x1.cell? ⟨ob, 3, none⟩ = some (.int .i64 (I k)) := hd.cell 3; have HD1 := Lib.hid hd; clear hd) | (go_at_call 9; refine (dn_badd HD1.out HR1.out (K k) (I k) (by exact ⟨rfl, rfl, rfl, rfl⟩)).mono ?_; rintro e x2 ⟨he, hd⟩; rw [HB.out] at he; subst he; have s1 : x2.cell? ⟨ob, 1, none⟩ = some (.string (K k)) := hd.cell 1; have s3 : x2.cell? ⟨ob, 3, none⟩ = some (.int .i64 (I k)) := hd.cell 3; have HD2 := Lib.hid hd; clear hd))
            go_wp2_with fail
            go_meet
            exact ⟨addL L (K k, I k), N + 1, HLA.out, by omega, HD2.out.same ⟨rfl, rfl, rfl, rfl⟩⟩
          · by_cases hD1 : D k = 1
            · obtain ⟨Lr, hLr⟩ := EraIs.ex L (K k, I k)
              have hle := hLr.le
              have HLE : Hid (Lr.length ≤ k + 1) := Lib.hid (by omega)
              have HE := Lib.hid hLr
              clear hLr hle
              have hz0 : (D k == 0) = false := by simpa using hD0
              have hz1 : (D k == 1) = true := by simp [hD1]
              clear hD0 hD1
              go_wp2_with fail
              go_region_held3 (fun w' => w'.cell? ⟨ob, 1, none⟩ = some (.string (K k)) ∧ w'.cell? ⟨ob, 3, none⟩ = some (.int .i64 (I k))) (go_keep)
                (first | (go_at_call 10; refine (dn_irem (s := K k) (id := I k) HD.out HR.out (HSC.out.wfK k) (HSC.out.wfI k) HE.out (by exact ⟨rfl, rfl, rfl, rfl⟩)).mono ?_; rintro e x1 ⟨he, hd⟩; rw [HB.out] at he; subst he; have s1 : x1.cell? ⟨ob, 1, none⟩ = some (.string (K k)) := hd.cell 1; have s3 : x1.cell? ⟨ob, 3, none⟩ = some (.int .i64 (I k)) := hd.cell 3; have HD1 := Lib.hid hd; clear hd) | (go_at_call 11; refine (dn_brem HD1.out HR1.out (K k) (I k) HE.out (by exact ⟨rfl, rfl, rfl, rfl⟩)).mono ?_; rintro e x2 ⟨he, hd⟩; rw [HB.out] at he; subst he; have s1 : x2.cell? ⟨ob, 1, none⟩ = some (.string (K k)) := hd.cell 1; have s3 : x2.cell? ⟨ob, 3, none⟩ = some (.int .i64 (I k)) := hd.cell 3; have HD2 := Lib.hid hd; clear hd))
              go_wp2_with fail
              go_meet
              exact ⟨Lr, N + 1, HLE.out, by omega, HD2.out.same ⟨rfl, rfl, rfl, rfl⟩⟩
            · skip
              have hz0 : (D k == 0) = false := by simpa using hD0
              have hz1 : (D k == 1) = false := by simpa using hD1
              clear hD0 hD1
              cases bL with
              | false =>
                have hok : okL L (K k) (T k) (I k) = false := by unfold okL; rw [HB.out]; rfl
                have HOK := Lib.hid hok
                have HMV : Hid (MovIs L (K k) (T k) (I k) L) := Lib.hid (by unfold MovIs; rw [if_neg (by rw [hok]; decide)])
                clear hok
                go_wp2_with fail
                refine (dn_bat HD.out HR.out (K k) (I k) ⟨rfl, rfl, rfl, rfl⟩).mono ?_
                rintro e x1 ⟨⟨r, he, hr1, hr2⟩, hd, _⟩
                subst he
                rw [HB.out] at hr1 hr2
                have s1 : x1.cell? ⟨ob, 1, none⟩ = some (.string (K k)) := hd.cell 1
                have s2 : x1.cell? ⟨ob, 2, none⟩ = some (.string (T k)) := hd.cell 2
                have s3 : x1.cell? ⟨ob, 3, none⟩ = some (.int .i64 (I k)) := hd.cell 3
                have HD1 := Lib.hid hd
                clear hd t1 t2 t3
                go_wp2_with fail
                refine (dn_imov (s1 := K k) (s2 := T k) (id := I k) HD1.out HR.out (HSC.out.wfK k) (HSC.out.wfT k) (HSC.out.wfI k) HMV.out ⟨rfl, rfl, rfl, rfl⟩).mono ?_
                rintro e x9 ⟨he, hd⟩
                rw [HOK.out] at he
                subst he
                have HD9 := Lib.hid hd
                clear hd
                go_wp2_with fail
                go_meet
                exact ⟨L, N + 2, by omega, by omega, HD9.out.same ⟨rfl, rfl, rfl, rfl⟩⟩
              | true =>
                obtain ⟨Lr, hLr⟩ := EraIs.ex L (K k, I k)
                have hle := hLr.le
                have hle2 := addL_le Lr (T k, I k)
                have hm : (K k, I k) ∈ L := by have := HB.out; simpa [hasL] using this
                have hle3 := hLr.length hm
                have HLM : Hid ((addL Lr (T k, I k)).length ≤ k + 1) := Lib.hid (by omega)
                have HE := Lib.hid hLr
                have HRE : Hid (Room Lr N) := Lib.hid ⟨by omega, by omega⟩
                clear hLr hle hle2 hle3 hm
                by_cases hKT : K k = T k
                · have hok : okL L (K k) (T k) (I k) = true := by unfold okL; rw [HB.out, decide_eq_true hKT]; rfl
                  have HOK := Lib.hid hok
                  have HMV : Hid (MovIs L (K k) (T k) (I k) (addL Lr (T k, I k))) := Lib.hid (by unfold MovIs; rw [if_pos hok]; exact ⟨Lr, HE.out, rfl⟩)
                  have hkt : ((K k).toList == (T k).toList) = true := by rw [hKT]; simp
                  have hkt2 : (K k).toList = (T k).toList := by rw [hKT]
                  clear hok hKT
                  go_wp2_with fail
                  refine (dn_bat HD.out HR.out (K k) (I k) ⟨rfl, rfl, rfl, rfl⟩).mono ?_
                  rintro e x1 ⟨⟨r, he, hr1, hr2⟩, hd, _⟩
                  subst he
                  rw [HB.out] at hr1 hr2
                  have s1 : x1.cell? ⟨ob, 1, none⟩ = some (.string (K k)) := hd.cell 1
                  have s2 : x1.cell? ⟨ob, 2, none⟩ = some (.string (T k)) := hd.cell 2
                  have s3 : x1.cell? ⟨ob, 3, none⟩ = some (.int .i64 (I k)) := hd.cell 3
                  have HD1 := Lib.hid hd
                  clear hd t1 t2 t3
                  go_wp2_with fail
                  refine (dn_brem HD1.out HR.out (K k) (I k) HE.out ⟨rfl, rfl, rfl, rfl⟩).mono ?_
                  rintro e x5 ⟨he, hd⟩
                  subst he
                  clear s1 s2 s3
                  have s1 : x5.cell? ⟨ob, 1, none⟩ = some (.string (K k)) := hd.cell 1
                  have s2 : x5.cell? ⟨ob, 2, none⟩ = some (.string (T k)) := hd.cell 2
                  have s3 : x5.cell? ⟨ob, 3, none⟩ = some (.int .i64 (I k)) := hd.cell 3
                  have HD5 := Lib.hid hd
                  clear hd
                  go_wp2_with fail
                  refine (dn_badd HD5.out HRE.out (T k) (I k) ⟨rfl, rfl, rfl, rfl⟩).mono ?_
                  rintro e x6 ⟨he, hd⟩
                  subst he
                  clear s1 s2 s3
                  have s1 : x6.cell? ⟨ob, 1, none⟩ = some (.string (K k)) := hd.cell 1
                  have s2 : x6.cell? ⟨ob, 2, none⟩ = some (.string (T k)) := hd.cell 2
                  have s3 : x6.cell? ⟨ob, 3, none⟩ = some (.int .i64 (I k)) := hd.cell 3
                  have HD6 := Lib.hid hd
                  clear hd
                  go_wp2_with fail
                  refine (dn_imov (s1 := K k) (s2 := T k) (id := I k) HD6.out HR.out (HSC.out.wfK k) (HSC.out.wfT k) (HSC.out.wfI k) HMV.out ⟨rfl, rfl, rfl, rfl⟩).mono ?_
                  rintro e x9 ⟨he, hd⟩
                  rw [HOK.out] at he
                  subst he
                  have HD9 := Lib.hid hd
                  clear hd
                  go_wp2_with fail
                  go_meet
                  exact ⟨addL Lr (T k, I k), N + 2, HLM.out, by omega, HD9.out.same ⟨rfl, rfl, rfl, rfl⟩⟩
                · have hkt := toList_neB hKT
                  have hkt2 := toList_ne hKT
                  obtain ⟨b2, hb2⟩ : ∃ b2, hasL L (T k, I k) = b2 := ⟨_, rfl⟩
                  have HB2 := Lib.hid hb2
                  clear hb2
                  cases b2 with
                  | true =>
                    have hok : okL L (K k) (T k) (I k) = false := by unfold okL; rw [HB.out, HB2.out, decide_eq_false hKT]; rfl
                    have HOK := Lib.hid hok
                    have HMV : Hid (MovIs L (K k) (T k) (I k) L) := Lib.hid (by unfold MovIs; rw [if_neg (by rw [hok]; decide)])
                    clear hok hKT
                    go_wp2_with fail
                    refine (dn_bat HD.out HR.out (K k) (I k) ⟨rfl, rfl, rfl, rfl⟩).mono ?_
                    rintro e x1 ⟨⟨r, he, hr1, hr2⟩, hd, _⟩
                    subst he
                    rw [HB.out] at hr1 hr2
                    have s1 : x1.cell? ⟨ob, 1, none⟩ = some (.string (K k)) := hd.cell 1
                    have s2 : x1.cell? ⟨ob, 2, none⟩ = some (.string (T k)) := hd.cell 2
                    have s3 : x1.cell? ⟨ob, 3, none⟩ = some (.int .i64 (I k)) := hd.cell 3
                    have HD1 := Lib.hid hd
                    clear hd t1 t2 t3
                    go_wp2_with fail
                    refine (dn_bat HD1.out HR.out (T k) (I k) ⟨rfl, rfl, rfl, rfl⟩).mono ?_
                    rintro e x2 ⟨⟨r2, he, hr3, hr4⟩, hd, _⟩
                    subst he
                    rw [HB2.out] at hr3 hr4
                    clear s1 s2 s3
                    have s1 : x2.cell? ⟨ob, 1, none⟩ = some (.string (K k)) := hd.cell 1
                    have s2 : x2.cell? ⟨ob, 2, none⟩ = some (.string (T k)) := hd.cell 2
                    have s3 : x2.cell? ⟨ob, 3, none⟩ = some (.int .i64 (I k)) := hd.cell 3
                    have HD2 := Lib.hid hd
                    clear hd
                    go_wp2_with fail
                    refine (dn_imov (s1 := K k) (s2 := T k) (id := I k) HD2.out HR.out (HSC.out.wfK k) (HSC.out.wfT k) (HSC.out.wfI k) HMV.out ⟨rfl, rfl, rfl, rfl⟩).mono ?_
                    rintro e x9 ⟨he, hd⟩
                    rw [HOK.out] at he
                    subst he
                    have HD9 := Lib.hid hd
                    clear hd
                    go_wp2_with fail
                    go_meet
                    exact ⟨L, N + 2, by omega, by omega, HD9.out.same ⟨rfl, rfl, rfl, rfl⟩⟩
                  | false =>
                    have hok : okL L (K k) (T k) (I k) = true := by unfold okL; rw [HB.out, HB2.out]; simp
                    have HOK := Lib.hid hok
                    have HMV : Hid (MovIs L (K k) (T k) (I k) (addL Lr (T k, I k))) := Lib.hid (by unfold MovIs; rw [if_pos hok]; exact ⟨Lr, HE.out, rfl⟩)
                    clear hok hKT
                    go_wp2_with fail
                    refine (dn_bat HD.out HR.out (K k) (I k) ⟨rfl, rfl, rfl, rfl⟩).mono ?_
                    rintro e x1 ⟨⟨r, he, hr1, hr2⟩, hd, _⟩
                    subst he
                    rw [HB.out] at hr1 hr2
                    have s1 : x1.cell? ⟨ob, 1, none⟩ = some (.string (K k)) := hd.cell 1
                    have s2 : x1.cell? ⟨ob, 2, none⟩ = some (.string (T k)) := hd.cell 2
                    have s3 : x1.cell? ⟨ob, 3, none⟩ = some (.int .i64 (I k)) := hd.cell 3
                    have HD1 := Lib.hid hd
                    clear hd t1 t2 t3
                    go_wp2_with fail
                    refine (dn_bat HD1.out HR.out (T k) (I k) ⟨rfl, rfl, rfl, rfl⟩).mono ?_
                    rintro e x2 ⟨⟨r2, he, hr3, hr4⟩, hd, _⟩
                    subst he
                    rw [HB2.out] at hr3 hr4
                    clear s1 s2 s3
                    have s1 : x2.cell? ⟨ob, 1, none⟩ = some (.string (K k)) := hd.cell 1
                    have s2 : x2.cell? ⟨ob, 2, none⟩ = some (.string (T k)) := hd.cell 2
                    have s3 : x2.cell? ⟨ob, 3, none⟩ = some (.int .i64 (I k)) := hd.cell 3
                    have HD2 := Lib.hid hd
                    clear hd
                    go_wp2_with fail
                    refine (dn_brem HD2.out HR.out (K k) (I k) HE.out ⟨rfl, rfl, rfl, rfl⟩).mono ?_
                    rintro e x5 ⟨he, hd⟩
                    subst he
                    clear s1 s2 s3
                    have s1 : x5.cell? ⟨ob, 1, none⟩ = some (.string (K k)) := hd.cell 1
                    have s2 : x5.cell? ⟨ob, 2, none⟩ = some (.string (T k)) := hd.cell 2
                    have s3 : x5.cell? ⟨ob, 3, none⟩ = some (.int .i64 (I k)) := hd.cell 3
                    have HD5 := Lib.hid hd
                    clear hd
                    go_wp2_with fail
                    refine (dn_badd HD5.out HRE.out (T k) (I k) ⟨rfl, rfl, rfl, rfl⟩).mono ?_
                    rintro e x6 ⟨he, hd⟩
                    subst he
                    clear s1 s2 s3
                    have s1 : x6.cell? ⟨ob, 1, none⟩ = some (.string (K k)) := hd.cell 1
                    have s2 : x6.cell? ⟨ob, 2, none⟩ = some (.string (T k)) := hd.cell 2
                    have s3 : x6.cell? ⟨ob, 3, none⟩ = some (.int .i64 (I k)) := hd.cell 3
                    have HD6 := Lib.hid hd
                    clear hd
                    go_wp2_with fail
                    refine (dn_imov (s1 := K k) (s2 := T k) (id := I k) HD6.out HR.out (HSC.out.wfK k) (HSC.out.wfT k) (HSC.out.wfI k) HMV.out ⟨rfl, rfl, rfl, rfl⟩).mono ?_
                    rintro e x9 ⟨he, hd⟩
                    rw [HOK.out] at he
                    subst he
                    have HD9 := Lib.hid hd
                    clear hd
                    go_wp2_with fail
                    go_meet
                    exact ⟨addL Lr (T k, I k), N + 2, HLM.out, by omega, HD9.out.same ⟨rfl, rfl, rfl, rfl⟩⟩
        case rest => as_aux_lemma =>
          obtain ⟨L', N', hL1, hN1, HDT⟩ := hcut
          have t1 : wc.cell? ⟨ob, 1, none⟩ = some (.string (K k)) := HDT.out.cell 1
          have HRT : Hid (Room L' N') := Lib.hid ⟨by omega, by omega⟩
          have HBL : Hid ((bkt L' (K k)).length < 1099511627776) := Lib.hid (by have := bkt_length_le L' (K k); omega)
          have HBT : Hid ((bkt L' (T k)).length < 1099511627776) := Lib.hid (by have := bkt_length_le L' (T k); omega)
          obtain ⟨b3, hb3⟩ : ∃ b3, hasL L' (K k, I k) = b3 := ⟨_, rfl⟩
          have HB3 := Lib.hid hb3
          clear hb3
          go_wp2_with fail
          refine (dn_bucket (s := K k) HDT.out HRT.out (HSC.out.wfK k) (by exact ⟨rfl, rfl, rfl, rfl⟩)).mono ?_
          rintro e y1 ⟨ao, cap, go, rfl, hT, hd⟩
          obtain ⟨bao, bcap, b0c, hb0⟩ := hd.book
          have s1 : y1.cell? ⟨ob, 1, none⟩ = some (.string (K k)) := hd.cell 1
          have s3 : y1.cell? ⟨ob, 3, none⟩ = some (.int .i64 (I k)) := hd.cell 3
          have HT1 := Lib.hid hT
          have HD1 := Lib.hid hd
          clear hT hd t1
          go_wp2_with fail
          go_region_held3 (fun w' => w'.cell? ⟨ob, 1, none⟩ = some (.string (K k)) ∧ w'.cell? ⟨ob, 3, none⟩ = some (.int .i64 (I k)) ∧ w'.cell? ⟨bb, 0, none⟩ = some (.slice bao (List.length L') bcap)) (go_keep) (first | (go_at_call 16; refine (dn_bbucket HD1.out HT1.out HRT.out (K k) (by exact ⟨rfl, rfl, rfl, rfl⟩)).mono ?_; rintro e z1 ⟨ao2, cap2, go2, rfl, hT2, hT1, hd⟩; have hf := hT2.fp; have HU2 := Lib.hid hT2; have HU1 := Lib.hid hT1; clear hT2 hT1; have s1 : z1.cell? ⟨ob, 1, none⟩ = some (.string (K k)) := hd.cell 1; have s3 : z1.cell? ⟨ob, 3, none⟩ = some (.int .i64 (I k)) := hd.cell 3; have b1c : z1.cell? ⟨bb, 0, none⟩ = some (.slice bao (List.length L') bcap) := (FP.cell hf hb0).trans b0c; have hb1 : bb < z1.heap.size := Nat.lt_of_lt_of_le hb0 hf.size; have HD2 := Lib.hid hd; clear hd hf) | (go_at_call 15; refine (dn_eq HD2.out HU1.out HU2.out HBL.out HBL.out (by exact ⟨rfl, rfl, rfl, rfl⟩)).mono ?_; rintro e z2 ⟨he, hT, hd, hf⟩; rw [eqB_true rfl] at he; subst he; have HU3 := Lib.hid hT; clear hT; have s1 : z2.cell? ⟨ob, 1, none⟩ = some (.string (K k)) := hd.cell 1; have s3 : z2.cell? ⟨ob, 3, none⟩ = some (.int .i64 (I k)) := hd.cell 3; have b2c : z2.cell? ⟨bb, 0, none⟩ = some (.slice bao (List.length L') bcap) := (FP.cell hf hb1).trans b1c; have hb2 : bb < z2.heap.size := Nat.lt_of_lt_of_le hb1 hf.size; have HD3 := Lib.hid hd; clear hd hf) | (go_at_call 17; refine (dn_has (s := K k) (id := I k) HD3.out (HSC.out.wfK k) (HSC.out.wfI k) (by exact ⟨rfl, rfl, rfl, rfl⟩)).mono ?_; rintro e z3 ⟨he, hd, hf⟩; rw [HB3.out] at he; subst he; have HU4 := Lib.hid (HU3.out.nob hf); have s1 : z3.cell? ⟨ob, 1, none⟩ = some (.string (K k)) := hd.cell 1; have s3 : z3.cell? ⟨ob, 3, none⟩ = some (.int .i64 (I k)) := hd.cell 3; have b3c : z3.cell? ⟨bb, 0, none⟩ = some (.slice bao (List.length L') bcap) := (FP.cell hf hb2).trans b2c; have hb3 : bb < z3.heap.size := Nat.lt_of_lt_of_le hb2 hf.size; have HD4 := Lib.hid hd; clear hd hf) | (go_at_call 12; refine (dn_bat HD4.out HRT.out (K k) (I k) (by exact ⟨rfl, rfl, rfl, rfl⟩)).mono ?_; rintro e z4 ⟨⟨r, he, hr1, hr2⟩, hd, hf⟩; subst he; rw [HB3.out] at hr1 hr2; have HU5 := Lib.hid (HU4.out.nob hf); have s1 : z4.cell? ⟨ob, 1, none⟩ = some (.string (K k)) := hd.cell 1; have s3 : z4.cell? ⟨ob, 3, none⟩ = some (.int .i64 (I k)) := hd.cell 3; have b4c : z4.cell? ⟨bb, 0, none⟩ = some (.slice bao (List.length L') bcap) := (FP.cell hf hb3).trans b3c; have hb4 : bb < z4.heap.size := Nat.lt_of_lt_of_le hb3 hf.size; have HD5 := Lib.hid hd; clear hd hf) | (go_at_call 18; refine (dn_len HD5.out (by exact ⟨rfl, rfl, rfl, rfl⟩)).mono ?_; rintro e z5 ⟨he, hd, hf⟩; subst he; have HU6 := Lib.hid (HU5.out.nob hf); have s1 : z5.cell? ⟨ob, 1, none⟩ = some (.string (K k)) := hd.cell 1; have s3 : z5.cell? ⟨ob, 3, none⟩ = some (.int .i64 (I k)) := hd.cell 3; have b5c : z5.cell? ⟨bb, 0, none⟩ = some (.slice bao (List.length L') bcap) := (FP.cell hf hb4).trans b4c; have hb5 : bb < z5.heap.size := Nat.lt_of_lt_of_le hb4 hf.size; have HD6 := Lib.hid hd; clear hd hf) | (go_at_call 19; refine (dn_keys HD6.out (by exact ⟨rfl, rfl, rfl, rfl⟩)).mono ?_; rintro e z6 ⟨he, hd, hf⟩; subst he; have HU7 := Lib.hid (HU6.out.nob hf); have s1 : z6.cell? ⟨ob, 1, none⟩ = some (.string (K k)) := hd.cell 1; have s3 : z6.cell? ⟨ob, 3, none⟩ = some (.int .i64 (I k)) := hd.cell 3; have b6c : z6.cell? ⟨bb, 0, none⟩ = some (.slice bao (List.length L') bcap) := (FP.cell hf hb5).trans b5c; have hb6 : bb < z6.heap.size := Nat.lt_of_lt_of_le hb5 hf.size; have HD7 := Lib.hid hd; clear hd hf) | (go_at_call 20; refine (dn_bkeys HD7.out HRT.out (by exact ⟨rfl, rfl, rfl, rfl⟩)).mono ?_; rintro e z7 ⟨he, hd, hf⟩; subst he; have HU8 := Lib.hid (HU7.out.nob hf); have s1 : z7.cell? ⟨ob, 1, none⟩ = some (.string (K k)) := hd.cell 1; have s3 : z7.cell? ⟨ob, 3, none⟩ = some (.int .i64 (I k)) := hd.cell 3; have b7c : z7.cell? ⟨bb, 0, none⟩ = some (.slice bao (List.length L') bcap) := (FP.cell hf hb6).trans b6c; have hb7 : bb < z7.heap.size := Nat.lt_of_lt_of_le hb6 hf.size; have HD8 := Lib.hid hd; clear hd hf))
          go_wp2_with fail
          refine (dn_over HDT.out HU8.out HBL.out (by exact ⟨rfl, rfl, rfl, rfl⟩)).mono ?_
          rintro e z8 ⟨he, hd⟩
          subst he
          have s2 : z8.cell? ⟨ob, 2, none⟩ = some (.string (T k)) := hd.cell 2
          have HDA := Lib.hid hd
          clear hd s1 s3 b7c
          go_wp2_with fail
          go_region_held3 (fun w' => w'.cell? ⟨ob, 2, none⟩ = some (.string (T k))) (go_keep) (first | (go_at_call 14; refine (dn_bucket (s := T k) HDA.out HRT.out (HSC.out.wfT k) (by exact ⟨rfl, rfl, rfl, rfl⟩)).mono ?_; rintro e a1 ⟨ao3, cap3, go3, rfl, hT, hd⟩; have s2 : a1.cell? ⟨ob, 2, none⟩ = some (.string (T k)) := hd.cell 2; have HV1 := Lib.hid hT; have HDB := Lib.hid hd; clear hT hd) | (go_at_call 16; refine (dn_bbucket HDB.out HV1.out HRT.out (T k) (by exact ⟨rfl, rfl, rfl, rfl⟩)).mono ?_; rintro e a2 ⟨ao4, cap4, go4, rfl, hT2, hT1, hd⟩; have s2 : a2.cell? ⟨ob, 2, none⟩ = some (.string (T k)) := hd.cell 2; have HV2 := Lib.hid hT2; have HV3 := Lib.hid hT1; have HDC := Lib.hid hd; clear hT2 hT1 hd) | (go_at_call 15; refine (dn_eq HDC.out HV3.out HV2.out HBT.out HBT.out (by exact ⟨rfl, rfl, rfl, rfl⟩)).mono ?_; rintro e a3 ⟨he, hT, hd, hf⟩; rw [eqB_true rfl] at he; subst he; have s2 : a3.cell? ⟨ob, 2, none⟩ = some (.string (T k)) := hd.cell 2; have HDD := Lib.hid hd; clear hT hd hf))
          go_wp2_with fail
          go_roundw
          case rel =>
            have hfin := HDD.out.same (by exact ⟨rfl, rfl, rfl, rfl⟩)
            exact ⟨k + 1, N', L', by omega, by omega, by go_num, ⟨hfin.ix, hfin.bk, hfin.st, hL1, by omega⟩⟩
          case measure => simp [intOf]; omega
      · obtain rfl : k = 150 := by omega
        have hfin : FP (fun i => w.heap.size ≤ i) w wr := HF2.out.trans HA.out.st.2 (fun _ q => .inl q)
        have HFIN := Lib.hid hfin
        clear hfin
        go_wp2_with fail
        refine (wakes_any _).mono ?_
        intro e wz hZ
        obtain ⟨rfl, hz⟩ := hZ
        have HZ := Lib.hid hz
        clear hz
        go_wp2
        go_ret
        exact ⟨rfl, (HFIN.out.trans HZ.out (fun _ q => q.elim)).below (fun _ q => q) (Nat.le_refl _)⟩
    · obtain rfl : k = ln := by omega
      have hfin : FP (fun i => w.heap.size ≤ i) w wr := HF2.out.trans HA.out.st.2 (fun _ q => .inl q)
      have HFIN := Lib.hid hfin
      clear hfin
      go_wp2_with fail
      refine (wakes_any _).mono ?_
      intro e wz hZ
      obtain ⟨rfl, hz⟩ := hZ
      have HZ := Lib.hid hz
      clear hz
      go_wp2
      go_ret
      exact ⟨rfl, (HFIN.out.trans HZ.out (fun _ q => q.elim)).below (fun _ q => q) (Nat.le_refl _)⟩
end Go.Proofs.Ytgpekeemmambkaa
