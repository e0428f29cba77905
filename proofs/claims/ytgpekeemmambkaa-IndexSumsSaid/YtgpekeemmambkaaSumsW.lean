/- The walk of proctorlaw13.IndexSums: it returns true for every Script. -/
import Derived.Test.YtgpekeemmambkaaDI
import Derived.Deep.DeepCutAuto
import Derived.Deep.CutBlock
namespace Go.Proofs.Ytgpekeemmambkaa
open Go.RowKit

theorem sumTo_le {M : Lit → List Int} {N : Nat} (h : ∀ k, (M k).length ≤ N) : ∀ n, sumTo M n ≤ n * N
  | 0 => by simp [sumTo]
  | n + 1 => by have := sumTo_le h n; have := h (.int .i64 n); simp only [sumTo, Nat.succ_mul]; omega
/-- Have all keys so far been short? then the short buckets hold all there is. -/
def Sho (K : Nat → ByteArray) (M : Lit → List Int) (cnt : Int) (k : Nat) : Prop := (∀ j, j < k → (K j).size < 20) → cnt = (sumTo M 20 : Nat)
theorem Sho.stay {K : Nat → ByteArray} {M : Lit → List Int} {cnt : Int} {k : Nat} (h : Sho K M cnt k) : Sho K M cnt (k + 1) := fun q => h (fun j hj => q j (by omega))
theorem Sho.add {K : Nat → ByteArray} {M : Lit → List Int} {cnt : Int} {k : Nat} (h : Sho K M cnt k) (id : Int) : Sho K (plusM M (K k).size id) (cnt + 1) (k + 1) := fun q => by
  have h1 := h (fun j hj => q j (by omega))
  have h2 := sumTo_add M (K k).size 20 id (q k (by omega))
  unfold plusM
  rw [h2]; omega

set_option maxRecDepth 100000 in
theorem all_no (x : World) (b o ln lc : Nat) (K : Nat → ByteArray) (hcell : ∀ j, j < ln → x.cell? ⟨b, o + j * 4 + 1, none⟩ = some (.string (K j))) (hb : b < x.heap.size) (hln : ln ≤ 9223372036854775807) (hK : ∀ j, (K j).size ≤ maxLen) (k : Nat) (hk : k < ln) (hk2 : k < 150)
    (hno : ¬ ∀ j, j < k + 1 → (K j).size < 20) : Calls Try.prog 29 #[.agg #[.slice (some ⟨b, o, none⟩) ln lc], .int .i64 k] x (fun e x' => e = .returned (.bool false) ∧ FP nob x x') := by
  have HC := Lib.hid hcell
  have HNO := Lib.hid hno
  have HK := Lib.hid hK
  clear hcell hno hK
  go_enter Try.func29, Try.ntmps29
  go_wp2
  go_loop [5] (fun i => ∃ j : Nat, j ≤ k + 1 ∧ i = .int .i64 j ∧ Hid (∀ m, m < j → (K m).size < 20)) (fun i => k + 1 - (intOf i).toNat)
  case atStart => exact ⟨0, Nat.zero_le _, rfl, fun m hm => absurd hm (Nat.not_lt_zero _)⟩
  case round =>
    obtain ⟨j, hj, rfl, HJ⟩ := hrel
    by_cases hlt : j < k + 1
    · have c1 := HC.out j (by omega)
      obtain ⟨sz, hsz⟩ : ∃ sz, (K j).size = sz := ⟨_, rfl⟩
      have hle : (j : Int) ≤ (k : Int) := by omega
      have hjl : (j : Int) < (ln : Int) := by omega
      have hszl : sz ≤ 9223372036854775807 := by have := HK.out j; unfold maxLen at this; omega
      by_cases hs : sz < 20
      · have hd : decide ((20 : Int) ≤ (sz : Int)) = false := by simp; omega
        have HSZ := Lib.hid hsz
        go_wp2
        go_round
        case rel =>
          refine ⟨j + 1, by omega, by go_num, fun m hm => ?_⟩
          by_cases e : m = j
          · rw [e, HSZ.out]; exact hs
          · exact HJ.out m (by omega)
        case measure => simp [intOf]; omega
      · have hd : decide ((20 : Int) ≤ (sz : Int)) = true := by simp; omega
        go_wp2
        go_ret
        exact ⟨rfl, (FP.refl nob x).alloc _⟩
    · obtain rfl : j = k + 1 := by omega
      exact absurd HJ.out HNO.out

set_option maxRecDepth 100000 in
set_option maxHeartbeats 3200000 in
theorem sums_walk (w : World) (v : Value) (La : Option Addr) (ln lc : Nat) (D I : Nat → Int) (K T : Nat → ByteArray) (hs : ScriptAt w v La ln lc D I K T) :
    Calls Try.prog 4 #[v] w (fun e w' => e = .returned (.bool true) ∧ Below w.heap.size w w') := by
  have hsh := hs.shape
  subst hsh
  have HSC := Lib.hid hs
  clear hs
  go_enter Try.func4, Try.ntmps4
  go_wp2_with fail
  refine (new_I _).mono ?_
  intro e w1 hA
  obtain ⟨xb, S, he, h1, h2, h3⟩ := hA
  subst he
  have hpb : w1.heap[w.heap.size]? = some (.cells #[.slice La ln lc] 24 (0,0)) := (h3.blk _ (by simp) (fun q => q)).trans (heap_new_at rfl _)
  have hf1 : FP (fun i => w.heap.size ≤ i) w w1 := ((FP.refl _ w).alloc _).trans h3 (fun _ q => q.elim)
  have hdi : Di w.heap.size w1 xb w1 (fun _ => []) 0 0 (.slice none 0 0) none [] :=
    ⟨⟨S, 0, h1, Nat.le_refl _, fun i hi => by have := h2 i hi; simp at this; omega, fun g hg => by simp at hg⟩, .inl ⟨rfl, rfl, rfl⟩, Stp.refl _ _, by omega, by omega, by omega⟩
  have hsho : Sho K (fun _ => []) 0 0 := fun _ => rfl
  have HDI := Lib.hid hdi
  have HSHO := Lib.hid hsho
  have HF2 := Lib.hid hf1
  have HPB2 := Lib.hid hpb
  clear h1 h2 h3 hdi hsho hf1 hpb
  go_wp2_with fail
  go_loopw [4] (fun i wl => ∃ (k N : Nat) (M : Lit → List Int) (cnt : Int), k ≤ ln ∧ k ≤ 150 ∧ i = .int .i64 k ∧ N ≤ 3 * k ∧ Hid (Di w.heap.size w1 xb wl M cnt N (.slice none 0 0) none []) ∧ Hid (Sho K M cnt k)) (fun i _ => 150 - (intOf i).toNat)
  case atStart => exact ⟨0, 0, _, 0, Nat.zero_le _, Nat.zero_le _, rfl, Nat.le_refl _, HDI.out, HSHO.out⟩
  case round =>
    obtain ⟨k, N, M, cnt, hk, hk2, rfl, hN, HD, HS⟩ := hrel
    obtain ⟨wo, hwo⟩ : ∃ wo : World, wo = wr := ⟨_, rfl⟩
    rw [← hwo]
    rw [← hwo] at HD
    clear hwo
    have c0 : wo.cell? ⟨w.heap.size, 0, none⟩ = some (.slice La ln lc) := cell_blk (HD.out.st.1 _ _ _ (.inl rfl) HPB2.out)
    by_cases hlt : k < ln
    · by_cases hlt2 : k < 150
      · obtain ⟨b, o, rfl, hb, _⟩ := HSC.out.ops (by omega)
        have HV : Hid (∀ x, Stp w.heap.size w1 x → x.cell? ⟨w.heap.size, 0, none⟩ = some (.slice (some ⟨b, o, none⟩) ln lc) ∧ x.cell? ⟨b, o + k * 4 + 1, none⟩ = some (.string (K k)) ∧ x.cell? ⟨b, o + k * 4 + 3, none⟩ = some (.int .i64 (I k))) :=
          Lib.hid (fun x hx => hx.vars HSC.out HPB2.out HF2.out rfl hlt)
        clear c0
        have HVA : Hid (∀ x, Stp w.heap.size w1 x → b < x.heap.size ∧ ∀ j, j < ln → x.cell? ⟨b, o + j * 4 + 1, none⟩ = some (.string (K j))) :=
          Lib.hid (fun x hx => ⟨by have := HF2.out.size; have := hx.2.size; omega, fun j hj => (hx.vars HSC.out HPB2.out HF2.out rfl hj).2.1⟩)
        obtain ⟨c0, c1, c3⟩ := HV.out _ HD.out.st
        have hd15 : decide ((k : Int) < 150) = true := by simp; omega
        have hlmx : ln ≤ 9223372036854775807 := HSC.out.lmax
        obtain ⟨sz, hsz⟩ : ∃ sz, (K k).size = sz := ⟨_, rfl⟩
        have hszl : sz ≤ 9223372036854775807 := by have := HSC.out.wfK k; unfold maxLen at this; omega
        obtain ⟨n, hn⟩ : ∃ n, (M (.int .i64 sz)).length = n := ⟨_, rfl⟩
        have hnN : n ≤ N := by rw [← hn]; exact HD.out.short _
        have HSZ := Lib.hid hsz
        have HN := Lib.hid hn
        clear hn
        go_wp2_with fail
        clear hsz
        refine (di_bucket HD.out hszl HN.out ⟨rfl, rfl, rfl, rfl⟩).mono ?_
        rintro e x1 ⟨ao, cap, go, rfl, ht, _⟩
        have HD1 := Lib.hid (HD.out.renew ht)
        rw [HN.out] at HD1
        clear ht
        go_wp2_with fail
        refine (di_len HD1.out rfl ⟨rfl, rfl, rfl, rfl⟩).mono ?_
        rintro e x2 ⟨rfl, hd, _⟩
        have HD2 := Lib.hid hd
        clear hd c0 c1 c3
        obtain ⟨c0, c1, c3⟩ := HV.out _ HD2.out.st
        have hid : I64 (I k) := HSC.out.wfI k
        have hcl := HD.out.cnt
        obtain ⟨bm, hbm⟩ : ∃ bm, decide (I k ∈ M (.int .i64 sz)) = bm := ⟨_, rfl⟩
        have HBM := Lib.hid hbm
        have hk2' : k < 150 := hlt2
        clear hd15 hlt2 hbm
        go_wp2_with fail
        refine (di_add_any HD2.out hszl hid (by omega) HBM.out ⟨rfl, rfl, rfl, rfl⟩).mono ?_
        rintro e x3 ⟨rfl, hd⟩
        clear c0 c1 c3
        obtain ⟨c0, c1, c3⟩ := HV.out _ hd.st
        have HD3 := Lib.hid hd
        clear hd
        go_upto_if 47 with fail
        go_cut [] (fun wx => ∃ (M' : Lit → List Int) (cnt' : Int) (N' : Nat), N' ≤ 3 * (k + 1) ∧ Hid (Di w.heap.size w1 xb wx M' cnt' N' (.slice none 0 0) none []) ∧ Hid (Sho K M' cnt' (k + 1)))
        case first => as_aux_lemma =>
          cases bm with
          | true =>
            have hm : I k ∈ M (.int .i64 sz) := by have := HBM.out; simpa using this
            have HM := Lib.hid hm
            have hd3 : Di w.heap.size w1 xb x3 M cnt (N + 1) (.slice ao n cap) go (M (.int .i64 sz)) := HD3.out
            clear HD3
            have HD3 := Lib.hid hd3
            clear hm hd3
            go_wp2_with fail
            refine (di_len HD3.out rfl ⟨rfl, rfl, rfl, rfl⟩).mono ?_
            rintro e x4 ⟨rfl, hd, _⟩
            clear c0 c1 c3
            obtain ⟨c0, c1, c3⟩ := HV.out _ hd.st
            have HD4 := Lib.hid hd
            clear hd
            go_wp2_with fail
            refine (di_has HD4.out hszl hid HM.out ⟨rfl, rfl, rfl, rfl⟩).mono ?_
            rintro e x5 ⟨rfl, hd⟩
            have HD5 := Lib.hid hd
            clear hd
            go_wp2_with fail
            go_meet
            exact ⟨M, cnt, N + 1, by omega, HD5.out.bare, HS.out.stay⟩
          | false =>
            have hm : I k ∉ M (.int .i64 sz) := by have := HBM.out; simpa using this
            have HM := Lib.hid hm
            have hsho : Sho K (plusM M sz (I k)) (cnt + 1) (k + 1) := by have := HS.out.add (I k); rw [HSZ.out] at this; exact this
            have HSH := Lib.hid hsho
            have hd3 : Di w.heap.size w1 xb x3 (plusM M sz (I k)) (cnt + 1) (N + 1) (.slice ao n cap) go (M (.int .i64 sz)) := HD3.out
            clear HD3
            have HD3 := Lib.hid hd3
            clear hm hsho hd3
            go_wp2_with fail
            refine (di_rem HD3.out hszl hid HM.out (by omega) hcl.1 ⟨rfl, rfl, rfl, rfl⟩).mono ?_
            rintro e x4 ⟨rfl, hd⟩
            clear c0 c1 c3
            obtain ⟨c0, c1, c3⟩ := HV.out _ hd.st
            have HD4 := Lib.hid hd
            clear hd
            go_wp2_with fail
            refine (di_bucket HD4.out hszl HN.out ⟨rfl, rfl, rfl, rfl⟩).mono ?_
            rintro e x5 ⟨ao5, cap5, go5, rfl, ht, hd⟩
            clear c0 c1 c3
            obtain ⟨c0, c1, c3⟩ := HV.out _ hd.st
            have HD5 := Lib.hid hd
            have HT5 := Lib.hid ht
            clear hd ht
            go_wp2_with fail
            refine (di_eq HD5.out HT5.out HN.out (by omega) ⟨rfl, rfl, rfl, rfl⟩).mono ?_
            rintro e x6 ⟨rfl, hd⟩
            clear c0 c1 c3
            obtain ⟨c0, c1, c3⟩ := HV.out _ hd.st
            have HD6 := Lib.hid hd
            clear hd
            go_wp2_with fail
            refine (di_len HD6.out rfl ⟨rfl, rfl, rfl, rfl⟩).mono ?_
            rintro e x7 ⟨rfl, hd, _⟩
            clear c0 c1 c3
            obtain ⟨c0, c1, c3⟩ := HV.out _ hd.st
            have HD7 := Lib.hid hd
            clear hd
            go_wp2_with fail
            refine (di_add HD7.out hszl hid HM.out (by omega) ⟨rfl, rfl, rfl, rfl⟩).mono ?_
            rintro e x8 ⟨rfl, hd⟩
            have HD8 := Lib.hid hd
            clear hd
            go_wp2_with fail
            go_meet
            exact ⟨_, cnt + 1, N + 1 + 1 + 1, by omega, HD8.out.bare, HSH.out⟩
        case rest =>
          obtain ⟨M', cnt', N', hN', HDC, HSC'⟩ := hcut
          clear c0 c1 c3 HD HD1 HD2 HD3 HS HN hnN HBM
          have hr := HDC.out.room
          go_wp2_with fail
          go_loopw [8, 9] (fun s m wl => ∃ mm : Nat, mm ≤ 20 ∧ m = .int .i64 mm ∧ s = .int .i64 (sumTo M' mm : Nat) ∧ Hid (Di w.heap.size w1 xb wl M' cnt' N' (.slice none 0 0) none [])) (fun _ m _ => 20 - (intOf m).toNat)
          case atStart => exact ⟨0, Nat.zero_le _, rfl, rfl, HDC.out⟩
          case round =>
            obtain ⟨mm, hmm, rfl, rfl, HDm⟩ := hrel
            obtain ⟨sm, hsm⟩ : ∃ sm, sumTo M' mm = sm := ⟨_, rfl⟩
            have hsml : sm ≤ 20 * N' := by
              have := sumTo_le (M := M') (N := N') (fun k => HDm.out.short k) mm
              have h2 : mm * N' ≤ 20 * N' := Nat.mul_le_mul_right _ hmm
              omega
            obtain ⟨wq, hwq⟩ : ∃ wq : World, wq = wr := ⟨_, rfl⟩
            rw [← hwq, hsm]
            rw [← hwq] at HDm
            have HSM := Lib.hid hsm
            clear hwq hsm
            by_cases hlt3 : mm < 20
            · as_aux_lemma =>
              obtain ⟨nl, hnl⟩ : ∃ nl, (M' (.int .i64 mm)).length = nl := ⟨_, rfl⟩
              have hnlN : nl ≤ N' := by rw [← hnl]; exact HDm.out.short _
              have HNL := Lib.hid hnl
              have HND : Hid ((M' (.int .i64 mm)).Nodup) := Lib.hid (HDm.out.nodup _)
              clear hnl
              go_wp2_with fail
              refine (di_bucket HDm.out (by omega) HNL.out ⟨rfl, rfl, rfl, rfl⟩).mono ?_
              rintro e y1 ⟨ao5, cap5, go5, rfl, ht, hd⟩
              have HDy := Lib.hid hd
              have HROW : Hid (RowC y1 3 (.slice ao5 nl cap5) go5 ((M' (.int .i64 mm)).map (Value.int .i64))) := Lib.hid (by have := ht.row; rw [HNL.out] at this; exact this)
              clear hd ht
              go_wp2_with fail
              go_loopw [11] (fun a wl => ∃ aa q : Nat, aa ≤ nl ∧ a = .int .i64 aa ∧ wl = y1.drewN q) (fun a _ => nl - (intOf a).toNat)
              case atStart => exact ⟨0, 0, Nat.zero_le _, rfl, rfl⟩
              case round =>
                obtain ⟨aa, q, haa, rfl, rfl⟩ := hrel
                by_cases hlt4 : aa < nl
                · go_wp2_with fail
                  go_loopw [12] (fun c wl => ∃ cc q : Nat, cc ≤ aa ∧ c = .int .i64 cc ∧ wl = y1.drewN q) (fun c _ => aa - (intOf c).toNat)
                  case atStart => exact ⟨0, q, Nat.zero_le _, rfl, rfl⟩
                  case round =>
                    obtain ⟨cc, q2, hcc, rfl, rfl⟩ := hrel
                    by_cases hlt5 : cc < aa
                    · obtain ⟨g, cap', e1, e2, e3, e4⟩ := HROW.out.at_ (by rw [List.length_map, HNL.out]; omega)
                      rw [List.length_map, HNL.out] at e1 e4
                      simp only [Value.slice.injEq] at e1
                      obtain ⟨rfl, _, rfl⟩ := e1
                      obtain ⟨x, hx⟩ : ∃ x, (M' (.int .i64 mm))[aa]? = some x := ⟨_, List.getElem?_eq_getElem (by rw [HNL.out]; exact hlt4)⟩
                      obtain ⟨y, hy⟩ : ∃ y, (M' (.int .i64 mm))[cc]? = some y := ⟨_, List.getElem?_eq_getElem (by rw [HNL.out]; omega)⟩
                      have hxy : (x == y) = false := by
                        simp only [beq_eq_false_iff_ne]
                        intro e
                        obtain ⟨h1, rfl⟩ := List.getElem?_eq_some_iff.1 hx
                        obtain ⟨h2, rfl⟩ := List.getElem?_eq_some_iff.1 hy
                        exact List.pairwise_iff_getElem.1 HND.out cc aa h2 h1 hlt5 e.symm
                      have d1 := e4 aa hlt4
                      have d2 := e4 cc (by omega)
                      rw [List.getElem?_map, hx] at d1
                      rw [List.getElem?_map, hy] at d2
                      simp only [Option.map_some] at d1 d2
                      have hi1 : (aa : Int) < (nl : Int) := by omega
                      have hi2 : (cc : Int) < (nl : Int) := by omega
                      clear e3 e4 hx hy
                      go_wp2
                      go_quiet (fail)
                      go_wp2
                      go_roundw
                      case rel => exact ⟨cc + 1, _, by omega, by go_num, rfl⟩
                      case measure => simp [intOf]; omega
                    · obtain rfl : cc = aa := by omega
                      go_wp2_with fail
                      go_roundw
                      case rel => exact ⟨cc + 1, q2, by omega, by go_num, rfl⟩
                      case measure => simp [intOf]; omega
                · obtain rfl : aa = nl := by omega
                  go_wp2_with fail
                  go_roundw
                  case rel =>
                    refine ⟨mm + 1, by omega, by go_num, ?_, HDy.out.same ⟨rfl, rfl, rfl, rfl⟩⟩
                    show _ = Value.int .i64 ((sumTo M' mm + (M' (.int .i64 mm)).length : Nat) : Int)
                    rw [HSM.out, HNL.out]
                    go_num
                  case measure => simp [intOf]; omega
            · obtain rfl : mm = 20 := by omega
              by_cases hall : ∀ j, j < k + 1 → (K j).size < 20
              · have hc : cnt' = (sm : Int) := by rw [← HSM.out]; exact HSC'.out hall
                have HC := Lib.hid hc
                clear hall hc
                go_wp2_with fail
                refine (di_len HDm.out HC.out ⟨rfl, rfl, rfl, rfl⟩).mono ?_
                rintro e z1 ⟨rfl, hd, _⟩
                have HDe := Lib.hid hd
                clear hd
                go_wp2_with fail
                go_roundw
                case rel => exact ⟨k + 1, N', M', cnt', by omega, by omega, by go_num, hN', HDe.out, HSC'.out⟩
                case measure => simp [intOf]; omega
              · have HNA := Lib.hid hall
                obtain ⟨c, hc⟩ : ∃ c, cnt' = c := ⟨_, rfl⟩
                have HC := Lib.hid hc
                clear hall hc
                obtain ⟨b0, hb0⟩ : ∃ b0, ((sm : Int) != c) = b0 := ⟨_, rfl⟩
                go_wp2_with fail
                refine (di_len HDm.out HC.out ⟨rfl, rfl, rfl, rfl⟩).mono ?_
                rintro e z1 ⟨rfl, hd, _⟩
                have HDe := Lib.hid hd
                have hpc : z1.cell? ⟨w.heap.size, 0, none⟩ = some (.slice (some ⟨b, o, none⟩) ln lc) := (HV.out _ hd.st).1
                obtain ⟨hbl, hcells⟩ := HVA.out _ hd.st
                have hall := all_no z1 b o ln lc K hcells hbl hlmx HSC.out.wfK k hlt hk2' HNA.out
                have HALL := Lib.hid hall
                clear hd hcells hall
                cases b0 with
                | false =>
                  go_wp2_with fail
                  go_roundw
                  case rel => exact ⟨k + 1, N', M', cnt', by omega, by omega, by go_num, hN', HDe.out, HSC'.out⟩
                  case measure => simp [intOf]; omega
                | true =>
                  by_cases h20 : sz < 20
                  · have hd20 : decide ((sz : Int) < 20) = true := by simp; omega
                    go_wp2_with fail
                    refine HALL.out.mono ?_
                    rintro e z2 ⟨rfl, hf⟩
                    have HDe' := Lib.hid (HDe.out.nob hf)
                    clear hf HDe
                    have HDe := HDe'
                    clear HDe'
                    go_wp2_with fail
                    go_roundw
                    case rel => exact ⟨k + 1, N', M', cnt', by omega, by omega, by go_num, hN', HDe.out, HSC'.out⟩
                    case measure => simp [intOf]; omega
                  · have hd20 : decide ((sz : Int) < 20) = false := by simp; omega
                    go_wp2_with fail
                    go_roundw
                    case rel => exact ⟨k + 1, N', M', cnt', by omega, by omega, by go_num, hN', HDe.out, HSC'.out⟩
                    case measure => simp [intOf]; omega
      · obtain rfl : k = 150 := by omega
        have hfin : FP (fun i => w.heap.size ≤ i) w wo := HF2.out.trans HD.out.st.2 (fun _ q => .inl q)
        have HFIN := Lib.hid hfin
        clear hfin
        go_wp2_with fail
        refine (wakes_any _).mono ?_
        intro e wz hZ
        obtain ⟨rfl, hz⟩ := hZ
        have HZ := Lib.hid hz
        clear hz
        go_wp2
        go_ret
        exact ⟨rfl, (HFIN.out.trans HZ.out (fun _ q => q.elim)).below (fun _ q => q) (Nat.le_refl _)⟩
    · obtain rfl : k = ln := by omega
      have hfin : FP (fun i => w.heap.size ≤ i) w wo := HF2.out.trans HD.out.st.2 (fun _ q => .inl q)
      have HFIN := Lib.hid hfin
      clear hfin
      go_wp2_with fail
      refine (wakes_any _).mono ?_
      intro e wz hZ
      obtain ⟨rfl, hz⟩ := hZ
      have HZ := Lib.hid hz
      clear hz
      go_wp2
      go_ret
      exact ⟨rfl, (HFIN.out.trans HZ.out (fun _ q => q.elim)).below (fun _ q => q) (Nat.le_refl _)⟩
end Go.Proofs.Ytgpekeemmambkaa
