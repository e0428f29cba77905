/- The walk of proctorlaw13.IndexMoves: it returns true for every Script. -/
import Derived.Test.YtgpekeemmambkaaDM
import Derived.Test.YtgpekeemmambkaaOpen
import Derived.Deep.RegionHeld3
import Derived.Deep.DeepCutAuto
import Derived.Deep.CutBlock
namespace Go.Proofs.Ytgpekeemmambkaa
open Go.RowKit

/-- Where the loop stands: k operations are done. -/
structure Am (w w2 : World) (xb : Nat) (k : Nat) (wl : World) (L : List Slot) (N : Nat) : Prop where
  ix : IxD w.heap.size wl xb L N
  st : Stp w.heap.size w2 wl
  len : L.length ≤ k
  N : N ≤ 2 * k

theorem MovIs.ex (L : List Slot) (s1 s2 : ByteArray) (id : Int) : ∃ L', MovIs L s1 s2 id L' := by
  by_cases h : okL L s1 s2 id = true
  · obtain ⟨Lr, hr⟩ := EraIs.ex L (s1, id)
    exact ⟨_, by unfold MovIs; rw [if_pos h]; exact ⟨Lr, hr, rfl⟩⟩
  · exact ⟨L, by unfold MovIs; rw [if_neg h]⟩
theorem IxD.new' {base : Nat} {w : World} {xb : Nat} {S : Nat → Prop} (h : Ix_S w xb S (fun _ => []) 0 0 0) (hS : ∀ i, S i → base ≤ i) : IxD base w xb [] 0 := ⟨S, _, h, fun _ => rfl, hS⟩

theorem dm_bucket' {base : Nat} {wo x wx y : World} {xb ob : Nat} {oc : Array Value} {L : List Slot} {N n : Nat} (h : Dm base wo xb ob oc x L N) (hR : Room L N) {s : ByteArray} (hs : s.size ≤ maxLen) (hn : (bkt L s).length = n) (hx : Same x wx) (hy : y.heap.size ≤ x.heap.size) :
    Calls Try.prog 14 #[.pointer (some ⟨xb, 0, none⟩), .string s] wx (fun e x' => ∃ ao cap go, e = .returned (.slice ao n cap) ∧ Row y x' ao cap go (bkt L s) ∧ FP nob x x' ∧ Dm base wo xb ob oc x' L N) := by
  subst hn; exact dm_bucket h hR hs hx hy
theorem dm_eqq {base : Nat} {wo x wx y y2 : World} {xb ob : Nat} {oc : Array Value} {L : List Slot} {N n : Nat} {ao ao2 : Option Addr} {cap cap2 : Nat} {go go2 : Option Nat} {xs : List Int} (h : Dm base wo xb ob oc x L N) (hT : Row y x ao cap go xs) (hT2 : Row y2 x ao2 cap2 go2 xs) (hn : xs.length = n) (hl : n < 1099511627776) (hx : Same x wx) :
    Calls Try.prog 15 #[.slice ao n cap, .slice ao2 n cap2] wx (fun e x' => e = .returned (.bool true) ∧ FP nob x x' ∧ Dm base wo xb ob oc x' L N) := by
  subst hn
  have := dm_eq h hT hT2 hl hl hx
  rw [eqB_true rfl] at this
  exact this
theorem Row.last {y x : World} {ao : Option Addr} {cap n : Nat} {go : Option Nat} {B : List Int} {id : Int} (h : Row y x ao cap go (B ++ [id])) (hn : B.length = n) : ∃ g, ao = some ⟨g, 0, none⟩ ∧ g < x.heap.size ∧ x.cell? ⟨g, n, none⟩ = some (.int .i64 id) := by
  obtain ⟨g, cap', e1, e2, _, e4⟩ := h.row.at_ (by simp)
  simp only [Value.slice.injEq] at e1
  refine ⟨g, e1.1, h.row.lt g e2, ?_⟩
  rw [e4 n (by simp; omega), List.getElem?_map, List.getElem?_append_right (by omega), hn]
  simp

/-- The contracts' answer with the list's length said anew. -/
theorem dm_len' {base : Nat} {wo x wx : World} {xb ob : Nat} {oc : Array Value} {L : List Slot} {N n : Nat} (h : Dm base wo xb ob oc x L N) (hn : L.length = n) (hx : Same x wx) :
    Calls Try.prog 18 #[.pointer (some ⟨xb, 0, none⟩)] wx (fun e x' => e = .returned (.int .i64 (n : Int)) ∧ Dm base wo xb ob oc x' L N ∧ FP nob x x') := by
  subst hn; exact dm_len h hx

set_option maxRecDepth 100000 in
set_option maxHeartbeats 3200000 in
theorem moves_walk (w : World) (v : Value) (La : Option Addr) (ln lc : Nat) (D I : Nat → Int) (K T : Nat → ByteArray) (hs : ScriptAt w v La ln lc D I K T) :
    Calls Try.prog 5 #[v] w (fun e w' => e = .returned (.bool true) ∧ Below w.heap.size w w') := by
  have hsh := hs.shape
  subst hsh
  have HSC := Lib.hid hs
  clear hs
  go_enter Try.func5, Try.ntmps5
  go_wp2_with fail
  refine (new_S _).mono ?_
  intro e w1 hA
  obtain ⟨xb, S, he, h1, h2, h3⟩ := hA
  subst he
  have hpb : w1.heap[w.heap.size]? = some (.cells #[.slice La ln lc] 24 (0,0)) := (h3.blk _ (by simp) (fun q => q)).trans (heap_new_at rfl _)
  have hf1 : FP (fun i => w.heap.size ≤ i) w w1 := ((FP.refl _ w).alloc _).trans h3 (fun _ q => q.elim)
  have hI1 : IxD w.heap.size w1 xb [] 0 := IxD.new' h1 (fun i hi => by have := h2 i hi; simp at this; omega)
  have hat0 : Am w w1 xb 0 w1 [] 0 := ⟨hI1, Stp.refl _ _, Nat.le_refl _, Nat.le_refl _⟩
  have HAT0 := Lib.hid hat0
  have HF2 := Lib.hid hf1
  have HPB2 := Lib.hid hpb
  clear h1 h2 h3 hI1 hf1 hpb hat0
  go_wp2_with fail
  go_loopw [4] (fun i wl => ∃ (k N : Nat) (L : List Slot), k ≤ ln ∧ k ≤ 60 ∧ i = .int .i64 k ∧ Hid (Am w w1 xb k wl L N)) (fun i _ => 60 - (intOf i).toNat)
  case atStart => exact ⟨0, 0, [], Nat.zero_le _, Nat.zero_le _, rfl, HAT0.out⟩
  case round =>
    obtain ⟨k, N, L, hk, hk2, rfl, HA⟩ := hrel
    have hbr : wr.heap[w.heap.size]? = some (.cells #[.slice La ln lc] 24 (0,0)) := HA.out.st.1 _ _ _ (.inl rfl) HPB2.out
    have c0 : wr.cell? ⟨w.heap.size, 0, none⟩ = some (.slice La ln lc) := cell_blk hbr
    have hpl : w.heap.size < wr.heap.size := lt_blk hbr
    clear hbr
    by_cases hlt : k < ln
    · by_cases hlt2 : k < 60
      · obtain ⟨b, o, rfl, hb, hcells⟩ := HSC.out.ops (by omega)
        obtain ⟨q0, q1, q2, q3⟩ := hcells k hlt
        have hbl : wr.heap[b]? = w.heap[b]? := (HA.out.st.2.blk b (by have := HF2.out.size; omega) (by omega)).trans (HF2.out.blk b hb (by omega))
        have d0 : wr.cell? ⟨b, o + k * 4, none⟩ = some (.int .i64 (D k)) := (World.cell?_of_block (w := w) hbl).trans q0
        have d1 : wr.cell? ⟨b, o + k * 4 + 1, none⟩ = some (.string (K k)) := (World.cell?_of_block (w := w) hbl).trans q1
        have d2 : wr.cell? ⟨b, o + k * 4 + 2, none⟩ = some (.string (T k)) := (World.cell?_of_block (w := w) hbl).trans q2
        have d3 : wr.cell? ⟨b, o + k * 4 + 3, none⟩ = some (.int .i64 (I k)) := (World.cell?_of_block (w := w) hbl).trans q3
        have hlmx : ln ≤ 9223372036854775807 := HSC.out.lmax
        clear q0 q1 q2 q3 hcells hbl
        go_upto_region 8 with fail
        have hdn0 : Dm w.heap.size w1 xb wr.heap.size #[.int .i64 (D k), .string (K k), .string (T k), .int .i64 (I k)] (wr.alloc (.cells #[.int .i64 (D k), .string (K k), .string (T k), .int .i64 (I k)] 32)) L N :=
          ⟨HA.out.ix.nob ((FP.refl nob wr).alloc _), HA.out.st.trans (Stp.nob ((FP.refl nob wr).alloc _)), heap_new_at rfl _⟩
        have hlenL := HA.out.len
        have hlenN := HA.out.N
        obtain ⟨ob, hob⟩ : ∃ ob, wr.heap.size = ob := ⟨_, rfl⟩
        rw [hob] at hdn0 ⊢
        obtain ⟨wo, hwo⟩ : ∃ wo, wr.alloc (.cells #[.int .i64 (D k), .string (K k), .string (T k), .int .i64 (I k)] 32) = wo := ⟨_, rfl⟩
        rw [hwo] at hdn0 ⊢
        have t0 : wo.cell? ⟨ob, 0, none⟩ = some (.int .i64 (D k)) := hdn0.cell 0
        have t1 : wo.cell? ⟨ob, 1, none⟩ = some (.string (K k)) := hdn0.cell 1
        have t2 : wo.cell? ⟨ob, 2, none⟩ = some (.string (T k)) := hdn0.cell 2
        have t3 : wo.cell? ⟨ob, 3, none⟩ = some (.int .i64 (I k)) := hdn0.cell 3
        have HD := Lib.hid hdn0
        have HR : Hid (Room L N) := Lib.hid ⟨by omega, by omega⟩
        clear d0 d1 d2 d3 hdn0 hob hwo c0 hpl
        by_cases hD2 : D k = 2
        · rw [hD2] at t0
          clear hD2
          go_wp2_with fail
          go_region_held3 (fun w' => w'.cell? ⟨ob, 1, none⟩ = some (.string (K k)) ∧ w'.cell? ⟨ob, 2, none⟩ = some (.string (T k)) ∧ w'.cell? ⟨ob, 3, none⟩ = some (.int .i64 (I k))) (go_keep)
            (first | (go_at_call 14; (with_reducible change Calls _ _ #[_, .string (K k)] _ _); refine (dm_bucket (y := wo) (s := K k) HD.out HR.out (HSC.out.wfK k) (by exact ⟨rfl, rfl, rfl, rfl⟩) (Nat.le_refl _)).mono ?_; rintro e x1 ⟨ao1, cap1, go1, rfl, hr, hf, hd⟩; have s1 : x1.cell? ⟨ob, 1, none⟩ = some (.string (K k)) := hd.cell 1; have s2 : x1.cell? ⟨ob, 2, none⟩ = some (.string (T k)) := hd.cell 2; have s3 : x1.cell? ⟨ob, 3, none⟩ = some (.int .i64 (I k)) := hd.cell 3; have HD1 := Lib.hid hd; have HR1 := Lib.hid hr; have HF1 := Lib.hid hf; clear hd hr hf) | (go_at_call 14; (with_reducible change Calls _ _ #[_, .string (T k)] _ _); refine (dm_bucket (y := wo) (s := T k) HD1.out HR.out (HSC.out.wfT k) (by exact ⟨rfl, rfl, rfl, rfl⟩) (HF1.out.size)).mono ?_; rintro e x2 ⟨ao2, cap2, go2, rfl, hr, hf, hd⟩; have s1 : x2.cell? ⟨ob, 1, none⟩ = some (.string (K k)) := hd.cell 1; have s2 : x2.cell? ⟨ob, 2, none⟩ = some (.string (T k)) := hd.cell 2; have s3 : x2.cell? ⟨ob, 3, none⟩ = some (.int .i64 (I k)) := hd.cell 3; have HD2 := Lib.hid hd; have HR2 := Lib.hid hr; have HF2 := Lib.hid hf; clear hd hr hf))
          go_wp2_with fail
          refine (dm_len HD2.out (by exact ⟨rfl, rfl, rfl, rfl⟩)).mono ?_
          rintro e x3 ⟨he, hd, hf⟩
          subst he
          clear s1 s2 s3
          have s1 : x3.cell? ⟨ob, 1, none⟩ = some (.string (K k)) := hd.cell 1
          have s2 : x3.cell? ⟨ob, 2, none⟩ = some (.string (T k)) := hd.cell 2
          have s3 : x3.cell? ⟨ob, 3, none⟩ = some (.int .i64 (I k)) := hd.cell 3
          have HD3 := Lib.hid hd
          have HF3 := Lib.hid hf
          obtain ⟨b1, hb1⟩ : ∃ b1, hasL L (K k, I k) = b1 := ⟨_, rfl⟩
          obtain ⟨b2, hb2⟩ : ∃ b2, hasL L (T k, I k) = b2 := ⟨_, rfl⟩
          have HB1 := Lib.hid hb1
          have HB2 := Lib.hid hb2
          clear hd hf hb1 hb2 t0 t1 t2 t3
          go_wp2_with fail
          go_region_held3 (fun w' => w'.cell? ⟨ob, 1, none⟩ = some (.string (K k)) ∧ w'.cell? ⟨ob, 2, none⟩ = some (.string (T k)) ∧ w'.cell? ⟨ob, 3, none⟩ = some (.int .i64 (I k))) (go_keep)
            (first | (go_at_call 17; (with_reducible change Calls _ _ #[_, .string (K k), _] _ _); refine (dm_has (s := K k) (id := I k) HD3.out (HSC.out.wfK k) (HSC.out.wfI k) (by exact ⟨rfl, rfl, rfl, rfl⟩)).mono ?_; rintro e x4 ⟨he, hd, hf⟩; rw [HB1.out] at he; subst he; have s1 : x4.cell? ⟨ob, 1, none⟩ = some (.string (K k)) := hd.cell 1; have s2 : x4.cell? ⟨ob, 2, none⟩ = some (.string (T k)) := hd.cell 2; have s3 : x4.cell? ⟨ob, 3, none⟩ = some (.int .i64 (I k)) := hd.cell 3; have HD4 := Lib.hid hd; have HF4 := Lib.hid hf; clear hd hf) | (go_at_call 17; (with_reducible change Calls _ _ #[_, .string (T k), _] _ _); refine (dm_has (s := T k) (id := I k) HD4.out (HSC.out.wfT k) (HSC.out.wfI k) (by exact ⟨rfl, rfl, rfl, rfl⟩)).mono ?_; rintro e x5 ⟨he, hd, hf⟩; rw [HB2.out] at he; subst he; have s1 : x5.cell? ⟨ob, 1, none⟩ = some (.string (K k)) := hd.cell 1; have s2 : x5.cell? ⟨ob, 2, none⟩ = some (.string (T k)) := hd.cell 2; have s3 : x5.cell? ⟨ob, 3, none⟩ = some (.int .i64 (I k)) := hd.cell 3; have HD5 := Lib.hid hd; have HF5 := Lib.hid hf; clear hd hf))
          obtain ⟨L', hL'⟩ : ∃ L', MovIs L (K k) (T k) (I k) L' := MovIs.ex L _ _ _
          have HMV := Lib.hid hL'
          clear hL'
          go_wp2_with fail
          have hfy : FP nob wo x5 := (((HF1.out.trans HF2.out (fun _ q => q.elim)).trans HF3.out (fun _ q => q.elim)).trans HF4.out (fun _ q => q.elim)).trans HF5.out (fun _ q => q.elim)
          have hr1 := (((HR1.out.nob HF2.out).nob HF3.out).nob HF4.out).nob HF5.out
          have hr2 := ((HR2.out.nob HF3.out).nob HF4.out).nob HF5.out
          refine (dm_mov (s1 := K k) (s2 := T k) (id := I k) HD.out HR.out (HSC.out.wfK k) (HSC.out.wfT k) (HSC.out.wfI k) HMV.out hfy (by exact ⟨rfl, rfl, rfl, rfl⟩) hr1 hr2).mono ?_
          rintro e x6 ⟨he, hd, hr1', hr2'⟩
          clear hfy hr1 hr2 s1 s2 s3
          have s1 : x6.cell? ⟨ob, 1, none⟩ = some (.string (K k)) := hd.cell 1
          have s2 : x6.cell? ⟨ob, 2, none⟩ = some (.string (T k)) := hd.cell 2
          have s3 : x6.cell? ⟨ob, 3, none⟩ = some (.int .i64 (I k)) := hd.cell 3
          have HD6 := Lib.hid hd
          have HRK := Lib.hid hr1'
          have HRT := Lib.hid hr2'
          have HND : Hid (∀ s, (bkt L s).Nodup) := Lib.hid (fun s => HD.out.nodup s)
          clear hd hr1' hr2'
          subst he
          obtain ⟨m, hm⟩ : ∃ m, (bkt L (K k)).length = m := ⟨_, rfl⟩
          obtain ⟨p, hp⟩ : ∃ p, (bkt L (T k)).length = p := ⟨_, rfl⟩
          rw [hm, hp]
          have HM := Lib.hid hm
          have HP := Lib.hid hp
          have HML : Hid (m < 1099511627776) := Lib.hid (by have := bkt_length_le L (K k); omega)
          have HPL : Hid (p < 1099511627776) := Lib.hid (by have := bkt_length_le L (T k); omega)
          clear hm hp
          cases hok : okL L (K k) (T k) (I k) with
          | false =>
            have hL : L' = L := by have := HMV.out; rw [MovIs, if_neg (by rw [hok]; decide)] at this; exact this
            have hcs : b1 = false ∨ (b1 = true ∧ b2 = true ∧ ((K k).toList == (T k).toList) = false ∧ (K k).toList ≠ (T k).toList) := by
              unfold okL at hok
              rw [HB1.out, HB2.out] at hok
              cases b1 with
              | false => exact .inl rfl
              | true =>
                cases b2 with
                | false => simp at hok
                | true =>
                  have hne : K k ≠ T k := by simpa using hok
                  exact .inr ⟨rfl, rfl, toList_neB hne, toList_ne hne⟩
            clear hok
            subst hL
            have HR6 : Hid (Room L' (N + 2)) := Lib.hid ⟨by omega, by omega⟩
            rcases hcs with rfl | ⟨rfl, rfl, hkt, hkt2⟩
            all_goals as_aux_lemma =>
              go_wp2_with fail
              refine (dm_len HD6.out (by exact ⟨rfl, rfl, rfl, rfl⟩)).mono ?_
              rintro e x7 ⟨rfl, hd, hf⟩
              clear s1 s2 s3
              have s1 : x7.cell? ⟨ob, 1, none⟩ = some (.string (K k)) := hd.cell 1
              have s2 : x7.cell? ⟨ob, 2, none⟩ = some (.string (T k)) := hd.cell 2
              have s3 : x7.cell? ⟨ob, 3, none⟩ = some (.int .i64 (I k)) := hd.cell 3
              have HD7 := Lib.hid hd
              have HF7 := Lib.hid hf
              clear hd hf
              go_wp2_with fail
              refine (dm_bucket' (y := x6) (s := K k) HD7.out HR6.out (HSC.out.wfK k) HM.out (by exact ⟨rfl, rfl, rfl, rfl⟩) HF7.out.size).mono ?_
              rintro e x8 ⟨ao3, cap3, go3, rfl, hr, hf, hd⟩
              clear s1 s2 s3
              have s1 : x8.cell? ⟨ob, 1, none⟩ = some (.string (K k)) := hd.cell 1
              have s2 : x8.cell? ⟨ob, 2, none⟩ = some (.string (T k)) := hd.cell 2
              have s3 : x8.cell? ⟨ob, 3, none⟩ = some (.int .i64 (I k)) := hd.cell 3
              have HD8 := Lib.hid hd
              have HF8 := Lib.hid hf
              have HR8 := Lib.hid hr
              have HRK8 := Lib.hid ((HRK.out.nob HF7.out).nob HF8.out)
              have HRT8 := Lib.hid ((HRT.out.nob HF7.out).nob HF8.out)
              clear hd hf hr
              go_wp2_with fail
              refine (dm_eqq HD8.out HR8.out HRK8.out HM.out HML.out (by exact ⟨rfl, rfl, rfl, rfl⟩)).mono ?_
              rintro e x9 ⟨rfl, hf, hd⟩
              clear s1 s2 s3
              have s1 : x9.cell? ⟨ob, 1, none⟩ = some (.string (K k)) := hd.cell 1
              have s2 : x9.cell? ⟨ob, 2, none⟩ = some (.string (T k)) := hd.cell 2
              have s3 : x9.cell? ⟨ob, 3, none⟩ = some (.int .i64 (I k)) := hd.cell 3
              have HD9 := Lib.hid hd
              have HRT9 := Lib.hid (HRT8.out.nob hf)
              clear hd hf
              go_wp2_with fail
              refine (dm_bucket' (y := x9) (s := T k) HD9.out HR6.out (HSC.out.wfT k) HP.out (by exact ⟨rfl, rfl, rfl, rfl⟩) (Nat.le_refl _)).mono ?_
              rintro e xa ⟨ao4, cap4, go4, rfl, hr, hf, hd⟩
              clear s1 s2 s3
              have s1 : xa.cell? ⟨ob, 1, none⟩ = some (.string (K k)) := hd.cell 1
              have s2 : xa.cell? ⟨ob, 2, none⟩ = some (.string (T k)) := hd.cell 2
              have s3 : xa.cell? ⟨ob, 3, none⟩ = some (.int .i64 (I k)) := hd.cell 3
              have HDA := Lib.hid hd
              have HRA := Lib.hid hr
              have HRTA := Lib.hid (HRT9.out.nob hf)
              clear hd hf hr
              go_wp2_with fail
              refine (dm_eqq HDA.out HRA.out HRTA.out HP.out HPL.out (by exact ⟨rfl, rfl, rfl, rfl⟩)).mono ?_
              rintro e xb2 ⟨rfl, hf, hd⟩
              have HDB := Lib.hid hd
              clear hd hf
              go_wp2_with fail
              go_roundw
              case rel => exact ⟨k + 1, N + 2, L', by omega, by omega, by go_num, ⟨HDB.out.ix, HDB.out.st, by omega, by omega⟩⟩
              case measure => simp [intOf]; omega
          | true =>
            obtain ⟨B, hB, hlen, hsame, hdiff⟩ := mov_buckets HND.out hok HMV.out
            have hb1t : b1 = true := by
              unfold okL at hok
              rw [HB1.out] at hok
              cases b1 with
              | true => rfl
              | false => simp at hok
            subst hb1t
            obtain ⟨n, hn⟩ : ∃ n, B.length = n := ⟨_, rfl⟩
            have hBn : (bkt L' (T k)).length = n + 1 := by rw [hB]; simp [hn]
            have HB := Lib.hid hB
            have HBN := Lib.hid hBn
            have HN := Lib.hid hn
            have HLEN := Lib.hid hlen
            have HR6 : Hid (Room L' (N + 2)) := Lib.hid ⟨by omega, by omega⟩
            have hnl : n < 1099511627776 := by have := bkt_length_le L' (T k); omega
            by_cases hKT : K k = T k
            · have hs := hsame hKT
              rw [HM.out, hn] at hs
              subst hs
              have hkt : ((K k).toList == (T k).toList) = true := by rw [hKT]; simp
              have hkt2 : (K k).toList = (T k).toList := by rw [hKT]
              have hkt3 : ((K k).toList != (T k).toList) = false := by rw [hKT]; simp
              have hb2t : b2 = true := by rw [← HB2.out, ← hKT]; exact HB1.out
              subst hb2t
              clear hok hB hn hBn hlen hsame hdiff hKT
              · as_aux_lemma =>
                go_wp2_with fail
                refine (dm_len' HD6.out HLEN.out (by exact ⟨rfl, rfl, rfl, rfl⟩)).mono ?_
                rintro e x7 ⟨rfl, hd, hf⟩
                clear s1 s2 s3
                have s1 : x7.cell? ⟨ob, 1, none⟩ = some (.string (K k)) := hd.cell 1
                have s2 : x7.cell? ⟨ob, 2, none⟩ = some (.string (T k)) := hd.cell 2
                have s3 : x7.cell? ⟨ob, 3, none⟩ = some (.int .i64 (I k)) := hd.cell 3
                have HD7 := Lib.hid hd
                clear hd hf
                go_wp2_with fail
                refine (dm_bucket' (y := x7) (s := T k) HD7.out HR6.out (HSC.out.wfT k) HBN.out (by exact ⟨rfl, rfl, rfl, rfl⟩) (Nat.le_refl _)).mono ?_
                rintro e x8 ⟨ao3, cap3, go3, rfl, hr, hf, hd⟩
                clear s1 s2 s3
                have s1 : x8.cell? ⟨ob, 1, none⟩ = some (.string (K k)) := hd.cell 1
                have s2 : x8.cell? ⟨ob, 2, none⟩ = some (.string (T k)) := hd.cell 2
                have s3 : x8.cell? ⟨ob, 3, none⟩ = some (.int .i64 (I k)) := hd.cell 3
                rw [HB.out] at hr
                obtain ⟨g, rfl, hgl, hgc⟩ := hr.last HN.out
                have HD8 := Lib.hid hd
                clear hd hf hr
                have hw : IntKind.i64.wrap (n : Int) = (n : Int) := IntWalk.i64_in _ (by omega)
                have hz0 : ((n : Int) + 1 == 0) = false := by simp; omega
                go_wp2_with fail
                go_quiet (fail)
                clear hw hz0
                go_wp2_with fail
                go_roundw
                case rel => exact ⟨k + 1, N + 2, L', by omega, by omega, by go_num, ⟨HD8.out.ix.same rfl, HD8.out.st.trans (Stp.same ⟨rfl, rfl, rfl, rfl⟩), by have := HLEN.out; omega, by omega⟩⟩
                case measure => simp [intOf]; omega
            · as_aux_lemma =>
              obtain ⟨hno, hto, hfrom⟩ := hdiff hKT
              obtain ⟨q, hq⟩ : ∃ q, (bkt L' (K k)).length = q := ⟨_, rfl⟩
              rw [HM.out, hq] at hfrom
              rw [HP.out, hn] at hto
              subst hfrom
              have hto' := hto.symm
              subst hto'
              have hb2f : b2 = false := by
                unfold okL at hok
                rw [HB1.out, HB2.out] at hok
                cases b2 with
                | false => rfl
                | true => simp at hok; exact absurd hok hKT
              subst hb2f
              have hkt := toList_neB hKT
              have hkt2 := toList_ne hKT
              have hkt3 : ((K k).toList != (T k).toList) = true := by simpa using hkt2
              have HNO := Lib.hid hno
              have HQ := Lib.hid hq
              have hql : q < 1099511627776 := by have := HML.out; omega
              clear hok hB hn hBn hlen hsame hdiff hKT hno hq
              go_wp2_with fail
              refine (dm_len' HD6.out HLEN.out (by exact ⟨rfl, rfl, rfl, rfl⟩)).mono ?_
              rintro e x7 ⟨rfl, hd, hf⟩
              clear s1 s2 s3
              have s1 : x7.cell? ⟨ob, 1, none⟩ = some (.string (K k)) := hd.cell 1
              have s2 : x7.cell? ⟨ob, 2, none⟩ = some (.string (T k)) := hd.cell 2
              have s3 : x7.cell? ⟨ob, 3, none⟩ = some (.int .i64 (I k)) := hd.cell 3
              have HD7 := Lib.hid hd
              clear hd hf
              go_wp2_with fail
              refine (dm_bucket' (y := x7) (s := T k) HD7.out HR6.out (HSC.out.wfT k) HBN.out (by exact ⟨rfl, rfl, rfl, rfl⟩) (Nat.le_refl _)).mono ?_
              rintro e x8 ⟨ao3, cap3, go3, rfl, hr, hf, hd⟩
              clear s1 s2 s3
              have s1 : x8.cell? ⟨ob, 1, none⟩ = some (.string (K k)) := hd.cell 1
              have s2 : x8.cell? ⟨ob, 2, none⟩ = some (.string (T k)) := hd.cell 2
              have s3 : x8.cell? ⟨ob, 3, none⟩ = some (.int .i64 (I k)) := hd.cell 3
              rw [HB.out] at hr
              obtain ⟨g, rfl, hgl, hgc⟩ := hr.last HN.out
              have HD8 := Lib.hid hd
              clear hd hf hr
              have hw : IntKind.i64.wrap (n : Int) = (n : Int) := IntWalk.i64_in _ (by omega)
              have hw1 : IntKind.i64.wrap ((n : Int) + 1) = (n : Int) + 1 := IntWalk.i64_in _ (by omega)
              have hwq : IntKind.i64.wrap (q : Int) = (q : Int) := IntWalk.i64_in _ (by omega)
              have hz0 : ((n : Int) + 1 == 0) = false := by simp; omega
              have hi0 : (0 : Int) ≤ (n : Int) := by omega
              have hi1 : (n : Int) < (n : Int) + 1 := by omega
              have hi2 : (n : Int) < ((n + 1 : Nat) : Int) := by omega
              go_wp2_with fail
              go_cut [174] (fun v wx => v = .bool false ∧ Hid (Dm w.heap.size w1 xb ob #[.int .i64 (D k), .string (K k), .string (T k), .int .i64 (I k)] wx L' (N + 2)))
              case first =>
                refine wp_region_held_drew (S := (fun w' => w'.cell? ⟨ob, 1, none⟩ = some (.string (K k)) ∧ w'.cell? ⟨ob, 2, none⟩ = some (.string (T k)) ∧ w'.cell? ⟨ob, 3, none⟩ = some (.int .i64 (I k)) ∧ w'.cell? ⟨g, n, none⟩ = some (.int .i64 (I k)))) (by kernel_rfl) (by go_keep) (fun hHeld => ?_)
                refine wpAnyH_take (i := 0) (oi := ?o0) (v := ?v0) ?p0 (by kernel_rfl) (by kernel_rfl) (by kernel_rfl) ?q0 (Or.inl ⟨?w0, ?y0⟩) (by assumption) ?_
                case p0 => (simp only [List.getElem?_toArray, List.getElem?_cons_succ, List.getElem?_cons_zero]; try rfl)
                case q0 => exact fun _ _ _ h => h
                case w0 => rfl
                case y0 => ((intro w hSw); (try dsimp only at hSw); go_simp; try with_reducible rfl)
                (try simp only [Act.put, List.setIfInBounds_toArray, List.set_cons_zero, List.set_cons_succ])
                refine wpAnyH_take (i := 1) (oi := ?o1) (v := ?v1) ?p1 (by kernel_rfl) (by kernel_rfl) (by kernel_rfl) ?q1 (Or.inl ⟨?w1, ?y1⟩) (by assumption) ?_
                case p1 => (simp only [List.getElem?_toArray, List.getElem?_cons_succ, List.getElem?_cons_zero]; try rfl)
                case q1 => exact fun _ _ _ h => h
                case w1 => rfl
                case y1 => ((intro w hSw); (try dsimp only at hSw); go_simp; try with_reducible rfl)
                (try simp only [Act.put, List.setIfInBounds_toArray, List.set_cons_zero, List.set_cons_succ])
                refine wpAnyH_take (i := 2) (oi := ?o2) (v := ?v2) ?p2 (by kernel_rfl) (by kernel_rfl) (by kernel_rfl) ?q2 (Or.inl ⟨?w2, ?y2⟩) (by assumption) ?_
                case p2 => (simp only [List.getElem?_toArray, List.getElem?_cons_succ, List.getElem?_cons_zero]; try rfl)
                case q2 => exact fun _ _ _ h => h
                case w2 => rfl
                case y2 => ((intro w hSw); (try dsimp only at hSw); go_simp; try with_reducible rfl)
                (try simp only [Act.put, List.setIfInBounds_toArray, List.set_cons_zero, List.set_cons_succ])
                refine wpAnyH_take (i := 3) (oi := ?o3) (v := ?v3) ?p3 (by kernel_rfl) (by kernel_rfl) (by kernel_rfl) ?q3 (Or.inl ⟨?w3, ?y3⟩) (by assumption) ?_
                case p3 => (simp only [List.getElem?_toArray, List.getElem?_cons_succ, List.getElem?_cons_zero]; try rfl)
                case q3 => exact fun _ _ _ h => h
                case w3 => rfl
                case y3 => ((intro w hSw); (try dsimp only at hSw); go_simp; try with_reducible rfl)
                (try simp only [Act.put, List.setIfInBounds_toArray, List.set_cons_zero, List.set_cons_succ])
                refine wpAnyH_take (i := 4) (oi := ?o4) (v := ?v4) ?p4 (by kernel_rfl) (by kernel_rfl) (by kernel_rfl) ?q4 (Or.inl ⟨?w4, ?y4⟩) (by assumption) ?_
                case p4 => (simp only [List.getElem?_toArray, List.getElem?_cons_succ, List.getElem?_cons_zero]; try rfl)
                case q4 => exact fun _ _ _ h => h
                case w4 => rfl
                case y4 => ((intro w hSw); (try dsimp only at hSw); go_simp; try with_reducible rfl)
                (try simp only [Act.put, List.setIfInBounds_toArray, List.set_cons_zero, List.set_cons_succ])
                refine wpAnyH_take (i := 5) (oi := ?o5) (v := ?v5) ?p5 (by kernel_rfl) (by kernel_rfl) (by kernel_rfl) ?q5 (Or.inl ⟨?w5, ?y5⟩) (by assumption) ?_
                case p5 => (simp only [List.getElem?_toArray, List.getElem?_cons_succ, List.getElem?_cons_zero]; try rfl)
                case q5 => exact fun _ _ _ h => h
                case w5 => rfl
                case y5 => ((intro w hSw); (try dsimp only at hSw); go_simp; try with_reducible rfl)
                (try simp only [Act.put, List.setIfInBounds_toArray, List.set_cons_zero, List.set_cons_succ])
                refine wpAnyH_take (i := 6) (oi := ?o6) (v := ?v6) ?p6 (by kernel_rfl) (by kernel_rfl) (by kernel_rfl) ?q6 (Or.inl ⟨?w6, ?y6⟩) (by assumption) ?_
                case p6 => (simp only [List.getElem?_toArray, List.getElem?_cons_succ, List.getElem?_cons_zero]; try rfl)
                case q6 => exact fun _ _ _ h => h
                case w6 => rfl
                case y6 => ((intro w hSw); (try dsimp only at hSw); go_simp; try with_reducible rfl)
                (try simp only [Act.put, List.setIfInBounds_toArray, List.set_cons_zero, List.set_cons_succ])
                refine wpAnyH_take (i := 7) (oi := ?o7) (v := ?v7) ?p7 (by kernel_rfl) (by kernel_rfl) (by kernel_rfl) ?q7 (Or.inl ⟨?w7, ?y7⟩) (by assumption) ?_
                case p7 => (simp only [List.getElem?_toArray, List.getElem?_cons_succ, List.getElem?_cons_zero]; try rfl)
                case q7 => exact fun _ _ _ h => h
                case w7 => rfl
                case y7 => ((intro w hSw); (try dsimp only at hSw); go_simp; try with_reducible rfl)
                (try simp only [Act.put, List.setIfInBounds_toArray, List.set_cons_zero, List.set_cons_succ])
                refine wpAnyH_take (i := 8) (oi := ?o8) (v := ?v8) ?p8 (by kernel_rfl) (by kernel_rfl) (by kernel_rfl) ?q8 (Or.inl ⟨?w8, ?y8⟩) (by assumption) ?_
                case p8 => (simp only [List.getElem?_toArray, List.getElem?_cons_succ, List.getElem?_cons_zero]; try rfl)
                case q8 => exact fun _ _ _ h => h
                case w8 => rfl
                case y8 => ((intro w hSw); (try dsimp only at hSw); go_simp; try with_reducible rfl)
                (try simp only [Act.put, List.setIfInBounds_toArray, List.set_cons_zero, List.set_cons_succ])
                refine wpAnyH_take (i := 9) (oi := ?o9) (v := ?v9) ?p9 (by kernel_rfl) (by kernel_rfl) (by kernel_rfl) ?q9 (Or.inl ⟨?w9, ?y9⟩) (by assumption) ?_
                case p9 => (simp only [List.getElem?_toArray, List.getElem?_cons_succ, List.getElem?_cons_zero]; try rfl)
                case q9 => exact fun _ _ _ h => h
                case w9 => rfl
                case y9 => ((intro w hSw); (try dsimp only at hSw); go_simp; try with_reducible rfl)
                (try simp only [Act.put, List.setIfInBounds_toArray, List.set_cons_zero, List.set_cons_succ])
                refine wpAnyH_take (i := 10) (oi := ?o10) (v := ?v10) ?p10 (by kernel_rfl) (by kernel_rfl) (by kernel_rfl) ?q10 (Or.inl ⟨?w10, ?y10⟩) (by assumption) ?_
                case p10 => (simp only [List.getElem?_toArray, List.getElem?_cons_succ, List.getElem?_cons_zero]; try rfl)
                case q10 => exact fun _ _ _ h => h
                case w10 => rfl
                case y10 => ((intro w hSw); (try dsimp only at hSw); go_simp; try with_reducible rfl)
                (try simp only [Act.put, List.setIfInBounds_toArray, List.set_cons_zero, List.set_cons_succ])
                refine wpAnyH_take (i := 11) (oi := ?o11) (v := ?v11) ?p11 (by kernel_rfl) (by kernel_rfl) (by kernel_rfl) ?q11 (Or.inl ⟨?w11, ?y11⟩) (by assumption) ?_
                case p11 => (simp only [List.getElem?_toArray, List.getElem?_cons_succ, List.getElem?_cons_zero]; try rfl)
                case q11 => exact fun _ _ _ h => h
                case w11 => rfl
                case y11 => ((intro w hSw); (try dsimp only at hSw); go_simp; try with_reducible rfl)
                (try simp only [Act.put, List.setIfInBounds_toArray, List.set_cons_zero, List.set_cons_succ])
                refine wpAnyH_take (i := 12) (oi := ?o12) (v := ?v12) ?p12 (by kernel_rfl) (by kernel_rfl) (by kernel_rfl) ?q12 (Or.inl ⟨?w12, ?y12⟩) (by assumption) ?_
                case p12 => (simp only [List.getElem?_toArray, List.getElem?_cons_succ, List.getElem?_cons_zero]; try rfl)
                case q12 => exact fun _ _ _ h => h
                case w12 => rfl
                case y12 => ((intro w hSw); (try dsimp only at hSw); go_simp; try with_reducible rfl)
                (try simp only [Act.put, List.setIfInBounds_toArray, List.set_cons_zero, List.set_cons_succ])
                refine wpAnyH_take (i := 13) (oi := ?o13) (v := ?v13) ?p13 (by kernel_rfl) (by kernel_rfl) (by kernel_rfl) ?q13 (Or.inl ⟨?w13, ?y13⟩) (by assumption) ?_
                case p13 => (simp only [List.getElem?_toArray, List.getElem?_cons_succ, List.getElem?_cons_zero]; try rfl)
                case q13 => exact fun _ _ _ h => h
                case w13 => rfl
                case y13 => ((intro w hSw); (try dsimp only at hSw); go_simp; try with_reducible rfl)
                (try simp only [Act.put, List.setIfInBounds_toArray, List.set_cons_zero, List.set_cons_succ])
                refine wpAnyH_take (i := 14) (oi := ?o14) (v := ?v14) ?p14 (by kernel_rfl) (by kernel_rfl) (by kernel_rfl) ?q14 (Or.inl ⟨?w14, ?y14⟩) (by assumption) ?_
                case p14 => (simp only [List.getElem?_toArray, List.getElem?_cons_succ, List.getElem?_cons_zero]; try rfl)
                case q14 => exact fun _ _ _ h => h
                case w14 => rfl
                case y14 => ((intro w hSw); (try dsimp only at hSw); go_simp; try with_reducible rfl)
                (try simp only [Act.put, List.setIfInBounds_toArray, List.set_cons_zero, List.set_cons_succ])
                refine wpAnyH_take (i := 15) (oi := ?o15) (v := ?v15) ?p15 (by kernel_rfl) (by kernel_rfl) (by kernel_rfl) ?q15 (Or.inl ⟨?w15, ?y15⟩) (by assumption) ?_
                case p15 => (simp only [List.getElem?_toArray, List.getElem?_cons_succ, List.getElem?_cons_zero]; try rfl)
                case q15 => exact fun _ _ _ h => h
                case w15 => rfl
                case y15 => ((intro w hSw); (try dsimp only at hSw); go_simp; try with_reducible rfl)
                (try simp only [Act.put, List.setIfInBounds_toArray, List.set_cons_zero, List.set_cons_succ])
                refine wpAnyH_take (i := 16) (oi := ?o16) (v := ?v16) ?p16 (by kernel_rfl) (by kernel_rfl) (by kernel_rfl) ?q16 (Or.inl ⟨?w16, ?y16⟩) (by assumption) ?_
                case p16 => (simp only [List.getElem?_toArray, List.getElem?_cons_succ, List.getElem?_cons_zero]; try rfl)
                case q16 => exact fun _ _ _ h => h
                case w16 => rfl
                case y16 => ((intro w hSw); (try dsimp only at hSw); go_simp; try with_reducible rfl)
                (try simp only [Act.put, List.setIfInBounds_toArray, List.set_cons_zero, List.set_cons_succ])
                refine wpAnyH_take (i := 17) (oi := ?o17) (v := ?v17) ?p17 (by kernel_rfl) (by kernel_rfl) (by kernel_rfl) ?q17 (Or.inl ⟨?w17, ?y17⟩) (by assumption) ?_
                case p17 => (simp only [List.getElem?_toArray, List.getElem?_cons_succ, List.getElem?_cons_zero]; try rfl)
                case q17 => exact fun _ _ _ h => h
                case w17 => rfl
                case y17 => ((intro w hSw); (try dsimp only at hSw); go_simp; try with_reducible rfl)
                (try simp only [Act.put, List.setIfInBounds_toArray, List.set_cons_zero, List.set_cons_succ])
                refine wpAnyH_take (i := 18) (oi := ?o18) (v := ?v18) ?p18 (by kernel_rfl) (by kernel_rfl) (by kernel_rfl) ?q18 (Or.inl ⟨?w18, ?y18⟩) (by assumption) ?_
                case p18 => (simp only [List.getElem?_toArray, List.getElem?_cons_succ, List.getElem?_cons_zero]; try rfl)
                case q18 => exact fun _ _ _ h => h
                case w18 => rfl
                case y18 => ((intro w hSw); (try dsimp only at hSw); go_simp; try with_reducible rfl)
                (try simp only [Act.put, List.setIfInBounds_toArray, List.set_cons_zero, List.set_cons_succ])
                refine wpAnyH_take (i := 19) (oi := ?o19) (v := ?v19) ?p19 (by kernel_rfl) (by kernel_rfl) (by kernel_rfl) ?q19 (Or.inl ⟨?w19, ?y19⟩) (by assumption) ?_
                case p19 => (simp only [List.getElem?_toArray, List.getElem?_cons_succ, List.getElem?_cons_zero]; try rfl)
                case q19 => exact fun _ _ _ h => h
                case w19 => rfl
                case y19 => ((intro w hSw); (try dsimp only at hSw); go_simp; try with_reducible rfl)
                (try simp only [Act.put, List.setIfInBounds_toArray, List.set_cons_zero, List.set_cons_succ])
                refine wpAnyH_take (i := 20) (oi := ?o20) (v := ?v20) ?p20 (by kernel_rfl) (by kernel_rfl) (by kernel_rfl) ?q20 (Or.inl ⟨?w20, ?y20⟩) (by assumption) ?_
                case p20 => (simp only [List.getElem?_toArray, List.getElem?_cons_succ, List.getElem?_cons_zero]; try rfl)
                case q20 => exact fun _ _ _ h => h
                case w20 => rfl
                case y20 => ((intro w hSw); (try dsimp only at hSw); go_simp; try with_reducible rfl)
                (try simp only [Act.put, List.setIfInBounds_toArray, List.set_cons_zero, List.set_cons_succ])
                refine wpAnyH_take (i := 21) (oi := ?o21) (v := ?v21) ?p21 (by kernel_rfl) (by kernel_rfl) (by kernel_rfl) ?q21 (Or.inl ⟨?w21, ?y21⟩) (by assumption) ?_
                case p21 => (simp only [List.getElem?_toArray, List.getElem?_cons_succ, List.getElem?_cons_zero]; try rfl)
                case q21 => exact fun _ _ _ h => h
                case w21 => rfl
                case y21 => ((intro w hSw); (try dsimp only at hSw); go_simp; try with_reducible rfl)
                (try simp only [Act.put, List.setIfInBounds_toArray, List.set_cons_zero, List.set_cons_succ])
                refine wpAnyH_take (i := 22) (oi := ?o22) (v := ?v22) ?p22 (by kernel_rfl) (by kernel_rfl) (by kernel_rfl) ?q22 (Or.inl ⟨?w22, ?y22⟩) (by assumption) ?_
                case p22 => (simp only [List.getElem?_toArray, List.getElem?_cons_succ, List.getElem?_cons_zero]; try rfl)
                case q22 => exact fun _ _ _ h => h
                case w22 => rfl
                case y22 => ((intro w hSw); (try dsimp only at hSw); go_simp; try with_reducible rfl)
                (try simp only [Act.put, List.setIfInBounds_toArray, List.set_cons_zero, List.set_cons_succ])
                refine wpAnyH_take (i := 23) (oi := ?o23) (v := ?v23) ?p23 (by kernel_rfl) (by kernel_rfl) (by kernel_rfl) ?q23 (Or.inl ⟨?w23, ?y23⟩) (by assumption) ?_
                case p23 => (simp only [List.getElem?_toArray, List.getElem?_cons_succ, List.getElem?_cons_zero]; try rfl)
                case q23 => exact fun _ _ _ h => h
                case w23 => rfl
                case y23 => ((intro w hSw); (try dsimp only at hSw); go_simp; try with_reducible rfl)
                (try simp only [Act.put, List.setIfInBounds_toArray, List.set_cons_zero, List.set_cons_succ])
                refine wpAnyH_take (i := 24) (oi := ?o24) (v := ?v24) ?p24 (by kernel_rfl) (by kernel_rfl) (by kernel_rfl) ?q24 (Or.inl ⟨?w24, ?y24⟩) (by assumption) ?_
                case p24 => (simp only [List.getElem?_toArray, List.getElem?_cons_succ, List.getElem?_cons_zero]; try rfl)
                case q24 => exact fun _ _ _ h => h
                case w24 => rfl
                case y24 => ((intro w hSw); (try dsimp only at hSw); go_simp; try with_reducible rfl)
                (try simp only [Act.put, List.setIfInBounds_toArray, List.set_cons_zero, List.set_cons_succ])
                refine wpAnyH_take (i := 25) (oi := ?o25) (v := ?v25) ?p25 (by kernel_rfl) (by kernel_rfl) (by kernel_rfl) ?q25 (Or.inl ⟨?w25, ?y25⟩) (by assumption) ?_
                case p25 => (simp only [List.getElem?_toArray, List.getElem?_cons_succ, List.getElem?_cons_zero]; try rfl)
                case q25 => exact fun _ _ _ h => h
                case w25 => rfl
                case y25 => ((intro w hSw); (try dsimp only at hSw); go_simp; try with_reducible rfl)
                (try simp only [Act.put, List.setIfInBounds_toArray, List.set_cons_zero, List.set_cons_succ])
                refine wpAnyH_ready (rs := [26]) (by kernel_rfl) (by simp) ?_
                refine AllReadyH.cons (o := ?o26) ?p26 (fun KK hKK => ?_) AllReadyH.nil
                case p26 => (simp only [List.getElem?_toArray, List.getElem?_cons_succ, List.getElem?_cons_zero]; try rfl)
                go_simp
                go_at_call 17
                refine (dm_has (s := K k) (id := I k) HD8.out (HSC.out.wfK k) (HSC.out.wfI k) (by exact ⟨rfl, rfl, rfl, rfl⟩)).mono ?_
                rintro e x9 ⟨he, hd, hf⟩
                rw [HNO.out] at he
                subst he
                have s1 : x9.cell? ⟨ob, 1, none⟩ = some (.string (K k)) := hd.cell 1
                have s2 : x9.cell? ⟨ob, 2, none⟩ = some (.string (T k)) := hd.cell 2
                have s3 : x9.cell? ⟨ob, 3, none⟩ = some (.int .i64 (I k)) := hd.cell 3
                have hgc : x9.cell? ⟨g, n, none⟩ = some (.int .i64 (I k)) := (FP.cell hf hgl).trans hgc
                have hgl : g < x9.heap.size := Nat.lt_of_lt_of_le hgl hf.size
                have HD9 := Lib.hid hd
                clear hd hf
                go_wp2_with fail
                refine hKK.out _ _ ?s26 (fun hHeld => ?_)
                case s26 => ((try dsimp only); go_keep)
                clear hKK KK
                (try simp only [Act.put, List.setIfInBounds_toArray, List.set_cons_zero, List.set_cons_succ])
                refine wpAnyH_take (i := 27) (oi := ?o27) (v := ?v27) ?p27 (by kernel_rfl) (by kernel_rfl) (by kernel_rfl) ?q27 (Or.inl ⟨?w27, ?y27⟩) (by assumption) ?_
                case p27 => (simp only [List.getElem?_toArray, List.getElem?_cons_succ, List.getElem?_cons_zero]; try rfl)
                case q27 => exact fun _ _ _ h => h
                case w27 => rfl
                case y27 => ((intro w hSw); (try dsimp only at hSw); go_simp; try with_reducible rfl)
                (try simp only [Act.put, List.setIfInBounds_toArray, List.set_cons_zero, List.set_cons_succ])
                refine wpAnyH_take (i := 28) (oi := ?o28) (v := ?v28) ?p28 (by kernel_rfl) (by kernel_rfl) (by kernel_rfl) ?q28 (Or.inl ⟨?w28, ?y28⟩) (by assumption) ?_
                case p28 => (simp only [List.getElem?_toArray, List.getElem?_cons_succ, List.getElem?_cons_zero]; try rfl)
                case q28 => exact fun _ _ _ h => h
                case w28 => rfl
                case y28 => ((intro w hSw); (try dsimp only at hSw); go_simp; try with_reducible rfl)
                (try simp only [Act.put, List.setIfInBounds_toArray, List.set_cons_zero, List.set_cons_succ])
                refine wpAnyH_take (i := 29) (oi := ?o29) (v := ?v29) ?p29 (by kernel_rfl) (by kernel_rfl) (by kernel_rfl) ?q29 (Or.inl ⟨?w29, ?y29⟩) (by assumption) ?_
                case p29 => (simp only [List.getElem?_toArray, List.getElem?_cons_succ, List.getElem?_cons_zero]; try rfl)
                case q29 => exact fun _ _ _ h => h
                case w29 => rfl
                case y29 => ((intro w hSw); (try dsimp only at hSw); go_simp; try with_reducible rfl)
                (try simp only [Act.put, List.setIfInBounds_toArray, List.set_cons_zero, List.set_cons_succ])
                refine wpAnyH_take (i := 30) (oi := ?o30) (v := ?v30) ?p30 (by kernel_rfl) (by kernel_rfl) (by kernel_rfl) ?q30 (Or.inl ⟨?w30, ?y30⟩) (by assumption) ?_
                case p30 => (simp only [List.getElem?_toArray, List.getElem?_cons_succ, List.getElem?_cons_zero]; try rfl)
                case q30 => exact fun _ _ _ h => h
                case w30 => rfl
                case y30 => ((intro w hSw); (try dsimp only at hSw); go_simp; try with_reducible rfl)
                (try simp only [Act.put, List.setIfInBounds_toArray, List.set_cons_zero, List.set_cons_succ])
                refine wpAnyH_take (i := 31) (oi := ?o31) (v := ?v31) ?p31 (by kernel_rfl) (by kernel_rfl) (by kernel_rfl) ?q31 (Or.inl ⟨?w31, ?y31⟩) (by assumption) ?_
                case p31 => (simp only [List.getElem?_toArray, List.getElem?_cons_succ, List.getElem?_cons_zero]; try rfl)
                case q31 => exact fun _ _ _ h => h
                case w31 => rfl
                case y31 => ((intro w hSw); (try dsimp only at hSw); go_simp; try with_reducible rfl)
                (try simp only [Act.put, List.setIfInBounds_toArray, List.set_cons_zero, List.set_cons_succ])
                refine wpAnyH_take (i := 32) (oi := ?o32) (v := ?v32) ?p32 (by kernel_rfl) (by kernel_rfl) (by kernel_rfl) ?q32 (Or.inl ⟨?w32, ?y32⟩) (by assumption) ?_
                case p32 => (simp only [List.getElem?_toArray, List.getElem?_cons_succ, List.getElem?_cons_zero]; try rfl)
                case q32 => exact fun _ _ _ h => h
                case w32 => rfl
                case y32 => ((intro w hSw); (try dsimp only at hSw); go_simp; try with_reducible rfl)
                (try simp only [Act.put, List.setIfInBounds_toArray, List.set_cons_zero, List.set_cons_succ])
                refine wpAnyH_take (i := 33) (oi := ?o33) (v := ?v33) ?p33 (by kernel_rfl) (by kernel_rfl) (by kernel_rfl) ?q33 (Or.inl ⟨?w33, ?y33⟩) (by assumption) ?_
                case p33 => (simp only [List.getElem?_toArray, List.getElem?_cons_succ, List.getElem?_cons_zero]; try rfl)
                case q33 => exact fun _ _ _ h => h
                case w33 => rfl
                case y33 => ((intro w hSw); (try dsimp only at hSw); go_simp; try with_reducible rfl)
                (try simp only [Act.put, List.setIfInBounds_toArray, List.set_cons_zero, List.set_cons_succ])
                refine wpAnyH_take (i := 34) (oi := ?o34) (v := ?v34) ?p34 (by kernel_rfl) (by kernel_rfl) (by kernel_rfl) ?q34 (Or.inl ⟨?w34, ?y34⟩) (by assumption) ?_
                case p34 => (simp only [List.getElem?_toArray, List.getElem?_cons_succ, List.getElem?_cons_zero]; try rfl)
                case q34 => exact fun _ _ _ h => h
                case w34 => rfl
                case y34 => ((intro w hSw); (try dsimp only at hSw); go_simp; try with_reducible rfl)
                (try simp only [Act.put, List.setIfInBounds_toArray, List.set_cons_zero, List.set_cons_succ])
                refine wpAnyH_take (i := 35) (oi := ?o35) (v := ?v35) ?p35 (by kernel_rfl) (by kernel_rfl) (by kernel_rfl) ?q35 (Or.inl ⟨?w35, ?y35⟩) (by assumption) ?_
                case p35 => (simp only [List.getElem?_toArray, List.getElem?_cons_succ, List.getElem?_cons_zero]; try rfl)
                case q35 => exact fun _ _ _ h => h
                case w35 => rfl
                case y35 => ((intro w hSw); (try dsimp only at hSw); go_simp; try with_reducible rfl)
                (try simp only [Act.put, List.setIfInBounds_toArray, List.set_cons_zero, List.set_cons_succ])
                refine wpAnyH_take (i := 36) (oi := ?o36) (v := ?v36) ?p36 (by kernel_rfl) (by kernel_rfl) (by kernel_rfl) ?q36 (Or.inl ⟨?w36, ?y36⟩) (by assumption) ?_
                case p36 => (simp only [List.getElem?_toArray, List.getElem?_cons_succ, List.getElem?_cons_zero]; try rfl)
                case q36 => exact fun _ _ _ h => h
                case w36 => rfl
                case y36 => ((intro w hSw); (try dsimp only at hSw); go_simp; try with_reducible rfl)
                (try simp only [Act.put, List.setIfInBounds_toArray, List.set_cons_zero, List.set_cons_succ])
                refine wpAnyH_take (i := 37) (oi := ?o37) (v := ?v37) ?p37 (by kernel_rfl) (by kernel_rfl) (by kernel_rfl) ?q37 (Or.inl ⟨?w37, ?y37⟩) (by assumption) ?_
                case p37 => (simp only [List.getElem?_toArray, List.getElem?_cons_succ, List.getElem?_cons_zero]; try rfl)
                case q37 => exact fun _ _ _ h => h
                case w37 => rfl
                case y37 => ((intro w hSw); (try dsimp only at hSw); go_simp; try with_reducible rfl)
                (try simp only [Act.put, List.setIfInBounds_toArray, List.set_cons_zero, List.set_cons_succ])
                refine wpAnyH_take (i := 38) (oi := ?o38) (v := ?v38) ?p38 (by kernel_rfl) (by kernel_rfl) (by kernel_rfl) ?q38 (Or.inl ⟨?w38, ?y38⟩) (by assumption) ?_
                case p38 => (simp only [List.getElem?_toArray, List.getElem?_cons_succ, List.getElem?_cons_zero]; try rfl)
                case q38 => exact fun _ _ _ h => h
                case w38 => rfl
                case y38 => ((intro w hSw); (try dsimp only at hSw); go_simp; try with_reducible rfl)
                (try simp only [Act.put, List.setIfInBounds_toArray, List.set_cons_zero, List.set_cons_succ])
                refine wpAnyH_take (i := 41) (oi := ?o41) (v := ?v41) ?p41 (by kernel_rfl) (by kernel_rfl) (by kernel_rfl) ?q41 (Or.inl ⟨?w41, ?y41⟩) (by assumption) ?_
                case p41 => (simp only [List.getElem?_toArray, List.getElem?_cons_succ, List.getElem?_cons_zero]; try rfl)
                case q41 => exact fun _ _ _ h => h
                case w41 => rfl
                case y41 => ((intro w hSw); (try dsimp only at hSw); go_simp; try with_reducible rfl)
                (try simp only [Act.put, List.setIfInBounds_toArray, List.set_cons_zero, List.set_cons_succ])
                refine wpAnyH_take (i := 42) (oi := ?o42) (v := ?v42) ?p42 (by kernel_rfl) (by kernel_rfl) (by kernel_rfl) ?q42 (Or.inl ⟨?w42, ?y42⟩) (by assumption) ?_
                case p42 => (simp only [List.getElem?_toArray, List.getElem?_cons_succ, List.getElem?_cons_zero]; try rfl)
                case q42 => exact fun _ _ _ h => h
                case w42 => rfl
                case y42 => ((intro w hSw); (try dsimp only at hSw); go_simp; try with_reducible rfl)
                (try simp only [Act.put, List.setIfInBounds_toArray, List.set_cons_zero, List.set_cons_succ])
                refine wpAnyH_take (i := 43) (oi := ?o43) (v := ?v43) ?p43 (by kernel_rfl) (by kernel_rfl) (by kernel_rfl) ?q43 (Or.inl ⟨?w43, ?y43⟩) (by assumption) ?_
                case p43 => (simp only [List.getElem?_toArray, List.getElem?_cons_succ, List.getElem?_cons_zero]; try rfl)
                case q43 => exact fun _ _ _ h => h
                case w43 => rfl
                case y43 => ((intro w hSw); (try dsimp only at hSw); go_simp; try with_reducible rfl)
                (try simp only [Act.put, List.setIfInBounds_toArray, List.set_cons_zero, List.set_cons_succ])
                refine wpAnyH_ready (rs := [39]) (by kernel_rfl) (by simp) ?_
                refine AllReadyH.cons (o := ?o39) ?p39 (fun KK hKK => ?_) AllReadyH.nil
                case p39 => (simp only [List.getElem?_toArray, List.getElem?_cons_succ, List.getElem?_cons_zero]; try rfl)
                go_simp
                go_at_call 14
                refine (dm_bucket' (y := x9) (s := K k) HD9.out HR6.out (HSC.out.wfK k) HQ.out (by exact ⟨rfl, rfl, rfl, rfl⟩) (Nat.le_refl _)).mono ?_
                rintro e xa ⟨ao4, cap4, go4, rfl, hr, hf, hd⟩
                have s1 : xa.cell? ⟨ob, 1, none⟩ = some (.string (K k)) := hd.cell 1
                have s2 : xa.cell? ⟨ob, 2, none⟩ = some (.string (T k)) := hd.cell 2
                have s3 : xa.cell? ⟨ob, 3, none⟩ = some (.int .i64 (I k)) := hd.cell 3
                have hgc : xa.cell? ⟨g, n, none⟩ = some (.int .i64 (I k)) := (FP.cell hf hgl).trans hgc
                have HDA := Lib.hid hd
                clear hd hf hr
                go_wp2_with fail
                refine hKK.out _ _ ?s39 (fun hHeld => ?_)
                case s39 => ((try dsimp only); go_keep)
                clear hKK KK
                (try simp only [Act.put, List.setIfInBounds_toArray, List.set_cons_zero, List.set_cons_succ])
                refine wpAnyH_take (i := 40) (oi := ?o40) (v := ?v40) ?p40 (by kernel_rfl) (by kernel_rfl) (by kernel_rfl) ?q40 (Or.inl ⟨?w40, ?y40⟩) (by assumption) ?_
                case p40 => (simp only [List.getElem?_toArray, List.getElem?_cons_succ, List.getElem?_cons_zero]; try rfl)
                case q40 => exact fun _ _ _ h => h
                case w40 => rfl
                case y40 => ((intro w hSw); (try dsimp only at hSw); go_simp; try with_reducible rfl)
                (try simp only [Act.put, List.setIfInBounds_toArray, List.set_cons_zero, List.set_cons_succ])
                refine wpAnyH_take (i := 44) (oi := ?o44) (v := ?v44) ?p44 (by kernel_rfl) (by kernel_rfl) (by kernel_rfl) ?q44 (Or.inl ⟨?w44, ?y44⟩) (by assumption) ?_
                case p44 => (simp only [List.getElem?_toArray, List.getElem?_cons_succ, List.getElem?_cons_zero]; try rfl)
                case q44 => exact fun _ _ _ h => h
                case w44 => rfl
                case y44 => ((intro w hSw); (try dsimp only at hSw); go_simp; try with_reducible rfl)
                (try simp only [Act.put, List.setIfInBounds_toArray, List.set_cons_zero, List.set_cons_succ])
                refine wpAnyH_take (i := 45) (oi := ?o45) (v := ?v45) ?p45 (by kernel_rfl) (by kernel_rfl) (by kernel_rfl) ?q45 (Or.inl ⟨?w45, ?y45⟩) (by assumption) ?_
                case p45 => (simp only [List.getElem?_toArray, List.getElem?_cons_succ, List.getElem?_cons_zero]; try rfl)
                case q45 => exact fun _ _ _ h => h
                case w45 => rfl
                case y45 => ((intro w hSw); (try dsimp only at hSw); go_simp; try with_reducible rfl)
                (try simp only [Act.put, List.setIfInBounds_toArray, List.set_cons_zero, List.set_cons_succ])
                refine wpAnyH_take (i := 46) (oi := ?o46) (v := ?v46) ?p46 (by kernel_rfl) (by kernel_rfl) (by kernel_rfl) ?q46 (Or.inl ⟨?w46, ?y46⟩) (by assumption) ?_
                case p46 => (simp only [List.getElem?_toArray, List.getElem?_cons_succ, List.getElem?_cons_zero]; try rfl)
                case q46 => exact fun _ _ _ h => h
                case w46 => rfl
                case y46 => ((intro w hSw); (try dsimp only at hSw); go_simp; try with_reducible rfl)
                (try simp only [Act.put, List.setIfInBounds_toArray, List.set_cons_zero, List.set_cons_succ])
                refine wpAnyH_take (i := 47) (oi := ?o47) (v := ?v47) ?p47 (by kernel_rfl) (by kernel_rfl) (by kernel_rfl) ?q47 (Or.inl ⟨?w47, ?y47⟩) (by assumption) ?_
                case p47 => (simp only [List.getElem?_toArray, List.getElem?_cons_succ, List.getElem?_cons_zero]; try rfl)
                case q47 => exact fun _ _ _ h => h
                case w47 => rfl
                case y47 => ((intro w hSw); (try dsimp only at hSw); go_simp; try with_reducible rfl)
                (try simp only [Act.put, List.setIfInBounds_toArray, List.set_cons_zero, List.set_cons_succ])
                refine wpAnyH_take (i := 48) (oi := ?o48) (v := ?v48) ?p48 (by kernel_rfl) (by kernel_rfl) (by kernel_rfl) ?q48 (Or.inl ⟨?w48, ?y48⟩) (by assumption) ?_
                case p48 => (simp only [List.getElem?_toArray, List.getElem?_cons_succ, List.getElem?_cons_zero]; try rfl)
                case q48 => exact fun _ _ _ h => h
                case w48 => rfl
                case y48 => ((intro w hSw); (try dsimp only at hSw); go_simp; try with_reducible rfl)
                (try simp only [Act.put, List.setIfInBounds_toArray, List.set_cons_zero, List.set_cons_succ])
                refine wpAnyH_take (i := 49) (oi := ?o49) (v := ?v49) ?p49 (by kernel_rfl) (by kernel_rfl) (by kernel_rfl) ?q49 (Or.inl ⟨?w49, ?y49⟩) (by assumption) ?_
                case p49 => (simp only [List.getElem?_toArray, List.getElem?_cons_succ, List.getElem?_cons_zero]; try rfl)
                case q49 => exact fun _ _ _ h => h
                case w49 => rfl
                case y49 => ((intro w hSw); (try dsimp only at hSw); go_simp; try with_reducible rfl)
                (try simp only [Act.put, List.setIfInBounds_toArray, List.set_cons_zero, List.set_cons_succ])
                refine wpAnyH_take (i := 50) (oi := ?o50) (v := ?v50) ?p50 (by kernel_rfl) (by kernel_rfl) (by kernel_rfl) ?q50 (Or.inl ⟨?w50, ?y50⟩) (by assumption) ?_
                case p50 => (simp only [List.getElem?_toArray, List.getElem?_cons_succ, List.getElem?_cons_zero]; try rfl)
                case q50 => exact fun _ _ _ h => h
                case w50 => rfl
                case y50 => ((intro w hSw); (try dsimp only at hSw); go_simp; try with_reducible rfl)
                (try simp only [Act.put, List.setIfInBounds_toArray, List.set_cons_zero, List.set_cons_succ])
                refine wpAnyH_take (i := 51) (oi := ?o51) (v := ?v51) ?p51 (by kernel_rfl) (by kernel_rfl) (by kernel_rfl) ?q51 (Or.inl ⟨?w51, ?y51⟩) (by assumption) ?_
                case p51 => (simp only [List.getElem?_toArray, List.getElem?_cons_succ, List.getElem?_cons_zero]; try rfl)
                case q51 => exact fun _ _ _ h => h
                case w51 => rfl
                case y51 => ((intro w hSw); (try dsimp only at hSw); go_simp; try with_reducible rfl)
                (try simp only [Act.put, List.setIfInBounds_toArray, List.set_cons_zero, List.set_cons_succ])
                refine wpAnyH_take (i := 52) (oi := ?o52) (v := ?v52) ?p52 (by kernel_rfl) (by kernel_rfl) (by kernel_rfl) ?q52 (Or.inl ⟨?w52, ?y52⟩) (by assumption) ?_
                case p52 => (simp only [List.getElem?_toArray, List.getElem?_cons_succ, List.getElem?_cons_zero]; try rfl)
                case q52 => exact fun _ _ _ h => h
                case w52 => rfl
                case y52 => ((intro w hSw); (try dsimp only at hSw); go_simp; try with_reducible rfl)
                (try simp only [Act.put, List.setIfInBounds_toArray, List.set_cons_zero, List.set_cons_succ])
                refine wpAnyH_take (i := 53) (oi := ?o53) (v := ?v53) ?p53 (by kernel_rfl) (by kernel_rfl) (by kernel_rfl) ?q53 (Or.inl ⟨?w53, ?y53⟩) (by assumption) ?_
                case p53 => (simp only [List.getElem?_toArray, List.getElem?_cons_succ, List.getElem?_cons_zero]; try rfl)
                case q53 => exact fun _ _ _ h => h
                case w53 => rfl
                case y53 => ((intro w hSw); (try dsimp only at hSw); go_simp; try with_reducible rfl)
                (try simp only [Act.put, List.setIfInBounds_toArray, List.set_cons_zero, List.set_cons_succ])
                refine wpAnyH_take (i := 54) (oi := ?o54) (v := ?v54) ?p54 (by kernel_rfl) (by kernel_rfl) (by kernel_rfl) ?q54 (Or.inl ⟨?w54, ?y54⟩) (by assumption) ?_
                case p54 => (simp only [List.getElem?_toArray, List.getElem?_cons_succ, List.getElem?_cons_zero]; try rfl)
                case q54 => exact fun _ _ _ h => h
                case w54 => rfl
                case y54 => ((intro w hSw); (try dsimp only at hSw); go_simp; try with_reducible rfl)
                (try simp only [Act.put, List.setIfInBounds_toArray, List.set_cons_zero, List.set_cons_succ])
                refine wpAnyH_take (i := 55) (oi := ?o55) (v := undef) ?p55 (by kernel_rfl) (by kernel_rfl) (by kernel_rfl) ?q55 (Or.inr ⟨?w55, rfl⟩) (by assumption) ?_
                case p55 => (simp only [List.getElem?_toArray, List.getElem?_cons_succ, List.getElem?_cons_zero]; try rfl)
                case q55 => exact fun _ _ _ h => h
                case w55 => rfl
                (try simp only [Act.put, List.setIfInBounds_toArray, List.set_cons_zero, List.set_cons_succ])
                refine wpAnyH_take (i := 56) (oi := ?o56) (v := undef) ?p56 (by kernel_rfl) (by kernel_rfl) (by kernel_rfl) ?q56 (Or.inr ⟨?w56, rfl⟩) (by assumption) ?_
                case p56 => (simp only [List.getElem?_toArray, List.getElem?_cons_succ, List.getElem?_cons_zero]; try rfl)
                case q56 => exact fun _ _ _ h => h
                case w56 => rfl
                (try simp only [Act.put, List.setIfInBounds_toArray, List.set_cons_zero, List.set_cons_succ])
                refine wpAnyH_take (i := 57) (oi := ?o57) (v := undef) ?p57 (by kernel_rfl) (by kernel_rfl) (by kernel_rfl) ?q57 (Or.inr ⟨?w57, rfl⟩) (by assumption) ?_
                case p57 => (simp only [List.getElem?_toArray, List.getElem?_cons_succ, List.getElem?_cons_zero]; try rfl)
                case q57 => exact fun _ _ _ h => h
                case w57 => rfl
                (try simp only [Act.put, List.setIfInBounds_toArray, List.set_cons_zero, List.set_cons_succ])
                refine wpAnyH_take (i := 58) (oi := ?o58) (v := undef) ?p58 (by kernel_rfl) (by kernel_rfl) (by kernel_rfl) ?q58 (Or.inr ⟨?w58, rfl⟩) (by assumption) ?_
                case p58 => (simp only [List.getElem?_toArray, List.getElem?_cons_succ, List.getElem?_cons_zero]; try rfl)
                case q58 => exact fun _ _ _ h => h
                case w58 => rfl
                (try simp only [Act.put, List.setIfInBounds_toArray, List.set_cons_zero, List.set_cons_succ])
                refine wpAnyH_take (i := 59) (oi := ?o59) (v := undef) ?p59 (by kernel_rfl) (by kernel_rfl) (by kernel_rfl) ?q59 (Or.inr ⟨?w59, rfl⟩) (by assumption) ?_
                case p59 => (simp only [List.getElem?_toArray, List.getElem?_cons_succ, List.getElem?_cons_zero]; try rfl)
                case q59 => exact fun _ _ _ h => h
                case w59 => rfl
                (try simp only [Act.put, List.setIfInBounds_toArray, List.set_cons_zero, List.set_cons_succ])
                refine wpAnyH_take (i := 60) (oi := ?o60) (v := ?v60) ?p60 (by kernel_rfl) (by kernel_rfl) (by kernel_rfl) ?q60 (Or.inl ⟨?w60, ?y60⟩) (by assumption) ?_
                case p60 => (simp only [List.getElem?_toArray, List.getElem?_cons_succ, List.getElem?_cons_zero]; try rfl)
                case q60 => exact fun _ _ _ h => h
                case w60 => rfl
                case y60 => ((intro w hSw); (try dsimp only at hSw); go_simp; try with_reducible rfl)
                (try simp only [Act.put, List.setIfInBounds_toArray, List.set_cons_zero, List.set_cons_succ])
                refine wpAnyH_take (i := 61) (oi := ?o61) (v := ?v61) ?p61 (by kernel_rfl) (by kernel_rfl) (by kernel_rfl) ?q61 (Or.inl ⟨?w61, ?y61⟩) (by assumption) ?_
                case p61 => (simp only [List.getElem?_toArray, List.getElem?_cons_succ, List.getElem?_cons_zero]; try rfl)
                case q61 => exact fun _ _ _ h => h
                case w61 => rfl
                case y61 => ((intro w hSw); (try dsimp only at hSw); go_simp; try with_reducible rfl)
                (try simp only [Act.put, List.setIfInBounds_toArray, List.set_cons_zero, List.set_cons_succ])
                refine wpAnyH_done (by kernel_rfl) ?_ _
                clear hw hw1 hwq hz0
                go_wp2_with fail
                go_meet
                exact ⟨rfl, HDA.out.same ⟨rfl, rfl, rfl, rfl⟩⟩
              case rest =>
                obtain ⟨rfl, HDC⟩ := hcut
                clear hw hw1 hwq hz0
                go_wp2_with fail
                go_roundw
                case rel => exact ⟨k + 1, N + 2, L', by omega, by omega, by go_num, ⟨HDC.out.ix, HDC.out.st, by have := HLEN.out; omega, by omega⟩⟩
                case measure => simp [intOf]; omega
        · have hz : (D k != 2) = true := by simpa using hD2
          have hz' : (D k == 2) = false := by simpa using hD2
          have hle := addL_le L (K k, I k)
          have HLA : Hid ((addL L (K k, I k)).length ≤ k + 1) := Lib.hid (by omega)
          clear hle hD2
          go_wp2_with fail
          refine (dm_add (s := K k) (id := I k) HD.out HR.out (HSC.out.wfK k) (HSC.out.wfI k) ⟨rfl, rfl, rfl, rfl⟩).mono ?_
          rintro e x1 ⟨⟨b1, rfl⟩, hd⟩
          have HD1 := Lib.hid hd
          clear hd
          go_wp2_with fail
          go_roundw
          case rel => exact ⟨k + 1, N + 1, addL L (K k, I k), by omega, by omega, by go_num, ⟨HD1.out.ix, HD1.out.st, HLA.out, by omega⟩⟩
          case measure => simp [intOf]; omega
      · obtain rfl : k = 60 := by omega
        have hfin : FP (fun i => w.heap.size ≤ i) w wr := HF2.out.trans HA.out.st.2 (fun _ q => .inl q)
        have HFIN := Lib.hid hfin
        clear hfin
        go_wp2_with fail
        refine (wakes_any _).mono ?_
        intro e wz hZ
        obtain ⟨rfl, hz⟩ := hZ
        have HZ := Lib.hid hz
        clear hz
        go_wp2
        go_ret
        exact ⟨rfl, (HFIN.out.trans HZ.out (fun _ q => q.elim)).below (fun _ q => q) (Nat.le_refl _)⟩
    · obtain rfl : k = ln := by omega
      have hfin : FP (fun i => w.heap.size ≤ i) w wr := HF2.out.trans HA.out.st.2 (fun _ q => .inl q)
      have HFIN := Lib.hid hfin
      clear hfin
      go_wp2_with fail
      refine (wakes_any _).mono ?_
      intro e wz hZ
      obtain ⟨rfl, hz⟩ := hZ
      have HZ := Lib.hid hz
      clear hz
      go_wp2
      go_ret
      exact ⟨rfl, (HFIN.out.trans HZ.out (fun _ q => q.elim)).below (fun _ q => q) (Nat.le_refl _)⟩
end Go.Proofs.Ytgpekeemmambkaa
