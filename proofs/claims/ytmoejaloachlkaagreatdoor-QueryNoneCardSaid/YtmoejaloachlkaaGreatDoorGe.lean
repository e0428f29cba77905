/- The evaluator's soundness, 36: conversions. -/
import Derived.Test.YtmoejaloachlkaaGreatDoorGd
namespace Go.Proofs.YtmoejaloachlkaaGreatDoor.Ev
open Go Go.RowKit

section
variable {P : Program} {B : Nat} {π : Pi} {H H' : Hp} {w : World} {r : T AV} {a : Act}
theorem rowAt_mono {fits : TypeId → Bool} : ∀ {d : Nat} {e : TypeId} {c c' o n : Nat}, c ≤ c' → rowAt P fits d e c o n = true → rowAt P fits d e c' o n = true
  | 0, _, _, _, _, _, _, h => by cases h
  | d + 1, e, c, c', o, n, hc, h => by
    unfold rowAt at h ⊢
    simp only at h ⊢
    split
    · rename_i h0; rw [if_pos h0] at h; exact h
    · rename_i h0
      rw [if_neg h0] at h
      simp only [Bool.or_eq_true, Bool.and_eq_true, decide_eq_true_eq] at h ⊢
      rcases h with ⟨⟨h1, h2⟩, h3⟩ | ⟨h1, h2⟩
      · exact .inl ⟨⟨h1, by omega⟩, h3⟩
      · exact .inr ⟨by omega, h2⟩
theorem liesAt_mono : ∀ {d : Nat} {e : TypeId} {c c' o n : Nat} {t : TypeId}, c ≤ c' → liesAt P d e c o t n = true → liesAt P d e c' o t n = true
  | 0, _, _, _, _, _, _, _, h => by cases h
  | d + 1, e, c, c', o, n, t, hc, h => by
    unfold liesAt at h ⊢
    rw [Bool.or_eq_true] at h ⊢
    rcases h with h | h
    · exact .inl (rowAt_mono hc h)
    · right
      split at h
      · rename_i m u' hu
        exact liesAt_mono hc h
      · cases h
/-- A row of bytes with room behind it, that stands for a text. -/
theorem run_s2b (e : TypeId) (s : ByteArray) (hs : s.size < 16777216) : ∃ (nc : Nat) (w1 : World), w1.heap = w.heap ∧ (w1.os = w.os ∧ w1.tape = w.tape ∧ w1.output = w.output) ∧ s.size ≤ nc ∧ nc < big63 ∧
    (Conv.stringToBytes e s).run P w = .ok (.slice (some ⟨w.heap.size, 0, none⟩) s.size nc) (w1.alloc (.cells ((s.data.map fun b => Value.int .u8 b.toNat) ++ Array.replicate (nc - s.size) (.int .u8 0)) e (nc, nc + 1))) := by
  have hp63 : (2 : Nat) ^ 63 = 9223372036854775808 := rfl
  have hcap : s.size + w.tape w.drawn (.appendCap s.size 0 e) % (2 ^ 63 - s.size) < big63 := by
    have h1 := Nat.mod_lt (w.tape w.drawn (.appendCap s.size 0 e)) (show 0 < 2 ^ 63 - s.size by rw [hp63]; omega)
    generalize hM : 2 ^ 63 - s.size = M at *
    rw [hp63] at hM
    unfold big63
    omega
  have hch : (choose (.appendCap s.size 0 e)).run P w = .ok (s.size + w.tape w.drawn (.appendCap s.size 0 e) % (2 ^ 63 - s.size)) { w with drawn := w.drawn + 1 } := by
    simp [choose, Sem.run, Question.forced, Question.cut]
  refine ⟨s.size + w.tape w.drawn (.appendCap s.size 0 e) % (2 ^ 63 - s.size), { w with drawn := w.drawn + 1 }, rfl, ⟨rfl, rfl, rfl⟩, Nat.le_add_right _ _, hcap, ?_⟩
  have hle : s.size ≤ s.size + w.tape w.drawn (.appendCap s.size 0 e) % (2 ^ 63 - s.size) := Nat.le_add_right _ _
  generalize s.size + w.tape w.drawn (.appendCap s.size 0 e) % (2 ^ 63 - s.size) = nc at *
  unfold Conv.stringToBytes
  have hrow : ∀ (vs' : Array Value), (newRow e vs').run P { w with drawn := w.drawn + 1 } = .ok ⟨w.heap.size, 0, none⟩ (World.alloc { w with drawn := w.drawn + 1 } (.cells vs' e)) := fun vs' => by simp [newRow]
  simp only [Sem.run_bind, hch, Result.andThen_ok, hrow]
  generalize hw2 : World.alloc { w with drawn := w.drawn + 1 } (.cells ((s.data.map fun b => Value.int .u8 b.toNat) ++ Array.replicate (nc - s.size) (.int .u8 0)) e) = w2
  have hsz : ((s.data.map fun b => Value.int .u8 b.toNat) ++ Array.replicate (nc - s.size) (Value.int .u8 0)).size = nc := by
    rw [Array.size_append, Array.size_map, Array.size_replicate]
    show s.data.size + (nc - s.data.size) = nc
    have : s.data.size = s.size := rfl
    omega
  have hsh : w2.shape? w.heap.size = some (e, nc) := by
    rw [← hw2]
    unfold World.shape?
    have := heap_alloc_new { w with drawn := w.drawn + 1 } (.cells ((s.data.map fun b => Value.int .u8 b.toNat) ++ Array.replicate (nc - s.size) (.int .u8 0)) e)
    rw [show ({ w with drawn := w.drawn + 1 } : World).heap.size = w.heap.size from rfl] at this
    rw [this]
    simp only [hsz]
  have hm : (markStringish ⟨w.heap.size, 0, none⟩).run P w2 = .ok () (w2.freeze ⟨w.heap.size, nc, none⟩ 1) := by
    unfold markStringish
    simp [hsh]
  simp only [hm, Result.andThen_ok, Sem.run_pure]
  congr 1
  rw [← hw2]
  unfold World.freeze World.alloc
  rw [if_neg (by omega)]
  congr 1
  apply Array.ext_getElem?
  intro i
  simp only [Array.getElem?_modify, Array.getElem?_push]
  by_cases hi : i = w.heap.size
  · subst hi; simp
  · rw [if_neg (fun e => hi e.symm), if_neg hi, if_neg hi]
theorem conv_sound (hH : HRel π B H w) {s d : TypeId} {v : AV} {cv : Value} (hv : VR π v cv) : ORun P B π H w (do let y ← convert s d cv; pure (.value y)) (convA P s d v H) := by
  unfold convA
  split
  · rename_i ds k j n hs hd
    refine ORun.plain (plain_wrapI _ _ _) fun v H' e => ?_
    obtain ⟨rfl, rfl⟩ := wrapI_val e
    have := VR.int_inv hv
    subst this
    refine OVal.pure hH ?_ (.int _ _)
    unfold convert
    simp only [Sem.run_bind, run_underlying hs, run_underlying hd, Result.andThen_ok]
    rfl
  · rename_i ds n u hs hd
    cases hv with
    | str st =>
    refine OVal.pure hH ?_ (.str st)
    unfold convert
    simp only [Sem.run_bind, run_underlying hs, run_underlying hd, Result.andThen_ok]
    rfl
  · rename_i ds e n u hs hd
    cases hv with
    | str st =>
    split
    · rename_i he
      rw [Bool.cond_eq_ite]
      split
      · rename_i hn
        have hn : st.size < 16777216 := by simpa [Nat.blt_eq, maxNeed] using hn
        obtain ⟨nc, w1, r1, r2, r3, r4, r5⟩ := run_s2b (P := P) (w := w) e st hn
        have hrun : (convert s d (.string st)).run P w = (Conv.stringToBytes e st).run P w := by
          unfold convert
          simp only [Sem.run_bind, run_underlying hs, run_underlying hd, Result.andThen_ok, run_underlying he]
        have hsz : ((st.data.map fun b => Value.int .u8 b.toNat) ++ Array.replicate (nc - st.size) (Value.int .u8 0)).size = nc := by
          rw [Array.size_append, Array.size_map, Array.size_replicate]
          show st.data.size + (nc - st.data.size) = nc
          have : st.data.size = st.size := rfl
          omega
        have he2 := piNew_ext (H := H) (hH.fresh (Nat.le_refl _)) w.heap.size nc
        have hBR := BR_row (π := piNew π H.nx w.heap.size nc) (w := w1.alloc (.cells ((st.data.map fun b => Value.int .u8 b.toNat) ++ Array.replicate (nc - st.size) (Value.int .u8 0)) e (nc, nc + 1))) (e := e) (n := st.size) (lo := 1) (hi := 0) (wr := true) (sib := [])
          (l := (strBytes st.size (natOf st.data.toList) st.size).map fun b => some (byteA b)) (arr := (st.data.map fun b => Value.int .u8 b.toNat) ++ Array.replicate (nc - st.size) (Value.int .u8 0)) (by omega)
          (fun j v hj hv => by
            obtain ⟨cv, a, b⟩ := (str_cells (π := piNew π H.nx w.heap.size nc) st).2 j v hv
            refine ⟨cv, ?_, b⟩
            rw [← Array.getElem?_toList, Array.toList_append, List.getElem?_append_left (by simpa using hj)]
            exact a) (by
            intro v hv
            rw [Array.toList_append] at hv
            rcases List.mem_append.1 hv with h | h
            · rw [Array.toList_map] at h
              obtain ⟨b, _, rfl⟩ := List.mem_map.1 h
              rfl
            · simp at h
              rw [h.2]; rfl) (nc, nc + 1) (fun _ => ⟨by simp, fun j a b => .inr ⟨by omega, by rw [hsz]; exact a⟩⟩)
        rw [hsz] at hBR
        have hhs : w1.heap.size = w.heap.size := by rw [r1]
        have hst := Step.alloc (hH.same r1) _ nc _ (by rw [hhs]; exact hBR)
        rw [hhs] at hst
        refine OVal.mk (hrun.trans r5) ?_ (Step.trans hH (Step.same hH r1 r2) hst)
        exact VR.sl _ _ _ _ _ _ w.heap.size nc nc (by simp [piNew]) (Nat.le_refl _) r3 (fun h => by cases h) (by omega) r4
      · trivial
    · trivial
  · rename_i e hs hd
    cases hv
    split
    · rename_i he
      refine OVal.pure hH ?_ (.str ByteArray.empty)
      rw [run_convert_bytes_string w s d e none 0 0 hs he hd]
      rfl
    · trivial
  · rename_i e hs hd
    cases hv with
    | slz ad cap =>
    split
    · rename_i he
      refine OVal.pure hH ?_ (.str ByteArray.empty)
      rw [run_convert_bytes_string w s d e (some ad) 0 cap hs he hd, run_bytesToString w ad 0 cap [] rfl]
      rfl
    · trivial
  · rename_i e b o n lo ex sz hs hd
    split
    · rename_i k he hb
      rw [Bool.cond_eq_ite]
      split
      · split
        · rename_i l hl
          split
          · rename_i u hof
            cases hv with
            | sl _ _ _ _ _ _ c z cap hp q1 q2 q3 q4 q5 =>
            obtain ⟨bl, q1, q2, q3, q4⟩ := bytes_sound (P := P) hH hb hp hl hof
            have hvs : VR π (.str n u) (.string ⟨bl.toArray⟩) := by
              have := VR.str (π := π) ⟨bl.toArray⟩
              have e1 : (⟨bl.toArray⟩ : ByteArray).size = n := by show bl.toArray.size = n; simpa using q1
              rw [e1, ← q2] at this
              exact this
            refine OVal.pure hH ?_ hvs
            rw [run_convert_bytes_string w s d e (some ⟨c, o, none⟩) n cap hs he hd, run_bytesToString w ⟨c, o, none⟩ n cap (bl.map fun b => (b.toNat : Int)) (by rw [q3, List.map_map]; rfl)]
            congr 2
            have key : ∀ (l : List UInt8) (acc : ByteArray), (l.map fun b => (b.toNat : Int)).foldl (fun (r : ByteArray) n => r.push (UInt8.ofNat n.toNat)) acc = ⟨acc.data ++ l.toArray⟩ := by
              intro l
              induction l with
              | nil => intro acc; simp
              | cons x l ih =>
                intro acc
                rw [List.map_cons, List.foldl_cons, ih]
                apply ByteArray.ext
                simp [ByteArray.push]
            rw [key]
            simp
          · trivial
        · trivial
      · trivial
    · trivial
  · rename_i t b o hs hd
    split
    · rename_i g sz tr dd n e lo hi wr sib hg hb
      rw [Bool.cond_eq_ite]
      split
      · rename_i ho
        have ho : o < n := by simpa [Nat.blt_eq] using ho
        cases hv with
        | ptr _ _ c z hp =>
        obtain ⟨c0, arr, fz, a1, a2, a3, a4, a5, a6, a7⟩ := hH.cells hb
        rw [hp] at a1; cases a1
        refine OVal.pure hH ?_ (.ptr _ _ _ _ hp)
        have hsh : w.shape? c = some (e, arr.size) := by unfold World.shape?; rw [a2]
        unfold convert
        simp only [Sem.run_bind, run_underlying hs, run_underlying hd, Result.andThen_ok]
        show (Conv.unsafePointer s d (.pointer (some ⟨c, o, none⟩))).run P w = _
        unfold Conv.unsafePointer
        have hno : ¬ arr.size ≤ o := by omega
        simp [run_underlying hs, run_underlying hd, Conv.seenAt, viewAt, cellsIn, hsh, tAgg_size hg, hno]
      · trivial
    · trivial
  · rename_i t b o hs hd
    split
    · rename_i tr dd n e lo hi wr sib hb
      rw [Bool.cond_eq_ite]
      split
      · rename_i hl
        rw [Bool.and_eq_true] at hl
        obtain ⟨h1, h2⟩ := hl
        obtain ⟨⟨g, sz⟩, hg⟩ := Option.isSome_iff_exists.1 h1
        cases hv with
        | ptr _ _ c z hp =>
        obtain ⟨c0, arr, fz, a1, a2, a3, a4, a5, a6, a7⟩ := hH.cells hb
        rw [hp] at a1; cases a1
        refine OVal.pure hH ?_ (.ptr _ _ _ _ hp)
        have hsh : w.shape? c = some (e, arr.size) := by unfold World.shape?; rw [a2]
        have hlies : liesAt P P.depth e (arr.size / P.cellsOf e) o t 1 = true := liesAt_mono (Nat.div_le_div_right a3) h2
        unfold convert
        simp only [Sem.run_bind, run_underlying hs, run_underlying hd, Result.andThen_ok]
        show (Conv.unsafePointer s d (.pointer (some ⟨c, o, none⟩))).run P w = _
        unfold Conv.unsafePointer
        simp [run_underlying hs, run_underlying hd, Conv.seenAt, viewAt, cellsIn, hsh, tAgg_size hg, variablesAt, hlies]
      · trivial
    · trivial
  · trivial
theorem convert_run (hH : HRel π B H w) (hR : RR π r a.tmps) {s d : TypeId} {x : Operand} : ORun P B π H w (do let y ← convert s d (a.eval x); pure (.value y)) (opConvert s d x P r H) := by
  unfold opConvert
  cases h1 : opnd r x with
  | none => trivial
  | some v => exact conv_sound hH (opnd_sound hH hR h1)
end
end Go.Proofs.YtmoejaloachlkaaGreatDoor.Ev
