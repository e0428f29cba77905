/- The evaluator's soundness, 31: a row that is perhaps another's; cells that are read in a row. -/
import Derived.Test.YtmoejaloachlkaaGreatDoorFy
import Derived.Laws.Append
namespace Go.Proofs.YtmoejaloachlkaaGreatDoor.Ev
open Go Go.RowKit

theorem dels_nx : ∀ (l : List Nat) (h : Hp), (dels l h).nx = h.nx
  | [], h => rfl
  | s :: l, h => dels_nx l (h.del s)
theorem dels_get : ∀ {l : List Nat} {h : Hp} {b : Nat} {x : Blk}, (dels l h).get b = some x → h.get b = some x ∧ b ∉ l
  | [], h, b, x, e => ⟨e, by simp⟩
  | s :: l, h, b, x, e => by
    obtain ⟨h1, h2⟩ := dels_get (l := l) (h := h.del s) e
    rw [Hp.get_del] at h1
    split at h1
    · cases h1
    · rename_i hne
      exact ⟨h1, by simp [hne, h2]⟩
section
variable {P : Program} {B : Nat} {π : Pi} {H H' : Hp} {w : World}
theorem Step.alias (hH : HRel π B H w) {b c z : Nat} {tr : T AV} {d : Option AV} {m e flo fhi m' n : Nat} {sib : List Nat} (hb : H.get b = some (.cells tr d m e flo fhi true sib)) (hp : π b = some (c, z)) (hm : m' ≤ m) (hn : n ≤ z) {l : List (Option AV)}
    (hl : ∀ (j : Nat) (v : AV), j < n → l[j]? = some (some v) → (Blk.cells tr d m e flo fhi true sib).rd j = some v) :
    Step B π H w (piNew π H.nx c z) (((dels sib H).set b (.cells tr d m' e flo fhi false [])).new (.cells (lays 0 l .e) none n e flo fhi true [b])) w := by
  have hf := hH.fresh (Nat.le_refl H.nx)
  have he := piNew_ext (H := H) hf c z
  have hbn : b ≠ H.nx := by intro e; rw [e, hf] at hp; cases hp
  obtain ⟨c0, arr, fz, a1, a2, a3, a4, a5, a6, a7⟩ := hH.cells hb
  rw [hp] at a1; cases a1
  have hnx : ((dels sib H).set b (.cells tr d m' e flo fhi false [])).nx = H.nx := by rw [Hp.nx_set, dels_nx]
  have inv : ∀ i y, (((dels sib H).set b (.cells tr d m' e flo fhi false [])).new (.cells (lays 0 l .e) none n e flo fhi true [b])).get i = some y →
      (i = H.nx ∧ y = .cells (lays 0 l .e) none n e flo fhi true [b]) ∨ (i = b ∧ y = .cells tr d m' e flo fhi false []) ∨ (i ≠ H.nx ∧ i ≠ b ∧ H.get i = some y ∧ i ∉ sib) := by
    intro i y hy
    rw [Hp.get_new, hnx] at hy
    split at hy
    · rename_i e; cases hy; exact .inl ⟨e, rfl⟩
    · rename_i hi
      rw [Hp.get_set] at hy
      split at hy
      · rename_i e; cases hy; exact .inr (.inl ⟨e, rfl⟩)
      · rename_i hib
        obtain ⟨k1, k2⟩ := dels_get hy
        exact .inr (.inr ⟨hi, hib, k1, k2⟩)
  have hpi : ∀ i p, i ≠ H.nx → (piNew π H.nx c arr.size i = some p ↔ π i = some p) := by intro i p hi; unfold piNew; rw [if_neg hi]
  have hpn : ∀ p, piNew π H.nx c arr.size H.nx = some p → p = (c, arr.size) := by intro p h; unfold piNew at h; rw [if_pos rfl] at h; cases h; rfl
  have hcs : c < w.heap.size := (hH.dom _ _ hp).2
  have hdm : ∀ b p, π b = some p → p.1 < w.heap.size := fun b p hp => (hH.dom b p hp).2
  refine ⟨he, ⟨hH.low, fun g hg => let ⟨z, hz⟩ := hH.glob g hg; ⟨z, he _ _ hz⟩, ?_, ?_, ?_⟩, fun _ _ _ => rfl, Nat.le_refl _, by show H.nx ≤ _ + 1; rw [hnx]; omega, ?_, ?_, ⟨rfl, rfl, rfl⟩, fun _ _ => Evo.refl _⟩
  · intro i y hy
    rcases inv i y hy with ⟨rfl, rfl⟩ | ⟨rfl, rfl⟩ | ⟨h1, h2, h3, h4⟩
    · refine ⟨c, arr.size, .cells arr e fz, by simp [piNew], a2, ⟨arr, fz, rfl, rfl, hn, a4, ?_, a6⟩, fun _ => a7 rfl⟩
      intro j v hj
      obtain ⟨q1, q2⟩ := rd_row hj
      obtain ⟨cv, r1, r2⟩ := a5 j v (hl j v q1 q2)
      exact ⟨cv, r1, r2.mono he⟩
    · refine ⟨c, arr.size, .cells arr e fz, he _ _ hp, a2, ⟨arr, fz, rfl, rfl, by omega, fun h => (by cases h), ?_, a6⟩, fun h => (by cases h)⟩
      intro j v hj
      obtain ⟨q1, q2⟩ := ob_eq (b := Nat.blt j m') hj
      have q1 : j < m' := by simpa [Nat.blt_eq] using q1
      obtain ⟨cv, r1, r2⟩ := a5 j v (by
        show ob (Nat.blt j m) none _ = _
        have : Nat.blt j m = true := by rw [Nat.blt_eq]; omega
        rw [this]; exact q2)
      exact ⟨cv, r1, r2.mono he⟩
    · obtain ⟨c1, z1, o1, k1, k2, k3, k4⟩ := hH.blk i y h3
      exact ⟨c1, z1, o1, he _ _ k1, k2, k3.mono he hdm, k4⟩
  · intro i p hi
    show i < _ + 1 ∧ _
    rw [hnx]
    by_cases hin : i = H.nx
    · subst hin; have := hpn p hi; subst this; exact ⟨by omega, hcs⟩
    · have := hH.dom i p ((hpi i p hin).1 hi); exact ⟨by omega, this.2⟩
  · have others : ∀ i y z', i ≠ b → H.get i = some y → i ∉ sib → π i = some (c, z') → False := fun i y z' h1 h2 h3 h4 => h3 ((hH.sep b _ i y c _ z' hb h2 hp h4 (fun e => h1 e.symm)).2 rfl).1
    intro i x i' x' c1 z1 z2 hx hx' hpi1 hpi2 hne
    rcases inv i x hx with ⟨rfl, rfl⟩ | ⟨rfl, rfl⟩ | ⟨h1, h2, h3, h4⟩
    · have := hpn _ hpi1; cases this
      rcases inv i' x' hx' with ⟨rfl, rfl⟩ | ⟨rfl, rfl⟩ | ⟨h1', h2', h3', h4'⟩
      · exact absurd rfl hne
      · exact ⟨rfl, fun _ => ⟨by simp [Blk.sib], rfl⟩⟩
      · exact (others i' x' z2 h2' h3' h4' ((hpi _ _ h1').1 hpi2)).elim
    · exact ⟨rfl, fun h => by cases h⟩
    · have hq := (hpi _ _ h1).1 hpi1
      rcases inv i' x' hx' with ⟨rfl, rfl⟩ | ⟨rfl, rfl⟩ | ⟨h1', h2', h3', h4'⟩
      · have := hpn _ hpi2; cases this
        exact (others i x z1 h2 h3 h4 hq).elim
      · have := (hpi _ _ hbn).1 hpi2
        rw [hp] at this; cases this
        exact (others i x z1 h2 h3 h4 hq).elim
      · exact hH.sep i x i' x' c1 z1 z2 h3 h3' hq ((hpi _ _ h1').1 hpi2) hne
  · intro i p hi hn
    by_cases hin : i = H.nx
    · subst hin; have := hpn p hi; subst this
      exact ⟨Nat.le_refl _, .inr ⟨b, _, _, hb, rfl, hp⟩⟩
    · rw [(hpi i p hin).1 hi] at hn; cases hn
  · intro i y hy
    rcases inv i y hy with ⟨rfl, rfl⟩ | ⟨rfl, rfl⟩ | ⟨h1, h2, h3, h4⟩
    · exact .inr (Nat.le_refl _)
    · exact .inl ⟨_, hb, fun _ => rfl⟩
    · exact .inl ⟨y, h3, id⟩
end
/-! ### Cells in a row -/
theorem rdo_get (x : Blk) : ∀ (n j i : Nat), (x.rdo j n)[i]? = if i < n then some (x.rd (j + i)) else none
  | 0, j, i => by simp [Blk.rdo]
  | n + 1, j, i => by
    unfold Blk.rdo
    cases i with
    | zero => simp
    | succ i =>
      rw [List.getElem?_cons_succ, rdo_get x n (j + 1) i]
      by_cases h : i < n
      · rw [if_pos h, if_pos (by omega), show j + 1 + i = j + (i + 1) by omega]
      · rw [if_neg h, if_neg (by omega)]
theorem rdo_length (x : Blk) : ∀ (n j : Nat), (x.rdo j n).length = n
  | 0, _ => rfl
  | n + 1, j => by unfold Blk.rdo; rw [List.length_cons, rdo_length x n (j + 1)]
section
variable {P : Program} {B : Nat} {π : Pi} {H H' : Hp} {w : World}
/-- What is loaded in a row. -/
theorem rdo_sound (hH : HRel π B H w) {b c z o cnt : Nat} {tr : T AV} {d : Option AV} {m e flo fhi : Nat} {wr : Bool} {sib : List Nat} (hb : H.get b = some (.cells tr d m e flo fhi wr sib)) (hp : π b = some (c, z)) (hz : o + cnt ≤ z) :
    ∃ vs : List Value, vs.length = cnt ∧ (∀ w', w'.heap = w.heap → ∀ n, n ≤ cnt → (loadCells ⟨c, o, none⟩ n).run P w' = .ok (vs.take n).toArray w') ∧ VOs π ((Blk.cells tr d m e flo fhi wr sib).rdo o cnt) vs ∧ ∀ v ∈ vs, v.oneCell' = true := by
  obtain ⟨c0, arr, fz, a1, a2, a3, a4, a5, a6, a7⟩ := hH.cells hb
  rw [hp] at a1; cases a1
  have hget : ∀ i, ((arr.toList.drop o).take cnt)[i]? = if i < cnt then arr[o + i]? else none := by
    intro i
    rw [List.getElem?_take, List.getElem?_drop, Array.getElem?_toList]
  have hlen : ((arr.toList.drop o).take cnt).length = cnt := by simp; omega
  refine ⟨(arr.toList.drop o).take cnt, hlen, ?_, ⟨by rw [rdo_length, hlen], ?_⟩, ?_⟩
  · intro w' hw n hn
    have hl2 : (((arr.toList.drop o).take cnt).take n).length = n := by rw [List.length_take, hlen]; omega
    have := run_loadCells_list (P := P) w' ⟨c, o, none⟩ (((arr.toList.drop o).take cnt).take n) (by
      intro j v hj
      rw [List.getElem?_take] at hj
      split at hj
      · rw [hget] at hj
        split at hj
        · rw [Addr.add_lit']
          simp [World.cell?, hw, a2, hj]
        · cases hj
      · cases hj)
    rw [hl2] at this
    exact this
  · intro i v hi
    rw [rdo_get] at hi
    rw [hget]
    split at hi
    · rename_i hlt
      rw [if_pos hlt]
      exact a5 _ v (by simpa using hi)
    · cases hi
  · intro v hv
    obtain ⟨i, hi⟩ := List.mem_iff_getElem?.1 hv
    rw [hget] at hi
    split at hi
    · exact a6 _ _ hi
    · cases hi
theorem strBytes_get (l : List UInt8) : ∀ k, k ≤ l.length → (strBytes l.length (natOf l) k) = (l.drop (l.length - k)).map fun b => b.toNat := by
  intro k
  induction k with
  | zero => intro _; rw [Nat.sub_zero, List.drop_length]; rfl
  | succ k ih =>
    intro hk
    have hlt : l.length - (k + 1) < l.length := by omega
    rw [List.drop_eq_getElem_cons hlt]
    unfold strBytes
    have hb : strAt l.length (natOf l) (l.length - (k + 1)) = (l[l.length - (k + 1)]).toNat := by
      rw [natOf_get l _ hlt]; rfl
    rw [hb, show l.length - (k + 1) + 1 = l.length - k by omega, ih (by omega)]
    rfl
theorem str_cells (s : ByteArray) : VOs π ((strBytes s.size (natOf s.data.toList) s.size).map fun b => some (byteA b)) (s.data.map fun b => Value.int .u8 b.toNat).toList := by
  have h := strBytes_get s.data.toList s.data.toList.length (Nat.le_refl _)
  rw [Nat.sub_self, List.drop_zero] at h
  have hlen : s.data.toList.length = s.size := by simp
  rw [hlen] at h
  rw [h, Array.toList_map]
  refine ⟨by simp, fun i v hv => ?_⟩
  simp only [List.map_map, List.getElem?_map] at hv ⊢
  cases hg : s.data.toList[i]? with
  | none => rw [hg] at hv; cases hv
  | some b =>
    rw [hg] at hv
    have : byteA b.toNat = v := by simpa using hv
    subst this
    exact ⟨_, rfl, .int _ _⟩
end
end Go.Proofs.YtmoejaloachlkaaGreatDoor.Ev
