/- The evaluator's soundness, 28: functions without a body. -/
import Derived.Test.YtmoejaloachlkaaGreatDoorFv
namespace Go.Proofs.YtmoejaloachlkaaGreatDoor.Ev
open Go Go.RowKit

section
variable {P : Program} {B : Nat} {π : Pi} {H H' : Hp} {w : World} {v : AV}
theorem extOk_next (hX : extOk P = true) {f : Nat} {fn : Func} (hf : P.funcs[f]? = some fn) (hb : fn.body = none) (hn : extName fn.name = true) : Extern.findNext fn = none := by
  have hm : fn ∈ P.funcs.toList := by
    rw [← Array.getElem?_toList] at hf
    exact List.mem_of_getElem? hf
  have := List.all_eq_true.1 hX fn hm
  rw [hb, hn] at this
  simpa using this
theorem run_ext (hX : extOk P = true) {f : Nat} {fn : Func} (hf : P.funcs[f]? = some fn) (hb : fn.body = none) (hn : extName fn.name = true) {e : Array Value → Sem Value} (he : Extern.find fn = some e) (args : Array Value) :
    (callFunc f args).run P w = ((e args).run P w).andThen fun v w' => .ok (.value v) w' := by
  refine run_callFunc_extern hf ?_ (by rw [hb]; rfl) (extOk_next hX hf hb hn) he args w
  unfold extName at hn
  simp only [Bool.or_eq_true, beq_iff_eq] at hn
  rcases hn with (((((h | h) | h) | h) | h) | h) | h <;> rw [h] <;> rfl
theorem toUInt8_nat (c : Nat) : ((c : Int).toNat.toUInt8).toNat = c % 256 := by simp
theorem beq_byte (b : UInt8) (c : Nat) : (b == (c : Int).toNat.toUInt8) = Nat.beq b.toNat (c % 256) := by
  rw [← toUInt8_nat c]
  rw [Bool.eq_iff_iff, Nat.beq_eq, beq_iff_eq, UInt8.toNat_inj]
theorem idxB_sound (l : List UInt8) (c : Nat) : ∀ k, k ≤ l.length → (match idxB l.length (natOf l) (c % 256) k with
    | some i => (i : Int)
    | none => -1) = (if Lib.indexByte (l.drop (l.length - k)) ((c : Int).toNat.toUInt8) = -1 then -1 else Lib.indexByte (l.drop (l.length - k)) ((c : Int).toNat.toUInt8) + ((l.length - k : Nat) : Int)) := by
  intro k
  induction k with
  | zero => intro _; rw [Nat.sub_zero, List.drop_length]; rfl
  | succ k ih =>
    intro hk
    have hlt : l.length - (k + 1) < l.length := by omega
    rw [List.drop_eq_getElem_cons hlt]
    unfold idxB Lib.indexByte
    have hb : strAt l.length (natOf l) (l.length - (k + 1)) = (l[l.length - (k + 1)]).toNat := by
      rw [natOf_get l _ hlt]; rfl
    rw [hb, beq_byte]
    have e1 : l.length - (k + 1) + 1 = l.length - k := by omega
    rw [e1]
    cases hq : Nat.beq (l[l.length - (k + 1)]).toNat (c % 256) with
    | true => rw [cond_true, if_pos rfl]; simp
    | false =>
      rw [cond_false]
      simp only [Bool.false_eq_true, if_false]
      rw [ih (by omega)]
      have hge := Lib.indexByte_ge (l.drop (l.length - k)) ((c : Int).toNat.toUInt8)
      generalize Lib.indexByte (l.drop (l.length - k)) ((c : Int).toNat.toUInt8) = X at hge ⊢
      by_cases hm : X = -1
      · subst hm; simp
      · have : (X == -1) = false := by simpa using hm
        rw [if_neg hm, this]
        simp only [Bool.false_eq_true, if_false]
        rw [if_neg (by omega)]
        omega
theorem cntB_sound (l : List UInt8) (c : Nat) : ∀ k, k ≤ l.length → cntB l.length (natOf l) (c % 256) k = Lib.countByte (l.drop (l.length - k)) ((c : Int).toNat.toUInt8) := by
  intro k
  induction k with
  | zero => intro _; rw [Nat.sub_zero, List.drop_length]; rfl
  | succ k ih =>
    intro hk
    have hlt : l.length - (k + 1) < l.length := by omega
    rw [List.drop_eq_getElem_cons hlt]
    unfold cntB Lib.countByte
    have hb : strAt l.length (natOf l) (l.length - (k + 1)) = (l[l.length - (k + 1)]).toNat := by
      rw [natOf_get l _ hlt]; rfl
    rw [hb, List.count_cons, beq_byte, show l.length - (k + 1) + 1 = l.length - k by omega, ih (by omega)]
    unfold Lib.countByte
    cases Nat.beq (l[l.length - (k + 1)]).toNat (c % 256) <;> simp <;> omega
theorem cmpB_sound : ∀ (l m : List UInt8), Lib.compareBytes l m = (bif Op.bytesLess l m then -1 else bif Op.bytesLess m l then 1 else 0)
  | [], [] => rfl
  | [], _ :: _ => rfl
  | _ :: _, [] => rfl
  | a :: l, b :: m => by
    have ih := cmpB_sound l m
    unfold Lib.compareBytes
    simp only [Op.bytesLess]
    by_cases h1 : a < b
    · simp [h1]
    · by_cases h2 : b < a
      · have hne : a ≠ b := by intro e; subst e; exact UInt8.lt_irrefl _ h2
        have hb1 : (a == b) = false := by simpa using hne
        have hb2 : (b == a) = false := by simpa using fun e => hne e.symm
        simp [h1, h2, hb1, hb2]
      · have : a = b := UInt8.le_antisymm (UInt8.not_lt.1 h2) (UInt8.not_lt.1 h1)
        subst this
        simp [h1, ih]
theorem digits_one : ∀ (n t : Nat) (acc : Array Value), (∀ v ∈ acc.toList, v.oneCell' = true) → ∀ v ∈ (Extern.BytealgMakeNoZero.digits n t acc).toList, v.oneCell' = true
  | 0, _, acc, h => h
  | n + 1, t, acc, h => by
    rw [Extern.BytealgMakeNoZero.digits]
    refine digits_one n _ _ ?_
    intro v hv
    rw [Array.toList_push] at hv
    rcases List.mem_append.1 hv with hv | hv
    · exact h v hv
    · simp at hv; subst hv; rfl
theorem run_clone {t : TypeId} {m c : Nat} {l : Array MapEntry} (h : w.heap[m]? = some (.map l c)) : (Extern.MapsClone.clone #[.iface t (.map (some m))]).run P w = .ok (.iface t (.map (some w.heap.size))) (w.alloc (.map l c)) := by
  have hdef : Extern.MapsClone.clone #[.iface t (.map (some m))] = (do
      let .map entries clock ← getObj m | stuck "maps.clone: a map expected"
      pure (.iface t (.map (some (← newObj (.map entries clock)))))) := rfl
  rw [hdef, Sem.run_bind, run_getObj_map h, Result.andThen_ok]
  rfl
theorem run_add64 (k1 k2 k3 : IntKind) (x y c : Nat) (hc : c ≤ 1) : (do
      let (x, y, c) ← Extern.MathBitsCarry.three "Add64" #[.int k1 (Int.ofNat x), .int k2 (Int.ofNat y), .int k3 (Int.ofNat c)]
      pure (Extern.MathBitsCarry.pair ((x + y + c) % Extern.MathBitsCarry.m64) ((x + y + c) / Extern.MathBitsCarry.m64)) : Sem Value).run P w = .ok (Extern.MathBitsCarry.pair ((x + y + c) % 18446744073709551616) ((x + y + c) / 18446744073709551616)) w := by
  have h3 : (Extern.MathBitsCarry.three "Add64" #[.int k1 (Int.ofNat x), .int k2 (Int.ofNat y), .int k3 (Int.ofNat c)]).run P w = .ok (x, y, c) w := by
    have hdef : Extern.MathBitsCarry.three "Add64" #[.int k1 (Int.ofNat x), .int k2 (Int.ofNat y), .int k3 (Int.ofNat c)] = (do
        let c := (← asInt (.int k3 (Int.ofNat c))).toNat
        if c > 1 then unsupported (.noEntry ("extern/math/bits." ++ "Add64" ++ ": a carry that is neither 0 nor 1"))
        pure ((← asInt (.int k1 (Int.ofNat x))).toNat, (← asInt (.int k2 (Int.ofNat y))).toNat, c)) := rfl
    have hi : ∀ k n, (asInt (.int k (Int.ofNat n))).run P w = .ok (Int.ofNat n) w := fun _ _ => rfl
    rw [hdef, Sem.run_bind, hi, Result.andThen_ok]
    have hc2 : ¬ (Int.ofNat c).toNat > 1 := by have : (Int.ofNat c).toNat = c := rfl; omega
    simp only [hc2, if_false, Sem.run_bind, hi, Result.andThen_ok, Sem.run_pure]
    rfl
  rw [Sem.run_bind, h3]
  rfl
theorem run_mnz {e t : TypeId} {n : Nat} (hnm : n < 16777216) {ps rs : Array TypeId} (ht : rs[0]? = some t) (he : elemSl P t = some e) : ∃ (cap : Nat) (w1 : World), w1.heap = w.heap ∧ (w1.os = w.os ∧ w1.tape = w.tape ∧ w1.output = w.output) ∧ n ≤ cap ∧ cap < big63 ∧ ∃ t', (Extern.BytealgMakeNoZero.makeNoZero ps rs #[.int .i64 (Int.ofNat n)]).run P w = .ok (.slice (some ⟨w.heap.size, 0, none⟩) n cap) (w1.alloc (.cells (Extern.BytealgMakeNoZero.digits cap t' #[]) e)) := by
  have hdef : ∀ ps rs, Extern.BytealgMakeNoZero.makeNoZero ps rs #[.int .i64 (Int.ofNat n)] = (do
      let some t := rs[0]? | stuck "bytealg.MakeNoZero: no result type"
      let .slice elem ← underlying t | stuck "bytealg.MakeNoZero: slice type expected"
      if (Int.ofNat n) < 0 || (Int.ofNat n) > 2 ^ 48 then runtimePanic (.error "makeslice: len out of range")
      let cap ← choose (.appendCap (Int.ofNat n).toNat 0 elem)
      askRoom cap
      let bytes ← choose (.extern "internal/bytealg.MakeNoZero.bytes" 0)
      let a ← newRow elem (Extern.BytealgMakeNoZero.digits cap bytes #[])
      pure (.slice (some a) (Int.ofNat n).toNat cap)) := fun _ _ => rfl
  have hroom : ∀ n w, (askRoom n).run P w = .ok () w := by intro n w; unfold askRoom; split <;> rfl
  refine ⟨n + w.tape w.drawn (.appendCap n 0 e) % (2 ^ 63 - n), { w with drawn := w.drawn + 1 + 1 }, rfl, ⟨rfl, rfl, rfl⟩, Nat.le_add_right _ _, ?_, w.tape (w.drawn + 1) (.extern "internal/bytealg.MakeNoZero.bytes" 0), ?_⟩
  · have h0 : 0 < 2 ^ 63 - n := by
      have : (16777216 : Nat) < 2 ^ 63 := by decide
      omega
    have h1 := Nat.mod_lt (w.tape w.drawn (.appendCap n 0 e)) h0
    have h2 : (2 : Nat) ^ 63 = 9223372036854775808 := rfl
    generalize hM : (2 : Nat) ^ 63 - n = M at *
    have h3 : M + n = 9223372036854775808 := by omega
    unfold big63
    omega
  · rw [hdef]
    have q1 : decide ((Int.ofNat n) < 0) = false := decide_eq_false (by simp)
    have hp48 : (2 : Int) ^ 48 = 281474976710656 := rfl
    have q2 : decide ((Int.ofNat n) > 2 ^ 48) = false := decide_eq_false (by rw [hp48]; simp; omega)
    simp only [ht, Sem.run_bind, run_underlying (elemSl_eq he), Result.andThen_ok, q1, q2, Bool.or_self, Bool.false_eq_true, if_false]
    have c1 : (choose (.appendCap (Int.ofNat n).toNat 0 e)).run P w = .ok (n + w.tape w.drawn (.appendCap n 0 e) % (2 ^ 63 - n)) { w with drawn := w.drawn + 1 } := by
      simp [choose, Sem.run, Question.forced, Question.cut]
    simp only [Sem.run_bind, c1, Result.andThen_ok, hroom]
    have c2 : (choose (.extern "internal/bytealg.MakeNoZero.bytes" 0)).run P { w with drawn := w.drawn + 1 } = .ok (w.tape (w.drawn + 1) (.extern "internal/bytealg.MakeNoZero.bytes" 0)) { w with drawn := w.drawn + 1 + 1 } := by
      simp [choose, Sem.run, Question.forced, Question.cut]
      exact ⟨rfl, rfl, rfl⟩
    simp only [Sem.run_bind, c2, Result.andThen_ok, newRow, newObj, Sem.run, Sem.run_pure]
    rfl
theorem ext_run (hX : extOk P = true) {f : Nat} {fn : Func} (hf : P.funcs[f]? = some fn) (hb : fn.body = none) {args : List AV} {cargs : Array Value} (hH : HRel π B H w) (ha : VRs π args cargs.toList) : ORun P B π H w (callFunc f cargs) (ext P fn args H) := by
  unfold ext
  have val : ∀ {v : AV} {cv : Value} {e : Array Value → Sem Value}, extName fn.name = true → Extern.find fn = some e → (e cargs).run P w = .ok cv w → VR π v cv → ORun P B π H w (callFunc f cargs) (.val v H) := by
    intro v cv e hn he hr hv
    exact ⟨π, w, cv, .value cv, by rw [run_ext hX hf hb hn he, hr]; rfl, .inl rfl, hv, .refl hH⟩
  have arr1 : ∀ {x : Value}, cargs.toList = [x] → cargs = #[x] := fun h => by apply Array.ext'; rw [h]
  have arr2 : ∀ {x y : Value}, cargs.toList = [x, y] → cargs = #[x, y] := fun h => by apply Array.ext'; rw [h]
  by_cases h1 : fn.name = "internal/bytealg.IndexByteString"
  · have hn : extName fn.name = true := by rw [h1]; rfl
    rw [h1]
    show ORun P B π H w _ (match (generalizing := false) args with
      | [.str n v, .int .u8 (.ofNat c)] => (match (generalizing := false) idxB n v (c % 256) n with
        | some i => OR.val (.int .i64 (.ofNat i)) H
        | none => .val (.int .i64 (-1)) H)
      | _ => .bad "IndexByteString")
    split
    · rename_i n v c
      generalize hcl : cargs.toList = cl at ha
      cases ha with
      | cons _ c1 _ _ q1 q2 =>
        cases q2 with
        | cons _ c2 _ _ q2 q3 =>
          cases q3
          cases q1 with
          | str s =>
            cases q2
            have hca := arr2 hcl
            have hs := idxB_sound s.data.toList c s.data.toList.length (Nat.le_refl _)
            rw [Nat.sub_self, List.drop_zero] at hs
            have hlen : s.data.toList.length = s.size := by simp
            rw [hlen] at hs
            have hr : ∀ i : Int, (match idxB s.size (natOf s.data.toList) (c % 256) s.size with
                | some i => (i : Int)
                | none => -1) = i → (Extern.BytealgIndexByte.indexByte cargs).run P w = .ok (.int .i64 i) w := by
              intro i hi
              rw [hca]
              show (Extern.BytealgIndexByte.indexByte #[.string s, .int .u8 (c : Int)]).run P w = _
              rw [Lib.run_indexByteString, ← hi, hs]
              have hge := Lib.indexByte_ge s.data.toList ((c : Int).toNat.toUInt8)
              split
              · rename_i e; rw [e]
              · simp
            cases hi : idxB s.size (natOf s.data.toList) (c % 256) s.size with
            | none => rw [hi] at hr; exact val hn (find_indexByte h1) (hr (-1) rfl) (.int _ _)
            | some i => rw [hi] at hr; exact val hn (find_indexByte h1) (hr i rfl) (.int _ _)
    · trivial
  by_cases h2 : fn.name = "internal/bytealg.CountString"
  · have hn : extName fn.name = true := by rw [h2]; rfl
    rw [h2]
    show ORun P B π H w _ (match (generalizing := false) args with
      | [.str n v, .int .u8 (.ofNat c)] => OR.val (.int .i64 (.ofNat (cntB n v (c % 256) n))) H
      | _ => .bad "CountString")
    split
    · rename_i n v c
      generalize hcl : cargs.toList = cl at ha
      cases ha with
      | cons _ c1 _ _ q1 q2 =>
        cases q2 with
        | cons _ c2 _ _ q2 q3 =>
          cases q3
          cases q1 with
          | str s =>
            cases q2
            have hca := arr2 hcl
            have hs := cntB_sound s.data.toList c s.data.toList.length (Nat.le_refl _)
            rw [Nat.sub_self, List.drop_zero] at hs
            have hlen : s.data.toList.length = s.size := by simp
            rw [hlen] at hs
            refine val hn (find_count h2) (cv := .int .i64 (Lib.countByte s.data.toList ((c : Int).toNat.toUInt8))) ?_ ?_
            · rw [hca]; exact Lib.run_countString s (c : Int) w
            · rw [hs]; exact .int _ _
    · trivial
  by_cases h3 : fn.name = "internal/bytealg.abigen_runtime_cmpstring"
  · have hn : extName fn.name = true := by rw [h3]; rfl
    rw [h3]
    show ORun P B π H w _ (match (generalizing := false) args with
      | [.str n v, .str m u] => OR.val (.int .i64 (bif strLt n v m u then -1 else bif strLt m u n v then 1 else 0)) H
      | _ => .bad "cmpstring")
    split
    · rename_i n v m u
      generalize hcl : cargs.toList = cl at ha
      cases ha with
      | cons _ c1 _ _ q1 q2 =>
        cases q2 with
        | cons _ c2 _ _ q2 q3 =>
          cases q3
          cases q1 with
          | str s =>
            cases q2 with
            | str s' =>
              have hca := arr2 hcl
              refine val hn (find_cmp h3) (cv := .int .i64 (Lib.compareBytes s.data.toList s'.data.toList)) ?_ ?_
              · rw [hca]; exact Lib.run_compareString s s' w
              · rw [cmpB_sound, bytesLess_nat, bytesLess_nat]
                have e1 : s.data.toList.length = s.size := by simp
                have e2 : s'.data.toList.length = s'.size := by simp
                rw [e1, e2]; exact .int _ _
    · trivial
  by_cases h4 : fn.name = "internal/abi.NoEscape"
  · have hn : extName fn.name = true := by rw [h4]; rfl
    rw [h4]
    show ORun P B π H w _ (match (generalizing := false) args with
      | [x] => OR.val x H
      | _ => .bad "NoEscape")
    split
    · rename_i x
      generalize hcl : cargs.toList = cl at ha
      cases ha with
      | cons _ c1 _ _ q1 q2 =>
        cases q2
        exact val hn (find_noEscape h4) (cv := c1) (by rw [arr1 hcl]; rfl) q1
    · trivial
  by_cases h5 : fn.name = "maps.clone"
  · have hn : extName fn.name = true := by rw [h5]; rfl
    rw [h5]
    show ORun P B π H w _ (match (generalizing := false) args with
      | [.ifc t (.map b)] => (match (generalizing := false) H.get b with
        | some (.map es c) => OR.val (.ifc t (.map H.nx)) (H.new (.map es c))
        | _ => .bad "maps.clone")
      | _ => .bad "maps.clone")
    split
    · rename_i t b
      split
      · rename_i es c hmb
        generalize hcl : cargs.toList = cl at ha
        cases ha with
        | cons _ c1 _ _ q1 q2 =>
          cases q2
          cases q1 with
          | ifc _ _ v' q1 =>
            cases q1 with
            | map _ m z hp =>
              obtain ⟨mm, z', l, es', a1, a2, a3, a4, a5, a6, a7, a8⟩ := hH.map hmb
              rw [hp] at a1; cases a1
              have he := piNew_ext (H := H) (hH.fresh (Nat.le_refl _)) w.heap.size 0
              refine ⟨piNew π H.nx w.heap.size 0, w.alloc (.map l c), .iface t (.map (some w.heap.size)), .value (.iface t (.map (some w.heap.size))), ?_, .inl rfl, .ifc _ _ _ (.map _ _ 0 (by simp [piNew])), Step.alloc hH _ 0 _ ?_⟩
              · rw [run_ext hX hf hb hn (find_clone h5), arr1 hcl]
                rw [run_clone a2]
                rfl
              · exact BR_map a3 (a4.mono he) a5 a6 a7 a8 _
      · trivial
    · trivial
  by_cases h6 : fn.name = "math/bits.Add64"
  · have hn : extName fn.name = true := by rw [h6]; rfl
    rw [h6]
    show ORun P B π H w _ (match (generalizing := false) args with
      | [.int _ (.ofNat x), .int _ (.ofNat y), .int _ (.ofNat c)] =>
        bif Nat.ble c 1 then OR.val (.tup [.int .u64 (.ofNat ((x + y + c) % 18446744073709551616)), .int .u64 (.ofNat ((x + y + c) / 18446744073709551616))]) H else .bad "Add64"
      | _ => .bad "Add64")
    split
    · rename_i k1 x k2 y k3 c
      cases hc : Nat.ble c 1 with
      | false => trivial
      | true =>
        rw [cond_true]
        have hc1 := Nat.le_of_ble_eq_true hc
        generalize hcl : cargs.toList = cl at ha
        cases ha with
        | cons _ c1 _ _ q1 q2 =>
          cases q2 with
          | cons _ c2 _ _ q2 q3 =>
            cases q3 with
            | cons _ c3 _ _ q3 q4 =>
              cases q4
              cases q1; cases q2; cases q3
              have hca : cargs = #[.int k1 (Int.ofNat x), .int k2 (Int.ofNat y), .int k3 (Int.ofNat c)] := by apply Array.ext'; rw [hcl]
              have hfind : ∃ e, Extern.find fn = some e ∧ ∀ args, e args = (do
                  let (x, y, c) ← Extern.MathBitsCarry.three "Add64" args
                  pure (Extern.MathBitsCarry.pair ((x + y + c) % Extern.MathBitsCarry.m64) ((x + y + c) / Extern.MathBitsCarry.m64))) := by
                refine ⟨fun args => (do
                  let (x, y, c) ← Extern.MathBitsCarry.three "Add64" args
                  pure (Extern.MathBitsCarry.pair ((x + y + c) % Extern.MathBitsCarry.m64) ((x + y + c) / Extern.MathBitsCarry.m64))), ?_, fun _ => rfl⟩
                unfold Extern.find; rw [h6]; kernel_rfl
              obtain ⟨e, he1, he2⟩ := hfind
              refine val hn he1 (cv := Extern.MathBitsCarry.pair ((x + y + c) % 18446744073709551616) ((x + y + c) / 18446744073709551616)) ?_ ?_
              · rw [he2, hca]
                exact run_add64 k1 k2 k3 x y c hc1
              · exact .tup _ _ (.cons _ _ _ _ (.int _ _) (.cons _ _ _ _ (.int _ _) .nil))
    · trivial
  by_cases h7 : fn.name = "internal/bytealg.MakeNoZero"
  · have hn : extName fn.name = true := by rw [h7]; rfl
    rw [h7]
    show ORun P B π H w _ (match (generalizing := false) args, fn.resultTypes[0]? with
      | [.int .i64 (.ofNat n)], some t => (match (generalizing := false) elemSl P t with
        | some e => bif Nat.blt n maxNeed then OR.val (.sl H.nx 0 n n false 1) (H.new (.cells .e none n e 0 0 true [])) else .bad "MakeNoZero"
        | none => .bad "MakeNoZero")
      | _, _ => .bad "MakeNoZero")
    split
    · rename_i n t ht
      split
      · rename_i e he
        cases hnn : Nat.blt n maxNeed with
        | false => trivial
        | true =>
          rw [cond_true]
          have hnm : n < 16777216 := by simpa [Nat.blt_eq, maxNeed] using hnn
          generalize hcl : cargs.toList = cl at ha
          cases ha with
          | cons _ c1 _ _ q1 q2 =>
            cases q2
            cases q1
            have hca : cargs = #[.int .i64 (Int.ofNat n)] := arr1 hcl
            obtain ⟨cap, w1, g1, g2, g3, g4, t', g5⟩ := run_mnz (P := P) (w := w) (ps := fn.params) hnm ht he
            rw [← hca] at g5
            have he2 := piNew_ext (H := H) (hH.fresh (Nat.le_refl _)) w1.heap.size cap
            have hst := Step.alloc (hH.same g1) (.cells .e none n e 0 0 true []) cap (.cells (Extern.BytealgMakeNoZero.digits cap t' #[]) e) ⟨_, (0, 0), rfl, by rw [Lib.size_digits]; simp, g3, fun _ => ⟨Nat.le_refl _, fun j a b => by simp at b⟩, ?_, ?_⟩
            · refine ⟨_, _, .slice (some ⟨w.heap.size, 0, none⟩) n cap, _, ?_, .inl rfl, ?_, Step.trans hH (Step.same hH g1 g2) hst⟩
              · rw [run_ext hX hf hb hn (find_makeNoZero h7), g5]; rfl
              · exact .sl _ _ _ _ _ _ w.heap.size cap cap (by simp [piNew, g1]) (Nat.le_refl _) g3 (fun h => by cases h) (by simp) g4
            · intro j v hj
              exfalso
              obtain ⟨_, h8⟩ := ob_eq (b := Nat.blt j n) hj
              have h8 : oo ((T.e : T AV).get (Pos.of j)) none some = some v := h8
              rw [T.get_e] at h8; cases h8
            · intro j cv hj
              rw [← Array.getElem?_toList] at hj
              exact digits_one _ _ _ (fun v hv => by cases hv) cv (List.mem_of_getElem? hj)
      · trivial
    · trivial
  have no : ∀ s : String, fn.name ≠ s → (fn.name == s) = false := fun s h => by simpa using h
  rw [no _ h1, no _ h2, no _ h3, no _ h4, no _ h5, no _ h6, no _ h7]
  trivial
end
end Go.Proofs.YtmoejaloachlkaaGreatDoor.Ev
