/- The evaluator's soundness, 13: how a call leaves; calls. -/
import Derived.Test.YtmoejaloachlkaaGreatDoorFg
namespace Go.Proofs.YtmoejaloachlkaaGreatDoor.Ev
open Go Go.RowKit

section
variable {P : Program} {ev : CodeF}
/-- The mode in which a frame leaves. -/
def MR (π : Pi) : Mode → FrameMode → Prop
  | .ret, .returning => True
  | .pan ch, .panicking c => PRs π ch c
  | _, _ => False
theorem MR.mono {π π' : Pi} (hE : PExt π π') {m : Mode} {u : FrameMode} (h : MR π m u) : MR π' m u := by
  cases m <;> cases u <;> first | exact h.elim | trivial | exact PRs.mono hE h
theorem MR.rc {π : Pi} {m : Mode} {u : FrameMode} (h : MR π m u) : RCR π m.rc u := by
  cases m <;> cases u <;> first | exact h.elim | trivial | exact h
theorem PRs.noexit {π : Pi} {l : List PE} {l' : List PanicEntry} (h : PRs π l l') : l'.dropWhile (!·.goexit) = [] := by
  induction h with
  | nil => rfl
  | cons v v' r l l' h _ ih => simp [ih]
theorem settle_MR {π : Pi} {rc : RC} {u : FrameMode} (h : RCR π rc u) : MR π (settleA rc) (settle u) := by
  cases rc with
  | no => exact h.elim
  | ret => cases u <;> first | exact h.elim | trivial
  | pan ch =>
    cases u with
    | panicking c =>
      have h : PRs π ch c := h
      cases h with
      | nil => exact PRs.nil
      | cons v v' r l l' hv hl =>
        cases r with
        | true =>
          show MR π .ret (settle _)
          unfold settle
          simp only [hl.noexit]
          trivial
        | false => exact PRs.cons _ _ _ _ _ hv hl
    | _ => exact h.elim
theorem raised_MR {π : Pi} {rc : RC} {u : FrameMode} (h : RCR π rc u) {ch : List PE} {c : List PanicEntry} (hc : PRs π ch c) : MR π (raisedA rc ch) (raised u c) := by
  cases rc with
  | no => exact h.elim
  | ret => cases u <;> first | exact h.elim | exact hc
  | pan ch' =>
    cases u with
    | panicking c' => exact PRs.append hc h
    | _ => exact h.elim
theorem enter_run {f : FuncId} {fd : Func} {c : Code} (hf : P.funcs[f]? = some fd) (hb : fd.body = some c) (hn : (fd.name == "runtime.NumGoroutine") = false) (cap as : Array Value) (w : World) : (invoke (.fn (.func f) cap) as).run P w = .ok (.enter f (as ++ cap)) w := by
  unfold invoke callFunc
  have hp : (program).run P w = .ok P w := rfl
  simp only [Sem.run_bind, hp, Result.andThen_ok, hf, hn, Bool.false_eq_true, if_false, hb, Option.isNone_some, Sem.run_pure]
theorem leaveA_sound (hO : OpsOk P) (hev : EvOk P ev) {fn : Func} {r : T AV} {tmps : Array Value} {B : Nat} {π0 : Pi} {h0 : Hp} {w0 : World} {res : CR} (hH0 : HRel π0 B h0 w0) (m : Nat) : ∀ (n : Nat) (ds : List AD) (md : Mode) (h : Hp) (π : Pi) (w : World) (ds' : List Deferred) (u : FrameMode),
    (leaveA P ev fn r n ds md h).ok → HRel π B h w → RR π r tmps → DRs π ds ds' → MR π md u → Step B π0 h0 w0 π h w → Le res (leaveA P ev fn r n ds md h) → LeavesInM (Fw none) m P fn tmps (COut B π0 h0 w0 res) ds' u w := by
  intro n
  induction n with
  | zero => intro ds md h π w ds' u hok; exact hok.elim
  | succ n ih =>
    intro ds md h π w ds' u hok hH hR hD hM hs hle
    cases hD with
    | nil =>
      cases md with
      | ret =>
        cases u with
        | returning =>
          have hok : (oo (resF P fn r h) (.bad "results") fun v => CR.ret v h).ok := hok
          have hle : Le res (oo (resF P fn r h) (.bad "results") fun v => CR.ret v h) := hle
          cases hr : resF P fn r h with
          | none => rw [hr] at hok; exact hok.elim
          | some v =>
            rw [hr] at hok hle
            obtain ⟨cv, a1, a2⟩ := resF_sound (P := P) hH hR hr
            refine ⟨cv, a1, ?_⟩
            by_cases hres : res.ok
            · exact (hle hres).2 _ _ _ _ _ _ ⟨π, cv, rfl, a2, hs⟩
            · cases res with
              | bad s => trivial
              | ret => exact (hres trivial).elim
              | pan => exact (hres trivial).elim
        | _ => exact hM.elim
      | pan ch =>
        cases u with
        | panicking c =>
          have hle : Le res (.pan ch h) := hle
          show COut B π0 h0 w0 res (.panicked c) w
          by_cases hres : res.ok
          · exact (hle hres).2 _ _ _ _ _ _ ⟨π, c, rfl, hM, hs⟩
          · cases res with
            | bad s => trivial
            | ret => exact (hres trivial).elim
            | pan => exact (hres trivial).elim
        | _ => exact hM.elim
    | cons d d' ds ds' hd hds =>
      have hun : u ≠ .run := by rintro rfl; cases md <;> exact hM.elim
      refine ⟨hun, ?_⟩
      cases hd with
      | coll b c z hp =>
        left
        unfold leaveA at hok hle
        cases hb : h.get b with
        | none => rw [hb] at hok; exact hok.elim
        | some x =>
          rw [hb] at hok hle
          cases x with
          | dfr l =>
            cases l with
            | none => exact hok.elim
            | some l =>
              cases l with
              | cons _ _ => exact hok.elim
              | nil =>
                obtain ⟨c', z', o, p1, p2, ⟨l', rfl, p4⟩, p5⟩ := hH.blk b _ hb
                rw [hp] at p1; cases p1
                cases l' with
                | none => exact p4.elim
                | some l' =>
                  have p4 : DRs π [] l' := p4
                  cases p4
                  have hlt : c < w.heap.size := by
                    rcases Nat.lt_or_ge c w.heap.size with k | k
                    · exact k
                    · simp [Array.getElem?_eq_none k] at p2
                  have hst : Step B π h w π (h.set b (.dfr none)) { w with heap := w.heap.setIfInBounds c (.deferred none) } := by
                    exact (objSet_step (P := P) (x' := .dfr none) hH hb rfl rfl hp p2 (by simp) (Evo.noMap (by simp)) ⟨none, rfl, trivial⟩).2
                  refine ⟨c, { w with heap := w.heap.setIfInBounds c (.deferred none) }, rfl, ?_, ?_⟩
                  · have hg : (getObj c).run P w = .ok (.deferred (some [])) w := by simp [getObj, Sem.run, p2]
                    unfold Instr.takeDeferred
                    simp only [Sem.run_bind, hg, Result.andThen_ok]
                    have hset : (setObj c (.deferred none)).run P w = .ok () { w with heap := w.heap.setIfInBounds c (.deferred none) } := by simp [setObj, Sem.run, p2]
                    simp only [Sem.run_bind, hset, Result.andThen_ok, Sem.run_pure]
                  · exact ih ds md _ π _ ds' u hok hst.rel hR hds hM (Step.trans hH0 hs hst) hle
          | _ => exact hok.elim
      | fn f args cap as hargs =>
        right
        unfold leaveA at hok hle
        cases hf : P.funcs[f]? with
        | none => rw [hf] at hok; exact hok.elim
        | some fd =>
          rw [hf] at hok hle
          simp only at hok hle
          cases hb : fd.body with
          | none => rw [hb] at hok; exact hok.elim
          | some c =>
            rw [hb] at hok hle
            simp only at hok hle
            cases hc : (codeOk fd.ntmps c && Nat.ble args.length fd.ntmps && !(fd.name == "runtime.NumGoroutine")) with
            | false => rw [hc] at hok; exact hok.elim
            | true =>
              rw [hc, cond_true] at hok hle
              simp only [Bool.and_eq_true, Nat.ble_eq, Bool.not_eq_true'] at hc
              refine ⟨fun hx => by simp [Fw, Fence.wide] at hx, .func f, cap, f, as ++ cap, rfl, enter_run hf hb hc.2 cap as w, fun _ _ => trivial, ?_⟩
              refine callsDIn_of_wpSIn hf hb trivial ?_
              intro c0 cs hu
              have hinit := start_St (rc := md.rc) (rd := none) hargs hc.1.2
              have hmu : ({ c0 with mode := u } : Frame) = c0 := by subst hu; rfl
              have := codeD_sound hO hev c (regsOf args 0 .e) h (frameQ fd md.rc) _ hok hc.1.1 rfl B π _ w c0 cs u (m - 1) hH hinit hM.rc
              rw [hmu] at this
              intro b k0 hk1 hk2 hk3 hk4
              obtain ⟨e, a', cs', w', hl, hp, harr⟩ := this b k0 hk1 hk2 hk3 hk4
              refine ⟨e, a', cs', w', hl, ?_, harr⟩
              obtain ⟨x1, r', h', q', π', u', a1, a2, a3, a4, a5, a6, a7⟩ := hp
              have hk := (a7 hok).1
              have hle' := hle.trans a7
              cases hqd : q'.df with
              | cons d1 l1 => simp only [hqd] at hk; exact hk.elim
              | nil =>
                have hdf : a'.defers = [] := by
                  have hd1 := a4.df
                  rw [hqd] at hd1
                  generalize a'.defers = l1 at hd1
                  cases hd1; rfl
                have done : (match resF P fd r' h' with
                    | some _ => leaveA P ev fn r n ds (settleA q'.rc) h'
                    | none => .bad "results").ok → Le res (match resF P fd r' h' with
                    | some _ => leaveA P ev fn r n ds (settleA q'.rc) h'
                    | none => .bad "results") → ∃ v, (results fd a'.tmps).run P w' = .ok v w' ∧ LeavesInM (Fw none) m P fn tmps (COut B π0 h0 w0 res) ds' (settle u') w' := by
                  intro k1 k2
                  cases hr : resF P fd r' h' with
                  | none => rw [hr] at k1; exact k1.elim
                  | some v =>
                    rw [hr] at k1 k2
                    obtain ⟨cv, b1, b2⟩ := resF_sound (P := P) a6.rel a4.rr hr
                    exact ⟨cv, b1, ih ds (settleA q'.rc) h' π' w' ds' (settle u') k1 a6.rel (hR.mono a6.ext) (hds.mono a6.ext) (settle_MR a2) (Step.trans hH0 hs a6) k2⟩
                cases e with
                | normal =>
                  cases x1 <;> first | exact a3.elim | skip
                  simp only [hqd] at hk hle'
                  obtain ⟨v, b1, b2⟩ := done hk hle'
                  exact ⟨hdf, u', a1, v, b1, b2⟩
                | ret =>
                  cases x1 <;> first | exact a3.elim | skip
                  simp only [hqd] at hk hle'
                  obtain ⟨v, b1, b2⟩ := done hk hle'
                  exact ⟨hdf, u', a1, v, b1, b2⟩
                | panic chain =>
                  cases x1 <;> first | exact a3.elim | skip
                  rename_i ch
                  simp only [hqd] at hk hle'
                  exact ⟨hdf, u', a1, ih ds (raisedA q'.rc ch) h' π' w' ds' (raised u' chain) hk a6.rel (hR.mono a6.ext) (hds.mono a6.ext) (raised_MR a2 a3) (Step.trans hH0 hs a6) hle'⟩
                | exit id =>
                  cases x1 <;> first | exact a3.elim | skip
                  simp only [hqd] at hk
                  exact hk.elim
                | goto id =>
                  cases x1 <;> first | exact a3.elim | skip
                  simp only [hqd] at hk
                  exact hk.elim
                | outgrown => cases x1 <;> exact a3.elim

/-! ### Calls -/
theorem leave0_eq (fn : Func) (r : T AV) (h : Hp) (l : List AD) : leave0 P ev fn r h l = leaveA P ev fn r 1000 l .ret h := by
  cases l <;> rfl
theorem callB_sound (hO : OpsOk P) (hev : EvOk P ev) : CfOk P (callB P ev) := by
  intro B π H w f args cargs hH ha hok
  unfold callB at hok ⊢
  cases hf : P.funcs[f]? with
  | none => rw [hf] at hok; exact hok.elim
  | some fn =>
    rw [hf] at hok
    have hok : (callC P ev args H fn).ok := hok
    show Calls P f cargs w (COut B π H w (callC P ev args H fn))
    unfold callC at hok ⊢
    cases hb : fn.body with
    | none => rw [hb] at hok; exact hok.elim
    | some c =>
      rw [hb] at hok
      have hok : (ob (both (codeOk fn.ntmps c) (Nat.ble args.length fn.ntmps)) (.bad "registers") (told fn.name (ev c (regsOf args 0 .e) H (frameQ fn .no) (leaveX P ev fn)))).ok := hok
      show Calls P f cargs w (COut B π H w (ob (both (codeOk fn.ntmps c) (Nat.ble args.length fn.ntmps)) (.bad "registers") (told fn.name (ev c (regsOf args 0 .e) H (frameQ fn .no) (leaveX P ev fn)))))
      cases hc : both (codeOk fn.ntmps c) (Nat.ble args.length fn.ntmps) with
      | false => rw [hc] at hok; exact hok.elim
      | true =>
        rw [hc] at hok
        have hok : (ev c (regsOf args 0 .e) H (frameQ fn .no) (leaveX P ev fn)).ok := hok
        show Calls P f cargs w (COut B π H w (ev c (regsOf args 0 .e) H (frameQ fn .no) (leaveX P ev fn)))
        rw [both_eq, Bool.and_eq_true, Nat.ble_eq] at hc
        refine callsIn_Fw (ro := none) (n := 0) |>.1 (callsIn_of_wp_marks hf hb trivial ?_)
        have hinit := start_St (rc := .no) (rd := none) ha hc.2
        refine wpIn_mono (hev c (regsOf args 0 .e) H (frameQ fn .no) (leaveX P ev fn) hok hc.1 rfl B π _ w none 0 hH hinit trivial) ?_
        intro e a' w' hp
        obtain ⟨x1, r', h', q', π', a1, a2, a3, a4, a5⟩ := hp
        have hk := (a5 hok).1
        cases e with
        | normal =>
          cases x1 <;> first | exact a1.elim | skip
          have e1 : leaveX P ev fn .nrm r' h' q' = leaveA P ev fn r' 1000 q'.df .ret h' := leave0_eq fn r' h' q'.df
          rw [e1] at hk a5
          exact leaveA_sound hO hev hH 0 1000 q'.df .ret h' π' w' a'.defers .returning hk a4.rel a2.rr a2.df trivial a4 a5
        | ret =>
          cases x1 <;> first | exact a1.elim | skip
          have e1 : leaveX P ev fn .ret r' h' q' = leaveA P ev fn r' 1000 q'.df .ret h' := leave0_eq fn r' h' q'.df
          rw [e1] at hk a5
          exact leaveA_sound hO hev hH 0 1000 q'.df .ret h' π' w' a'.defers .returning hk a4.rel a2.rr a2.df trivial a4 a5
        | panic chain =>
          cases x1 <;> first | exact a1.elim | skip
          rename_i ch
          have e1 : leaveX P ev fn (.pan ch) r' h' q' = leaveA P ev fn r' 1000 q'.df (.pan ch) h' := rfl
          rw [e1] at hk a5
          exact leaveA_sound hO hev hH 0 1000 q'.df (.pan ch) h' π' w' a'.defers (.panicking chain) hk a4.rel a2.rr a2.df a1 a4 a5
        | exit id =>
          cases x1 <;> first | exact a1.elim | exact hk.elim
        | goto id =>
          cases x1 <;> first | exact a1.elim | exact hk.elim
        | outgrown => cases x1 <;> exact a1.elim
end
end Go.Proofs.YtmoejaloachlkaaGreatDoor.Ev
