/- Quiet regions: their runs. -/
import Derived.Test.YtnedikjioliodaaGreatDoorMc1
set_option linter.all false
namespace Go.AM
open Go
variable [Env]
section
variable {P : Program} {n : Nat} {r : Rho} {t : TM} {f : Fr} {h : H} {b : Frame} {a : Act} {k : List Item} {cs : List Frame} {w w' : World} {ev : EvF} {funcs : T AFn} {call : CallF}

/-! ### results -/
def resOne (tmps : Array Value) (x : ResultVar) : Sem Value := match x with
  | .tmp t => pure (tmps.getD t undef)
  | .cell a t => do loadVar t (← asAddr (tmps.getD a undef))
theorem results_list (hr : Rel P r h w) {tmps : Array Value} (ht : TR r t tmps) : ∀ (rvs : List ResultVar) (rs : List ARes) (l : List AV), cresults P rvs = some rs → resultsOf t h rs = some l →
    ∃ vs, (rvs.mapM (resOne tmps)).run P w = .ok vs w ∧ VRs r l vs
  | [], rs, l, hc, hl => by
    injection hc with hc; subst hc
    injection hl with hl; subst hl
    exact ⟨[], rfl, .nil⟩
  | x :: rvs, rs, l, hc, hl => by
    unfold cresults at hc
    split at hc
    · rename_i ar ars h1 h2
      injection hc with hc; subst hc
      have henv : ∀ nn, VR r (evO t (.tmp nn)) (tmps.getD nn undef) := fun nn => (ht.env (a := ⟨tmps, []⟩)) (.tmp nn)
      cases x with
      | tmp nn =>
        injection h1 with h1; subst h1
        unfold resultsOf at hl
        split at hl
        · rename_i l' hl'
          injection hl with hl; subst hl
          obtain ⟨vs, hvs, hr'⟩ := results_list hr ht rvs ars l' h2 hl'
          refine ⟨tmps.getD nn undef :: vs, ?_, .cons _ _ _ _ (henv nn) hr'⟩
          simp only [List.mapM_cons, Sem.run_bind, resOne, Sem.run_pure, Result.andThen_ok, hvs]
        · simp at hl
      | cell nn ty =>
        unfold cres at h1
        simp only at h1
        split at h1
        · rename_i i d hi hd
          injection h1 with h1; subst h1
          unfold resultsOf at hl
          split at hl
          · rename_i z h2' hz
            split at hl
            · rename_i l' hl'
              injection hl with hl; subst hl
              obtain ⟨vs, hvs, hr'⟩ := results_list hr ht rvs ars l' h2 hl'
              obtain ⟨_, ad, had, v, hv, hvr⟩ := loadVar_ok hr hi hd (henv nn) hz
              refine ⟨v :: vs, ?_, .cons _ _ _ _ hvr hr'⟩
              have : (asAddr (.pointer (some ad)) : Sem Addr).run P w = .ok ad w := rfl
              simp only [List.mapM_cons, Sem.run_bind, resOne, had, this, hv, Sem.run_pure, Result.andThen_ok, hvs]
            · simp at hl
          · simp at hl
        · simp at h1
    · simp at hc
theorem results_ok (hr : Rel P r h w) {tmps : Array Value} (ht : TR r t tmps) {fn : Func} {rs : List ARes} {l : List AV} (hc : cresults P fn.results.toList = some rs) (hl : resultsOf t h rs = some l) :
    ∃ v, (results fn tmps).run P w = .ok v w ∧ VR r (tupOf l) v := by
  obtain ⟨vs, hvs, hr'⟩ := results_list hr ht _ _ _ hc hl
  have hmap : (fn.results.mapM (resOne tmps)).run P w = .ok vs.toArray w := by
    rw [Array.mapM_eq_mapM_toList, Sem.run_map]
    rw [hvs]; rfl
  have heq : results fn tmps = (do let vs ← fn.results.mapM (resOne tmps); pure (if h : vs.size = 1 then vs[0] else .tuple vs)) := by
    unfold results resOne
    rfl
  refine ⟨(if h : vs.toArray.size = 1 then vs.toArray[0] else .tuple vs.toArray), ?_, ?_⟩
  · rw [heq, Sem.run_bind, hmap]; rfl
  · have hlen := hr'.length
    by_cases h1 : vs.toArray.size = 1
    · rw [dif_pos h1]
      cases vs with
      | nil => simp at h1
      | cons v vs =>
        cases vs with
        | nil =>
          cases hr' with
          | cons x xs _ _ hx hs => cases hs; exact hx
        | cons _ _ => simp at h1
    · rw [dif_neg h1]
      cases l with
      | nil => exact .tup _ _ (by simpa using hr')
      | cons x l =>
        cases l with
        | nil => simp at hlen; exact absurd (by simpa using hlen.symm) h1
        | cons y l => exact .tup _ _ (by simpa using hr')

/-! ### deferred calls -/
theorem Rel.putDead (hr : Rel P r h w) {blk : Nat} (hl : ¬ LiveAt r h blk) (O : Go.Obj) : Rel P r h (putObj w blk O) := by
  refine ⟨?_, hr.dom, hr.key, hr.inj, hr.tip, hr.dead, hr.pos⟩
  intro b o hb hv
  obtain ⟨l, hl', hO⟩ := hr.obj b o hb hv
  refine ⟨l, hl', hO.keep (putObj_other ?_)⟩
  rintro rfl
  exact hl ⟨b, o, l, hb, hv, hl', rfl⟩
theorem Keeps.putLate {r0 : Rho} {h0 : H} {w0 : World} (hk : Keeps r0 h0 w0 r h w) {blk : Nat} (hb : w0.heap.size ≤ blk) (O : Go.Obj) : Keeps r0 h0 w0 r h (putObj w blk O) :=
  ⟨hk.le, by rw [putObj_size]; exact hk.size, hk.tape, hk.os, hk.output, hk.next, fun b hlt hn => by rw [putObj_other (by omega)]; exact hk.same b hlt hn, hk.back⟩
theorem DefR.put {lo : Nat} {ds : List (AV × List AV)} {ms : List Deferred} (hd : DefR lo r h w ds ms) {blk : Nat} (O : Go.Obj) (hne : ∀ d ∈ ms, d.target ≠ .collected blk) : DefR lo r h (putObj w blk O) ds ms := by
  induction hd with
  | nil => exact .nil
  | call ds ms fn fs cs args fn' fs' cs' args' h1 h2 h3 h4 _ ih => exact .call ds ms fn fs cs args fn' fs' cs' args' h1 h2 h3 h4 (ih fun d hd => hne d (List.mem_cons_of_mem _ hd))
  | mark ds ms b hb hl hlo hd _ ih =>
    refine .mark ds ms b ?_ hl hlo hd (ih fun d hd => hne d (List.mem_cons_of_mem _ hd))
    rw [putObj_other]
    · exact hb
    · rintro rfl; exact hne _ (List.mem_cons_self ..) rfl
theorem step_mark {fr : Frame} {blk : Nat} {ms : List Deferred} (hm : fr.mode ≠ .run) (hd : fr.defers = { target := .collected blk, args := #[] } :: ms) (hb : w.heap[blk]? = some (.deferred (some []))) :
    step P (lone fr cs w) = .next (lone { fr with defers := ms } cs (putObj w blk (.deferred none))) := by
  have hk : (Instr.takeDeferred blk).run P w = .ok [] (putObj w blk (.deferred none)) := by
    unfold Instr.takeDeferred
    simp only [Sem.run_bind, run_getObj hb rfl, Result.andThen_ok, run_setObj hb rfl]
    rfl
  refine step_lone_go ?_
  cases hmode : fr.mode with
  | run => exact absurd hmode hm
  | returning => simp [stepG, unwind, hmode, hd, Sem.runT_eq, hk, GStep.bare_after]
  | panicking chain => simp [stepG, unwind, hmode, hd, Sem.runT_eq, hk, GStep.bare_after]
theorem ModeR.ne_run {p : Option (AV × Bool)} {md : FrameMode} (h : ModeR r p md) : md ≠ .run := by
  unfold ModeR at h
  split at h
  · rw [h]; simp
  · obtain ⟨v', h1, _⟩ := h; rw [h1]; simp
def Fresh (p : Option (AV × Bool)) : Prop := ∀ v, p ≠ some (v, true)
theorem settle_fresh (p : Option (AV × Bool)) : Fresh (settle p) := by
  intro v
  unfold settle
  split
  · simp
  · rename_i hp; exact fun e => hp v e
theorem runDefers_ok (hd : SimDefer P call) {lo : Nat} {r0 : Rho} {h0 : H} {w0 : World} (hlo : w0.heap.size ≤ lo) : ∀ (ms : List Deferred) (ds : List (AV × List AV)) (p : Option (AV × Bool)) (h : H) (r : Rho) (w : World) (fr : Frame) (cs : List Frame),
    DefR lo r h w ds ms → Rel P r h w → ModeR r p fr.mode → Fresh p → fr.defers = ms → Keeps r0 h0 w0 r h w → match runDefers call ds p h with
    | some (p', h') => ∃ r' w' md, Steps P (lone fr cs w) (lone { fr with mode := md, defers := [] } cs w') ∧ ModeR r' p' md ∧ Rel P r' h' w' ∧ r.le r' ∧ Keeps r0 h0 w0 r' h' w' ∧ Fresh p'
    | none => True
  | [], ds, p, h, r, w, fr, cs, hD, hr, hm, hfr, hfd, hk0 => by
    cases hD
    refine ⟨r, w, fr.mode, ?_, hm, hr, Rho.le_refl r, hk0, hfr⟩
    have : ({ fr with mode := fr.mode, defers := [] } : Frame) = fr := by cases fr; simp at hfd; subst hfd; rfl
    rw [this]; exact .refl _ _
  | m :: ms, ds, p, h, r, w, fr, cs, hD, hr, hm, hfr, hfd, hk0 => by
    cases hD with
    | mark _ _ blk hb hl hlb hne hD' =>
      have hst := step_mark (P := P) (cs := cs) hm.ne_run hfd hb
      have ih := runDefers_ok hd hlo ms ds p h r (putObj w blk (.deferred none)) { fr with defers := ms } cs (hD'.put _ hne) (hr.putDead hl _) hm hfr rfl (hk0.putLate (Nat.le_trans hlo hlb) _)
      split
      · rename_i p' h' e
        rw [e] at ih
        obtain ⟨r', w', md, hs, h1, h2, h3, h4, h5⟩ := ih
        exact ⟨r', w', md, .head hst hs, h1, h2, h3, h4, h5⟩
      · trivial
    | call ds' _ fn fs cap args fn' fs' cap' args' h1 h2 h3 h4 hD' =>
      have hcall := hd r h w fn fs cap args fn' fs' cap' args' p { fr with defers := ms } cs hr h1 h2 h3 h4 hm
      show match (match call (.func fn fs cap) args p h with
        | .ret _ p' h => runDefers call ds' (settle p') h
        | _ => none) with
        | some (p', h') => ∃ r' w' md, Steps P (lone fr cs w) (lone { fr with mode := md, defers := [] } cs w') ∧ ModeR r' p' md ∧ Rel P r' h' w' ∧ r.le r' ∧ Keeps r0 h0 w0 r' h' w' ∧ Fresh p'
        | none => True
      generalize call (.func fn fs cap) args p h = x at hcall ⊢
      cases x with
      | panic v p' h' => trivial
      | stuck => trivial
      | ret v p' h' =>
        obtain ⟨r', w', g, as, md, hrun, hmd, hst, hrel, hk⟩ := hcall
        have hs0 := step_defer (P := P) (cs := cs) hm.ne_run hfd rfl hrun
        have ih := runDefers_ok hd hlo ms ds' (settle p') h' r' w' { fr with mode := md, defers := ms } cs (hD'.keeps hk) hrel hmd (settle_fresh p') rfl (hk0.trans hk)
        show match runDefers call ds' (settle p') h' with
          | some (p', h') => ∃ r' w' md, Steps P (lone fr cs w) (lone { fr with mode := md, defers := [] } cs w') ∧ ModeR r' p' md ∧ Rel P r' h' w' ∧ r.le r' ∧ Keeps r0 h0 w0 r' h' w' ∧ Fresh p'
          | none => True
        split
        · rename_i p2 h2' e
          rw [e] at ih
          obtain ⟨r2, w2, md2, hs, q1, q2, q3, q4, q5⟩ := ih
          exact ⟨r2, w2, md2, .head hs0 (hst.trans hs), q1, q2, Rho.le_trans hk.le q3, q4, q5⟩
        · trivial
end
end Go.AM
namespace Go.AM
open Go
variable [Env]
section
variable {P : Program} {n : Nat} {r : Rho} {t : TM} {f : Fr} {h : H} {b : Frame} {a : Act} {k : List Item} {cs : List Frame} {w w' : World} {ev : EvF} {funcs : T AFn} {call : CallF}

/-- how a function ends, its frame still there -/
def FuncRes (P : Program) (r : Rho) (h : H) (w : World) (fi : FuncId) (fn : Func) (kind : CallKind) (m : Machine) (c : Frame) (cs : List Frame) (x : CR) : Prop := match x with
  | .ret v pan' h' => ∃ r' v' w' fr c', Steps P m (lone fr (c' :: cs) w') ∧ fr.mode = .returning ∧ fr.defers = [] ∧ fr.kind = kind ∧ fr.fn = fi ∧ (results fn fr.tmps).run P w' = .ok v' w' ∧ VR r' v v' ∧ Rel P r' h' w' ∧ Keeps r h w r' h' w' ∧
      CsR kind (c :: cs) (c' :: cs) ∧ PanR r' pan' kind (c' :: cs)
  | .panic v pan' h' => ∃ r' v' w' fr c', Steps P m (lone fr (c' :: cs) w') ∧ fr.mode = .panicking [{ v := v', recovered := false }] ∧ fr.defers = [] ∧ fr.fn = fi ∧ VR r' v v' ∧ Rel P r' h' w' ∧ Keeps r h w r' h' w' ∧ CsR kind (c :: cs) (c' :: cs)
  | .stuck => True
theorem csR_cons {kind : CallKind} {c : Frame} {cs cs' : List Frame} (h : CsR kind (c :: cs) cs') : ∃ c', cs' = c' :: cs := by
  rcases h.2 with rfl | ⟨c0, rest, md, e, rfl⟩
  · exact ⟨c, rfl⟩
  · injection e with e1 e2; subst e1; subst e2; exact ⟨_, rfl⟩
theorem leave_ok (hd : SimDefer P call) {fi : FuncId} {fn : Func} {rs : List ARes} (hrs : cresults P fn.results.toList = some rs) {kind : CallKind} {m : Machine} {c : Frame} {cs : List Frame} {n0 : Nat} {f0 : Fr} (hb : b.fn = fi ∧ b.kind = kind ∧ b.roundOf = none ∧ b.tmps.size = w.heap.size)
    {R : R} (hx : CodeRes P n0 r f0 h w m b [] (c :: cs) R) : FuncRes P r h w fi fn kind m c cs (leave call rs R) := by
  obtain ⟨rfl, rfl, hro, hlo⟩ := hb
  -- once the frame leaves
  have fin : ∀ (t' : TM) (f' : Fr) (h' : H) (r' : Rho) (a' : Act) (cs' : List Frame) (w' : World) (p : Option (AV × Bool)) (fr : Frame), Fin P n0 r f0 h w b (c :: cs) r' t' f' h' a' cs' w' → Steps P m (lone fr cs' w') → ModeR r' p fr.mode → Fresh p → fr.defers = a'.defers →
      fr.tmps = a'.tmps → fr.fn = b.fn → fr.kind = b.kind → FuncRes P r h w b.fn fn b.kind m c cs (leaveK rs t' f'.pan (runDefers call f'.ds p h')) := by
    intro t' f' h' r' a' cs' w' p fr hf hst hm hfr hfd hft hff hfk
    obtain ⟨c', rfl⟩ := csR_cons hf.cs
    have hdefs := hf.st.defs
    have := runDefers_ok hd (lo := b.tmps.size) (r0 := r) (h0 := h) (w0 := w) (by rw [hlo]; exact Nat.le_refl _) a'.defers f'.ds p h' r' w' fr (c' :: cs) hdefs hf.st.rel hm hfr hfd hf.keeps
    generalize runDefers call f'.ds p h' = y at this
    cases y with
    | none => trivial
    | some ph =>
      obtain ⟨p', h2⟩ := ph
      obtain ⟨r2, w2, md, hs2, hm2, hrel2, hle2, hk2, hfr2⟩ := this
      cases p' with
      | none =>
        show FuncRes P r h w b.fn fn b.kind m c cs (finish f'.pan h2 (resultsOf t' h2 rs))
        cases hro2 : resultsOf t' h2 rs with
        | none => trivial
        | some l =>
          obtain ⟨v', hv', hvr⟩ := results_ok hrel2 (tmps := a'.tmps) (hf.st.tmp.mono hle2) hrs hro2
          have hmd : md = .returning := hm2
          subst hmd
          exact ⟨r2, v', w2, _, c', hst.trans hs2, rfl, rfl, hfk, hff, by rw [← hft] at hv'; exact hv', hvr, hrel2, hk2, hf.cs, hf.st.pan.mono hle2⟩
      | some vb =>
        obtain ⟨v, rb⟩ := vb
        obtain ⟨v', hmd, hvr⟩ := hm2
        have hrb : rb = false := by
          cases rb with
          | false => rfl
          | true => exact absurd rfl (hfr2 v)
        subst hrb
        exact ⟨r2, v', w2, _, c', hst.trans hs2, hmd, rfl, hff, hvr, hrel2, hk2, hf.cs⟩
  cases R with
  | normal t' f' h' =>
    obtain ⟨r', a', cs', w', hs, hf⟩ := hx
    obtain ⟨ds, p, rn⟩ := f'
    exact fin t' ⟨ds, p, rn⟩ h' r' a' cs' w' none { b.atR a' [] with mode := .returning } hf (hs.trans (.one (stepR_end hro))) rfl (fun v => by simp) rfl rfl rfl rfl
  | ret t' f' h' =>
    obtain ⟨r', a', cs', w', k0, hs, hf⟩ := hx
    obtain ⟨ds, p, rn⟩ := f'
    exact fin t' ⟨ds, p, rn⟩ h' r' a' cs' w' none { b.atR a' (.code .ret :: k0) with mode := .returning } hf (hs.trans (.one (stepR_ret hro))) rfl (fun v => by simp) rfl rfl rfl rfl
  | panic v t' f' h' =>
    obtain ⟨r', a', cs', w', td, v', hs, hf, hv⟩ := hx
    obtain ⟨ds, p, rn⟩ := f'
    exact fin t' ⟨ds, p, rn⟩ h' r' a' cs' w' (some (v, false)) { b.atR a' td with mode := .panicking [{ v := v', recovered := false }] } hf hs ⟨v', rfl, hv⟩ (fun v => by simp) rfl rfl rfl rfl
  | exit i t' f' h' => trivial
  | goto l t' f' h' => trivial
  | stuck => trivial

/-- a function with code of its own -/
theorem func_ok (hev : SimEv P ev) (hd : SimDefer P call) {fi : FuncId} {fn : Func} {bd : Code} {rs : List ARes} (hfn : P.funcs[fi]? = some fn) (hbd : fn.body = some bd) (hrs : cresults P fn.results.toList = some rs) (hwf : wfCode fn.ntmps bd = true)
    (kind : CallKind) (c : Frame) (cs : List Frame) {args : List AV} {args' : Array Value} {pan : Option (AV × Bool)} (hr : Rel P r h w) (ha : VRs r args args'.toList) (hp : PanR r pan kind (c :: cs)) :
    FuncRes P r h w fi fn kind (lone (Frame.enter P fi args' kind) (c :: cs) w) c cs (leave call rs (ev (ccode P bd) (argsT args) ⟨[], pan, none⟩ h)) := by
  let b : Frame := { Frame.enter P fi args' kind with tmps := Array.replicate w.heap.size undef }
  let a : Act := ⟨args' ++ Array.replicate (fn.ntmps - args'.size) undef, []⟩
  have henter : Frame.enter P fi args' kind = b.atR a [.code bd] := by
    show Frame.enter P fi args' kind = { fn := fi, tmps := args' ++ Array.replicate (fn.ntmps - args'.size) undef, todo := [.code bd], defers := [], mode := .run, kind := kind, roundOf := none }
    unfold Frame.enter
    simp only [hfn, hbd, Option.map_some, Option.getD_some, Option.bind_some]
  have hst : St P fn.ntmps r (argsT args) ⟨[], pan, none⟩ h b a (c :: cs) w := by
    refine ⟨hr, argsT_tr ha _, ?_, ?_, .nil, hp, trivial⟩
    · show fn.ntmps ≤ (args' ++ Array.replicate (fn.ntmps - args'.size) undef).size
      rw [Array.size_append, Array.size_replicate]; omega
    · show (Array.replicate w.heap.size undef).size ≤ w.heap.size
      rw [Array.size_replicate]; exact Nat.le_refl _
  rw [henter]
  refine leave_ok (b := b) hd hrs ⟨rfl, rfl, rfl, ?_⟩ (hev bd fn.ntmps r (argsT args) ⟨[], pan, none⟩ h b a (c :: cs) w [] _ hwf hst (.code bd []))
  show (Array.replicate w.heap.size undef).size = w.heap.size
  rw [Array.size_replicate]
end
end Go.AM
namespace Go.AM
open Go
variable [Env]
/-- the natives of a table, and what is asked of the program's names -/
def NatOk (P : Program) (fi : FuncId) (g : List AV → H → QR) : Prop := ∀ (r : Rho) (h : H) (w : World) (args : List AV) (args' : Array Value) (c : Frame) (cs : List Frame), Rel P r h w → VRs r args args'.toList → CallOk P r h w (callFunc fi args') c cs (natR none (g args h))
def Named (P : Program) : Prop := ∀ (f : FuncId) (fn : Func), P.funcs[f]? = some fn → fn.body.isSome = true → (fn.name == "runtime.NumGoroutine") = false
section
variable {P : Program} {n : Nat} {r : Rho} {t : TM} {f : Fr} {h : H} {b : Frame} {a : Act} {k : List Item} {cs : List Frame} {w w' : World} {ev : EvF} {funcs : T AFn} {call : CallF}

/-! ### the table -/
inductive TabR (P : Program) (nat : List (Nat × (List AV → H → QR))) (fi : FuncId) : AFn → Prop where
  | nat (g : List AV → H → QR) (h : nat.lookup fi = some g) : TabR P nat fi (.nat g)
  | bad (rs : List ARes) : TabR P nat fi (.code .bad rs)
  | code (fn : Func) (bd : Code) (rs : List ARes) (h1 : P.funcs[fi]? = some fn) (h2 : fn.body = some bd) (h3 : cresults P fn.results.toList = some rs) (h4 : wfCode fn.ntmps bd = true) : TabR P nat fi (.code (ccode P bd) rs)
theorem cfunc_tab (nat : List (Nat × (List AV → H → QR))) {fi : FuncId} {fn : Func} (h1 : P.funcs[fi]? = some fn) : TabR P nat fi (cfunc P fn) := by
  unfold cfunc
  split
  · rename_i bd rs hb hr
    cases hw : wfCode fn.ntmps bd with
    | true => exact .code fn bd rs h1 hb hr hw
    | false => exact .bad []
  · exact .bad []
theorem ctableGo_tab (nat : List (Nat × (List AV → H → QR))) : ∀ (l : List Func) (i : Nat) (t : T AFn), (∀ j, P.funcs[i + j]? = l[j]?) → (∀ fi x, T.get t fi = some x → TabR P nat fi x) → ∀ fi x, T.get (ctableGo P nat l i t) fi = some x → TabR P nat fi x
  | [], i, t, _, ht, fi, x, hx => ht fi x hx
  | fn :: l, i, t, hl, ht, fi, x, hx => by
    have hfn : P.funcs[i]? = some fn := by have := hl 0; simpa using this
    refine ctableGo_tab nat l (i + 1) _ (fun j => by have := hl (j + 1); rw [show i + 1 + j = i + (j + 1) from by omega, this]; simp) ?_ fi x hx
    intro fj y hy
    have put : ∀ z, TabR P nat i z → T.get (T.put t i z) fj = some y → TabR P nat fj y := by
      intro z hz hy
      rw [T.get_put] at hy
      by_cases e : fj = i
      · subst e; rw [if_pos rfl] at hy; injection hy with hy; subst hy; exact hz
      · rw [if_neg e] at hy; exact ht fj y hy
    split at hy
    · rename_i g hg; exact put _ (.nat g hg) hy
    · exact put _ (cfunc_tab nat hfn) hy
    · exact ht fj y hy
theorem ctable_tab (nat : List (Nat × (List AV → H → QR))) {fi : FuncId} {x : AFn} (h : T.get (ctable P nat) fi = some x) : TabR P nat fi x :=
  ctableGo_tab nat P.funcs.toList 0 .lf (fun j => by simp) (fun fi x h => by simp [T.get_lf] at h) fi x h

theorem run_callFunc (hN : Named P) {fi : FuncId} {fn : Func} {bd : Code} (h1 : P.funcs[fi]? = some fn) (h2 : fn.body = some bd) (args : Array Value) (w : World) : (callFunc fi args).run P w = .ok (.enter fi args) w := by
  have hn := hN fi fn h1 (by rw [h2]; rfl)
  unfold callFunc
  simp only [Sem.run_bind]
  have e4 : (program : Sem Program).run P w = .ok P w := rfl
  rw [e4]
  simp only [Result.andThen_ok, h1, hn, Bool.false_eq_true, if_false, h2, Option.isNone_some]
  rfl
theorem ret_normal {fi : FuncId} {fn : Func} (h1 : P.funcs[fi]? = some fn) {x : CR} {c : Frame} {m : Machine} (hx : FuncRes P r h w fi fn .normal m c cs x) : match x with
    | .ret v _ h' => ∃ r' v' w', Steps P m (lone (c.finish v') cs w') ∧ VR r' v v' ∧ Rel P r' h' w' ∧ Keeps r h w r' h' w'
    | .panic v _ h' => ∃ r' v' w', Steps P m (lone (c.raise [{ v := v', recovered := false }]) cs w') ∧ VR r' v v' ∧ Rel P r' h' w' ∧ Keeps r h w r' h' w'
    | .stuck => True := by
  cases x with
  | ret v pan h' =>
    obtain ⟨r', v', w', fr, c', hs, hm, hd, hk, hf, hres, hv, hrel, hkp, hcs, _⟩ := hx
    have hcc := hcs.1 rfl
    injection hcc with hcc; subst hcc
    exact ⟨r', v', w', hs.trans (.one (step_leave_returned ⟨hm, hd, hk, fn, by rw [hf]; exact h1, hres⟩)), hv, hrel, hkp⟩
  | panic v pan h' =>
    obtain ⟨r', v', w', fr, c', hs, hm, hd, hf, hv, hrel, hkp, hcs⟩ := hx
    have hcc := hcs.1 rfl
    injection hcc with hcc; subst hcc
    exact ⟨r', v', w', hs.trans (.one (step_leave_panicked ⟨hm, hd, fn, by rw [hf]; exact h1⟩)), hv, hrel, hkp⟩
  | stuck => trivial
theorem call0_ok (hN : Named P) (nat : List (Nat × (List AV → H → QR))) (hev : SimEv P ev) (hbad : ∀ t f h, ev .bad t f h = .stuck) : SimDefer P (call0 (ctable P nat) ev) := by
  have hstuck : SimDefer P (fun _ _ _ _ => .stuck) := fun _ _ _ _ _ _ _ _ _ _ _ _ _ _ _ _ _ _ _ _ => trivial
  intro r h w fn fs cap args fn' fs' cap' args' p fr cs hr h1 h2 h3 h4 hm
  cases fn with
  | func fi =>
    show match doFuncD (ctable P nat) ev fi (fs ++ (args ++ cap)) p h with
      | .ret _ p' h' => ∃ r' w' f as md, (invoke (.fn fn' cap') (fs' ++ args')).run P w = .ok (.enter f as) w ∧ ModeR r' (settle p') md ∧ Steps P (lone (Frame.enter P f as .deferred) (fr :: cs) w) (lone { fr with mode := md } cs w') ∧ Rel P r' h' w' ∧ Keeps r h w r' h' w'
      | _ => True
    unfold doFuncD
    cases hg : T.get (ctable P nat) fi with
    | none => trivial
    | some x =>
      have htab := ctable_tab nat hg
      cases htab with
      | nat g _ => trivial
      | bad rs => simp only [hbad]; trivial
      | code fnn bd rs q1 q2 q3 q4 =>
        cases h1
        have hargs : VRs r (fs ++ (args ++ cap)) (fs' ++ args' ++ cap').toList := by
          simp only [Array.toList_append]
          rw [List.append_assoc]
          exact h2.append (h4.append h3)
        have hp : PanR r p .deferred (fr :: cs) := by
          unfold ModeR at hm
          split at hm
          · exact .returning fr cs hm
          · obtain ⟨v', e, hv⟩ := hm
            exact .panicking _ _ fr cs v' e hv
        have := func_ok (fi := fi) hev hstuck q1 q2 q3 q4 .deferred fr cs hr hargs hp
        generalize hx : leave (fun _ _ _ _ => .stuck) rs (ev (ccode P bd) (argsT (fs ++ (args ++ cap))) ⟨[], p, none⟩ h) = x at this
        have hgoal : ∀ (y : CR), y = x → (match y with
          | .ret _ p' h' => ∃ r' w' f as md, (invoke (.fn (.func fi) cap') (fs' ++ args')).run P w = .ok (.enter f as) w ∧ ModeR r' (settle p') md ∧ Steps P (lone (Frame.enter P f as .deferred) (fr :: cs) w) (lone { fr with mode := md } cs w') ∧ Rel P r' h' w' ∧ Keeps r h w r' h' w'
          | _ => True) := by
          intro y hy
          subst hy
          cases y with
          | stuck => trivial
          | panic v p' h' => trivial
          | ret v p' h' =>
            obtain ⟨r', v', w', fr', c', hs, hmd, hd, hk, hf, hres, hv, hrel, hkp, hcs, hpan⟩ := this
            have hgo : fr'.going P w' (.returned v') := ⟨hmd, hd, fnn, by rw [hf]; exact q1, hres⟩
            have hst := step_going_returned (P := P) (c := c') (cs := cs) hk hgo
            have hcc : ∃ md0, c' = { fr with mode := md0 } := by
              rcases hcs.2 with e | ⟨c0, rest, md0, e, e'⟩
              · injection e with e; subst e; exact ⟨_, rfl⟩
              · injection e with e1 e2; injection e' with e3 e4
                subst e1; exact ⟨md0, e3⟩
            obtain ⟨md0, rfl⟩ := hcc
            refine ⟨r', w', fi, fs' ++ args' ++ cap', Go.settle md0, run_callFunc hN q1 q2 _ w, ?_, hs.trans (.one hst), hrel, hkp⟩
            generalize hcs0 : ({ fr with mode := md0 } : Frame) :: cs = csx at hpan
            cases hpan with
            | returning c rest hmm =>
              injection hcs0 with e1 e2
              subst e1
              have hmm : md0 = .returning := hmm
              subst hmm
              rfl
            | panicking v0 b0 c rest v0' hmm hv0 =>
              injection hcs0 with e1 e2
              subst e1
              have hmm : md0 = .panicking [{ v := v0', recovered := b0 }] := hmm
              subst hmm
              cases b0 with
              | true => rfl
              | false => exact ⟨v0', rfl, hv0⟩
        exact hgoal _ hx
  | _ => trivial
end
end Go.AM
namespace Go.AM
open Go
variable [Env]
section
variable {P : Program} {n : Nat} {r : Rho} {t : TM} {f : Fr} {h : H} {b : Frame} {a : Act} {k : List Item} {cs : List Frame} {w w' : World} {ev : EvF} {funcs : T AFn} {call : CallF}

/-! ### the rounds of a loop over a function -/
theorem zipSet_ok {r : Rho} : ∀ (ps : List Nat) (vs : List AV) (vs' : List Value) (t : TM) (tmps : Array Value), VRs r vs vs' → TR r t tmps → (∀ p ∈ ps, p < tmps.size) →
    TR r (zipSet t ps vs) ((ps.zip vs').foldl (fun tmps (x : Nat × Value) => tmps.setIfInBounds x.1 x.2) tmps) ∧ ((ps.zip vs').foldl (fun tmps (x : Nat × Value) => tmps.setIfInBounds x.1 x.2) tmps).size = tmps.size
  | [], _, _, t, tmps, _, ht, _ => by
    constructor
    · simpa [zipSet] using ht
    · simp
  | p :: ps, [], _, t, tmps, hv, ht, _ => by
    cases hv
    constructor
    · simpa [zipSet] using ht
    · simp
  | p :: ps, v :: vs, _, t, tmps, hv, ht, hp => by
    cases hv with
    | cons _ _ v' vs' hx hs =>
    have hpl := hp p (List.mem_cons_self ..)
    have := TR.put (a := ⟨tmps, []⟩) ht (d := some p) (fun x hx => by injection hx with hx; subst hx; exact hpl) hx
    obtain ⟨h1, h2⟩ := zipSet_ok ps vs vs' (T.put t p v) (tmps.setIfInBounds p v') hs this (fun q hq => by rw [Array.size_setIfInBounds]; exact hp q (List.mem_cons_of_mem _ hq))
    refine ⟨h1, ?_⟩
    show ((ps.zip vs').foldl (fun tmps (x : Nat × Value) => tmps.setIfInBounds x.1 x.2) (tmps.setIfInBounds p v')).size = tmps.size
    rw [h2, Array.size_setIfInBounds]
/-- the end of a round -/
theorem endRound_ok (hr : Rel P r h w) {l : Nat} {loc : Loc} (hl : r l = some loc) {st : LoopSt} {st' : LoopState} {jump : Option ACode} {jump' : Option Code} {bb : Bool} (hst : stR st st') (hj : jump = jump'.map (ccode P)) (hjw : ∀ c, jump' = some c → ∀ n, wfCode n c = true)
    (hb : bb = jump'.isNone) (hs' : st' = (if jump'.isNone then .ready else .done)) {v : AV} {p : Option (AV × Bool)} {h' : H} (e : endRoundK l h none st jump bb = .ret v p h') :
    ∃ w', (Instr.endRound loc.blk jump').run P w = .ok (.bool bb) w' ∧ v = .bool bb ∧ Rel P r h' w' ∧ Keeps r h w r h' w' := by
  unfold endRoundK at e
  split at e
  · rename_i st0 tm ps asg body pend hob
    injection e with e1 e2 e3
    subst e1; subst e3
    obtain ⟨loc2, lp, hl2, hl0, hO, _, htm, hps, hasg, hbody, hpend, hlwf⟩ := loopObj hr hob
    rw [hl] at hl2; injection hl2 with hl2; subst hl2
    obtain ⟨p1, p2⟩ := hr.put (o' := .loop st tm ps asg body jump) (O' := .loop { lp with state := st', pending := jump' }) hob rfl rfl hl hO (fun hh => ⟨hl0, _, hh, hst, htm, hps, hasg, hbody, hj, ⟨hlwf.wf, hjw⟩⟩)
    refine ⟨_, ?_, rfl, p1, p2⟩
    unfold Instr.endRound
    simp only [Sem.run_bind, run_getLoop hO, Result.andThen_ok, run_setObj hO rfl, hb, hs']
    rfl
  · simp at e
theorem yield_ok (hev : SimEv P ev) (hr : Rel P r h w) {l : Nat} {loc : Loc} (hl : r l = some loc) {args : List AV} {args' : Array Value} (ha : VRs r args args'.toList) (cap' : Array Value) (c : Frame) (cs : List Frame) :
    CallOk P r h w (invoke (.fn (.yield loc.blk) cap') args') c cs (doYield ev l args none h) := by
  unfold doYield
  split
  · rename_i st tmps ps asg body pend _ hob
    cases hlen : Nat.beq ps.length args.length with
    | false => trivial
    | true =>
    have hlen := beq_iff.1 hlen
    simp only [cond_true]
    obtain ⟨loc2, lp, hl2, hl0, hO, hst, htm, rfl, rfl, rfl, hpend, hlwf⟩ := loopObj hr hob
    rw [hl] at hl2; injection hl2 with hl2; subst hl2
    obtain ⟨nn, hn1, hn2, hn3, hn4⟩ := hlwf.wf
    -- the frame of the round
    have hsz : args'.size = lp.params.size := by
      have e1 : args.length = args'.size := by rw [ha.length, Array.length_toList]
      rw [Array.length_toList] at hlen
      omega
    let tm' := (lp.params.zip args').foldl (fun tmps (x : Nat × Value) => tmps.setIfInBounds x.1 x.2) lp.tmps
    have htm' : tm' = (lp.params.toList.zip args'.toList).foldl (fun tmps (x : Nat × Value) => tmps.setIfInBounds x.1 x.2) lp.tmps := by
      show (lp.params.zip args').foldl _ _ = _
      rw [← Array.foldl_toList, Array.toList_zip]
    obtain ⟨z1, z2⟩ := zipSet_ok lp.params.toList args args'.toList tmps lp.tmps ha htm (fun p hp => Nat.lt_of_lt_of_le (hn2 p hp) hn1)
    rw [← htm'] at z1 z2
    have hrun : (invoke (.fn (.yield loc.blk) cap') args').run P w = .ok (.round loc.blk lp.fn tm' lp.assign lp.body) w := by
      show (Instr.yield loc.blk args').run P w = _
      unfold Instr.yield
      simp only [Sem.run_bind, run_getLoop hO, Result.andThen_ok]
      rw [if_neg (by rw [hsz]; simp)]
      rfl
    let b : Frame := { fn := lp.fn, tmps := Array.replicate w.heap.size undef, todo := [], defers := [], mode := .run, kind := .normal, roundOf := some loc.blk }
    have hround : Frame.round loc.blk lp.fn tm' lp.assign lp.body .normal = b.atR ⟨tm', []⟩ [.code lp.assign, .beginRound, .code lp.body] := rfl
    have hs0 : St P nn r (zipSet tmps lp.params.toList args) ⟨[], none, some l⟩ h b ⟨tm', []⟩ (c :: cs) w := by
      refine ⟨hr, z1, by show nn ≤ tm'.size; rw [z2]; exact hn1, ?_, .nil, .normal _, ⟨⟨loc, hl, rfl⟩, rfl⟩⟩
      show (Array.replicate w.heap.size undef).size ≤ w.heap.size
      rw [Array.size_replicate]; exact Nat.le_refl _
    have hA := hev lp.assign nn r _ _ h b _ (c :: cs) w [.beginRound, .code lp.body] _ hn3 hs0 (.code _ _)
    generalize ev (ccode P lp.assign) (zipSet tmps lp.params.toList args) ⟨[], none, some l⟩ h = RA at hA
    cases RA with
    | normal t1 f1 h1 =>
      obtain ⟨r1, a1, cs1, w1, hs1, hf1⟩ := hA
      have hcs1 := hf1.cs.1 rfl
      subst hcs1
      show CallOk P r h w _ c cs (match h1.obj l with
        | some (.loop .ready tmps ps asg body' pend) => endRound l none (ev (ccode P lp.body) t1 f1 (h1.setObj l (.loop .busy tmps ps asg body' pend)))
        | _ => .stuck)
      split
      · rename_i tm2 ps2 asg2 body2 pend2 hob2
        obtain ⟨loc3, lp2, hl3, hl03, hO2, hst2, htm2, hps2, hasg2, hbody2, hpend2, hlwf2⟩ := loopObj hf1.st.rel hob2
        have hl1 := hf1.keeps.le _ _ hl
        rw [hl1] at hl3; injection hl3 with hl3; subst hl3
        have hready : lp2.state = .ready := by cases hh : lp2.state <;> rw [hh] at hst2 <;> simp [stR] at hst2 <;> rfl
        obtain ⟨p1, p2⟩ := hf1.st.rel.put (o' := .loop .busy tm2 ps2 asg2 body2 pend2) (O' := .loop { lp2 with state := .busy }) hob2 rfl rfl hl1 hO2 (fun hh => ⟨hl03, _, hh, trivial, htm2, hps2, hasg2, hbody2, hpend2, ⟨hlwf2.wf, hlwf2.jump⟩⟩)
        have hbeg : (Instr.beginRound loc.blk).run P w1 = .ok () (putObj w1 loc.blk (.loop { lp2 with state := .busy })) := by
          unfold Instr.beginRound
          simp only [Sem.run_bind, run_getLoop hO2, Result.andThen_ok, run_setObj hO2 rfl, hready]
          rfl
        have hstep1 := stepR_beginRound (P := P) (b := b) (a := a1) (k := [.code lp.body]) (cs := c :: cs) (l := loc.blk) rfl hbeg
        have hs2 : St P nn r1 t1 f1 (h1.setObj l (.loop .busy tm2 ps2 asg2 body2 pend2)) b a1 (c :: cs) (putObj w1 loc.blk (.loop { lp2 with state := .busy })) :=
          ⟨p1, hf1.st.tmp, hf1.st.size, Nat.le_trans hf1.st.low p2.size, hf1.st.defs.keeps p2, hf1.st.pan, hf1.st.rnd⟩
        have hB := hev lp.body nn r1 t1 f1 _ b a1 (c :: cs) _ [] _ hn4 hs2 (.code _ _)
        have hpre : Steps P (lone (Frame.round loc.blk lp.fn tm' lp.assign lp.body .normal) (c :: cs) w) (lone (b.atR a1 [.code lp.body]) (c :: cs) (putObj w1 loc.blk (.loop { lp2 with state := .busy }))) := by
          rw [hround]; exact hs1.trans (.one hstep1)
        have hkp := hf1.keeps.trans p2
        -- how it ends
        have fin : ∀ (r2 : Rho) (h2 : H) (w2 : World) (st : LoopSt) (st' : LoopState) (jump : Option ACode) (jump' : Option Code) (bb : Bool) (m : Machine), Rel P r2 h2 w2 → Keeps r1 (h1.setObj l (.loop .busy tm2 ps2 asg2 body2 pend2)) (putObj w1 loc.blk (.loop { lp2 with state := .busy })) r2 h2 w2 →
            stR st st' → jump = jump'.map (ccode P) → (∀ c, jump' = some c → ∀ n, wfCode n c = true) → bb = jump'.isNone → st' = (if jump'.isNone then .ready else .done) →
            Steps P (lone (b.atR a1 [.code lp.body]) (c :: cs) (putObj w1 loc.blk (.loop { lp2 with state := .busy }))) m →
            (∀ v w3, (Instr.endRound loc.blk jump').run P w2 = .ok v w3 → step P m = .next (lone (c.finish v) cs w3)) → CallOk P r h w (invoke (.fn (.yield loc.blk) cap') args') c cs (endRoundK l h2 none st jump bb) := by
          intro r2 h2 w2 st st' jump jump' bb m hr2 hk2 q1 q2 q3 q4 q5 hm hstep
          generalize hx : endRoundK l h2 none st jump bb = x
          cases x with
          | stuck => trivial
          | panic v p h' => unfold endRoundK at hx; split at hx <;> simp at hx
          | ret v p h' =>
            obtain ⟨w3, hend, rfl, hr3, hk3⟩ := endRound_ok hr2 (hk2.le _ _ hl1) q1 q2 q3 q4 q5 hx
            exact ⟨r2, .bool bb, w3, .inr ⟨_, _, w, hrun, .round _ _ _ _ _, (hpre.trans hm).trans (.one (hstep _ _ hend))⟩, .bool bb, hr3, (hkp.trans hk2).trans hk3⟩
        generalize ev (ccode P lp.body) t1 f1 (h1.setObj l (.loop .busy tm2 ps2 asg2 body2 pend2)) = RB at hB
        cases RB with
        | normal t3 f3 h3 =>
          obtain ⟨r3, a3, cs3, w3, hs3, hf3⟩ := hB
          have hcs3 := hf3.cs.1 rfl
          subst hcs3
          exact fin r3 h3 w3 .ready .ready none none true _ hf3.st.rel hf3.keeps trivial rfl (fun c hc => by simp at hc) rfl rfl hs3 (fun v w3 he => stepR_round_end rfl rfl he)
        | ret t3 f3 h3 =>
          obtain ⟨r3, a3, cs3, w3, k0, hs3, hf3⟩ := hB
          have hcs3 := hf3.cs.1 rfl
          subst hcs3
          exact fin r3 h3 w3 .done .done (some .ret) (some .ret) false _ hf3.st.rel hf3.keeps trivial rfl (fun c hc => by injection hc with hc; subst hc; intro n; rfl) rfl rfl hs3 (fun v w3 he => stepR_round_ret rfl rfl he)
        | exit id t3 f3 h3 =>
          obtain ⟨r3, a3, cs3, w3, k0, hk0, hs3, hf3⟩ := hB
          have hcs3 := hf3.cs.1 rfl
          subst hcs3
          exact fin r3 h3 w3 .done .done (some (.exit id)) (some (.exit id)) false _ hf3.st.rel hf3.keeps trivial rfl (fun c hc => by injection hc with hc; subst hc; intro n; rfl) rfl rfl hs3 (fun v w3 he => stepR_round_exit rfl rfl hk0 he)
        | goto id t3 f3 h3 =>
          obtain ⟨r3, a3, cs3, w3, k0, hk0, hs3, hf3⟩ := hB
          have hcs3 := hf3.cs.1 rfl
          subst hcs3
          exact fin r3 h3 w3 .done .done (some (.goto id)) (some (.goto id)) false _ hf3.st.rel hf3.keeps trivial rfl (fun c hc => by injection hc with hc; subst hc; intro n; rfl) rfl rfl hs3 (fun v w3 he => stepR_round_goto rfl rfl hk0 he)
        | panic v t3 f3 h3 => trivial
        | stuck => trivial
      · trivial
    | exit id t1 f1 h1 => trivial
    | goto l t1 f1 h1 => trivial
    | ret t1 f1 h1 => trivial
    | panic v t1 f1 h1 => trivial
    | stuck => trivial
  · trivial
theorem call1_ok (hN : Named P) (nat : List (Nat × (List AV → H → QR))) (hnat : ∀ fi g, nat.lookup fi = some g → NatOk P fi g) (hev : SimEv P ev) (hbad : ∀ t f h, ev .bad t f h = .stuck) : SimCall P (call1 (ctable P nat) ev) := by
  intro r h w g args g' args' c cs hr hg ha
  cases g with
  | func fn fs cap =>
    obtain ⟨fn', fs', cap', rfl, h1, h2, h3⟩ := hg.inv_func
    cases fn with
    | func fi =>
      cases h1
      show CallOk P r h w _ c cs (doFunc (ctable P nat) ev (call0 (ctable P nat) ev) fi (fs ++ (args ++ cap)) none h)
      have hsem : (callSem (.func (.func fi) fs' cap') args').run P w = (callFunc fi (fs' ++ args' ++ cap')).run P w := rfl
      refine CallOk.congr hsem ?_
      have hargs : VRs r (fs ++ (args ++ cap)) (fs' ++ args' ++ cap').toList := by
        simp only [Array.toList_append]
        rw [List.append_assoc]
        exact h2.append (ha.append h3)
      unfold doFunc
      cases hgt : T.get (ctable P nat) fi with
      | none => trivial
      | some x =>
        have htab := ctable_tab nat hgt
        cases htab with
        | nat gg hgg => exact hnat fi gg hgg r h w _ _ c cs hr hargs
        | bad rs => simp only [hbad]; trivial
        | code fnn bd rs q1 q2 q3 q4 =>
          have hd := call0_ok hN nat hev hbad
          have hfr := func_ok (fi := fi) hev hd q1 q2 q3 q4 .normal c cs hr hargs (.normal _)
          simp only
          generalize leave (call0 (ctable P nat) ev) rs (ev (ccode P bd) (argsT (fs ++ (args ++ cap))) ⟨[], none, none⟩ h) = x at hfr ⊢
          have hrn := ret_normal q1 hfr
          cases x with
          | ret v p h' =>
            obtain ⟨r', v', w', hs, hv, hrel, hk⟩ := hrn
            exact ⟨r', v', w', .inr ⟨_, _, w, run_callFunc hN q1 q2 _ w, .enter _ _, hs⟩, hv, hrel, hk⟩
          | panic v p h' =>
            obtain ⟨r', v', w', hs, hv, hrel, hk⟩ := hrn
            exact ⟨r', v', w', ⟨_, _, w, run_callFunc hN q1 q2 _ w, .enter _ _, hs⟩, hv, hrel, hk⟩
          | stuck => trivial
    | yield l =>
      cases h1 with
      | same _ hh => exact absurd rfl (hh l)
      | yield _ loc hl =>
      have hargs : VRs r (fs ++ args) (fs' ++ args').toList := by
        simp only [Array.toList_append]
        exact h2.append ha
      exact yield_ok hev hr hl hargs cap' c cs
    | _ => trivial
  | _ => trivial
end
end Go.AM
namespace Go.AM
open Go
variable [Env]
section
variable {P : Program} {n : Nat} {r : Rho} {t : TM} {f : Fr} {h : H} {b : Frame} {a : Act} {k : List Item} {cs : List Frame} {w w' : World} {call : CallF}

/-! ### the whole run, but for the regions that draw their order -/
theorem ev_bad (funcs : T AFn) (n : Nat) (t : TM) (f : Fr) (h : H) : ev funcs n .bad t f h = .stuck := by
  cases n <;> rfl
theorem ev_ok (hF : Fol P) (hN : Named P) (nat : List (Nat × (List AV → H → QR))) (hnat : ∀ fi g, nat.lookup fi = some g → NatOk P fi g) (hD : ∀ call, SimCall P call → DrawSim P call) : ∀ n, SimEv P (ev (ctable P nat) n)
  | 0 => fun _ _ _ _ _ _ _ _ _ _ _ _ _ _ _ => trivial
  | n + 1 => by
    have ih := ev_ok hF hN nat hnat hD n
    have hC := call1_ok hN nat hnat ih (ev_bad _ n)
    exact evStep_ok hF hC (hD _ hC) ih
/-- a run of a function is a run of the model -/
theorem run_ok (hF : Fol P) (hN : Named P) (nat : List (Nat × (List AV → H → QR))) (hnat : ∀ fi g, nat.lookup fi = some g → NatOk P fi g) (hD : ∀ call, SimCall P call → DrawSim P call) (n : Nat) {fi : FuncId} {args : List AV} {args' : Array Value}
    (hr : Rel P r h w) (ha : VRs r args args'.toList) (c : Frame) (cs : List Frame) : CallOk P r h w (callFunc fi args') c cs (run (ctable P nat) n fi args h) := by
  have hev := ev_ok hF hN nat hnat hD n
  have hC := call1_ok hN nat hnat hev (ev_bad _ n)
  have := hC r h w (.func (.func fi) [] []) args (.func (.func fi) #[] #[]) args' c cs hr (.func _ _ _ _ _ _ (.same _ (by simp)) .nil .nil) ha
  have e : call1 (ctable P nat) (ev (ctable P nat) n) (.func (.func fi) [] []) args none h = run (ctable P nat) n fi args h := by
    show doFunc (ctable P nat) (ev (ctable P nat) n) (call0 (ctable P nat) (ev (ctable P nat) n)) fi ([] ++ (args ++ [])) none h = _
    rw [List.nil_append, List.append_nil]
    rfl
  rw [e] at this
  refine CallOk.congr ?_ this
  show _ = (callFunc fi ((#[] ++ args') ++ #[])).run P w
  have e3 : (#[] ++ args') ++ #[] = args' := by simp
  rw [e3]
end
end Go.AM
namespace Go.AM
open Go
variable [Env]
def H.withNext (h : H) (n : Nat) : H := match h with | ⟨b, _, d, c⟩ => ⟨b, n, d, c⟩
theorem outV_valR (h h' : H) (x : Option AV) : outV (valR h x) = outV (valR h' x) := by cases x <;> rfl
theorem outV_pickR (agg : Bool) (h h' : H) (x : Option (List AV)) : outV (pickR agg x h) = outV (pickR agg x h') := by
  cases x with
  | none => rfl
  | some l => exact outV_valR h h' _
theorem quiet_next (t : TM) (h : H) (n : Nat) {op : AOp} (hq : quietOp op = true) : quietV t (h.withNext n) op = quietV t h op := by
  cases h with
  | mk bl nx dd cl =>
  cases op with
  | p1 o => rfl
  | p2 o => rfl
  | p3 o => rfl
  | m1 o =>
    cases o with
    | load nn agg a =>
      show outV (loadAV nn agg (evO t a) (H.mk bl n dd cl)) = outV (loadAV nn agg (evO t a) (H.mk bl nx dd cl))
      cases evO t a <;> first | rfl | exact outV_pickR _ _ _ _
    | len k x =>
      show outV (mkLen (lenK k (evO t x) (H.mk bl n dd cl)) (H.mk bl n dd cl)) = outV (mkLen (lenK k (evO t x) (H.mk bl nx dd cl)) (H.mk bl nx dd cl))
      have : lenK k (evO t x) (H.mk bl n dd cl) = lenK k (evO t x) (H.mk bl nx dd cl) := by cases k <;> rfl
      rw [this]
      cases lenK k (evO t x) (H.mk bl nx dd cl) with
      | none => rfl
      | some m => exact outV_valR _ _ _
    | _ => simp [quietOp] at hq
  | m2 o =>
    cases o with
    | sliceSl size x lo hi mx =>
      show outV (sliceSlAV size (evO t x) (evOo t lo) (evOo t hi) (evOo t mx) (H.mk bl n dd cl)) = outV (sliceSlAV size (evO t x) (evOo t lo) (evOo t hi) (evOo t mx) (H.mk bl nx dd cl))
      cases evO t x with
      | slice b o len c =>
        cases c with
        | some c => exact outV_valR _ _ _
        | none =>
          have : topOf b o size (H.mk bl n dd cl) = topOf b o size (H.mk bl nx dd cl) := rfl
          show outV (match topOf b o size (H.mk bl n dd cl) with | some top => valR (H.mk bl n dd cl) _ | none => .no) = outV (match topOf b o size (H.mk bl nx dd cl) with | some top => valR (H.mk bl nx dd cl) _ | none => .no)
          rw [this]
          cases topOf b o size (H.mk bl nx dd cl) with
          | none => rfl
          | some top => exact outV_valR _ _ _
      | nils =>
        show outV (match bound3 (evOo t lo) (evOo t hi) (evOo t mx) 0 0 with | some _ => .v .nils (H.mk bl n dd cl) | none => .no) = outV (match bound3 (evOo t lo) (evOo t hi) (evOo t mx) 0 0 with | some _ => .v .nils (H.mk bl nx dd cl) | none => .no)
        cases bound3 (evOo t lo) (evOo t hi) (evOo t mx) 0 0 <;> rfl
      | _ => rfl
    | ofBytes x =>
      show outV (ofBytesAV (evO t x) (H.mk bl n dd cl)) = outV (ofBytesAV (evO t x) (H.mk bl nx dd cl))
      cases evO t x with
      | slice b o m c =>
        have : (H.mk bl n dd cl).loads b o m = (H.mk bl nx dd cl).loads b o m := rfl
        show outV (match (H.mk bl n dd cl).loads b o m with | some vs => strR (bytesOf vs) (H.mk bl n dd cl) | none => .no) = outV (match (H.mk bl nx dd cl).loads b o m with | some vs => strR (bytesOf vs) (H.mk bl nx dd cl) | none => .no)
        rw [this]
        cases (H.mk bl nx dd cl).loads b o m with
        | none => rfl
        | some vs => simp only; cases bytesOf vs <;> rfl
      | _ => rfl
    | _ => simp [quietOp] at hq
  | m3 o =>
    cases o with
    | lookup fk zero ok x k =>
      show outV (lookupAV fk zero ok (evO t x) (evO t k) (H.mk bl n dd cl)) = outV (lookupAV fk zero ok (evO t x) (evO t k) (H.mk bl nx dd cl))
      have key : ∀ es, outV (lookupR zero ok (evO t k) es (H.mk bl n dd cl)) = outV (lookupR zero ok (evO t k) es (H.mk bl nx dd cl)) := by
        intro es
        unfold lookupR
        cases findMap (evO t k) es with
        | none => rfl
        | some y => cases y with | none => rfl | some z => cases z; rfl
      unfold lookupAV
      cases keyOk fk (evO t k) with
      | false => rfl
      | true =>
        simp only [cond_true]
        cases evO t x with
        | nilm => exact key []
        | map m =>
          show outV (match (H.mk bl n dd cl).obj m with | some (.map es c) => lookupR zero ok (evO t k) es (H.mk bl n dd cl) | _ => .no) = outV (match (H.mk bl nx dd cl).obj m with | some (.map es c) => lookupR zero ok (evO t k) es (H.mk bl nx dd cl) | _ => .no)
          have : (H.mk bl n dd cl).obj m = (H.mk bl nx dd cl).obj m := rfl
          rw [this]
          cases (H.mk bl nx dd cl).obj m with
          | none => rfl
          | some o => cases o <;> first | rfl | exact key _
        | _ => rfl
    | _ => simp [quietOp] at hq
  | _ => simp [quietOp] at hq
/-- the relation, where more ids are taken -/
theorem Rel.withNext {P : Program} {r r' : Rho} {h : H} {w : World} (hr : Rel P r h w) (hl : r.le r') {n : Nat} (hn : h.nextOf ≤ n) (hd : ∀ b l, r' b = some l → b < n) : Rel P r' (h.withNext n) w := by
  cases h with
  | mk bl nx dd cl =>
  have same : ∀ b l o, (H.mk bl nx dd cl).obj b = some o → Live (H.mk bl nx dd cl) o → r' b = some l → r b = some l := by
    intro b l o hb hv hl'
    obtain ⟨l2, h2, _⟩ := hr.obj b o hb hv
    rw [hl _ _ h2] at hl'; injection hl' with hl'; subst hl'; exact h2
  have lv : ∀ o, Live (H.mk bl n dd cl) o → Live (H.mk bl nx dd cl) o := by
    intro o ho; unfold Live at *; rw [alive_same (bl := bl) (n := nx) (c := cl)] at ho; exact ho
  refine ⟨?_, hd, ?_, ?_, ?_, ?_, ⟨hr.pos.1, Nat.lt_of_lt_of_le hr.pos.2 hn⟩⟩
  · intro b o hb hv
    obtain ⟨l, h1, h2⟩ := hr.obj b o hb (lv o hv)
    exact ⟨l, hl _ _ h1, h2.mono hl⟩
  · intro b o hb
    have := hr.key b o hb
    exact ⟨Nat.lt_of_lt_of_le this.1 hn, this.2⟩
  · intro b b' o o' l l' h1 h2 h3 h4 h5 h6 h7 h8
    exact hr.inj b b' o o' l l' h1 (lv o h2) h3 (lv o' h4) (same _ _ _ h1 (lv o h2) h5) (same _ _ _ h3 (lv o' h4) h6) h7 h8
  · intro b b' o o' l l' h1 h2 h3 h4 h5 h6 h7 h8
    exact hr.tip b b' o o' l l' h1 (lv o h2) h3 (lv o' h4) (same _ _ _ h1 (lv o h2) h5) (same _ _ _ h3 (lv o' h4) h6) h7 h8
  · intro k hk
    rw [show (H.mk bl nx dd cl).withNext n = H.mk bl n dd cl from rfl, alive_same (bl := bl) (n := nx) (c := cl)]
    exact hr.dead k hk
end Go.AM
namespace Go.AM
open Go
variable [Env]
/-- only what lies below -/
def Rho.cut (r : Rho) (B : Nat) : Rho := fun b => if b < B then r b else none
theorem Rho.cut_le (r : Rho) (B : Nat) : (r.cut B).le r := by
  intro b l h; unfold Rho.cut at h; split at h
  · exact h
  · simp at h
theorem Rho.cut_lt (r : Rho) (B : Nat) {b : Nat} {l : Loc} (h : r.cut B b = some l) : b < B := by
  unfold Rho.cut at h; split at h
  · assumption
  · simp at h
theorem Rho.cut_some (r : Rho) {B b : Nat} {l : Loc} (h : r b = some l) (hb : b < B) : r.cut B b = some l := by
  unfold Rho.cut; rw [if_pos hb]; exact h
theorem Rho.cut_mono {r r' : Rho} (h : r.le r') {B B' : Nat} (hB : B ≤ B') : (r.cut B).le (r'.cut B') := by
  intro b l hb
  have h1 := Rho.cut_lt r B hb
  exact Rho.cut_some r' (h _ _ (Rho.cut_le r B _ _ hb)) (Nat.lt_of_lt_of_le h1 hB)
def Below (rt : Rho) (B : Nat) : Prop := ∀ b l, rt b = some l → b < B
mutual
theorem VR.cut {rt r : Rho} {B : Nat} (hb : Below rt B) {x : AV} {v0 v : Value} (h0 : VR rt x v0) (h : VR r x v) : VR (r.cut B) x v := by
  cases h with
  | bot v => exact .bot v
  | sym n => exact .sym n
  | bool b => exact .bool b
  | int k n => exact .int k n
  | str s => exact .str s
  | nilp => exact .nilp
  | ptr b o l h =>
    obtain ⟨l0, hl0, _⟩ := h0.inv_ptr
    exact .ptr b o l (Rho.cut_some r h (hb _ _ hl0))
  | nils => exact .nils
  | sliceC b o len c l h =>
    obtain ⟨l0, hl0, _⟩ := h0.inv_sliceC
    exact .sliceC b o len c l (Rho.cut_some r h (hb _ _ hl0))
  | sliceO b o len cap a l h h1 h2 h3 h4 h5 h6 =>
    obtain ⟨l0, _, _, hl0, _⟩ := h0.inv_sliceO
    exact .sliceO b o len cap a l (Rho.cut_some r h (hb _ _ hl0)) h1 h2 h3 h4 h5 h6
  | nilm => exact .nilm
  | map m l h =>
    obtain ⟨l0, hl0, _⟩ := h0.inv_map
    exact .map m l (Rho.cut_some r h (hb _ _ hl0))
  | nilf => exact .nilf
  | func f g xs cs ys ds h h1 h2 =>
    obtain ⟨g0, ys0, ds0, rfl, q1, q2, q3⟩ := h0.inv_func
    refine .func f g xs cs ys ds ?_ (VRs.cut hb q2 h1) (VRs.cut hb q3 h2)
    cases h with
    | same f h => exact .same f h
    | yield l loc h =>
      cases q1 with
      | same _ hh => exact absurd rfl (hh l)
      | yield _ loc0 h0' => exact .yield l loc (Rho.cut_some r h (hb _ _ h0'))
  | nili => exact .nili
  | iface t x v h =>
    obtain ⟨u, _, hu⟩ := h0.inv_iface
    exact .iface t x v (VR.cut hb hu h)
  | agg xs vs h =>
    obtain ⟨us, _, hu⟩ := h0.inv_agg
    exact .agg xs vs (VRs.cut hb hu h)
  | tup xs vs h =>
    obtain ⟨us, _, hu⟩ := h0.inv_tup
    exact .tup xs vs (VRs.cut hb hu h)
theorem VRs.cut {rt r : Rho} {B : Nat} (hb : Below rt B) {xs : List AV} {us vs : List Value} (h0 : VRs rt xs us) (h : VRs r xs vs) : VRs (r.cut B) xs vs := by
  cases h with
  | nil => exact .nil
  | cons x xs v vs h hs =>
    cases h0 with
    | cons _ _ u us q qs => exact .cons x xs v vs (VR.cut hb q h) (VRs.cut hb qs hs)
end
mutual
theorem sameAV_eq : ∀ (a b : AV), sameAV a b = true → a = b
  | .bool a, b, h => by cases b <;> simp [sameAV] at h; rw [h]
  | .int k a, b, h => by
    cases b <;> simp [sameAV] at h
    rw [eqI_eq] at h
    have := h.2
    simp at this
    rw [h.1, this]
  | .str s, b, h => by
    cases b <;> simp [sameAV] at h
    rw [eqStr_eq] at h
    simp at h
    rw [h]
  | .ptr x o, b, h => by cases b <;> simp [sameAV] at h; rw [h.1, h.2]
  | .nilp, b, h => by cases b <;> simp [sameAV] at h; rfl
  | .slice x o l c, b, h => by
    cases b <;> simp [sameAV] at h
    rename_i x' o' l' c'
    obtain ⟨⟨⟨rfl, rfl⟩, rfl⟩, hc⟩ := h
    cases c <;> cases c' <;> simp at hc
    · rfl
    · rw [hc]
  | .nils, b, h => by cases b <;> simp [sameAV] at h; rfl
  | .map m, b, h => by cases b <;> simp [sameAV] at h; rw [h]
  | .nilm, b, h => by cases b <;> simp [sameAV] at h; rfl
  | .func f x c, b, h => by
    cases b with
    | func g y d =>
      cases f <;> cases g <;> simp [sameAV] at h
      obtain ⟨⟨rfl, h1⟩, h2⟩ := h
      rw [sameAVs_eq _ _ h1, sameAVs_eq _ _ h2]
    | _ => cases f <;> simp [sameAV] at h
  | .nilf, b, h => by cases b <;> simp [sameAV] at h; rfl
  | .sym m, b, h => by cases b <;> simp [sameAV] at h; rw [h]
  | .iface t v, b, h => by
    cases b <;> simp [sameAV] at h
    obtain ⟨rfl, h⟩ := h
    rw [sameAV_eq _ _ h]
  | .nili, b, h => by cases b <;> simp [sameAV] at h; rfl
  | .agg x, b, h => by cases b <;> simp [sameAV] at h; rw [sameAVs_eq _ _ h]
  | .tup x, b, h => by cases b <;> simp [sameAV] at h; rw [sameAVs_eq _ _ h]
  | .bot, b, h => by cases b <;> simp [sameAV] at h
theorem sameAVs_eq : ∀ (a b : List AV), sameAVs a b = true → a = b
  | [], [], _ => rfl
  | a :: x, b :: y, h => by
    simp [sameAVs] at h
    rw [sameAV_eq _ _ h.1, sameAVs_eq _ _ h.2]
  | [], _ :: _, h => by simp [sameAVs] at h
  | _ :: _, [], h => by simp [sameAVs] at h
end
theorem eqOD_eq {x : Option AV} {v : AV} (h : eqOD x (some v) = true) : x = some v := by
  unfold eqOD at h
  split at h
  · rename_i a b ha hb
    injection hb with hb; subst hb
    rw [sameAV_eq _ _ h]
  · simp at h
end Go.AM
