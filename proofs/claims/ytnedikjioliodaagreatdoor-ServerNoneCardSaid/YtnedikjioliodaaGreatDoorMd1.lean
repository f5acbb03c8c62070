/- A call by the lesser machine is a call of the model; four answers of library functions. -/
import Derived.Test.YtnedikjioliodaaGreatDoorMc3
import Derived.Test.YtnedikjioliodaaGreatDoorMa1
import Derived.Lib.Bytealg
set_option linter.all false
namespace Go.AM
open Go
variable [Env]
section
variable {P : Program} {n : Nat} {r : Rho} {t : TM} {f : Fr} {h : H} {b : Frame} {a : Act} {k : List Item} {cs : List Frame} {w w' : World} {ev : EvF} {funcs : T AFn} {call : CallF}

/-! ### calls, as the library tells them -/
theorem callOk_of_calls (hN : Named P) {fi : FuncId} {fn : Func} {bd : Code} (h1 : P.funcs[fi]? = some fn) (h2 : fn.body = some bd) {args' : Array Value} {v : AV} {pan : Option (AV × Bool)} {h' : H}
    (hc : Calls P fi args' w fun e w' => ∃ r' v', e = .returned v' ∧ VR r' v v' ∧ Rel P r' h' w' ∧ Keeps r h w r' h' w') (c : Frame) (cs : List Frame) : CallOk P r h w (callFunc fi args') c cs (.ret v pan h') := by
  obtain ⟨e, w', fr, ⟨r', v', rfl, hv, hrel, hk⟩, hst, hf, hlv⟩ := hc (c :: cs)
  refine ⟨r', v', w', .inr ⟨.enter fi args', Frame.enter P fi args' .normal, w, run_callFunc hN h1 h2 args' w, .enter fi args', ?_⟩, hv, hrel, hk⟩
  exact Steps.trans hst (.one (step_leave_returned hlv))
/-- a function's run, whoever called it -/
theorem leave_calls (hd : SimDefer P call) {fi : FuncId} {fn : Func} {rs : List ARes} (hrs : cresults P fn.results.toList = some rs) {m : Machine} {cs : List Frame} {n0 : Nat} {f0 : Fr} (hb : b.fn = fi ∧ b.kind = .normal ∧ b.roundOf = none ∧ b.tmps.size = w.heap.size)
    {R : R} (hx : CodeRes P n0 r f0 h w m b [] cs R) {v : AV} {pan : Option (AV × Bool)} {h1 : H} (e : leave call rs R = .ret v pan h1) :
    ∃ r' v' w' fr, Steps P m (lone fr cs w') ∧ fr.mode = .returning ∧ fr.defers = [] ∧ fr.kind = .normal ∧ fr.fn = fi ∧ (results fn fr.tmps).run P w' = .ok v' w' ∧ VR r' v v' ∧ Rel P r' h1 w' ∧ Keeps r h w r' h1 w' := by
  obtain ⟨rfl, hk, hro, hlo⟩ := hb
  have fin : ∀ (t' : TM) (f' : Fr) (h' : H) (r' : Rho) (a' : Act) (cs' : List Frame) (w' : World) (fr : Frame), Fin P n0 r f0 h w b cs r' t' f' h' a' cs' w' → Steps P m (lone fr cs' w') → fr.mode = .returning → fr.defers = a'.defers →
      fr.tmps = a'.tmps → fr.fn = b.fn → fr.kind = b.kind → leaveK rs t' f'.pan (runDefers call f'.ds none h') = .ret v pan h1 → ∃ r' v' w' fr, Steps P m (lone fr cs w') ∧ fr.mode = .returning ∧ fr.defers = [] ∧ fr.kind = .normal ∧ fr.fn = b.fn ∧ (results fn fr.tmps).run P w' = .ok v' w' ∧ VR r' v v' ∧ Rel P r' h1 w' ∧ Keeps r h w r' h1 w' := by
    intro t' f' h' r' a' cs' w' fr hf hst hm hfd hft hff hfk e
    have hcs := hf.cs.1 hk
    subst hcs
    have hdefs := hf.st.defs
    have := runDefers_ok hd (lo := b.tmps.size) (r0 := r) (h0 := h) (w0 := w) (by rw [hlo]; exact Nat.le_refl _) a'.defers f'.ds none h' r' w' fr cs' hdefs hf.st.rel hm (fun v => by simp) hfd hf.keeps
    generalize runDefers call f'.ds none h' = y at this e
    cases y with
    | none => simp [leaveK] at e
    | some ph =>
      obtain ⟨p', h2⟩ := ph
      obtain ⟨r2, w2, md, hs2, hm2, hrel2, hle2, hk2, hfr2⟩ := this
      cases p' with
      | some vb => obtain ⟨v0, b0⟩ := vb; simp [leaveK] at e
      | none =>
        have e : finish f'.pan h2 (resultsOf t' h2 rs) = .ret v pan h1 := e
        cases hro2 : resultsOf t' h2 rs with
        | none => rw [hro2] at e; simp [finish] at e
        | some l =>
          rw [hro2] at e
          injection e with e1 e2 e3
          subst e1; subst e3
          obtain ⟨v', hv', hvr⟩ := results_ok hrel2 (tmps := a'.tmps) (hf.st.tmp.mono hle2) hrs hro2
          have hmd : md = .returning := hm2
          subst hmd
          exact ⟨r2, v', w2, _, hst.trans hs2, rfl, rfl, hfk.trans hk, hff, by rw [← hft] at hv'; exact hv', hvr, hrel2, hk2⟩
  cases R with
  | normal t' f' h' =>
    obtain ⟨r', a', cs', w', hs, hf⟩ := hx
    obtain ⟨ds, p, rn⟩ := f'
    exact fin t' ⟨ds, p, rn⟩ h' r' a' cs' w' { b.atR a' [] with mode := .returning } hf (hs.trans (.one (stepR_end hro))) rfl rfl rfl rfl rfl e
  | ret t' f' h' =>
    obtain ⟨r', a', cs', w', k0, hs, hf⟩ := hx
    obtain ⟨ds, p, rn⟩ := f'
    exact fin t' ⟨ds, p, rn⟩ h' r' a' cs' w' { b.atR a' (.code .ret :: k0) with mode := .returning } hf (hs.trans (.one (stepR_ret hro))) rfl rfl rfl rfl rfl e
  | panic v0 t' f' h' =>
    obtain ⟨r', a', cs', w', td, v', hs, hf, hv⟩ := hx
    obtain ⟨ds, p, rn⟩ := f'
    have e : leaveK rs t' p (runDefers call ds (some (v0, false)) h') = .ret v pan h1 := e
    have hcs := hf.cs.1 hk
    subst hcs
    have := runDefers_ok hd (lo := b.tmps.size) (r0 := r) (h0 := h) (w0 := w) (by rw [hlo]; exact Nat.le_refl _) a'.defers ds (some (v0, false)) h' r' w' { b.atR a' td with mode := .panicking [{ v := v', recovered := false }] } cs' hf.st.defs hf.st.rel ⟨v', rfl, hv⟩ (fun v => by simp) rfl hf.keeps
    generalize runDefers call ds (some (v0, false)) h' = y at this e
    cases y with
    | none => simp [leaveK] at e
    | some ph =>
      obtain ⟨p', h2⟩ := ph
      obtain ⟨r2, w2, md, hs2, hm2, hrel2, hle2, hk2, hfr2⟩ := this
      cases p' with
      | some vb => obtain ⟨v0, b0⟩ := vb; simp [leaveK] at e
      | none =>
        have e : finish p h2 (resultsOf t' h2 rs) = .ret v pan h1 := e
        cases hro2 : resultsOf t' h2 rs with
        | none => rw [hro2] at e; simp [finish] at e
        | some l =>
          rw [hro2] at e
          injection e with e1 e2 e3
          subst e1; subst e3
          obtain ⟨v', hv', hvr⟩ := results_ok hrel2 (tmps := a'.tmps) (hf.st.tmp.mono hle2) hrs hro2
          have hmd : md = .returning := hm2
          subst hmd
          exact ⟨r2, v', w2, _, hs.trans hs2, rfl, rfl, hk, rfl, hv', hvr, hrel2, hk2⟩
  | exit i t' f' h' => simp [leave] at e
  | goto l t' f' h' => simp [leave] at e
  | stuck => simp [leave] at e
theorem func_calls (hev : SimEv P ev) (hd : SimDefer P call) {fi : FuncId} {fn : Func} {bd : Code} {rs : List ARes} (hfn : P.funcs[fi]? = some fn) (hbd : fn.body = some bd) (hrs : cresults P fn.results.toList = some rs) (hwf : wfCode fn.ntmps bd = true)
    {args : List AV} {args' : Array Value} (hr : Rel P r h w) (ha : VRs r args args'.toList) {v : AV} {pan : Option (AV × Bool)} {h1 : H} (e : leave call rs (ev (ccode P bd) (argsT args) ⟨[], none, none⟩ h) = .ret v pan h1) :
    Calls P fi args' w fun e w' => ∃ r' v', e = .returned v' ∧ VR r' v v' ∧ Rel P r' h1 w' ∧ Keeps r h w r' h1 w' := by
  intro cs
  let b : Frame := { Frame.enter P fi args' .normal with tmps := Array.replicate w.heap.size undef }
  let a : Act := ⟨args' ++ Array.replicate (fn.ntmps - args'.size) undef, []⟩
  have henter : Frame.enter P fi args' .normal = b.atR a [.code bd] := by
    show Frame.enter P fi args' .normal = { fn := fi, tmps := args' ++ Array.replicate (fn.ntmps - args'.size) undef, todo := [.code bd], defers := [], mode := .run, kind := .normal, roundOf := none }
    unfold Frame.enter
    simp only [hfn, hbd, Option.map_some, Option.getD_some, Option.bind_some]
  have hst : St P fn.ntmps r (argsT args) ⟨[], none, none⟩ h b a cs w := by
    refine ⟨hr, argsT_tr ha _, ?_, ?_, .nil, .normal _, trivial⟩
    · show fn.ntmps ≤ (args' ++ Array.replicate (fn.ntmps - args'.size) undef).size
      rw [Array.size_append, Array.size_replicate]; omega
    · show (Array.replicate w.heap.size undef).size ≤ w.heap.size
      rw [Array.size_replicate]; exact Nat.le_refl _
  obtain ⟨r', v', w', fr, hs, h1, h2, h3, h4, h5, h6, h7, h8⟩ := leave_calls (b := b) hd hrs ⟨rfl, rfl, rfl, by show (Array.replicate w.heap.size undef).size = w.heap.size; rw [Array.size_replicate]⟩ (hev bd fn.ntmps r (argsT args) ⟨[], none, none⟩ h b a cs w [] _ hwf hst (.code bd [])) e
  rw [henter]
  exact ⟨.returned v', w', fr, ⟨r', v', rfl, h6, h7, h8⟩, hs, h4, h1, h2, h3, fn, by rw [h4]; exact hfn, h5⟩
/-- a run of ours is a call, as the library tells it -/
theorem run_calls (hF : Fol P) (hN : Named P) (nat : List (Nat × (List AV → H → QR))) (hnat : ∀ fi g, nat.lookup fi = some g → NatOk P fi g) (n : Nat) {fi : FuncId} {args : List AV} {args' : Array Value}
    (hno : nat.lookup fi = none) (hr : Rel P r h w) (ha : VRs r args args'.toList) {v : AV} {pan : Option (AV × Bool)} {h1 : H} (e : run (ctable P nat) n fi args h = .ret v pan h1) :
    Calls P fi args' w fun e w' => ∃ r' v', e = .returned v' ∧ VR r' v v' ∧ Rel P r' h1 w' ∧ Keeps r h w r' h1 w' := by
  have hev := ev_ok hF hN nat hnat (fun call hC => draw_ok hF hC) n
  have hbad := ev_bad (ctable P nat) n
  have h0 := call0_ok hN nat hev hbad
  have e : doFunc (ctable P nat) (ev (ctable P nat) n) (call0 (ctable P nat) (ev (ctable P nat) n)) fi args none h = .ret v pan h1 := e
  unfold doFunc at e
  cases hg : T.get (ctable P nat) fi with
  | none => rw [hg] at e; simp at e
  | some x =>
    rw [hg] at e
    cases ctable_tab nat hg with
    | nat g hl => rw [hno] at hl; simp at hl
    | bad rs => simp only [hbad] at e; simp [leave] at e
    | code fn bd rs q1 q2 q3 q4 => exact func_calls hev h0 q1 q2 q3 q4 hr ha e

/-! ### nothing yet -/
noncomputable def H.nil : H := ⟨.lf, 1, .lf, 1⟩
theorem Rel.nil (P : Program) (w : World) : Rel P (fun _ => Option.none) H.nil w := by
  have hno : ∀ b o, H.nil.obj b = some o → False := by
    intro b o h
    have : T.get (.lf : T Obj) b = some o := h
    rw [T.get_lf] at this; simp at this
  refine ⟨fun b o h => (hno b o h).elim, fun b l h => by simp at h, fun b o h => (hno b o h).elim, fun b b' o o' l l' h => (hno b o h).elim, fun b b' o o' l l' h => (hno b o h).elim, ?_, ⟨Nat.zero_lt_one, Nat.zero_lt_one⟩⟩
  intro k hk
  unfold H.nil
  rw [H.alive_mk]
  cases k with
  | zero => rfl
  | succ k => show (match T.get (.lf : T Unit) (k + 1) with | Option.none => true | some _ => false) = true; rw [T.get_lf]

/-! ### a row that is not written to any more -/
theorem Rel.killRow (hr : Rel P r h w) {x s k e : Nat} {d : AV} {c : T AV} {l : Loc} (hb : h.obj x = some (.row s d c k e)) (hk : h.alive k = true) (hl : r x = some l)
    (hw : ∀ y, y ≠ l.blk → w'.heap[y]? = w.heap[y]?) (hz : w'.heap.size = w.heap.size) (ht : w'.tape = w.tape) (hos : w'.os = w.os) (hout : w'.output = w.output) {h' : H}
    (e' : match h with | ⟨bl, nx, dd, cl⟩ => h' = ⟨T.put bl x (.row s d c cl 0), nx, T.put (H.kill k dd) cl (), Nat.succ cl⟩) : Rel P r h' w' ∧ Keeps r h w r h' w' := by
  cases h with
  | mk bl nx dd cl =>
  simp only at e'
  subst e'
  have hpos : 0 < cl := hr.pos.1
  obtain ⟨cl', rfl⟩ : ∃ m, cl = m + 1 := ⟨cl - 1, by omega⟩
  have hkl : k < cl' + 1 := (hr.key x _ hb).2
  have halive : ∀ j, (H.mk (T.put bl x (.row s d c (cl' + 1) 0)) nx (T.put (H.kill k dd) (cl' + 1) ()) (cl' + 1 + 1)).alive j = true ↔ ((H.mk bl nx dd (cl' + 1)).alive j = true ∧ (j = k → k = 0)) ∧ j ≠ cl' + 1 := by
    intro j
    rw [← alive_kill (bl := bl) (bl' := bl) (n := nx) (n' := nx) (c := cl' + 1) (c' := cl' + 1), H.alive_mk, H.alive_mk]
    cases j with
    | zero => simp
    | succ j =>
      show (match T.get (T.put (H.kill k dd) (cl' + 1) ()) (j + 1) with | Option.none => true | some _ => false) = true ↔ (match T.get (H.kill k dd) (j + 1) with | Option.none => true | some _ => false) = true ∧ _
      rw [T.get_put]
      by_cases e : j = cl'
      · subst e; simp
      · simp [e]
  have hobj : ∀ b' q, (H.mk (T.put bl x (.row s d c (cl' + 1) 0)) nx (T.put (H.kill k dd) (cl' + 1) ()) (cl' + 1 + 1)).obj b' = some q → (b' = x ∧ q = .row s d c (cl' + 1) 0) ∨ (b' ≠ x ∧ (H.mk bl nx dd (cl' + 1)).obj b' = some q) := by
    intro b' q hb'
    rw [H.obj_eq, T.get_put] at hb'
    by_cases e : b' = x
    · left; rw [if_pos e] at hb'; simp at hb'; exact ⟨e, hb'.symm⟩
    · right; rw [if_neg e] at hb'; exact ⟨e, hb'⟩
  have hlive : ∀ b' q, (H.mk (T.put bl x (.row s d c (cl' + 1) 0)) nx (T.put (H.kill k dd) (cl' + 1) ()) (cl' + 1 + 1)).obj b' = some q → Live (H.mk (T.put bl x (.row s d c (cl' + 1) 0)) nx (T.put (H.kill k dd) (cl' + 1) ()) (cl' + 1 + 1)) q →
      b' ≠ x ∧ (H.mk bl nx dd (cl' + 1)).obj b' = some q ∧ Live (H.mk bl nx dd (cl' + 1)) q ∧ (clsOf q = k → k = 0) := by
    intro b' q hb' hv
    have hv2 := (halive _).1 hv
    clear hv
    rcases hobj b' q hb' with ⟨rfl, rfl⟩ | ⟨hne, h0⟩
    · exact absurd rfl hv2.2
    · exact ⟨hne, h0, hv2.1.1, hv2.1.2⟩
  have hsep : ∀ b' q l', b' ≠ x → (H.mk bl nx dd (cl' + 1)).obj b' = some q → Live (H.mk bl nx dd (cl' + 1)) q → (clsOf q = k → k = 0) → r b' = some l' → l'.blk ≠ l.blk := by
    intro b' q l' hne hq hv hck hl' heq
    have := hr.inj x b' _ q l l' hb hk hq hv hl hl' heq.symm (Ne.symm hne)
    have h1 : 0 < k ∧ k = clsOf q := this
    have := hck h1.2.symm
    omega
  refine ⟨⟨?_, hr.dom, ?_, ?_, ?_, ?_, ⟨Nat.succ_pos _, hr.pos.2⟩⟩, ?_⟩
  · intro b' q hb' hv
    obtain ⟨hne, h0, hv0, hck⟩ := hlive b' q hb' hv
    obtain ⟨l', hl', hO⟩ := hr.obj b' q h0 hv0
    exact ⟨l', hl', hO.keep (hw _ (hsep b' q l' hne h0 hv0 hck hl'))⟩
  · intro b' q hb'
    rcases hobj b' q hb' with ⟨rfl, rfl⟩ | ⟨hne, h0⟩
    · exact ⟨(hr.key _ _ hb).1, Nat.lt_succ_self _⟩
    · have := hr.key _ _ h0; exact ⟨this.1, Nat.lt_succ_of_lt this.2⟩
  · intro b1 b2 o1 o2 l1 l2 hb1 hv1 hb2 hv2 hl1 hl2 heq hne
    obtain ⟨_, p1, p2, _⟩ := hlive b1 o1 hb1 hv1
    obtain ⟨_, q1, q2, _⟩ := hlive b2 o2 hb2 hv2
    exact hr.inj b1 b2 o1 o2 l1 l2 p1 p2 q1 q2 hl1 hl2 heq hne
  · intro b1 b2 o1 o2 l1 l2 hb1 hv1 hb2 hv2 hl1 hl2 heq hne hh
    obtain ⟨_, p1, p2, _⟩ := hlive b1 o1 hb1 hv1
    obtain ⟨_, q1, q2, _⟩ := hlive b2 o2 hb2 hv2
    exact hr.tip b1 b2 o1 o2 l1 l2 p1 p2 q1 q2 hl1 hl2 heq hne hh
  · intro j hj
    have hj : cl' + 1 + 1 ≤ j := hj
    rw [halive]
    exact ⟨⟨hr.dead j (by show cl' + 1 ≤ j; omega), fun e => by omega⟩, by omega⟩
  · refine ⟨Rho.le_refl r, by rw [hz]; exact Nat.le_refl _, ht, hos, hout, Nat.le_refl _, ?_, ?_⟩
    · intro blk _ hn
      refine hw blk ?_
      rintro rfl
      exact hn ⟨x, _, l, hb, hk, hl, rfl⟩
    · rintro blk _ ⟨b', q, l', hb', hv', hl', rfl⟩
      obtain ⟨_, p1, p2, _⟩ := hlive b' q hb' hv'
      exact ⟨b', q, l', p1, p2, hl', rfl⟩
end
end Go.AM
namespace Go.AM
open Go
variable [Env]
section
variable {P : Program} {r : Rho} {h h' : H} {w w' : World} {fi : FuncId}

theorem vrs1 {x : AV} {vs : Array Value} (h : VRs r [x] vs.toList) : ∃ v, vs = #[v] ∧ VR r x v := by
  obtain ⟨l⟩ := vs
  cases h with
  | cons _ _ v vs h hs => cases hs; exact ⟨v, rfl, h⟩
theorem vrs2 {x y : AV} {vs : Array Value} (h : VRs r [x, y] vs.toList) : ∃ v u, vs = #[v, u] ∧ VR r x v ∧ VR r y u := by
  obtain ⟨l⟩ := vs
  cases h with
  | cons _ _ v vs h hs =>
    cases hs with
    | cons _ _ u us h2 hs2 => cases hs2; exact ⟨v, u, rfl, h, h2⟩
theorem callOk_value (hr : Rel P r h w) {s : Sem Next} {x : AV} {v : Value} (hrun : s.run P w = .ok (.value v) w) (hv : VR r x v) (c : Frame) (cs : List Frame) : CallOk P r h w s c cs (natR none (.v x h)) :=
  ⟨r, v, w, .inl hrun, hv, hr, Keeps.refl r h w⟩

/-! ### bytes counted -/
theorem beq_byte {b : UInt8} {c : Nat} (hc : c ≤ 255) : Nat.beq b.toNat c = (b == UInt8.ofNat c) := by
  rw [Bool.eq_iff_iff, beq_iff_eq, Nat.beq_eq, ← UInt8.toNat_inj, UInt8.toNat_ofNat', Nat.mod_eq_of_lt (by omega)]
theorem countC_eq {c : Nat} (hc : c ≤ 255) : ∀ (l : List UInt8) (n : Nat), countC c l n = n + Lib.countByte l (UInt8.ofNat c)
  | [], n => by simp [countC, Lib.countByte]
  | b :: l, n => by
    unfold countC
    rw [beq_byte hc]
    unfold Lib.countByte
    rw [List.count_cons]
    cases hb : b == UInt8.ofNat c with
    | true => simp only [cond_true, if_true]; rw [countC_eq hc l (Nat.succ n)]; unfold Lib.countByte; omega
    | false => simp only [cond_false]; rw [countC_eq hc l n]; unfold Lib.countByte; simp
theorem count_nat (hext : ∀ (s : ByteArray) (c : Int) (w : World), (callFunc fi #[.string s, .int .u8 c]).run P w = .ok (.value (.int .i64 (Lib.countByte s.data.toList c.toNat.toUInt8))) w) : NatOk P fi nCount := by
  intro r h w args args' c cs hr ha
  unfold nCount
  split
  · rename_i s n
    obtain ⟨v, u, rfl, h1, h2⟩ := vrs2 ha
    obtain ⟨sb, rfl, rfl⟩ := h1.inv_str
    have := h2.inv_int; subst this
    cases hn : Nat.ble n 255 with
    | false => trivial
    | true =>
      refine callOk_value hr (hext sb (.ofNat n) w) ?_ c cs
      rw [countC_eq (ble_iff.1 hn), Nat.zero_add]
      exact .int _ _
  · trivial

/-! ### strings.Builder -/
theorem isVar_eq {tb n : Nat} {x : Option Obj} (h : isVar tb n x = true) : ∃ s c k e, x = some (.row s (tagA tb) c k e) ∧ s = n := by
  unfold isVar at h
  split at h
  · rename_i s a c k e
    rw [Bool.and_eq_true] at h
    have h1 := beq_iff.1 h.1
    have h2 := beq_iff.1 h.2
    subst h1
    exact ⟨s, c, k, e, rfl, h2⟩
  · simp at h
theorem isRowOf_eq {tb : Nat} {x : Option Obj} (h : isRowOf tb x = true) : ∃ s c k e, x = some (.row s (tagD tb) c k e) := by
  unfold isRowOf at h
  split at h
  · rename_i s a c k e
    have h1 := beq_iff.1 h
    subst h1
    exact ⟨s, c, k, e, rfl⟩
  · simp at h
theorem alive_of_loads {b o n s k e : Nat} {d : AV} {c : T AV} {vs : List AV} (hb : h.obj b = some (.row s d c k e)) (hl : h.loads b o n = some vs) : h.alive k = true := by
  unfold H.loads H.loadsR at hl
  rw [hb] at hl
  cases hk : h.alive k with
  | true => rfl
  | false => simp only [hk, cond_false] at hl; simp at hl
/-- what is known of a variable of its own -/
theorem var_facts (hr : Rel P r h w) {tb n b o m : Nat} {vs : List AV} (hv : isVar tb n (h.obj b) = true) (hl : h.loads b o m = some vs) : ∃ l, r b = some l ∧ l.sh = 0 ∧ w.shape? l.blk = some (tb, n) ∧ (∀ i, i < n → w.frozen? ⟨l.blk, i, none⟩ = false) := by
  obtain ⟨s, c, k, e, hb, rfl⟩ := isVar_eq hv
  obtain ⟨l, hl', ⟨h1, ⟨el, h2, ht⟩, h3, h4⟩, _⟩ := hr.obj b _ hb (alive_of_loads hb hl)
  obtain ⟨t1, t2, t3⟩ := ht.2 tb rfl
  exact ⟨l, hl', t2, by rw [h2, t1, t3], by rw [← t3]; exact h3⟩
theorem store_one {a : Addr} {v old : Value} (hv : v.oneCell' = true) (hc : w.cell? a = some old) (hf : w.frozen? a = false) : (storeCells a [v]).run P w = .ok () (w.setCell a v) := by
  unfold storeCells
  rw [Sem.run_bind]
  have e : a.add 0 = a := by unfold Addr.add; simp
  rw [e, run_store P w a v _ hv, hc]
  simp only [hf, Bool.false_eq_true, if_false, Result.andThen_ok]
  rfl
theorem bytes_cells : ∀ (vs : List AV) (us : List Value) (bs : List UInt8), VRs r vs us → normAll vs = true → bytesOf vs = some bs → bs.length = us.length ∧ ∀ (j : Nat) (y : UInt8), bs[j]? = some y → us[j]? = some (.int .u8 y.toNat)
  | [], us, bs, h, _, hb => by
    cases h
    injection hb with hb; subst hb
    exact ⟨rfl, fun j y h => by simp at h⟩
  | x :: vs, us, bs, h, hn, hb => by
    cases h with
    | cons _ _ v us hx hs =>
    unfold normAll at hn
    split at hn
    · rename_i heq; simp at heq
    · rename_i n r' heq
      injection heq with e1 e2
      subst e1; subst e2
      have := hx.inv_int; subst this
      cases hnn : Nat.ble n 255 with
      | false => rw [hnn] at hn; simp at hn
      | true =>
        rw [hnn] at hn
        have hnn := ble_iff.1 hnn
        unfold bytesOf at hb
        simp only [byteOf] at hb
        cases hbl : bytesOf vs with
        | none => rw [hbl] at hb; simp at hb
        | some bl =>
          rw [hbl] at hb
          injection hb with hb; subst hb
          obtain ⟨h1, h2⟩ := bytes_cells vs us bl hs hn hbl
          refine ⟨by simp [h1], ?_⟩
          intro j y hy
          cases j with
          | zero =>
            injection hy with hy; subst hy
            have : (UInt8.ofNat (Int.ofNat n).toNat).toNat = n := by
              rw [UInt8.toNat_ofNat', Nat.mod_eq_of_lt]
              · rfl
              · show n < 256; omega
            rw [this]; rfl
          | succ j => simpa using h2 j y (by simpa using hy)
    · simp at hn
theorem freeze_other (w : World) (n : Nat) {a : Addr} {y : Nat} (h : y ≠ a.block) : (w.freeze a n).heap[y]? = w.heap[y]? := by
  unfold World.freeze
  split
  · rfl
  · simp only [Array.getElem?_modify]
    rw [if_neg (Ne.symm h)]
theorem freeze_size (w : World) (n : Nat) {a : Addr} : (w.freeze a n).heap.size = w.heap.size := by
  unfold World.freeze
  split
  · rfl
  · simp
theorem freeze_rest (w : World) (n : Nat) (a : Addr) : (w.freeze a n).tape = w.tape ∧ (w.freeze a n).os = w.os ∧ (w.freeze a n).output = w.output := by
  unfold World.freeze
  split <;> exact ⟨rfl, rfl, rfl⟩
theorem copyCheck_nat (hN : Named P) {tb : Nat} {fn : Func} {bd : Code} (h1 : P.funcs[fi]? = some fn) (h2 : fn.body = some bd)
    (hfresh : ∀ (b : Nat) (w : World), w.cell? ⟨b, 0, none⟩ = some (.pointer none) → w.shape? b = some (tb, 2) → w.frozen? ⟨b, 0, none⟩ = false → Calls P fi #[.pointer (some ⟨b, 0, none⟩)] w fun e w' => e = .returned (.tuple #[]) ∧ w' = w.setCell ⟨b, 0, none⟩ (.pointer (some ⟨b, 0, none⟩)))
    (hused : ∀ (b : Nat) (w : World), w.cell? ⟨b, 0, none⟩ = some (.pointer (some ⟨b, 0, none⟩)) → Calls P fi #[.pointer (some ⟨b, 0, none⟩)] w fun e w' => e = .returned (.tuple #[]) ∧ w' = w) : NatOk P fi (bCopyCheck tb) := by
  intro r h w args args' c cs hr ha
  unfold bCopyCheck
  split
  · rename_i b
    obtain ⟨v, rfl, hv⟩ := vrs1 ha
    obtain ⟨l, hl, rfl⟩ := hv.inv_ptr
    unfold copyCheckK
    split
    · rename_i hld
      cases hvar : isVar tb 2 (h.obj b) with
      | false => trivial
      | true =>
        simp only [cond_true]
        cases hst : h.stores b 0 [.ptr b 0] with
        | none => trivial
        | some h' =>
          obtain ⟨l1, hl1, hsh, hshape, hfz⟩ := var_facts hr hvar hld
          rw [hl] at hl1; injection hl1 with hl1; subst hl1
          obtain ⟨l2, cells, hl2, hcs, hlen, _, hcell⟩ := hr.loads hld
          rw [hl] at hl2; injection hl2 with hl2; subst hl2
          obtain ⟨u, hu, hur⟩ := hcs.get' 0 _ rfl
          have := hur.inv_nilp; subst this
          have h0 := hcell 0 _ hu
          simp only [hsh, Nat.add_zero] at h0
          obtain ⟨l3, hl3, _, hrun⟩ := hr.stores hst
          rw [hl] at hl3; injection hl3 with hl3; subst hl3
          obtain ⟨w', hw', hrel, hk⟩ := hrun [.pointer (some ⟨l.blk, 0 + l.sh, none⟩)] (.cons _ _ _ _ (.ptr b 0 l hl) .nil) ⟨l.blk, 0, none⟩ rfl rfl (fun _ => by rw [hsh])
          rw [store_one (old := .pointer none) rfl h0 (hfz 0 (by omega))] at hw'
          injection hw' with _ hw'
          subst hw'
          have hcall := hfresh l.blk w h0 hshape (hfz 0 (by omega))
          rw [hsh] at hrel hk ⊢
          refine callOk_of_calls hN h1 h2 (hcall.mono ?_) c cs
          rintro e w' ⟨rfl, rfl⟩
          exact ⟨r, _, rfl, .tup _ _ .nil, hrel, hk⟩
    · rename_i b' hld
      cases hb : Nat.beq b' b with
      | false => trivial
      | true =>
        have hb := beq_iff.1 hb
        subst hb
        cases hvar : isVar tb 2 (h.obj b') with
        | false => trivial
        | true =>
          simp only [Bool.and_self, cond_true]
          obtain ⟨l1, hl1, hsh, hshape, hfz⟩ := var_facts hr hvar hld
          rw [hl] at hl1; injection hl1 with hl1; subst hl1
          obtain ⟨l2, cells, hl2, hcs, hlen, _, hcell⟩ := hr.loads hld
          rw [hl] at hl2; injection hl2 with hl2; subst hl2
          obtain ⟨u, hu, hur⟩ := hcs.get' 0 _ rfl
          obtain ⟨l4, hl4, rfl⟩ := hur.inv_ptr
          rw [hl] at hl4; injection hl4 with hl4; subst hl4
          have h0 := hcell 0 _ hu
          simp only [hsh, Nat.add_zero] at h0
          have hcall := hused l.blk w h0
          rw [hsh]
          refine callOk_of_calls hN h1 h2 (hcall.mono ?_) c cs
          rintro e w' ⟨rfl, rfl⟩
          exact ⟨r, _, rfl, .tup _ _ .nil, hr, Keeps.refl r h w'⟩
    · trivial
  · trivial
theorem string_nat (hN : Named P) {tb u8 : Nat} {fn : Func} {bd : Code} (h1 : P.funcs[fi]? = some fn) (h2 : fn.body = some bd)
    (hnil : ∀ (b : Nat) (w : World), w.cell? ⟨b, 1, none⟩ = some (.slice none 0 0) → Calls P fi #[.pointer (some ⟨b, 0, none⟩)] w fun e w' => e = .returned (.string ⟨#[]⟩) ∧ w' = w.drew)
    (hsome : ∀ (b g cap n : Nat) (l : List UInt8) (w : World), l ≠ [] → w.cell? ⟨b, 1, none⟩ = some (.slice (some ⟨g, 0, none⟩) l.length cap) → l.length ≤ cap → w.shape? g = some (u8, n) → l.length ≤ n → l.length ≤ 1099511627776 →
      (∀ j x, l[j]? = some x → w.cell? ⟨g, j, none⟩ = some (.int .u8 x.toNat)) → Calls P fi #[.pointer (some ⟨b, 0, none⟩)] w fun e w' => e = .returned (.string ⟨l.toArray⟩) ∧ w' = w.drew.freeze ⟨g, 0, none⟩ l.length) : NatOk P fi (bString tb u8) := by
  intro r h w args args' c cs hr ha
  unfold bString
  split
  · rename_i b
    obtain ⟨v, rfl, hv⟩ := vrs1 ha
    obtain ⟨l, hl, rfl⟩ := hv.inv_ptr
    split
    · rename_i hld
      cases hvar : isVar tb 2 (h.obj b) with
      | false => trivial
      | true =>
        obtain ⟨l1, hl1, hsh, hshape, hfz⟩ := var_facts hr hvar hld
        rw [hl] at hl1; injection hl1 with hl1; subst hl1
        obtain ⟨l2, cells, hl2, hcs, hlen, _, hcell⟩ := hr.loads hld
        rw [hl] at hl2; injection hl2 with hl2; subst hl2
        obtain ⟨u, hu, hur⟩ := hcs.get' 0 _ rfl
        have := hur.inv_nils; subst this
        have h0 := hcell 0 _ hu
        simp only [hsh, Nat.add_zero] at h0
        have hcall := hnil l.blk w h0
        rw [hsh]
        refine callOk_of_calls hN h1 h2 (hcall.mono ?_) c cs
        rintro e w' ⟨rfl, rfl⟩
        exact ⟨r, _, rfl, .str ⟨#[]⟩, hr.drew, Keeps.drew r h w⟩
    · rename_i x len hld
      cases hvar : isVar tb 2 (h.obj b) with
      | false => trivial
      | true =>
        simp only [cond_true]
        unfold bStringK
        cases hlx : h.loads x 0 len with
        | none => trivial
        | some vs =>
          simp only
          cases hrow : isRowOf u8 (h.obj x) with
          | false => trivial
          | true =>
            simp only [Bool.true_and]
            cases hcc : (Nat.ble 1 len && Nat.ble len 1099511627776) && normAll vs with
            | false => trivial
            | true =>
              rw [Bool.and_eq_true, Bool.and_eq_true] at hcc
              obtain ⟨⟨hl1, hlm⟩, hnorm⟩ := hcc
              simp only [cond_true]
              cases hbs : bytesOf vs with
              | none => trivial
              | some bytes =>
                obtain ⟨s, cc, k, e, hbx⟩ := isRowOf_eq hrow
                rw [hbx]
                have hal := alive_of_loads hbx hlx
                cases hkill : killR x h (some (.row s (tagD u8) cc k e)) with
                | none => trivial
                | some h' =>
                  obtain ⟨lx, hlx', ⟨q1, ⟨el, q2, qt⟩, q3, q4⟩, _⟩ := hr.obj x _ hbx hal
                  obtain ⟨t1, t2⟩ := qt.1 u8 rfl
                  subst t1
                  obtain ⟨l0, hl0, hsh, hshape, hfz⟩ := var_facts hr hvar hld
                  rw [hl] at hl0; injection hl0 with hl0; subst hl0
                  obtain ⟨l2, cells, hl2, hcs, hlen, _, hcell⟩ := hr.loads hld
                  rw [hl] at hl2; injection hl2 with hl2; subst hl2
                  obtain ⟨u, hu, hur⟩ := hcs.get' 0 _ rfl
                  obtain ⟨l4, a, cap, hl4, rfl, hes, hlc, hcap, hab, has, hao⟩ := hur.inv_sliceO
                  rw [hlx'] at hl4; injection hl4 with hl4; subst hl4
                  have h0 := hcell 0 _ hu
                  have hlpos : 1 ≤ len := ble_iff.1 hl1
                  have haa : a = ⟨lx.blk, 0, none⟩ := by
                    cases a with
                    | mk ab ao as => simp at hab has hao; subst hab; subst has; rw [hao (by omega), t2]
                  subst haa
                  simp only [hsh, Nat.add_zero] at h0
                  obtain ⟨l5, cells2, hl5, hcs2, hlen2, hle2, hcell2⟩ := hr.loads hlx
                  rw [hlx'] at hl5; injection hl5 with hl5; subst hl5
                  obtain ⟨hbl, hbj⟩ := bytes_cells vs cells2 bytes hcs2 hnorm hbs
                  have hbl : bytes.length = len := by omega
                  have hcall := hsome l.blk lx.blk cap lx.n bytes w (by intro e; rw [e] at hbl; simp at hbl; omega) (by rw [hbl]; exact h0) (by omega) q2 (by omega) (by rw [hbl]; exact ble_iff.1 hlm)
                    (by intro j y hy; have := hcell2 j _ (hbj j y hy); rw [t2] at this; simpa using this)
                  rw [hsh]
                  refine callOk_of_calls hN h1 h2 (hcall.mono ?_) c cs
                  rintro e' w' ⟨rfl, rfl⟩
                  obtain ⟨hrel, hk⟩ := hr.drew.killRow (w' := w.drew.freeze ⟨lx.blk, 0, none⟩ bytes.length) hbx hal hlx' (fun y hy => freeze_other _ _ (by exact hy)) (freeze_size _ _) (freeze_rest _ _ _).1 (freeze_rest _ _ _).2.1 (freeze_rest _ _ _).2.2 (h' := h') (by
                    cases h with
                    | mk bl nx dd cl => injection hkill with hkill; exact hkill.symm)
                  exact ⟨r, _, rfl, .str ⟨bytes.toArray⟩, hrel, Keeps.of_drew hk⟩
    · trivial
  · trivial
end
end Go.AM
