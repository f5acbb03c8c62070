/- Quiet regions: their words and their rows. -/
import Derived.Test.YtnedikjioliodaaGreatDoorMb3
import Derived.AtR
import Derived.Defers
set_option linter.all false
namespace Go.AM
open Go
variable [Env]
def plainQ (q : AOp) : Bool := match q with | .p1 _ | .p2 _ | .p3 _ | .m1 _ | .m2 _ | .m3 _ | .bad => true | _ => false
section
variable {P : Program}
theorem plain_withT {t : TypeId} {k : TypeInfo → AOp} (h : ∀ i, plainQ (k i) = true) : plainQ (withT P t k) = true := by
  unfold withT; split
  · exact h _
  · rfl
theorem plain_withU {t : TypeId} {k : TypeDesc → AOp} (h : ∀ i, plainQ (k i) = true) : plainQ (withU P t k) = true := by
  unfold withU; split
  · exact h _
  · rfl
theorem plain_zeroI {i : TypeInfo} {k : AV → AOp} (h : ∀ i, plainQ (k i) = true) : plainQ (zeroI i k) = true := by
  unfold zeroI; split
  · split
    · exact h _
    · rfl
  · rfl
theorem cop_plain {op : Op} (h1 : ∀ c, op ≠ .call c) (h2 : ∀ c, op ≠ .defer c) (h3 : ∀ x, op ≠ .panic x) : plainQ (cop P op) = true := by
  cases op with
  | call c => exact absurd rfl (h1 c)
  | defer c => exact absurd rfl (h2 c)
  | panic c => exact absurd rfl (h3 c)
  | alloc t => show plainQ (withT P t fun i => zeroI i fun z => .m1 (.alloc (tagA t) z.cells)) = true; (repeat' first | rfl | (refine plain_withT (fun _ => ?_)) | (refine plain_withU (fun _ => ?_)) | (refine plain_zeroI (fun _ => ?_)) | split)
  | build t ps => show plainQ (cBuild P t ps) = true; unfold cBuild; (repeat' first | rfl | (refine plain_withT (fun _ => ?_)) | (refine plain_withU (fun _ => ?_)) | (refine plain_zeroI (fun _ => ?_)) | split)
  | buildSlice t n ps => show plainQ (cBuildSlice P t n ps) = true; unfold cBuildSlice; (repeat' first | rfl | (refine plain_withT (fun _ => ?_)) | (refine plain_withU (fun _ => ?_)) | (refine plain_zeroI (fun _ => ?_)) | split)
  | load t a => show plainQ (withT P t fun i => withU P t fun d => .m1 (.load i.size (aggD d) (opd a))) = true; (repeat' first | rfl | (refine plain_withT (fun _ => ?_)) | (refine plain_withU (fun _ => ?_)) | (refine plain_zeroI (fun _ => ?_)) | split)
  | store t a x => show plainQ (withT P t fun i => .m1 (.store i.size (opd a) (opd x))) = true; (repeat' first | rfl | (refine plain_withT (fun _ => ?_)) | (refine plain_withU (fun _ => ?_)) | (refine plain_zeroI (fun _ => ?_)) | split)
  | binOp op t x y yt =>
    show plainQ (cBinOp P op t x y) = true
    have key : ∀ neg c, plainQ (cEq P op neg t c (opd x) (opd y)) = true := by
      intro neg c
      unfold cEq
      refine plain_withU (fun d => ?_)
      cases d <;> first
        | rfl
        | (refine plain_withT (fun i => ?_); cases Nat.beq i.size 0 <;> rfl)
        | (simp only; generalize (P.eqGuardType P.depth t || P.stoodInHeld t) = bb; cases bb <;> simp only [cond_true, cond_false] <;> first | rfl | (split <;> rfl))
    unfold cBinOp
    split
    · exact key _ _
    · exact key _ _
    · rfl
  | convert s d x => show plainQ (cConvert P s d (opd x)) = true; unfold cConvert; (repeat' first | rfl | (refine plain_withT (fun _ => ?_)) | (refine plain_withU (fun _ => ?_)) | (refine plain_zeroI (fun _ => ?_)) | split)
  | makeInterface t x => show plainQ (cMkIface P t (opd x)) = true; unfold cMkIface; (repeat' first | rfl | (refine plain_withT (fun _ => ?_)) | (refine plain_withU (fun _ => ?_)) | (refine plain_zeroI (fun _ => ?_)) | split)
  | makeFunc fn a b => show plainQ (bif isYield fn then AOp.bad else .p2 (.mkFunc fn (a.toList.map opd) (b.toList.map opd))) = true; cases isYield fn <;> rfl
  | makeMap t r => cases r <;> rfl
  | makeSlice t l c => show plainQ (cMakeSlice P t (opd l) (opd c)) = true; unfold cMakeSlice; (repeat' first | rfl | (refine plain_withT (fun _ => ?_)) | (refine plain_withU (fun _ => ?_)) | (refine plain_zeroI (fun _ => ?_)) | split)
  | slice t x lo hi mx => show plainQ (cSlice P t (opd x) (lo.map opd) (hi.map opd) (mx.map opd)) = true; unfold cSlice; (repeat' first | rfl | (refine plain_withT (fun _ => ?_)) | (refine plain_withU (fun _ => ?_)) | (refine plain_zeroI (fun _ => ?_)) | split)
  | fieldAddr t x f =>
    show plainQ (cFieldAddr P t (opd x) f) = true
    unfold cFieldAddr
    refine plain_withU (fun d => ?_)
    cases d <;> first
      | rfl
      | (simp only; split
         · refine plain_withT (fun i => ?_); cases Nat.beq i.size 0 <;> rfl
         · rfl)
  | field t x f => show plainQ (cField P t (opd x) f) = true; unfold cField; (repeat' first | rfl | (refine plain_withT (fun _ => ?_)) | (refine plain_withU (fun _ => ?_)) | (refine plain_zeroI (fun _ => ?_)) | split)
  | indexAddr t x i => show plainQ (cIndexAddr P t (opd x) (opd i)) = true; unfold cIndexAddr; (repeat' first | rfl | (refine plain_withT (fun _ => ?_)) | (refine plain_withU (fun _ => ?_)) | (refine plain_zeroI (fun _ => ?_)) | split)
  | index t x i => show plainQ (cIndex P t (opd x) (opd i)) = true; unfold cIndex; (repeat' first | rfl | (refine plain_withT (fun _ => ?_)) | (refine plain_withU (fun _ => ?_)) | (refine plain_zeroI (fun _ => ?_)) | split)
  | lookup t x k ok => show plainQ (cLookup P t (opd x) (opd k) ok) = true; unfold cLookup; (repeat' first | rfl | (refine plain_withT (fun _ => ?_)) | (refine plain_withU (fun _ => ?_)) | (refine plain_zeroI (fun _ => ?_)) | split)
  | mapUpdate t m k x => show plainQ (cMapUpdate P t (opd m) (opd k) (opd x)) = true; unfold cMapUpdate; (repeat' first | rfl | (refine plain_withT (fun _ => ?_)) | (refine plain_withU (fun _ => ?_)) | (refine plain_zeroI (fun _ => ?_)) | split)
  | insert t m k x => show plainQ (cMapUpdate P t (opd m) (opd k) (opd x)) = true; unfold cMapUpdate; (repeat' first | rfl | (refine plain_withT (fun _ => ?_)) | (refine plain_withU (fun _ => ?_)) | (refine plain_zeroI (fun _ => ?_)) | split)
  | mapEntry t m k => show plainQ (cMapEntry P t (opd m) (opd k)) = true; unfold cMapEntry; (repeat' first | rfl | (refine plain_withT (fun _ => ?_)) | (refine plain_withU (fun _ => ?_)) | (refine plain_zeroI (fun _ => ?_)) | split)
  | range t x => show plainQ (cRange P t (opd x)) = true; unfold cRange; (repeat' first | rfl | (refine plain_withT (fun _ => ?_)) | (refine plain_withU (fun _ => ?_)) | (refine plain_zeroI (fun _ => ?_)) | split)
  | typeAssert x xt t ok => show plainQ (cTypeAssert P (opd x) t ok) = true; unfold cTypeAssert; (repeat' first | rfl | (refine plain_withT (fun _ => ?_)) | (refine plain_withU (fun _ => ?_)) | (refine plain_zeroI (fun _ => ?_)) | split)
  | _ => rfl
/-- what a call is compiled to -/
theorem builtin_plain (b : Builtin) (ts : Array TypeId) (args : List AOpd) : plainQ (cBuiltin P b ts args) = true ∨ (b = .recover ∧ cBuiltin P b ts args = .recover) := by
  unfold cBuiltin
  split
  · left; unfold cAppend
    refine plain_withU (fun ds => plain_withU (fun dx => ?_))
    split
    · rfl
    · refine plain_withT (fun i => ?_)
      generalize (Nat.ble 1 i.size && Nat.ble 1 i.bytes && match i.zero with | some z => z.cells.size == i.size | none => false) = bb
      cases bb <;> rfl
    · rfl
  · left; unfold cCopy; (repeat' first | rfl | (refine plain_withT (fun _ => ?_)) | (refine plain_withU (fun _ => ?_)) | (refine plain_zeroI (fun _ => ?_)) | split)
  · left; unfold cClear; (repeat' first | rfl | (refine plain_withT (fun _ => ?_)) | (refine plain_withU (fun _ => ?_)) | (refine plain_zeroI (fun _ => ?_)) | split)
  · left; unfold cLen; (repeat' first | rfl | (refine plain_withT (fun _ => ?_)) | (refine plain_withU (fun _ => ?_)) | (refine plain_zeroI (fun _ => ?_)) | split)
  · left; rfl
  · left; rfl
  · left; unfold cDelete; (repeat' first | rfl | (refine plain_withT (fun _ => ?_)) | (refine plain_withU (fun _ => ?_)) | (refine plain_zeroI (fun _ => ?_)) | split)
  · right; exact ⟨rfl, rfl⟩
  · left; rfl
end
end Go.AM
namespace Go.AM
open Go
variable [Env]

/-! ## frames -/
namespace Fr
def ds (f : Fr) : List (AV × List AV) := match f with | ⟨d, _, _⟩ => d
def pan (f : Fr) : Option (AV × Bool) := match f with | ⟨_, p, _⟩ => p
def rnd (f : Fr) : Option Nat := match f with | ⟨_, _, r⟩ => r
end Fr
inductive PanR (r : Rho) : Option (AV × Bool) → CallKind → List Frame → Prop where
  | normal (cs : List Frame) : PanR r none .normal cs
  | returning (c : Frame) (rest : List Frame) (h : c.mode = .returning) : PanR r none .deferred (c :: rest)
  | panicking (v : AV) (b : Bool) (c : Frame) (rest : List Frame) (v' : Value) (h : c.mode = .panicking [{ v := v', recovered := b }]) (hv : VR r v v') : PanR r (some (v, b)) .deferred (c :: rest)
theorem PanR.mono {r r' : Rho} (hl : r.le r') {p : Option (AV × Bool)} {k : CallKind} {cs : List Frame} (h : PanR r p k cs) : PanR r' p k cs := by
  cases h with
  | normal => exact .normal _
  | returning c rest h => exact .returning c rest h
  | panicking v b c rest v' h hv => exact .panicking v b c rest v' h (hv.mono hl)
/-- the deferred calls of a frame, and the marks of its loops over functions, which were laid at lo or later -/
inductive DefR (lo : Nat) (r : Rho) (h : H) (w : World) : List (AV × List AV) → List Deferred → Prop where
  | nil : DefR lo r h w [] []
  | call (ds : List (AV × List AV)) (ms : List Deferred) (fn : Fn) (fs cs args : List AV) (fn' : Fn) (fs' cs' args' : Array Value) (h1 : FnR r fn fn') (h2 : VRs r fs fs'.toList) (h3 : VRs r cs cs'.toList) (h4 : VRs r args args'.toList)
      (h5 : DefR lo r h w ds ms) : DefR lo r h w ((.func fn fs cs, args) :: ds) ({ target := .fn fn' cs', args := fs' ++ args' } :: ms)
  | mark (ds : List (AV × List AV)) (ms : List Deferred) (blk : Nat) (hb : w.heap[blk]? = some (.deferred (some []))) (hl : ¬ LiveAt r h blk) (hlo : lo ≤ blk) (hd : ∀ d ∈ ms, d.target ≠ .collected blk) (h5 : DefR lo r h w ds ms) :
      DefR lo r h w ds ({ target := .collected blk, args := #[] } :: ms)
theorem DefR.keeps {lo : Nat} {r r' : Rho} {h h' : H} {w w' : World} (hk : Keeps r h w r' h' w') {ds : List (AV × List AV)} {ms : List Deferred} (hd : DefR lo r h w ds ms) : DefR lo r' h' w' ds ms := by
  induction hd with
  | nil => exact .nil
  | call ds ms fn fs cs args fn' fs' cs' args' h1 h2 h3 h4 _ ih => exact .call ds ms fn fs cs args fn' fs' cs' args' (h1.mono hk.le) (h2.mono hk.le) (h3.mono hk.le) (h4.mono hk.le) ih
  | mark ds ms blk hb hl hlo hd _ ih =>
    have hlt := lt_of_heap hb
    exact .mark ds ms blk (by rw [hk.same blk hlt hl]; exact hb) (fun q => hl (hk.back blk hlt q)) hlo hd ih
/-- the marks lie in memory -/
theorem DefR.lt {lo : Nat} {r : Rho} {h : H} {w : World} {ds : List (AV × List AV)} {ms : List Deferred} (hd : DefR lo r h w ds ms) : ∀ d ∈ ms, ∀ blk, d.target = .collected blk → blk < w.heap.size := by
  induction hd with
  | nil => intro d hd; simp at hd
  | call ds ms fn fs cs args fn' fs' cs' args' h1 h2 h3 h4 _ ih =>
    intro d hd blk e
    rcases List.mem_cons.1 hd with rfl | hd
    · simp at e
    · exact ih d hd blk e
  | mark ds ms blk hb hl hlo hd' _ ih =>
    intro d hd blk' e
    rcases List.mem_cons.1 hd with rfl | hd
    · injection e with e; subst e; exact lt_of_heap hb
    · exact ih d hd blk' e
def RndR (r : Rho) (x : Option Nat) (y : Option Nat) (k : CallKind) : Prop := match x, y with
  | none, none => True
  | some l, some m => (∃ loc, r l = some loc ∧ loc.blk = m) ∧ k = .normal
  | _, _ => False
theorem RndR.mono {r r' : Rho} (hl : r.le r') {x y : Option Nat} {k : CallKind} (h : RndR r x y k) : RndR r' x y k := by
  cases x <;> cases y <;> simp only [RndR] at h ⊢
  obtain ⟨⟨loc, h1, h2⟩, h3⟩ := h
  exact ⟨⟨loc, hl _ _ h1, h2⟩, h3⟩
/-- a frame that runs -/
structure St (P : Program) (n : Nat) (r : Rho) (t : TM) (f : Fr) (h : H) (b : Frame) (a : Act) (cs : List Frame) (w : World) : Prop where
  rel : Rel P r h w
  tmp : TR r t a.tmps
  size : n ≤ a.tmps.size
  low : b.tmps.size ≤ w.heap.size
  defs : DefR b.tmps.size r h w f.ds a.defers
  pan : PanR r f.pan b.kind cs
  rnd : RndR r f.rnd b.roundOf b.kind
def CsR (k : CallKind) (cs cs' : List Frame) : Prop := (k = .normal → cs' = cs) ∧ (cs' = cs ∨ ∃ c rest md, cs = c :: rest ∧ cs' = { c with mode := md } :: rest)
theorem CsR.refl (k : CallKind) (cs : List Frame) : CsR k cs cs := ⟨fun _ => rfl, .inl rfl⟩
theorem CsR.trans {k : CallKind} {cs cs1 cs2 : List Frame} (h : CsR k cs cs1) (h' : CsR k cs1 cs2) : CsR k cs cs2 := by
  refine ⟨fun hk => (h'.1 hk).trans (h.1 hk), ?_⟩
  rcases h.2 with rfl | ⟨c, rest, md, rfl, rfl⟩
  · exact h'.2
  · rcases h'.2 with rfl | ⟨c2, rest2, md2, e, rfl⟩
    · exact .inr ⟨c, rest, md, rfl, rfl⟩
    · injection e with e1 e2
      subst e1; subst e2
      exact .inr ⟨c, rest, md2, rfl, rfl⟩
/-- how a piece of code ends -/
structure Fin (P : Program) (n : Nat) (r : Rho) (f : Fr) (h : H) (w : World) (b : Frame) (cs : List Frame) (r' : Rho) (t' : TM) (f' : Fr) (h' : H) (a' : Act) (cs' : List Frame) (w' : World) : Prop where
  st : St P n r' t' f' h' b a' cs' w'
  keeps : Keeps r h w r' h' w'
  cs : CsR b.kind cs cs'
  rnd : f'.rnd = f.rnd
def CodeRes (P : Program) (n : Nat) (r : Rho) (f : Fr) (h : H) (w : World) (m : Machine) (b : Frame) (k : List Item) (cs : List Frame) (R : R) : Prop := match R with
  | .normal t' f' h' => ∃ r' a' cs' w', Steps P m (lone (b.atR a' k) cs' w') ∧ Fin P n r f h w b cs r' t' f' h' a' cs' w'
  | .exit id t' f' h' => ∃ r' a' cs' w' k0, exitTo id k0 = exitTo id k ∧ Steps P m (lone (b.atR a' (.code (.exit id) :: k0)) cs' w') ∧ Fin P n r f h w b cs r' t' f' h' a' cs' w'
  | .goto l t' f' h' => ∃ r' a' cs' w' k0, gotoIn l k0 = gotoIn l k ∧ Steps P m (lone (b.atR a' (.code (.goto l) :: k0)) cs' w') ∧ Fin P n r f h w b cs r' t' f' h' a' cs' w'
  | .ret t' f' h' => ∃ r' a' cs' w' k0, Steps P m (lone (b.atR a' (.code .ret :: k0)) cs' w') ∧ Fin P n r f h w b cs r' t' f' h' a' cs' w'
  | .panic v t' f' h' => ∃ r' a' cs' w' todo v', Steps P m (lone { b.atR a' todo with mode := .panicking [{ v := v', recovered := false }] } cs' w') ∧ Fin P n r f h w b cs r' t' f' h' a' cs' w' ∧ VR r' v v'
  | .stuck => True
inductive Start : Code → List Item → List Item → Prop where
  | code (c : Code) (k : List Item) : Start c k (.code c :: k)
  | loop (c : Code) (k : List Item) : Start (.loop c) k (.inLoop c :: k)
def SimEv (P : Program) (ev : EvF) : Prop := ∀ (c : Code) (n : Nat) (r : Rho) (t : TM) (f : Fr) (h : H) (b : Frame) (a : Act) (cs : List Frame) (w : World) (k todo : List Item), wfCode n c = true → St P n r t f h b a cs w →
  Start c k todo → CodeRes P n r f h w (lone (b.atR a todo) cs w) b k cs (ev (ccode P c) t f h)

/-! ## calls -/
inductive Entered (P : Program) (kind : CallKind) : Next → Frame → Prop where
  | enter (f : FuncId) (args : Array Value) : Entered P kind (.enter f args) (Frame.enter P f args kind)
  | round (l : Nat) (f : FuncId) (tmps : Array Value) (asg body : Code) : Entered P kind (.round l f tmps asg body) (Frame.round l f tmps asg body kind)
def CallOk (P : Program) (r : Rho) (h : H) (w : World) (s : Sem Next) (c : Frame) (cs : List Frame) (x : CR) : Prop := match x with
  | .ret v _ h' => ∃ r' v' w', ((s.run P w = .ok (.value v') w') ∨ (∃ nx fr w1, s.run P w = .ok nx w1 ∧ Entered P .normal nx fr ∧ Steps P (lone fr (c :: cs) w1) (lone (c.finish v') cs w'))) ∧ VR r' v v' ∧ Rel P r' h' w' ∧ Keeps r h w r' h' w'
  | .panic v _ h' => ∃ r' v' w', (∃ nx fr w1, s.run P w = .ok nx w1 ∧ Entered P .normal nx fr ∧ Steps P (lone fr (c :: cs) w1) (lone (c.raise [{ v := v', recovered := false }]) cs w')) ∧ VR r' v v' ∧ Rel P r' h' w' ∧ Keeps r h w r' h' w'
  | .stuck => True
def callSem (g : Value) (args : Array Value) : Sem Next := do let d ← Deferred.ofValue g args; invoke d.target d.args
def SimCall (P : Program) (call : CallF) : Prop := ∀ (r : Rho) (h : H) (w : World) (g : AV) (args : List AV) (g' : Value) (args' : Array Value) (c : Frame) (cs : List Frame), Rel P r h w → VR r g g' → VRs r args args'.toList →
  CallOk P r h w (callSem g' args') c cs (call g args none h)
/-- deferred calls -/
def ModeR (r : Rho) (p : Option (AV × Bool)) (md : FrameMode) : Prop := match p with
  | none => md = .returning
  | some (v, b) => ∃ v', md = .panicking [{ v := v', recovered := b }] ∧ VR r v v'
theorem ModeR.mono {r r' : Rho} (hl : r.le r') {p : Option (AV × Bool)} {md : FrameMode} (h : ModeR r p md) : ModeR r' p md := by
  unfold ModeR at *
  split at h
  · exact h
  · obtain ⟨v', h1, h2⟩ := h; exact ⟨v', h1, h2.mono hl⟩
def SimDefer (P : Program) (call : CallF) : Prop := ∀ (r : Rho) (h : H) (w : World) (fn : Fn) (fs cap args : List AV) (fn' : Fn) (fs' cap' args' : Array Value) (p : Option (AV × Bool)) (fr : Frame) (cs : List Frame), Rel P r h w →
  FnR r fn fn' → VRs r fs fs'.toList → VRs r cap cap'.toList → VRs r args args'.toList → ModeR r p fr.mode → match call (.func fn fs cap) args p h with
    | .ret _ p' h' => ∃ r' w' f as md, (invoke (.fn fn' cap') (fs' ++ args')).run P w = .ok (.enter f as) w ∧ ModeR r' (settle p') md ∧ Steps P (lone (Frame.enter P f as .deferred) (fr :: cs) w) (lone { fr with mode := md } cs w') ∧ Rel P r' h' w' ∧ Keeps r h w r' h' w'
    | _ => True

/-! ## temporaries -/
theorem put_size (a : Act) (d : Option Tmp) (v : Value) : (a.put d v).tmps.size = a.tmps.size := by cases d <;> simp [Act.put]
theorem put_defers (a : Act) (d : Option Tmp) (v : Value) : (a.put d v).defers = a.defers := by cases d <;> rfl
theorem TR.put {r : Rho} {t : TM} {a : Act} (h : TR r t a.tmps) {d : Option Tmp} (hd : ∀ x, d = some x → x < a.tmps.size) {x : AV} {v : Value} (hx : VR r x v) : TR r (putD t d x) (a.put d v).tmps := by
  cases d with
  | none => exact h
  | some d =>
    have hd := hd d rfl
    intro n y hy
    have hy : T.get (T.put t d x) n = some y := hy
    rw [T.get_put] at hy
    by_cases e : n = d
    · subst e
      rw [if_pos rfl] at hy
      injection hy with hy; subst hy
      exact ⟨v, by simp [Act.put, hd], hx⟩
    · rw [if_neg e] at hy
      obtain ⟨u, hu, hur⟩ := h n y hy
      exact ⟨u, by simp [Act.put, Array.getElem?_setIfInBounds, Ne.symm e, hu], hur⟩
theorem argsT_tr {r : Rho} {args : List AV} {args' : Array Value} (h : VRs r args args'.toList) (n : Nat) : TR r (argsT args) (args' ++ Array.replicate n undef) := by
  intro i x hx
  unfold argsT at hx
  rw [T.get_putList] at hx
  split at hx
  · rename_i hi
    obtain ⟨v, hv, hr⟩ := h.get' _ _ hx
    refine ⟨v, ?_, hr⟩
    have hv : args'[i]? = some v := by simpa using hv
    have hlt := (Array.getElem?_eq_some_iff.1 hv).1
    rw [Array.getElem?_append_left hlt]; exact hv
  · simp [T.get_lf] at hx
end Go.AM
namespace Go.AM
open Go
variable [Env]
section
variable {P : Program} {b : Frame} {a : Act} {k : List Item} {cs : List Frame} {w w' : World} {ops : Array Oper} {i : Nat} {rest : List Nat} {o : Oper}

theorem step_of_value (ho : ops[i]? = some o) (hw : Region.wanted o (yielded ops a.tmps) = true) {v : Value} (hrun : (o.semAt b.roundOf a.eval).run P w = .ok (.value v) w') :
    step P (lone (b.atR a (.inRegion ops (i :: rest) :: k)) cs w) = .next (lone (b.atR (a.put o.dst v) (.inRegion ops rest :: k)) cs w') := by
  have hf := Frame.finish_atR b a ops i rest k v
  rw [show (ops[i]?).bind (·.dst) = o.dst from by rw [ho]; rfl] at hf
  rw [← hf]
  refine step_lone_go ?_
  rw [stepGR_op ho hw]
  simp only [stepG.apply, Sem.runT_eq, hrun, if_true, GStep.bare_after, GStep.bare_go]
theorem step_of_skip (ho : ops[i]? = some o) (hw : Region.wanted o (yielded ops a.tmps) = true) (hrun : (o.semAt b.roundOf a.eval).run P w = .ok .skip w') :
    step P (lone (b.atR a (.inRegion ops (i :: rest) :: k)) cs w) = .next (lone (b.atR (a.put o.dst undef) (.inRegion ops rest :: k)) cs w') := by
  have hf := Frame.finish_atR b a ops i rest k undef
  rw [show (ops[i]?).bind (·.dst) = o.dst from by rw [ho]; rfl] at hf
  rw [← hf]
  refine step_lone_go ?_
  rw [stepGR_op ho hw]
  simp only [stepG.apply, Sem.runT_eq, hrun, if_true, GStep.bare_after, GStep.bare_go]
theorem step_of_entered (ho : ops[i]? = some o) (hw : Region.wanted o (yielded ops a.tmps) = true) {nx : Next} {fr : Frame} (hrun : (o.semAt b.roundOf a.eval).run P w = .ok nx w') (he : Entered P .normal nx fr) :
    step P (lone (b.atR a (.inRegion ops (i :: rest) :: k)) cs w) = .next (lone fr (b.atR a (.inRegion ops (i :: rest) :: k) :: cs) w') := by
  refine step_lone_go ?_
  rw [stepGR_op ho hw]
  cases he with
  | enter f args => simp only [stepG.apply, Sem.runT_eq, hrun, if_true, GStep.bare_after, GStep.bare_go, Frame.atR]
  | round l f tmps asg body => simp only [stepG.apply, Sem.runT_eq, hrun, if_true, GStep.bare_after, GStep.bare_go]
theorem step_of_panic (ho : ops[i]? = some o) (hw : Region.wanted o (yielded ops a.tmps) = true) {v : Value} (hrun : (o.semAt b.roundOf a.eval).run P w = .halt (.panic v) w') :
    step P (lone (b.atR a (.inRegion ops (i :: rest) :: k)) cs w) = .next (lone { b.atR a (.inRegion ops (i :: rest) :: k) with mode := .panicking [{ v, recovered := false }] } cs w') := by
  refine step_lone_go ?_
  rw [stepGR_op ho hw]
  simp only [stepG.apply, Sem.runT_eq, hrun, if_true, GStep.bare_after, GStep.bare_go, Frame.raise_atR]
theorem step_of_defer (ho : ops[i]? = some o) (hw : Region.wanted o (yielded ops a.tmps) = true) {d : Deferred} (hrun : (o.semAt b.roundOf a.eval).run P w = .ok (.defer d) w') :
    step P (lone (b.atR a (.inRegion ops (i :: rest) :: k)) cs w) = .next (lone (b.atR (({ a with defers := d :: a.defers } : Act).put o.dst undef) (.inRegion ops rest :: k)) cs w') := by
  have hf := Frame.finish_atR b { a with defers := d :: a.defers } ops i rest k undef
  rw [show (ops[i]?).bind (·.dst) = o.dst from by rw [ho]; rfl] at hf
  rw [← hf]
  refine step_lone_go ?_
  rw [stepGR_op ho hw]
  simp only [stepG.apply, Sem.runT_eq, hrun, if_true, GStep.bare_after, GStep.bare_go]
  rfl
theorem step_of_recover (ho : ops[i]? = some o) (hw : Region.wanted o (yielded ops a.tmps) = true) (hrun : (o.semAt b.roundOf a.eval).run P w = .ok .recover w') (hf : P.follows .rangeFuncRecover = true) {v : Value} {cs' : List Frame}
    (ht : (tryRecover (b.atR a (.inRegion ops (i :: rest) :: k)) cs = some (v, cs')) ∨ (tryRecover (b.atR a (.inRegion ops (i :: rest) :: k)) cs = none ∧ v = .nilIface ∧ cs' = cs)) :
    step P (lone (b.atR a (.inRegion ops (i :: rest) :: k)) cs w) = .next (lone (b.atR (a.put o.dst v) (.inRegion ops rest :: k)) cs' w') := by
  have hfi := Frame.finish_atR b a ops i rest k v
  rw [show (ops[i]?).bind (·.dst) = o.dst from by rw [ho]; rfl] at hfi
  rw [← hfi]
  refine step_lone_go ?_
  rw [stepGR_op ho hw]
  have hr : (b.atR a (.inRegion ops (i :: rest) :: k)).roundOf = b.roundOf := rfl
  have key : ∀ x : Option (Value × List Frame), (x = some (v, cs') ∨ (x = none ∧ v = .nilIface ∧ cs' = cs)) →
      ((match x with
      | some (v, callers) => GStep.go { frame := (b.atR a (.inRegion ops (i :: rest) :: k)).finish v, callers, status := .running, dying := none } w'
      | none => GStep.go { frame := (b.atR a (.inRegion ops (i :: rest) :: k)).finish .nilIface, callers := cs, status := .running, dying := none } w').bare =
      GStep.go { frame := (b.atR a (.inRegion ops (i :: rest) :: k)).finish v, callers := cs', status := .running, dying := none } w') := by
    rintro x (rfl | ⟨rfl, rfl, rfl⟩) <;> rfl
  cases hb : b.roundOf with
  | none =>
    simp only [stepG.apply, Sem.runT_eq, hrun, if_true, GStep.bare_after, hr, hb]
    rw [hb] at hrun
    simp only [hrun, GStep.bare_after]
    exact key _ ht
  | some l =>
    simp only [stepG.apply, Sem.runT_eq, hrun, if_true, GStep.bare_after, hr, hb, hf]
    rw [hb] at hrun
    simp only [hrun, GStep.bare_after]
    exact key _ ht

/-! ### guards -/
theorem wantG_ok {r : Rho} {t : TM} (ht : TR r t a.tmps) (ho : ops[i]? = some o) {x : Bool} {d : Option Nat} {g : Option (Nat × Bool)} {q : AOp} (hc : coper P ops o = .mk d g q) (hq : q ≠ .bad ∨ x = false) (h : wantG t g = some x) :
    Region.wanted o (yielded ops a.tmps) = x ∧ d = o.dst ∧ q = cop P o.op := by
  unfold coper at hc
  unfold Region.wanted
  cases hg : o.guard with
  | none =>
    rw [hg] at hc
    injection hc with h1 h2 h3
    subst h2
    have h : some true = some x := h
    injection h with h; subst h
    exact ⟨rfl, h1.symm, h3.symm⟩
  | some jw =>
    obtain ⟨j, wnt⟩ := jw
    rw [hg] at hc
    simp only at hc ⊢
    cases hd : (ops[j]?).bind (·.dst) with
    | none =>
      rw [hd] at hc; injection hc with h1 h2 h3
      rcases hq with hq | hq
      · exact absurd h3.symm hq
      · subst h2; subst hq; simp [wantG] at h
    | some dd =>
      rw [hd] at hc
      injection hc with h1 h2 h3
      subst h2
      have h : wantS t (dd, wnt) = some x := h
      unfold wantS at h
      simp only at h
      refine ⟨?_, h1.symm, h3.symm⟩
      unfold yielded
      rw [hd]
      simp only [Option.bind_some]
      split at h
      · rename_i bb hb
        obtain ⟨v, hv, hvr⟩ := ht _ _ hb
        have := hvr.inv_bool; subst this
        rw [hv]
        injection h with h; subst h
        cases bb <;> cases wnt <;> rfl
      · rename_i hb
        obtain ⟨v, hv, hvr⟩ := ht _ _ hb
        obtain ⟨vs, rfl, hvs⟩ := hvr.inv_tup
        rw [hv]
        injection h with h
      · simp at h
end
end Go.AM
namespace Go.AM
open Go
variable [Env]
/-- what is asked of a program -/
structure Fol (P : Program) : Prop where
  mixed : P.follows .mixedOrders = true
  recov : P.follows .rangeFuncRecover = true
section
variable {P : Program} {n : Nat} {r : Rho} {t : TM} {f : Fr} {h : H} {b : Frame} {a : Act} {k : List Item} {cs : List Frame} {w w' : World} {ops : Array Oper} {i : Nat} {rest : List Nat} {o : Oper}

/-- how one operation ends -/
def OpOut (P : Program) (n : Nat) (r : Rho) (f : Fr) (h : H) (w : World) (m : Machine) (b : Frame) (k : List Item) (cs : List Frame) (kont : Kont) (R : R) : Prop :=
  (∃ t1 f1 h1 r1 a1 cs1 w1, R = kont t1 f1 h1 ∧ Steps P m (lone (b.atR a1 k) cs1 w1) ∧ Fin P n r f h w b cs r1 t1 f1 h1 a1 cs1 w1) ∨
  (∃ v t1 f1 h1, R = .panic v t1 f1 h1 ∧ CodeRes P n r f h w m b k cs (.panic v t1 f1 h1)) ∨ R = .stuck
theorem Fin.refl (hs : St P n r t f h b a cs w) : Fin P n r f h w b cs r t f h a cs w := ⟨hs, Keeps.refl r h w, CsR.refl _ _, rfl⟩
theorem Fin.trans {r1 : Rho} {t1 : TM} {f1 : Fr} {h1 : H} {a1 : Act} {cs1 : List Frame} {w1 : World} {r2 : Rho} {t2 : TM} {f2 : Fr} {h2 : H} {a2 : Act} {cs2 : List Frame} {w2 : World}
    (x : Fin P n r f h w b cs r1 t1 f1 h1 a1 cs1 w1) (y : Fin P n r1 f1 h1 w1 b cs1 r2 t2 f2 h2 a2 cs2 w2) : Fin P n r f h w b cs r2 t2 f2 h2 a2 cs2 w2 :=
  ⟨y.st, x.keeps.trans y.keeps, x.cs.trans y.cs, y.rnd.trans x.rnd⟩
theorem CodeRes.after {r1 : Rho} {t1 : TM} {f1 : Fr} {h1 : H} {a1 : Act} {cs1 : List Frame} {w1 : World} {m m1 : Machine} {R : R} (hm : Steps P m m1) (x : Fin P n r f h w b cs r1 t1 f1 h1 a1 cs1 w1)
    (y : CodeRes P n r1 f1 h1 w1 m1 b k cs1 R) : CodeRes P n r f h w m b k cs R := by
  cases R with
  | normal t' f' h' => obtain ⟨r', a', cs', w', hs, hf⟩ := y; exact ⟨r', a', cs', w', hm.trans hs, x.trans hf⟩
  | exit id t' f' h' => obtain ⟨r', a', cs', w', k0, hk, hs, hf⟩ := y; exact ⟨r', a', cs', w', k0, hk, hm.trans hs, x.trans hf⟩
  | goto l t' f' h' => obtain ⟨r', a', cs', w', k0, hk, hs, hf⟩ := y; exact ⟨r', a', cs', w', k0, hk, hm.trans hs, x.trans hf⟩
  | ret t' f' h' => obtain ⟨r', a', cs', w', k0, hs, hf⟩ := y; exact ⟨r', a', cs', w', k0, hm.trans hs, x.trans hf⟩
  | panic v t' f' h' => obtain ⟨r', a', cs', w', td, v', hs, hf, hv⟩ := y; exact ⟨r', a', cs', w', td, v', hm.trans hs, x.trans hf, hv⟩
  | stuck => trivial
theorem CodeRes.steps {m m1 : Machine} {R : R} (hm : Steps P m m1) (y : CodeRes P n r f h w m1 b k cs R) : CodeRes P n r f h w m b k cs R := by
  cases R with
  | normal t' f' h' => obtain ⟨r', a', cs', w', hs, hf⟩ := y; exact ⟨r', a', cs', w', hm.trans hs, hf⟩
  | exit id t' f' h' => obtain ⟨r', a', cs', w', k0, hk, hs, hf⟩ := y; exact ⟨r', a', cs', w', k0, hk, hm.trans hs, hf⟩
  | goto l t' f' h' => obtain ⟨r', a', cs', w', k0, hk, hs, hf⟩ := y; exact ⟨r', a', cs', w', k0, hk, hm.trans hs, hf⟩
  | ret t' f' h' => obtain ⟨r', a', cs', w', k0, hs, hf⟩ := y; exact ⟨r', a', cs', w', k0, hm.trans hs, hf⟩
  | panic v t' f' h' => obtain ⟨r', a', cs', w', td, v', hs, hf, hv⟩ := y; exact ⟨r', a', cs', w', td, v', hm.trans hs, hf, hv⟩
  | stuck => trivial
/-- a value into a temporary -/
theorem Fin.put (hs : St P n r t f h b a cs w) {r1 : Rho} {h1 : H} {w1 : World} (hk : Keeps r h w r1 h1 w1) (hr : Rel P r1 h1 w1) {d : Option Nat} (hd : ∀ x, d = some x → x < n) {z : AV} {v : Value} (hv : VR r1 z v) :
    Fin P n r f h w b cs r1 (putD t d z) f h1 (a.put d v) cs w1 := by
  refine ⟨⟨hr, ?_, by rw [put_size]; exact hs.size, Nat.le_trans hs.low hk.size, by rw [put_defers]; exact hs.defs.keeps hk, hs.pan.mono hk.le, hs.rnd.mono hk.le⟩, hk, CsR.refl _ _, rfl⟩
  exact TR.put (hs.tmp.mono hk.le) (fun x hx => Nat.lt_of_lt_of_le (hd x hx) hs.size) hv

theorem semAt_of {c : Call → Prop} (ro : Option Nat) (ρ : Operand → Value) (o : Oper) (h : ∀ c, o.op ≠ .defer c) : o.semAt ro ρ = execOp ρ o := Oper.semAt_eq ro ρ o h
theorem defer_cop {c : Call} : (∃ g args, cop P (.defer c) = .defer g args) ∨ cop P (.defer c) = .bad := by
  show (∃ g args, cDefer c = .defer g args) ∨ cDefer c = .bad
  unfold cDefer
  split
  · exact .inl ⟨_, _, rfl⟩
  · exact .inr rfl
theorem not_defer {q : AOp} (hq : cop P o.op = q) (h1 : ∀ g args, q ≠ .defer g args) (h2 : q ≠ .bad) : ∀ c, o.op ≠ .defer c := by
  intro c hc
  rw [hc] at hq
  rcases defer_cop (P := P) (c := c) with ⟨g, args, e⟩ | e
  · exact h1 g args (hq.symm.trans e)
  · exact h2 (hq.symm.trans e)

theorem recover_call {op : Op} (hc : cop P op = .recover) : ∃ c : Call, op = .call c ∧ c.callee = .builtin .recover := by
  by_cases h1 : ∃ c, op = .call c
  · obtain ⟨c, rfl⟩ := h1
    refine ⟨c, rfl, ?_⟩
    have hc : cCall P c = .recover := hc
    unfold cCall at hc
    cases hcal : c.callee with
    | value f => rw [hcal] at hc; simp at hc
    | invoke f n => rw [hcal] at hc; simp at hc
    | builtin bb =>
      rw [hcal] at hc
      simp only at hc
      rcases builtin_plain (P := P) bb c.argTypes (c.args.toList.map opd) with h | ⟨rfl, _⟩
      · rw [hc] at h; simp [plainQ] at h
      · rfl
  · exfalso
    by_cases h2 : ∃ c, op = .defer c
    · obtain ⟨c, rfl⟩ := h2
      rcases defer_cop (P := P) (c := c) with ⟨g, args, e⟩ | e <;> rw [e] at hc <;> simp at hc
    · by_cases h3 : ∃ x, op = .panic x
      · obtain ⟨x, rfl⟩ := h3
        have hc : AOp.panic (opd x) = .recover := hc
        simp at hc
      · have := cop_plain (P := P) (op := op) (fun c e => h1 ⟨c, e⟩) (fun c e => h2 ⟨c, e⟩) (fun x e => h3 ⟨x, e⟩)
        rw [hc] at this; simp [plainQ] at this
/-- one operation without effect, or on memory -/
theorem op_pure (hs : St P n r t f h b a cs w) (ho : ops[i]? = some o) (hw : Region.wanted o (yielded ops a.tmps) = true) (hd : wfDst n o = true) {z : AV} (hz : pureV t (cop P o.op) = some z) (kont : Kont) :
    OpOut P n r f h w (lone (b.atR a (.inRegion ops (i :: rest) :: k)) cs w) b (.inRegion ops rest :: k) cs kont (kont (putD t o.dst z) f h) := by
  obtain ⟨v, hrun, hv⟩ := pure_exec (P := P) (w := w) hs.tmp.env o hz
  have hnd := not_defer (P := P) (o := o) rfl (fun g args e => by rw [e] at hz; simp [pureV] at hz) (fun e => by rw [e] at hz; simp [pureV] at hz)
  have hst := step_of_value (P := P) (b := b) (k := k) (cs := cs) (rest := rest) ho hw (v := v) (w' := w) (by rw [Oper.semAt_eq _ _ _ hnd]; exact hrun)
  refine .inl ⟨_, _, _, r, _, cs, w, rfl, .one hst, Fin.put hs (Keeps.refl r h w) hs.rel ?_ hv⟩
  intro x hx
  unfold wfDst at hd
  rw [hx] at hd
  exact ble_iff.1 hd
theorem op_mem (hs : St P n r t f h b a cs w) (ho : ops[i]? = some o) (hw : Region.wanted o (yielded ops a.tmps) = true) (hd : wfDst n o = true) {z : AV} {h' : H} (hz : memQ t h (cop P o.op) = .v z h') (kont : Kont) :
    OpOut P n r f h w (lone (b.atR a (.inRegion ops (i :: rest) :: k)) cs w) b (.inRegion ops rest :: k) cs kont (kont (putD t o.dst z) f h') := by
  have hnd := not_defer (P := P) (o := o) rfl (fun g args e => by rw [e] at hz; simp [memQ] at hz) (fun e => by rw [e] at hz; simp [memQ] at hz)
  have hd' : ∀ x, o.dst = some x → x < n := by
    intro x hx
    unfold wfDst at hd
    rw [hx] at hd
    exact ble_iff.1 hd
  obtain ⟨v, w', r', hrun, hv, hrel, hk⟩ := mem_exec hs.tmp.env hs.rel o hz
  rcases hrun with hrun | ⟨hrun, rfl⟩
  · have hst := step_of_value (P := P) (b := b) (k := k) (cs := cs) (rest := rest) ho hw (v := v) (w' := w') (by rw [Oper.semAt_eq _ _ _ hnd]; exact hrun)
    exact .inl ⟨_, _, _, r', _, cs, w', rfl, .one hst, Fin.put hs hk hrel hd' hv⟩
  · have hst := step_of_skip (P := P) (b := b) (k := k) (cs := cs) (rest := rest) ho hw (w' := w') (by rw [Oper.semAt_eq _ _ _ hnd]; exact hrun)
    exact .inl ⟨_, _, _, r', _, cs, w', rfl, .one hst, Fin.put hs hk hrel hd' hv⟩
/-- a call -/
theorem op_call (hs : St P n r t f h b a cs w) (ho : ops[i]? = some o) (hw : Region.wanted o (yielded ops a.tmps) = true) (hd : wfDst n o = true) (hnd : ∀ c, o.op ≠ .defer c) {x : CR}
    (hx : CallOk P r h w (execOp a.eval o) (b.atR a (.inRegion ops (i :: rest) :: k)) cs x) (kont : Kont) :
    OpOut P n r f h w (lone (b.atR a (.inRegion ops (i :: rest) :: k)) cs w) b (.inRegion ops rest :: k) cs kont (afterC kont t f o.dst x) := by
  have hd' : ∀ x, o.dst = some x → x < n := by
    intro x hx
    unfold wfDst at hd
    rw [hx] at hd
    exact ble_iff.1 hd
  have hsem := Oper.semAt_eq b.roundOf a.eval o hnd
  cases x with
  | ret v pan h' =>
    obtain ⟨r', v', w', hrun, hv, hrel, hk⟩ := hx
    rcases hrun with hrun | ⟨nx, fr, w1, hrun, hent, hst⟩
    · have hst := step_of_value (P := P) (b := b) (k := k) (cs := cs) (rest := rest) ho hw (v := v') (w' := w') (by rw [hsem]; exact hrun)
      exact .inl ⟨_, _, _, r', _, cs, w', rfl, .one hst, Fin.put hs hk hrel hd' hv⟩
    · have hst0 := step_of_entered (P := P) (b := b) (k := k) (cs := cs) (rest := rest) ho hw (w' := w1) (by rw [hsem]; exact hrun) hent
      have hf := Frame.finish_atR b a ops i rest k v'
      rw [show (ops[i]?).bind (·.dst) = o.dst from by rw [ho]; rfl] at hf
      rw [hf] at hst
      exact .inl ⟨_, _, _, r', _, cs, w', rfl, .head hst0 hst, Fin.put hs hk hrel hd' hv⟩
  | panic v pan h' =>
    obtain ⟨r', v', w', ⟨nx, fr, w1, hrun, hent, hst⟩, hv, hrel, hk⟩ := hx
    have hst0 := step_of_entered (P := P) (b := b) (k := k) (cs := cs) (rest := rest) ho hw (w' := w1) (by rw [hsem]; exact hrun) hent
    rw [Frame.raise_atR] at hst
    refine .inr (.inl ⟨v, t, f, h', rfl, r', a, cs, w', _, v', .head hst0 hst, ⟨⟨hrel, hs.tmp.mono hk.le, hs.size, Nat.le_trans hs.low hk.size, hs.defs.keeps hk, hs.pan.mono hk.le, hs.rnd.mono hk.le⟩, hk, CsR.refl _ _, rfl⟩, hv⟩)
  | stuck => exact .inr (.inr rfl)
/-- recover -/
theorem op_recover (hF : Fol P) (hs : St P n r t f h b a cs w) (ho : ops[i]? = some o) (hw : Region.wanted o (yielded ops a.tmps) = true) (hd : wfDst n o = true) (hc : cop P o.op = .recover) (kont : Kont) :
    OpOut P n r f h w (lone (b.atR a (.inRegion ops (i :: rest) :: k)) cs w) b (.inRegion ops rest :: k) cs kont (doRecover kont t f h o.dst) := by
  have hnd := not_defer (P := P) (o := o) hc (fun g args e => by simp at e) (fun e => by simp at e)
  have hd' : ∀ x, o.dst = some x → x < n := by
    intro x hx
    unfold wfDst at hd
    rw [hx] at hd
    exact ble_iff.1 hd
  have hrun : (o.semAt b.roundOf a.eval).run P w = .ok .recover w := by
    rw [Oper.semAt_eq _ _ _ hnd]
    obtain ⟨c, hop, hb⟩ := recover_call hc
    show (execOp a.eval o).run P w = _
    unfold execOp
    rw [hop]
    simp only [resolve, hb]
    rfl
  have fin : ∀ (f' : Fr) (z : AV) (v : Value) (cs' : List Frame), VR r z v → PanR r f'.pan b.kind cs' → CsR b.kind cs cs' → f'.ds = f.ds → f'.rnd = f.rnd → Fin P n r f h w b cs r (putD t o.dst z) f' h (a.put o.dst v) cs' w := by
    intro f' z v cs' hv hp hcs h1 h2
    refine ⟨⟨hs.rel, ?_, by rw [put_size]; exact hs.size, hs.low, by rw [put_defers, h1]; exact hs.defs, hp, by rw [h2]; exact hs.rnd⟩, Keeps.refl r h w, hcs, h2⟩
    exact TR.put hs.tmp (fun x hx => Nat.lt_of_lt_of_le (hd' x hx) hs.size) hv
  have none_ : (∀ c rest, cs = c :: rest → b.kind = .deferred → ∀ v older, c.mode ≠ .panicking ({ v, recovered := false, goexit := false } :: older)) → b.kind ≠ .wrapped →
      tryRecover (b.atR a (.inRegion ops (i :: rest) :: k)) cs = none := by
    intro h1 h2
    unfold tryRecover
    have : (b.atR a (.inRegion ops (i :: rest) :: k)).kind = b.kind := rfl
    rw [this]
    split
    · rename_i c rs hk
      split
      · rename_i v older hm; exact absurd hm (h1 c rs rfl hk v older)
      · rfl
    · rename_i hk; exact absurd hk h2
    · rfl
  have nil_ : (∀ c rest, cs = c :: rest → b.kind = .deferred → ∀ v older, c.mode ≠ .panicking ({ v, recovered := false, goexit := false } :: older)) → b.kind ≠ .wrapped → doRecover kont t f h o.dst = kont (putD t o.dst .nili) f h →
      OpOut P n r f h w (lone (b.atR a (.inRegion ops (i :: rest) :: k)) cs w) b (.inRegion ops rest :: k) cs kont (doRecover kont t f h o.dst) := by
    intro h1 h2 h3
    rw [h3]
    have hst := step_of_recover (P := P) (b := b) (k := k) (rest := rest) ho hw hrun hF.recov (.inr ⟨none_ h1 h2, rfl, rfl⟩)
    exact .inl ⟨_, _, _, r, _, cs, w, rfl, .one hst, fin f .nili .nilIface cs .nili hs.pan (CsR.refl _ _) rfl rfl⟩
  have hpan := hs.pan
  have hrnd := hs.rnd
  obtain ⟨ds, p, rnd⟩ := f
  cases p with
  | none =>
    refine nil_ ?_ ?_ rfl
    · intro c rs hcs hk v older hm
      generalize hkk : b.kind = kd at hpan hk
      cases hpan with
      | normal => simp at hk
      | returning c' rest' h' => injection hcs with e1 e2; subst e1; rw [h'] at hm; simp at hm
    · intro hk
      generalize hkk : b.kind = kd at hpan hk
      cases hpan <;> simp at hk
  | some vb =>
    obtain ⟨v, rb⟩ := vb
    have hpan : PanR r (some (v, rb)) b.kind cs := hpan
    generalize hkk : b.kind = kd at hpan
    cases hpan with
    | panicking _ _ c rest' v' hm hv =>
    cases rb with
    | true =>
      refine nil_ ?_ (by rw [hkk]; simp) (by cases rnd <;> rfl)
      intro c2 rs hcs hk v2 older hm2
      injection hcs with e1 e2; subst e1
      rw [hm] at hm2
      injection hm2 with hm2; injection hm2 with hm2; injection hm2 with _ hm2; simp at hm2
    | false =>
      cases rnd with
      | some l =>
        exfalso
        have hrnd : RndR r (some l) b.roundOf b.kind := hrnd
        unfold RndR at hrnd
        cases hro : b.roundOf with
        | none => rw [hro] at hrnd; exact hrnd
        | some m => rw [hro] at hrnd; have := hrnd.2; rw [hkk] at this; simp at this
      | none =>
        have htr : tryRecover (b.atR a (.inRegion ops (i :: rest) :: k)) (c :: rest') = some (v', { c with mode := .panicking [{ v := v', recovered := true }] } :: rest') := by
          unfold tryRecover
          have : (b.atR a (.inRegion ops (i :: rest) :: k)).kind = b.kind := rfl
          rw [this, hkk]
          simp only [hm]
        have hst := step_of_recover (P := P) (b := b) (k := k) (rest := rest) ho hw hrun hF.recov (.inl htr)
        refine .inl ⟨_, ⟨ds, some (v, true), none⟩, _, r, _, _, w, rfl, .one hst, fin ⟨ds, some (v, true), none⟩ v v' _ hv ?_ ?_ rfl rfl⟩
        · rw [hkk]; exact .panicking v true _ rest' v' rfl hv
        · rw [hkk]; exact ⟨fun h => by simp at h, .inr ⟨c, rest', _, rfl, rfl⟩⟩
end
end Go.AM
namespace Go.AM
open Go
variable [Env]
section
variable {P : Program} {n : Nat} {r : Rho} {t : TM} {f : Fr} {h : H} {b : Frame} {a : Act} {k : List Item} {cs : List Frame} {w w' : World} {ops : Array Oper} {i : Nat} {rest : List Nat} {o : Oper}

/-! ### methods -/
theorem methOf_go (name : String) (t : Nat) (x : FuncId × Option (Nat × Bool)) : ∀ (l : List TypeInfo) (j : Nat), methOf t (methodTblGo P name l j) = some x →
    ∃ i, j ≤ t ∧ l[t - j]? = some i ∧ ∃ m, i.methods.find? (·.name == name) = some m ∧ recvOf P t m = some x
  | [], j, h => by simp [methodTblGo, methOf] at h
  | i :: l, j, h => by
    have next : methOf t (methodTblGo P name l (j + 1)) = some x → ∃ i', j ≤ t ∧ (i :: l)[t - j]? = some i' ∧ ∃ m, i'.methods.find? (·.name == name) = some m ∧ recvOf P t m = some x := by
      intro h
      obtain ⟨i', h1, h2, h3⟩ := methOf_go name t x l (j + 1) h
      refine ⟨i', by omega, ?_, h3⟩
      have : t - j = (t - (j + 1)) + 1 := by omega
      rw [this, List.getElem?_cons_succ]; exact h2
    unfold methodTblGo at h
    split at h
    · rename_i m hm
      split at h
      · rename_i y hy
        unfold methOf at h
        cases hb : Nat.beq t j with
        | true =>
          rw [hb] at h
          have hb := beq_iff.1 hb
          subst hb
          injection h with h; subst h
          exact ⟨i, Nat.le_refl _, by simp, m, hm, hy⟩
        | false => rw [hb] at h; exact next h
      · exact next h
    · exact next h
theorem loadVar_ok (hr : Rel P r h w) {ty : TypeId} {i : TypeInfo} {d : TypeDesc} (hi : P.info? ty = some i) (hd : P.underlying ty = some d) {a z : AV} {v : Value} (ha : VR r a v) {h' : H}
    (e : loadAV i.size (aggD d) a h = .v z h') : h' = h ∧ ∃ ad, v = .pointer (some ad) ∧ Gives P r w (loadVar ty ad) z := by
  obtain ⟨h1, v', h2, h3⟩ := load_ok hr hi hd ha e
  refine ⟨h1, ?_⟩
  unfold loadAV at e
  split at e
  · rename_i bb oo
    obtain ⟨l, hl, rfl⟩ := ha.inv_ptr
    refine ⟨_, rfl, v', ?_, h3⟩
    unfold Instr.loadAt at h2
    rw [Sem.run_bind] at h2
    have : (Instr.sureAddr (.pointer (some ⟨l.blk, oo + l.sh, none⟩)) : Sem Addr).run P w = .ok ⟨l.blk, oo + l.sh, none⟩ w := rfl
    rw [this] at h2
    exact h2
  · simp at e
theorem method_ok (hr : Rel P r h w) {u : TypeId} {name : String} {x : FuncId} {mm : Option (Nat × Bool)} (hm : methOf u (methodTbl P name) = some (x, mm)) {v rc : AV} {v' : Value} (hv : VR r v v') (he : recvAV v mm h = some rc) :
    ∃ rv, (method (P.types.size + Made.depth) u v' name).run P w = .ok (x, rv) w ∧ VR r rc rv := by
  obtain ⟨i, _, hi, m, hm, hrec⟩ := methOf_go name u (x, mm) P.types.toList 0 hm
  have hi : P.types[u]? = some i := by simpa using hi
  have hlt : u < P.types.size := (Array.getElem?_eq_some_iff.1 hi).1
  have hinfo : P.info? u = some i := by
    show (if u < P.types.size then P.types[u]? else _) = some i
    rw [if_pos hlt]; exact hi
  have hfuel : P.types.size + Made.depth = (P.types.size + 99) + 1 := rfl
  rw [hfuel]
  unfold method
  simp only [Sem.run_bind, run_info hinfo, Result.andThen_ok, hm]
  unfold recvOf at hrec
  split at hrec
  case h_2 => simp at hrec
  rename_i f ptr d hp hf hd
  have hpl : m.path.toList = [] := by simpa using hp
  have hnil : (follow [] u (.val v') : Sem (TypeId × Place)).run P w = .ok (u, .val v') w := rfl
  rw [hpl, hnil]
  simp only [Result.andThen_ok, hf]
  have getv : (Place.get u (.val v') : Sem Value).run P w = .ok v' w := rfl
  simp only [hp, if_true]
  split at hrec
  · -- a pointer's own method
    rename_i d' e2 hdd
    injection hrec with hrec; injection hrec with h1 h2; subst h1; subst h2
    have he : some v = some rc := he
    injection he with he; subst he
    refine ⟨v', ?_, hv⟩
    simp only [Sem.run_bind, receiverAt, run_und hd, Result.andThen_ok, getv]
    rfl
  · -- a value's method, of a pointer
    rename_i d' e2 el hdd
    split at hrec
    · rename_i ie de hie hde
      injection hrec with hrec; injection hrec with h1 h2; subst h1; subst h2
      unfold recvAV at he
      simp only at he
      split at he
      · rename_i z h2 hld
        injection he with he; subst he
        obtain ⟨rfl, ad, rfl, vv, hvv, hvr⟩ := loadVar_ok hr hie hde hv hld
        refine ⟨vv, ?_, hvr⟩
        simp only [Sem.run_bind, receiverAt, run_und hd, Result.andThen_ok, getv]
        have hchk : ∀ s1 s2 : ByteArray, (Builtin.ssaWrapNilChk_ #[u] u #[.pointer (some ad), .string s1, .string s2]).run P w = .ok (.pointer (some ad)) w := fun _ _ => rfl
        have hstr : ∀ s : String, ∃ bs, strVal s = .string bs := fun s => ⟨_, rfl⟩
        obtain ⟨b1, hb1⟩ := hstr ""
        obtain ⟨b2, hb2⟩ := hstr ((name.splitOn ".").getLastD name)
        rw [hb1, hb2, hchk]
        simp only [Result.andThen_ok, Sem.run_bind, asAddr, Sem.run_pure, hvv]
      · simp at he
    · simp at hrec
  · -- a value's method
    rename_i d' ptr' hnp
    injection hrec with hrec; injection hrec with h1 h2; subst h1; subst h2
    have he : some v = some rc := he
    injection he with he; subst he
    refine ⟨v', ?_, hv⟩
    simp only [Sem.run_bind, receiverAt, run_und hd, Result.andThen_ok]
    cases d <;> first
      | exact absurd rfl (hnp _)
      | (simp only [getv, Result.andThen_ok]; rfl)
  · simp at hrec
end
end Go.AM
namespace Go.AM
open Go
variable [Env]
section
variable {P : Program} {n : Nat} {r : Rho} {t : TM} {f : Fr} {h : H} {b : Frame} {a : Act} {k : List Item} {cs : List Frame} {w w' : World} {ops : Array Oper} {i : Nat} {rest : List Nat} {o : Oper} {call : CallF}

theorem CallOk.congr {s s' : Sem Next} {c : Frame} {x : CR} (e : s.run P w = s'.run P w) (hx : CallOk P r h w s' c cs x) : CallOk P r h w s c cs x := by
  cases x with
  | ret v pan h' => unfold CallOk at *; rw [e]; exact hx
  | panic v pan h' => unfold CallOk at *; rw [e]; exact hx
  | stuck => trivial
theorem invoke_ok (hC : SimCall P call) (hr : Rel P r h w) {name : String} {recv : AV} {rv : Value} (hv : VR r recv rv) {args : List AV} {args' : Array Value} (ha : VRs r args args'.toList) (c : Frame) (cs : List Frame) :
    CallOk P r h w (invoke (.fn (.method name) #[]) (#[rv] ++ args')) c cs (doInvoke call recv (methodTbl P name) args h) := by
  unfold doInvoke
  split
  · rename_i u v
    obtain ⟨v', rfl, hv'⟩ := hv.inv_iface
    split
    · rename_i x mm hm
      split
      · rename_i rc hrc
        obtain ⟨rcv, hmeth, hrv⟩ := method_ok hr hm hv' hrc
        have hargs : VRs r (rc :: args) (#[rcv] ++ args').toList := by
          simp only [Array.toList_append, List.singleton_append]
          exact .cons _ _ _ _ hrv ha
        have := hC r h w (.func (.func x) [] []) (rc :: args) (.func (.func x) #[] #[]) (#[rcv] ++ args') c cs hr (.func _ _ _ _ _ _ (.same _ (by simp)) .nil .nil) hargs
        refine CallOk.congr ?_ this
        have e1 : (#[Value.iface u v'] ++ args').extract 1 (#[Value.iface u v'] ++ args').size = args' := by
          apply Array.ext'
          simp
        have e2 : (#[Value.iface u v'] ++ args')[0]? = some (.iface u v') := by rw [Array.getElem?_append_left (by simp)]; rfl
        show (invoke (.fn (.method name) #[]) (#[Value.iface u v'] ++ args')).run P w = (callFunc x ((#[] ++ (#[rcv] ++ args')) ++ #[])).run P w
        have e3 : (#[] ++ (#[rcv] ++ args')) ++ #[] = #[rcv] ++ args' := by simp
        rw [e3]
        unfold invoke
        simp only [e2, e1]
        unfold callMethod
        simp only [Sem.run_bind]
        have e4 : (program : Sem Program).run P w = .ok P w := rfl
        rw [e4]
        simp only [Result.andThen_ok, hmeth, Sem.run_bind]
      · trivial
    · trivial
  · trivial
theorem op_defer (hs : St P n r t f h b a cs w) (ho : ops[i]? = some o) (hw : Region.wanted o (yielded ops a.tmps) = true) (hd : wfDst n o = true) {c : Call} (hop : o.op = .defer c) {g : Operand} (hg : c.callee = .value g) (kont : Kont) :
    OpOut P n r f h w (lone (b.atR a (.inRegion ops (i :: rest) :: k)) cs w) b (.inRegion ops rest :: k) cs kont (doDefer kont t f h o.dst (evO t (opd g)) (evOs t (c.args.toList.map opd))) := by
  have hd' : ∀ x, o.dst = some x → x < n := by
    intro x hx
    unfold wfDst at hd
    rw [hx] at hd
    exact ble_iff.1 hd
  have hdefs := hs.defs
  have hrnd := hs.rnd
  have hpan := hs.pan
  obtain ⟨ds, p, rnd⟩ := f
  have hgv := hs.tmp.env g
  unfold doDefer
  split
  · rename_i ds' p' fn fs cs' e1 e2
    injection e1 with e1 e3 e4
    subst e1; subst e3; subst e4
    rw [e2] at hgv
    obtain ⟨g', ys, zs, hge, h1, h2, h3⟩ := hgv.inv_func
    have hro : b.roundOf = none := by
      have hrnd : RndR r none b.roundOf b.kind := hrnd
      unfold RndR at hrnd
      cases hb : b.roundOf with
      | none => rfl
      | some m => rw [hb] at hrnd; exact hrnd.elim
    have hrun : (o.semAt b.roundOf a.eval).run P w = .ok (.defer { target := .fn g' zs, args := ys ++ c.args.map a.eval }) w := by
      rw [hro, Oper.semAt_none]
      unfold execOp
      rw [hop]
      simp only [resolve, hg, hge]
      rfl
    have hst := step_of_defer (P := P) (b := b) (k := k) (cs := cs) (rest := rest) ho hw hrun
    have hargs : VRs r (evOs t (c.args.toList.map opd)) (c.args.map a.eval).toList := args_vrs hs.tmp.env c.args
    refine .inl ⟨_, _, _, r, _, cs, w, rfl, .one hst, ⟨⟨hs.rel, ?_, ?_, hs.low, ?_, hpan, hrnd⟩, Keeps.refl r h w, CsR.refl _ _, rfl⟩⟩
    · have := TR.put (a := { a with defers := { target := .fn g' zs, args := ys ++ c.args.map a.eval } :: a.defers }) (r := r) (t := t) hs.tmp (fun x hx => Nat.lt_of_lt_of_le (hd' x hx) hs.size) (x := .undef) (v := undef) (.tup _ _ .nil)
      exact this
    · rw [put_size]; exact hs.size
    · rw [put_defers]
      exact .call _ _ _ _ _ _ _ _ _ _ h1 h2 h3 hargs hdefs
  · exact .inr (.inr rfl)
theorem op_panic (hs : St P n r t f h b a cs w) (ho : ops[i]? = some o) (hw : Region.wanted o (yielded ops a.tmps) = true) {x : Operand} (hop : o.op = .panic x) (kont : Kont) :
    OpOut P n r f h w (lone (b.atR a (.inRegion ops (i :: rest) :: k)) cs w) b (.inRegion ops rest :: k) cs kont (doPanic t f h (evO t (opd x))) := by
  have hx := hs.tmp.env x
  unfold doPanic
  split
  · rename_i u v e
    rw [e] at hx
    obtain ⟨v', hv', hvr⟩ := hx.inv_iface
    have hrun : (o.semAt b.roundOf a.eval).run P w = .halt (.panic (.iface u v')) w := by
      rw [Oper.semAt_eq _ _ _ (by rw [hop]; simp)]
      unfold execOp
      rw [hop]
      simp only [hv']
      rfl
    have hst := step_of_panic (P := P) (b := b) (k := k) (cs := cs) (rest := rest) ho hw hrun
    exact .inr (.inl ⟨_, t, f, h, rfl, r, a, cs, w, _, _, .one hst, Fin.refl hs, .iface _ _ _ hvr⟩)
  · exact .inr (.inr rfl)

/-- any operation -/
theorem op_any (hF : Fol P) (hC : SimCall P call) (hs : St P n r t f h b a cs w) (ho : ops[i]? = some o) (hw : Region.wanted o (yielded ops a.tmps) = true) (hd : wfDst n o = true) (kont : Kont) :
    OpOut P n r f h w (lone (b.atR a (.inRegion ops (i :: rest) :: k)) cs w) b (.inRegion ops rest :: k) cs kont (doOp call kont t f h o.dst (cop P o.op)) := by
  have plain : plainQ (cop P o.op) = true → OpOut P n r f h w (lone (b.atR a (.inRegion ops (i :: rest) :: k)) cs w) b (.inRegion ops rest :: k) cs kont (doOp call kont t f h o.dst (cop P o.op)) := by
    intro hp
    have pur : ∀ x : Option AV, pureV t (cop P o.op) = x → OpOut P n r f h w (lone (b.atR a (.inRegion ops (i :: rest) :: k)) cs w) b (.inRegion ops rest :: k) cs kont (afterV kont t f h o.dst x) := by
      intro x hx
      cases x with
      | none => exact .inr (.inr rfl)
      | some z => exact op_pure hs ho hw hd hx kont
    have mem : ∀ x : QR, memQ t h (cop P o.op) = x → OpOut P n r f h w (lone (b.atR a (.inRegion ops (i :: rest) :: k)) cs w) b (.inRegion ops rest :: k) cs kont (afterQ kont t f o.dst x) := by
      intro x hx
      cases x with
      | no => exact .inr (.inr rfl)
      | v z h' => exact op_mem hs ho hw hd hx kont
    cases hq : cop P o.op with
    | p1 q => exact pur _ (by rw [hq]; rfl)
    | p2 q => exact pur _ (by rw [hq]; rfl)
    | p3 q => exact pur _ (by rw [hq]; rfl)
    | m1 q => exact mem _ (by rw [hq]; rfl)
    | m2 q => exact mem _ (by rw [hq]; rfl)
    | m3 q => exact mem _ (by rw [hq]; rfl)
    | bad => exact .inr (.inr rfl)
    | callv g args => rw [hq] at hp; simp [plainQ] at hp
    | invoke g tb args => rw [hq] at hp; simp [plainQ] at hp
    | recover => rw [hq] at hp; simp [plainQ] at hp
    | defer g args => rw [hq] at hp; simp [plainQ] at hp
    | panic x => rw [hq] at hp; simp [plainQ] at hp
  by_cases h1 : ∃ c, o.op = .call c
  · obtain ⟨c, hop⟩ := h1
    have hnd : ∀ c', o.op ≠ .defer c' := by rw [hop]; simp
    have hcop : cop P o.op = cCall P c := by rw [hop]; rfl
    have hargs : VRs r (evOs t (c.args.toList.map opd)) (c.args.map a.eval).toList := args_vrs hs.tmp.env c.args
    have hex : execOp a.eval o = (do let d ← resolve a.eval c o.type; invoke d.target d.args) := by unfold execOp; rw [hop]
    cases hcal : c.callee with
    | value g =>
      have e : cop P o.op = .callv (opd g) (c.args.toList.map opd) := by rw [hcop]; unfold cCall; rw [hcal]
      rw [e]
      refine op_call hs ho hw hd hnd ?_ kont
      have := hC r h w (evO t (opd g)) (evOs t (c.args.toList.map opd)) (a.eval g) (c.args.map a.eval) (b.atR a (.inRegion ops (i :: rest) :: k)) cs hs.rel (hs.tmp.env g) hargs
      refine CallOk.congr ?_ this
      rw [hex]
      simp only [resolve, hcal]
      rfl
    | invoke g name =>
      have e : cop P o.op = .invoke (opd g) (methodTbl P name) (c.args.toList.map opd) := by rw [hcop]; unfold cCall; rw [hcal]
      rw [e]
      refine op_call hs ho hw hd hnd ?_ kont
      refine CallOk.congr ?_ (invoke_ok hC hs.rel (hs.tmp.env g) hargs _ cs)
      rw [hex]
      simp only [resolve, hcal]
      rfl
    | builtin bb =>
      have e : cop P o.op = cBuiltin P bb c.argTypes (c.args.toList.map opd) := by rw [hcop]; unfold cCall; rw [hcal]
      rcases builtin_plain (P := P) bb c.argTypes (c.args.toList.map opd) with hp | ⟨_, hp⟩
      · exact plain (by rw [e]; exact hp)
      · have hrec : cop P o.op = .recover := e.trans hp
        have := op_recover (P := P) hF hs ho hw hd hrec (k := k) (rest := rest) kont
        rw [hrec]; exact this
  · by_cases h2 : ∃ c, o.op = .defer c
    · obtain ⟨c, hop⟩ := h2
      have hcop : cop P o.op = cDefer c := by rw [hop]; rfl
      cases hcal : c.callee with
      | value g =>
        have e : cop P o.op = .defer (opd g) (c.args.toList.map opd) := by rw [hcop]; unfold cDefer; rw [hcal]
        rw [e]
        exact op_defer hs ho hw hd hop hcal kont
      | _ =>
        have e : cop P o.op = .bad := by rw [hcop]; unfold cDefer; rw [hcal]
        rw [e]; exact .inr (.inr rfl)
    · by_cases h3 : ∃ x, o.op = .panic x
      · obtain ⟨x, hop⟩ := h3
        have e : cop P o.op = .panic (opd x) := by rw [hop]; rfl
        rw [e]
        exact op_panic hs ho hw hop kont
      · exact plain (cop_plain (fun c e => h1 ⟨c, e⟩) (fun c e => h2 ⟨c, e⟩) (fun x e => h3 ⟨x, e⟩))

theorem runOps_ok (hF : Fol P) (hC : SimCall P call) (ops : Array Oper) : ∀ (l pre : List Oper), ops.toList = pre ++ l → l.all (wfDst n) = true → ∀ (r : Rho) (t : TM) (f : Fr) (h : H) (a : Act) (cs : List Frame) (w : World), St P n r t f h b a cs w →
    CodeRes P n r f h w (lone (b.atR a (.inRegion ops (List.range' pre.length l.length) :: k)) cs w) b k cs (runOps call (l.map (coper P ops)) t f h)
  | [], pre, _, _, r, t, f, h, a, cs, w, hs => ⟨r, a, cs, w, .one stepR_region_end, Fin.refl hs⟩
  | o :: l, pre, hops, hwf, r, t, f, h, a, cs, w, hs => by
    have ho : ops[pre.length]? = some o := by rw [← Array.getElem?_toList, hops]; simp
    have hops' : ops.toList = (pre ++ [o]) ++ l := by rw [hops]; simp
    rw [List.all_cons, Bool.and_eq_true] at hwf
    have ih := runOps_ok hF hC ops l (pre ++ [o]) hops' hwf.2
    have hrange : List.range' pre.length (o :: l).length = pre.length :: List.range' (pre ++ [o]).length l.length := by
      rw [List.length_cons, List.range'_succ]; simp
    rw [hrange]
    show CodeRes P n r f h w _ b k cs (doOper call (runOps call (l.map (coper P ops))) t f h (coper P ops o))
    cases hc : coper P ops o with
    | mk d g q =>
    show CodeRes P n r f h w _ b k cs (@Option.rec Bool (fun _ => R) .stuck (fun bb => @Bool.rec (fun _ => R) (runOps call (l.map (coper P ops)) (putD t d .undef) f h) (doOp call (runOps call (l.map (coper P ops))) t f h d q) bb) (wantG t g))
    cases hg : wantG t g with
    | none => trivial
    | some x =>
      cases x with
      | false =>
        obtain ⟨h1, rfl, _⟩ := wantG_ok hs.tmp ho hc (.inr rfl) hg
        have hst := stepR_op_skip (P := P) (b := b) (a := a) (k := k) (cs := cs) (w := w) (ops := ops) (i := pre.length) (rest := List.range' (pre ++ [o]).length l.length) (by rw [ho]; exact h1)
        rw [show (ops[pre.length]?).bind (·.dst) = o.dst from by rw [ho]; rfl] at hst
        have hfin := Fin.put hs (Keeps.refl r h w) hs.rel (d := o.dst) (z := .undef) (v := undef) (by
          intro x hx
          have := hwf.1
          unfold wfDst at this
          rw [hx] at this
          exact ble_iff.1 this) (.tup _ _ .nil)
        exact CodeRes.after (.one hst) hfin (ih r _ f h _ cs w hfin.st)
      | true =>
        by_cases hq : q = .bad
        · subst hq; trivial
        · obtain ⟨h1, rfl, rfl⟩ := wantG_ok hs.tmp ho hc (.inl hq) hg
          show CodeRes P n r f h w _ b k cs (doOp call (runOps call (l.map (coper P ops))) t f h o.dst (cop P o.op))
          rcases op_any hF hC hs ho h1 hwf.1 (runOps call (l.map (coper P ops))) (k := k) (rest := List.range' (pre ++ [o]).length l.length) with ⟨t1, f1, h1', r1, a1, cs1, w1, e, hst, hfin⟩ | ⟨v, t1, f1, h1', e, hp⟩ | e
          · rw [e]
            exact CodeRes.after hst hfin (ih r1 t1 f1 h1' a1 cs1 w1 hfin.st)
          · rw [e]; exact hp
          · rw [e]; trivial
end
end Go.AM
namespace Go.AM
open Go
variable [Env]
section
variable {P : Program} {n : Nat} {r : Rho} {t : TM} {f : Fr} {h : H} {b : Frame} {a : Act} {k : List Item} {cs : List Frame} {w w' : World} {ev : EvF} {funcs : T AFn}

theorem stepR_inScope {c : Code} : step P (lone (b.atR a (.inScope c :: k)) cs w) = .next (lone (b.atR a k) cs w) :=
  step_lone_go (by simp [stepG, stepG.exec, Frame.atR])
theorem stepR_scope {c : Code} : step P (lone (b.atR a (.code (.scope c) :: k)) cs w) = .next (lone (b.atR a (.code c :: .inScope c :: k)) cs w) :=
  step_lone_go (by simp [stepG, stepG.exec, Frame.atR])
theorem findLabel_ccode (l : Nat) : ∀ c : Code, findLabel l (ccode P c) = (Go.findLabel c l).map (ccode P)
  | .seq a b => by
    show (match findLabel l (ccode P a) with | some r => some (ACode.seq r (ccode P b)) | none => findLabel l (ccode P b)) = Option.map (ccode P) (match Go.findLabel a l with | some r => some (Code.seq r b) | none => Go.findLabel b l)
    rw [findLabel_ccode l a, findLabel_ccode l b]
    generalize Go.findLabel a l = x
    cases x <;> rfl
  | .label l' => by
    show cond (Nat.beq l' l) (some ACode.skip) none = _
    unfold Go.findLabel
    by_cases e : l' = l
    · subst e; simp; rfl
    · have : Nat.beq l' l = false := by cases hb : Nat.beq l' l with | false => rfl | true => exact absurd (beq_iff.1 hb) e
      rw [this]; simp [e]
  | .region _ ops false => rfl
  | .region _ ops true => by
    show findLabel l (cdraw ops.toList (ops.toList.map (coper P ops))) = _
    unfold cdraw
    simp only
    generalize (drawOk _ _ _ && (_ && _)) = bb
    cases bb <;> rfl
  | .skip => rfl
  | .cond _ _ _ => rfl
  | .block _ _ => rfl
  | .loop _ => rfl
  | .rangeFunc _ _ _ _ => rfl
  | .exit _ => rfl
  | .scope _ => rfl
  | .goto _ => rfl
  | .ret => rfl
  | .refuse _ => rfl
theorem findLabel_wf (n l : Nat) : ∀ c c' : Code, wfCode n c = true → Go.findLabel c l = some c' → wfCode n c' = true
  | .seq a b, c', hw, h => by
    have hw : (wfCode n a && wfCode n b) = true := hw
    rw [Bool.and_eq_true] at hw
    have h : (match Go.findLabel a l with | some r => some (Code.seq r b) | none => Go.findLabel b l) = some c' := h
    cases ha : Go.findLabel a l with
    | some r =>
      rw [ha] at h
      injection h with h; subst h
      show (wfCode n r && wfCode n b) = true
      rw [Bool.and_eq_true]
      exact ⟨findLabel_wf n l a r hw.1 ha, hw.2⟩
    | none => rw [ha] at h; exact findLabel_wf n l b c' hw.2 h
  | .label l', c', _, h => by
    unfold Go.findLabel at h
    split at h
    · injection h with h; subst h; rfl
    · simp at h
  | .region _ _ _, _, _, h => by simp [Go.findLabel] at h
  | .skip, _, _, h => by simp [Go.findLabel] at h
  | .cond _ _ _, _, _, h => by simp [Go.findLabel] at h
  | .block _ _, _, _, h => by simp [Go.findLabel] at h
  | .loop _, _, _, h => by simp [Go.findLabel] at h
  | .rangeFunc _ _ _ _, _, _, h => by simp [Go.findLabel] at h
  | .exit _, _, _, h => by simp [Go.findLabel] at h
  | .scope _, _, _, h => by simp [Go.findLabel] at h
  | .goto _, _, _, h => by simp [Go.findLabel] at h
  | .ret, _, _, h => by simp [Go.findLabel] at h
  | .refuse _, _, _, h => by simp [Go.findLabel] at h

/-- behind a plain item -/
theorem CodeRes.pass {m : Machine} {x : Item} {R : R} (h1 : ∀ id, exitTo id (x :: k) = exitTo id k) (h2 : ∀ l, gotoIn l (x :: k) = gotoIn l k)
    (hn : ∀ t' f' h', R ≠ .normal t' f' h') (y : CodeRes P n r f h w m b (x :: k) cs R) : CodeRes P n r f h w m b k cs R := by
  cases R with
  | normal t' f' h' => exact absurd rfl (hn _ _ _)
  | exit id t' f' h' => obtain ⟨r', a', cs', w', k0, hk, hs, hf⟩ := y; exact ⟨r', a', cs', w', k0, hk.trans (h1 id), hs, hf⟩
  | goto l t' f' h' => obtain ⟨r', a', cs', w', k0, hk, hs, hf⟩ := y; exact ⟨r', a', cs', w', k0, hk.trans (h2 l), hs, hf⟩
  | ret t' f' h' => exact y
  | panic v t' f' h' => exact y
  | stuck => trivial
/-- one piece behind the other -/
theorem then_ok {m : Machine} {x : Item} (h1 : ∀ id, exitTo id (x :: k) = exitTo id k) (h2 : ∀ l, gotoIn l (x :: k) = gotoIn l k) {R : R} {y : ACode} (hx : CodeRes P n r f h w m b (x :: k) cs R)
    (hy : ∀ r1 t1 f1 h1 a1 cs1 w1, St P n r1 t1 f1 h1 b a1 cs1 w1 → CodeRes P n r1 f1 h1 w1 (lone (b.atR a1 (x :: k)) cs1 w1) b k cs1 (ev y t1 f1 h1)) : CodeRes P n r f h w m b k cs (thenR ev y R) := by
  cases R with
  | normal t' f' h' =>
    obtain ⟨r', a', cs', w', hs, hf⟩ := hx
    exact CodeRes.after hs hf (hy r' t' f' h' a' cs' w' hf.st)
  | exit id t' f' h' => exact CodeRes.pass h1 h2 (fun _ _ _ e => by cases e) hx
  | goto l t' f' h' => exact CodeRes.pass h1 h2 (fun _ _ _ e => by cases e) hx
  | ret t' f' h' => exact CodeRes.pass h1 h2 (fun _ _ _ e => by cases e) hx
  | panic v t' f' h' => exact CodeRes.pass h1 h2 (fun _ _ _ e => by cases e) hx
  | stuck => trivial
theorem block_ok {m : Machine} {id : Nat} {R : R} (hx : CodeRes P n r f h w m b (.inBlock id :: k) cs R) : CodeRes P n r f h w m b k cs (blockR id R) := by
  cases R with
  | normal t' f' h' =>
    obtain ⟨r', a', cs', w', hs, hf⟩ := hx
    exact ⟨r', a', cs', w', hs.trans (.one stepR_inBlock), hf⟩
  | exit i t' f' h' =>
    obtain ⟨r', a', cs', w', k0, hk, hs, hf⟩ := hx
    show CodeRes P n r f h w m b k cs (cond (Nat.beq i id) (.normal t' f' h') (.exit i t' f' h'))
    cases hb : Nat.beq i id with
    | true =>
      have hb := beq_iff.1 hb
      subst hb
      have : exitTo i (.inBlock i :: k) = some k := by simp [exitTo]
      rw [this] at hk
      exact ⟨r', a', cs', w', hs.trans (.one (stepR_exit hk)), hf⟩
    | false =>
      have hne : (id == i) = false := by
        have : id ≠ i := fun e => by rw [beq_iff.2 e.symm] at hb; exact absurd hb (by simp)
        simpa using this
      refine ⟨r', a', cs', w', k0, ?_, hs, hf⟩
      rw [hk]; simp [exitTo, hne]
  | goto l t' f' h' =>
    obtain ⟨r', a', cs', w', k0, hk, hs, hf⟩ := hx
    exact ⟨r', a', cs', w', k0, hk.trans rfl, hs, hf⟩
  | ret t' f' h' => exact hx
  | panic v t' f' h' => exact hx
  | stuck => trivial
theorem scope_ok (hev : SimEv P ev) {c : Code} (hwf : wfCode n c = true) : ∀ (N : Nat) (R : R) (r : Rho) (f : Fr) (h : H) (w : World) (cs : List Frame) (m : Machine), CodeRes P n r f h w m b (.inScope c :: k) cs R →
    CodeRes P n r f h w m b k cs (scopeR ev (ccode P c) N R) := by
  have normal : ∀ (r : Rho) (f : Fr) (h : H) (w : World) (cs : List Frame) (m : Machine) t' f' h', CodeRes P n r f h w m b (.inScope c :: k) cs (.normal t' f' h') → CodeRes P n r f h w m b k cs (.normal t' f' h') := by
    intro r f h w cs m t' f' h' hx
    obtain ⟨r', a', cs', w', hs, hf⟩ := hx
    exact ⟨r', a', cs', w', hs.trans (.one stepR_inScope), hf⟩
  have exit_ : ∀ (r : Rho) (f : Fr) (h : H) (w : World) (cs : List Frame) (m : Machine) i t' f' h', CodeRes P n r f h w m b (.inScope c :: k) cs (.exit i t' f' h') → CodeRes P n r f h w m b k cs (.exit i t' f' h') := by
    intro r f h w cs m i t' f' h' hx
    obtain ⟨r', a', cs', w', k0, hk, hs, hf⟩ := hx
    exact ⟨r', a', cs', w', k0, hk.trans rfl, hs, hf⟩
  intro N
  induction N with
  | zero =>
    intro R r f h w cs m hx
    cases R with
    | normal t' f' h' => exact normal _ _ _ _ _ _ _ _ _ hx
    | exit i t' f' h' => exact exit_ _ _ _ _ _ _ _ _ _ _ hx
    | goto l t' f' h' => trivial
    | ret t' f' h' => exact hx
    | panic v t' f' h' => exact hx
    | stuck => trivial
  | succ N ih =>
    intro R r f h w cs m hx
    cases R with
    | normal t' f' h' => exact normal _ _ _ _ _ _ _ _ _ hx
    | exit i t' f' h' => exact exit_ _ _ _ _ _ _ _ _ _ _ hx
    | goto l t' f' h' =>
      show CodeRes P n r f h w m b k cs (match findLabel l (ccode P c) with | some c' => scopeR ev (ccode P c) N (ev c' t' f' h') | none => .goto l t' f' h')
      rw [findLabel_ccode]
      obtain ⟨r', a', cs', w', k0, hk, hs, hf⟩ := hx
      cases hl : Go.findLabel c l with
      | none =>
        refine ⟨r', a', cs', w', k0, ?_, hs, hf⟩
        rw [hk]; simp [gotoIn, hl]
      | some c' =>
        have hg : gotoIn l (.inScope c :: k) = some (.code c' :: .inScope c :: k) := by simp [gotoIn, hl]
        rw [hg] at hk
        have := hev c' n r' t' f' h' b a' cs' w' (.inScope c :: k) _ (findLabel_wf n l c c' hwf hl) hf.st (.code c' _)
        exact CodeRes.after (hs.trans (.one (stepR_goto hk))) hf (ih _ _ _ _ _ _ _ this)
    | ret t' f' h' => exact hx
    | panic v t' f' h' => exact hx
    | stuck => trivial
end
end Go.AM
namespace Go.AM
open Go
variable [Env]
section
variable {P : Program} {n : Nat} {r : Rho} {t : TM} {f : Fr} {h : H} {b : Frame} {a : Act} {k : List Item} {cs : List Frame} {w w' : World} {ev : EvF} {funcs : T AFn} {call : CallF}

/-- a block of which nothing is told -/
theorem Rel.garbage (hr : Rel P r h w) (O : Go.Obj) : Rel P r h (w.alloc O) ∧ Keeps r h w r h (w.alloc O) := by
  refine ⟨⟨?_, hr.dom, hr.key, hr.inj, hr.tip, hr.dead, hr.pos⟩, ⟨Rho.le_refl r, by simp, rfl, rfl, rfl, Nat.le_refl _, fun blk hb _ => heap_alloc_lt w O hb, fun _ _ h => h⟩⟩
  intro b o hb hv
  obtain ⟨l, hl, hO⟩ := hr.obj b o hb hv
  exact ⟨l, hl, hO.keep (heap_alloc_lt w O hO.blk_lt)⟩
theorem liveAt_lt (hr : Rel P r h w) {blk : Nat} (hl : LiveAt r h blk) : blk < w.heap.size := by
  obtain ⟨b, o, l, hb, hv, hl, rfl⟩ := hl
  obtain ⟨l', hl', hO⟩ := hr.obj b o hb hv
  rw [hl] at hl'; injection hl' with hl'; subst hl'
  exact hO.blk_lt
theorem loopObj (hr : Rel P r h w) {l : Nat} {st : LoopSt} {tm : TM} {ps : List Nat} {asg body : ACode} {pend : Option ACode} (hb : h.obj l = some (.loop st tm ps asg body pend)) :
    ∃ (loc : Loc) (lp : Loop), r l = some loc ∧ loc.sh = 0 ∧ w.heap[loc.blk]? = some (.loop lp) ∧ stR st lp.state ∧ TR r tm lp.tmps ∧ ps = lp.params.toList ∧ asg = ccode P lp.assign ∧ body = ccode P lp.body ∧ pend = lp.pending.map (ccode P) ∧ LoopWf lp := by
  obtain ⟨loc, hl, h0, lp, hO⟩ := hr.obj l _ hb (H.alive_zero _)
  exact ⟨loc, lp, hl, h0, hO⟩
theorem run_getLoop {l : Nat} {lp : Loop} (h : w.heap[l]? = some (.loop lp)) : (Instr.getLoop l).run P w = .ok lp w := by
  unfold Instr.getLoop
  simp only [Sem.run_bind, run_getObj h rfl, Result.andThen_ok]
  rfl

/-- entering a loop over a function -/
theorem enterLoop_ok (hs : St P n r t f h b a cs w) (hro : roundOk f h = true) {params : Array Tmp} {asg body : Code} (hwp : ∀ p ∈ params.toList, p < n) (hwa : wfCode n asg = true) (hwb : wfCode n body = true) {l : Nat} {h1 : H}
    (e : h.new (.loop .ready t params.toList (ccode P asg) (ccode P body) none) = (l, h1)) :
    ∃ r1 lm mark w1, (Instr.enterLoop b.fn a.tmps params asg body b.roundOf).run P w = .ok (lm, mark) w1 ∧ St P n r1 t f h1 b { a with defers := mark ++ a.defers } cs w1 ∧ Keeps r h w r1 h1 w1 ∧ (∃ loc, r1 l = some loc ∧ loc.blk = lm) := by
  have fin : ∀ (w0 : World) (mark : List Deferred) (dfs : Nat), Rel P r h w0 → Keeps r h w r h w0 → DefR b.tmps.size r h w0 f.ds (mark ++ a.defers) →
      (Instr.enterLoop b.fn a.tmps params asg body b.roundOf).run P w = .ok (w0.heap.size, mark) (w0.alloc (.loop { state := .ready, pending := none, fn := b.fn, tmps := a.tmps, params, assign := asg, body, defers := dfs })) →
      ∃ r1 lm mark w1, (Instr.enterLoop b.fn a.tmps params asg body b.roundOf).run P w = .ok (lm, mark) w1 ∧ St P n r1 t f h1 b { a with defers := mark ++ a.defers } cs w1 ∧ Keeps r h w r1 h1 w1 ∧ (∃ loc, r1 l = some loc ∧ loc.blk = lm) := by
    intro w0 mark dfs hr0 hk0 hd0 hrun
    have hb : r l = none := by have := H.new_nextOf h (.loop .ready t params.toList (ccode P asg) (ccode P body) none) hr0.pos.2; rw [e] at this; have this : l = h.nextOf := this; rw [this]; exact hr0.fresh
    have hle := Rho.le_upd r l ⟨w0.heap.size, 0, 0, 0⟩ hb
    obtain ⟨h2, h3⟩ := hr0.new (.loop .ready t params.toList (ccode P asg) (ccode P body) none) (.loop { state := .ready, pending := none, fn := b.fn, tmps := a.tmps, params, assign := asg, body, defers := dfs }) 0 0 rfl e
      ⟨rfl, _, heap_alloc_new w0 _, trivial, hs.tmp.mono hle, rfl, rfl, rfl, rfl, ⟨⟨n, hs.size, hwp, hwa, hwb⟩, fun c hc => by simp at hc⟩⟩
    refine ⟨_, _, mark, _, hrun, ⟨h2, hs.tmp.mono hle, hs.size, Nat.le_trans hs.low (hk0.trans h3).size, hd0.keeps h3, hs.pan.mono hle, hs.rnd.mono hle⟩, hk0.trans h3, ⟨_, Rho.upd_same r l _, rfl⟩⟩
  have hrnd := hs.rnd
  have hdefs := hs.defs
  cases hbr : b.roundOf with
  | none =>
    obtain ⟨g1, g2⟩ := hs.rel.garbage (.deferred (some []))
    refine hbr ▸ fin (w.alloc (.deferred (some []))) [{ target := .collected w.heap.size, args := #[] }] w.heap.size g1 g2 ?_ ?_
    · refine .mark _ _ _ (heap_alloc_new w _) (fun hl => absurd (liveAt_lt hs.rel hl) (Nat.lt_irrefl _)) hs.low (fun d hd e => absurd (hdefs.lt d hd _ e) (Nat.lt_irrefl _)) (hdefs.keeps g2)
    · rw [hbr]
      unfold Instr.enterLoop
      simp only [Sem.run_bind, run_newObj_alloc, Result.andThen_ok, Sem.run_pure]
  | some lo =>
    obtain ⟨ds, p, rnd⟩ := f
    have hrnd : RndR r rnd b.roundOf b.kind := hrnd
    rw [hbr] at hrnd
    cases rnd with
    | none => exact hrnd.elim
    | some l0 =>
      obtain ⟨⟨loc, hl0, rfl⟩, hkind⟩ := hrnd
      unfold roundOk at hro
      simp only at hro
      cases hob : h.obj l0 with
      | none => rw [hob] at hro; simp at hro
      | some ob =>
        cases ob with
        | loop st tm ps asg' body' pend =>
          obtain ⟨loc', lp, hl', _, hO, _⟩ := loopObj hs.rel hob
          rw [hl0] at hl'; injection hl' with hl'; subst hl'
          refine hbr ▸ fin w [] lp.defers hs.rel (Keeps.refl r h w) hdefs ?_
          rw [hbr]
          unfold Instr.enterLoop
          simp only [Sem.run_bind, run_getLoop hO, Result.andThen_ok, Sem.run_pure, run_newObj_alloc]
        | _ => rw [hob] at hro; simp at hro

theorem step_rangeFunc {lm : Nat} {mark : List Deferred} {w1 w2 : World} {g : Operand} {params : Array Tmp} {asg body : Code} (he : (Instr.enterLoop b.fn a.tmps params asg body b.roundOf).run P w = .ok (lm, mark) w1) {nx : Next}
    (hrun : (callSem (a.eval g) #[.func (.yield lm) #[] #[]]).run P w1 = .ok nx w2) {m : Machine}
    (hnx : (∃ v, nx = .value v ∧ m = lone ((b.atR { a with defers := mark ++ a.defers } (.inRangeFunc lm :: k)).finish v) cs w2) ∨ (∃ fr, Entered P .normal nx fr ∧ m = lone fr (b.atR { a with defers := mark ++ a.defers } (.inRangeFunc lm :: k) :: cs) w2)) :
    step P (lone (b.atR a (.code (.rangeFunc g params asg body) :: k)) cs w) = .next m := by
  have heval := Frame.eval_atR b { a with defers := mark ++ a.defers } (.inRangeFunc lm :: k)
  have hsem : (do let d ← resolve (b.atR { a with defers := mark ++ a.defers } (.inRangeFunc lm :: k)).eval { callee := .value g, args := #[.const (.func (.yield lm) #[] #[])], argTypes := #[] } 0; invoke d.target d.args : Sem Next) = callSem (a.eval g) #[.func (.yield lm) #[] #[]] := by
    rw [heval]
    have : Act.eval { a with defers := mark ++ a.defers } = a.eval := rfl
    rw [this]
    have hm : (#[Operand.const (Value.func (Fn.yield lm) #[] #[])] : Array Operand).map a.eval = #[Value.func (Fn.yield lm) #[] #[]] := by simp [Act.eval]
    unfold callSem resolve
    simp only [hm]
  rcases hnx with ⟨v, rfl, rfl⟩ | ⟨fr, hent, rfl⟩
  · refine step_lone_go ?_
    simp only [stepG, stepG.exec, Frame.atR, Sem.runT_eq, he, GStep.bare_after]
    have hsem := hsem
    simp only [Frame.atR] at hsem
    rw [hsem]
    simp only [stepG.apply, Sem.runT_eq, hrun, if_true, GStep.bare_after, GStep.bare_go]
  · refine step_lone_go ?_
    simp only [stepG, stepG.exec, Frame.atR, Sem.runT_eq, he, GStep.bare_after]
    have hsem := hsem
    simp only [Frame.atR] at hsem
    rw [hsem]
    cases hent with
    | enter f args => simp only [stepG.apply, Sem.runT_eq, hrun, if_true, GStep.bare_after, GStep.bare_go]
    | round l f tmps asg body => simp only [stepG.apply, Sem.runT_eq, hrun, if_true, GStep.bare_after, GStep.bare_go]
theorem step_endRangeFunc {lm : Nat} {jump : Option Code} (he : (Instr.endLoop lm).run P w = .ok jump w') :
    step P (lone (b.atR a (.endRangeFunc lm :: k)) cs w) = .next (lone (b.atR a ((jump.map Item.code).toList ++ k)) cs w') := by
  refine step_lone_go ?_
  simp only [stepG, stepG.exec, Frame.atR, Sem.runT_eq, he, GStep.bare_after, GStep.bare_go]
theorem rangeFunc_ok (hC : SimCall P call) (hev : SimEv P ev) (hs : St P n r t f h b a cs w) (hro : roundOk f h = true) {g : Operand} {params : Array Tmp} {asg body : Code} (hwp : ∀ p ∈ params.toList, p < n) (hwa : wfCode n asg = true) (hwb : wfCode n body = true) :
    CodeRes P n r f h w (lone (b.atR a (.code (.rangeFunc g params asg body) :: k)) cs w) b k cs
      (rangeR ev call (evO t (opd g)) params.toList (ccode P asg) (ccode P body) t f (h.new (.loop .ready t params.toList (ccode P asg) (ccode P body) none))) := by
  cases hn : h.new (.loop .ready t params.toList (ccode P asg) (ccode P body) none) with
  | mk l h1 =>
  obtain ⟨r1, lm, mark, w1, he, hs1, hk1, loc, hloc, rfl⟩ := enterLoop_ok hs hro hwp hwa hwb hn
  show CodeRes P n r f h w _ b k cs (endLoopR ev l t f (call (evO t (opd g)) [.func (.yield l) [] []] none h1))
  have hg : VR r1 (evO t (opd g)) (a.eval g) := (hs1.tmp.env (a := { a with defers := mark ++ a.defers })) g
  have harg : VRs r1 [.func (.yield l) [] []] (#[Value.func (.yield loc.blk) #[] #[]] : Array Value).toList := .cons _ _ _ _ (.func _ _ _ _ _ _ (.yield l loc hloc) .nil .nil) .nil
  have hcall := hC r1 h1 w1 (evO t (opd g)) [.func (.yield l) [] []] (a.eval g) #[.func (.yield loc.blk) #[] #[]] (b.atR { a with defers := mark ++ a.defers } (.inRangeFunc loc.blk :: k)) cs hs1.rel hg harg
  generalize hx : call (evO t (opd g)) [.func (.yield l) [] []] none h1 = x at hcall
  cases x with
  | panic v p h2 => trivial
  | stuck => trivial
  | ret v p h2 =>
    obtain ⟨r2, v', w2, hrun, hv, hrel, hk2⟩ := hcall
    have hsteps : Steps P (lone (b.atR a (.code (.rangeFunc g params asg body) :: k)) cs w) (lone (b.atR { a with defers := mark ++ a.defers } (.endRangeFunc loc.blk :: k)) cs w2) := by
      rcases hrun with hrun | ⟨nx, fr, w3, hrun, hent, hst⟩
      · exact .one (step_rangeFunc he hrun (.inl ⟨v', rfl, rfl⟩))
      · exact .head (step_rangeFunc he hrun (.inr ⟨fr, hent, rfl⟩)) hst
    have hs2 : St P n r2 t f h2 b { a with defers := mark ++ a.defers } cs w2 := ⟨hrel, hs1.tmp.mono hk2.le, hs1.size, Nat.le_trans hs1.low hk2.size, hs1.defs.keeps hk2, hs1.pan.mono hk2.le, hs1.rnd.mono hk2.le⟩
    have hfin : Fin P n r f h w b cs r2 t f h2 { a with defers := mark ++ a.defers } cs w2 := ⟨hs2, hk1.trans hk2, CsR.refl _ _, rfl⟩
    show CodeRes P n r f h w _ b k cs (match h2.obj l with
      | some (.loop .ready tm ps asg body none) => .normal t f (h2.setObj l (.loop .exhausted tm ps asg body none))
      | some (.loop .done tm ps asg body (some j)) => ev j t f (h2.setObj l (.loop .exhausted tm ps asg body (some j)))
      | _ => .stuck)
    split
    · rename_i tm ps asg' body' hob
      obtain ⟨loc2, lp, hl2, hl0, hO, hst, htm, hps, hasg, hbody, hpend, hlwf⟩ := loopObj hrel hob
      rw [hk2.le _ _ hloc] at hl2; injection hl2 with hl2; subst hl2
      have hready : lp.state = .ready := by cases hh : lp.state <;> rw [hh] at hst <;> simp [stR] at hst <;> rfl
      have hnone : lp.pending = none := by cases hh : lp.pending with | none => rfl | some _ => rw [hh] at hpend; simp at hpend
      obtain ⟨p1, p2⟩ := hrel.put (o' := .loop .exhausted tm ps asg' body' none) (O' := .loop { lp with state := .exhausted }) hob rfl rfl (hk2.le _ _ hloc) hO (fun hh => ⟨hl0, _, hh, trivial, htm, hps, hasg, hbody, hpend, ⟨hlwf.wf, hlwf.jump⟩⟩)
      have hend : (Instr.endLoop loc.blk).run P w2 = .ok none (putObj w2 loc.blk (.loop { lp with state := .exhausted })) := by
        unfold Instr.endLoop
        simp only [Sem.run_bind, run_getLoop hO, Result.andThen_ok, hready]
        have : (LoopState.ready == LoopState.busy) = false := rfl
        simp only [this, Bool.false_eq_true, if_false, run_setObj hO rfl, Result.andThen_ok, hnone, Sem.run_pure, Sem.run_bind]
      have hstep := step_endRangeFunc (P := P) (b := b) (a := { a with defers := mark ++ a.defers }) (k := k) (cs := cs) hend
      have hs3 : St P n r2 t f (h2.setObj l (.loop .exhausted tm ps asg' body' none)) b { a with defers := mark ++ a.defers } cs (putObj w2 loc.blk (.loop { lp with state := .exhausted })) := ⟨p1, hs2.tmp, hs2.size, Nat.le_trans hs2.low p2.size, hs2.defs.keeps p2, hs2.pan, hs2.rnd⟩
      exact ⟨r2, _, cs, _, hsteps.trans (.one hstep), ⟨hs3, (hk1.trans hk2).trans p2, CsR.refl _ _, rfl⟩⟩
    · rename_i tm ps asg' body' j hob
      obtain ⟨loc2, lp, hl2, hl0, hO, hst, htm, hps, hasg, hbody, hpend, hlwf⟩ := loopObj hrel hob
      rw [hk2.le _ _ hloc] at hl2; injection hl2 with hl2; subst hl2
      have hdone : lp.state = .done := by cases hh : lp.state <;> rw [hh] at hst <;> simp [stR] at hst <;> rfl
      obtain ⟨jc, hjc, hjj⟩ : ∃ jc, lp.pending = some jc ∧ j = ccode P jc := by
        cases hh : lp.pending with
        | none => rw [hh] at hpend; simp at hpend
        | some jc => rw [hh] at hpend; simp at hpend; exact ⟨jc, rfl, hpend⟩
      subst hjj
      obtain ⟨p1, p2⟩ := hrel.put (o' := .loop .exhausted tm ps asg' body' (some (ccode P jc))) (O' := .loop { lp with state := .exhausted }) hob rfl rfl (hk2.le _ _ hloc) hO (fun hh => ⟨hl0, _, hh, trivial, htm, hps, hasg, hbody, hpend, ⟨hlwf.wf, hlwf.jump⟩⟩)
      have hend : (Instr.endLoop loc.blk).run P w2 = .ok (some jc) (putObj w2 loc.blk (.loop { lp with state := .exhausted })) := by
        unfold Instr.endLoop
        simp only [Sem.run_bind, run_getLoop hO, Result.andThen_ok, hdone]
        have : (LoopState.done == LoopState.busy) = false := rfl
        simp only [this, Bool.false_eq_true, if_false, run_setObj hO rfl, Result.andThen_ok, hjc, Sem.run_pure, Sem.run_bind]
      have hstep := step_endRangeFunc (P := P) (b := b) (a := { a with defers := mark ++ a.defers }) (k := k) (cs := cs) hend
      have hs3 : St P n r2 t f (h2.setObj l (.loop .exhausted tm ps asg' body' (some (ccode P jc)))) b { a with defers := mark ++ a.defers } cs (putObj w2 loc.blk (.loop { lp with state := .exhausted })) := ⟨p1, hs2.tmp, hs2.size, Nat.le_trans hs2.low p2.size, hs2.defs.keeps p2, hs2.pan, hs2.rnd⟩
      have hj := hev jc n r2 t f _ b _ cs _ k _ (hlwf.jump jc hjc n) hs3 (.code jc k)
      exact CodeRes.after (hsteps.trans (.one hstep)) ⟨hs3, (hk1.trans hk2).trans p2, CsR.refl _ _, rfl⟩ hj
    · trivial
end
end Go.AM
namespace Go.AM
open Go
variable [Env]
/-- regions that draw their order -/
def DrawSim (P : Program) (call : CallF) : Prop := ∀ (n : Nat) (r : Rho) (t : TM) (f : Fr) (h : H) (b : Frame) (a : Act) (k : List Item) (cs : List Frame) (w : World) (id : Nat) (ops : Array Oper) (ds : List DOper), ops.toList.all (wfDst n) = true →
  St P n r t f h b a cs w → cdraw ops.toList (ops.toList.map (coper P ops)) = .draw ds → CodeRes P n r f h w (lone (b.atR a (.code (.region id ops true) :: k)) cs w) b k cs (runDraw call ds 0 [h] [] t f h)
section
variable {P : Program} {n : Nat} {r : Rho} {t : TM} {f : Fr} {h : H} {b : Frame} {a : Act} {k : List Item} {cs : List Frame} {w w' : World} {ev : EvF} {funcs : T AFn} {call : CallF}

theorem cond_ok (hev : SimEv P ev) (hs : St P n r t f h b a cs w) {c : Operand} {x y : Code} (hx : wfCode n x = true) (hy : wfCode n y = true) :
    CodeRes P n r f h w (lone (b.atR a (.code (.cond c x y) :: k)) cs w) b k cs (condR ev (ccode P x) (ccode P y) t f h (evO t (opd c))) := by
  have hc := hs.tmp.env c
  unfold condR
  split
  · rename_i e
    rw [e] at hc
    have := hc.inv_bool
    exact CodeRes.steps (.one (stepR_cond this)) (hev x n r t f h b a cs w k _ hx hs (.code _ _))
  · rename_i e
    rw [e] at hc
    have := hc.inv_bool
    exact CodeRes.steps (.one (stepR_cond this)) (hev y n r t f h b a cs w k _ hy hs (.code _ _))
  · trivial
theorem evStep_ok (hF : Fol P) (hC : SimCall P (call1 funcs ev)) (hD : DrawSim P (call1 funcs ev)) (hev : SimEv P ev) : SimEv P (evStep funcs ev) := by
  intro c n r t f h b a cs w k todo hwf hs hst
  -- a loop, from its first round or a later one
  have loop_ : ∀ (c : Code) m, wfCode n c = true → Steps P m (lone (b.atR a (.code c :: .inLoop c :: k)) cs w) → CodeRes P n r f h w m b k cs (thenR ev (.loop (ccode P c)) (ev (ccode P c) t f h)) := by
    intro c m hwf hm
    refine then_ok (x := .inLoop c) (fun _ => rfl) (fun _ => rfl) (CodeRes.steps hm (hev c n r t f h b a cs w (.inLoop c :: k) _ hwf hs (.code _ _))) ?_
    intro r1 t1 f1 h1 a1 cs1 w1 hs1
    exact hev (.loop c) n r1 t1 f1 h1 b a1 cs1 w1 k _ hwf hs1 (.loop c k)
  cases hst with
  | loop c k => exact loop_ c _ hwf (.one stepR_inLoop)
  | code c k =>
  cases c with
  | skip => exact ⟨r, a, cs, w, .one stepR_skip, Fin.refl hs⟩
  | label l => exact ⟨r, a, cs, w, .one stepR_label, Fin.refl hs⟩
  | exit id => exact ⟨r, a, cs, w, k, rfl, .refl _ _, Fin.refl hs⟩
  | goto l => exact ⟨r, a, cs, w, k, rfl, .refl _ _, Fin.refl hs⟩
  | ret => exact ⟨r, a, cs, w, k, .refl _ _, Fin.refl hs⟩
  | refuse why => trivial
  | region id ops draw =>
    cases draw with
    | false =>
      show CodeRes P n r f h w _ b k cs (runOps (call1 funcs ev) (ops.toList.map (coper P ops)) t f h)
      have := runOps_ok (b := b) (k := k) hF hC ops ops.toList [] rfl hwf r t f h a cs w hs
      refine CodeRes.steps (.one stepR_region) ?_
      have e : List.range' ([] : List Oper).length ops.toList.length = List.range ops.size := by rw [List.range_eq_range']; simp
      rw [e] at this
      exact this
    | true =>
      have hcc : ccode P (.region id ops true) = cdraw ops.toList (ops.toList.map (coper P ops)) := rfl
      rw [hcc]
      have hbd : (∃ ds, cdraw ops.toList (ops.toList.map (coper P ops)) = .draw ds) ∨ cdraw ops.toList (ops.toList.map (coper P ops)) = .bad := by
        unfold cdraw
        simp only
        generalize (drawOk _ _ _ && (_ && _)) = bb
        cases bb
        · exact .inr rfl
        · exact .inl ⟨_, rfl⟩
      rcases hbd with ⟨ds, e⟩ | e
      · rw [e]
        exact hD n r t f h b a k cs w id ops ds hwf hs e
      · rw [e]; trivial
  | seq x y =>
    have hwf : (wfCode n x && wfCode n y) = true := hwf
    rw [Bool.and_eq_true] at hwf
    show CodeRes P n r f h w _ b k cs (thenR ev (ccode P y) (ev (ccode P x) t f h))
    refine then_ok (x := .code y) (fun _ => rfl) (fun _ => rfl) (CodeRes.steps (.one stepR_seq) (hev x n r t f h b a cs w (.code y :: k) _ hwf.1 hs (.code _ _))) ?_
    intro r1 t1 f1 h1 a1 cs1 w1 hs1
    exact hev y n r1 t1 f1 h1 b a1 cs1 w1 k _ hwf.2 hs1 (.code _ _)
  | cond c x y =>
    have hwf : (wfCode n x && wfCode n y) = true := hwf
    rw [Bool.and_eq_true] at hwf
    exact cond_ok hev hs hwf.1 hwf.2
  | block id c =>
    exact block_ok (CodeRes.steps (.one stepR_block) (hev c n r t f h b a cs w (.inBlock id :: k) _ hwf hs (.code _ _)))
  | loop c => exact loop_ c _ hwf (.one stepR_loop)
  | scope c =>
    have hwf : wfCode n c = true := hwf
    exact scope_ok hev hwf 1000000 _ _ _ _ _ _ _ (CodeRes.steps (.one stepR_scope) (hev c n r t f h b a cs w (.inScope c :: k) _ hwf hs (.code _ _)))
  | rangeFunc g ps asg body =>
    have hwf : ((ps.toList.all fun p => Nat.ble (Nat.succ p) n) && (wfCode n asg && wfCode n body)) = true := hwf
    rw [Bool.and_eq_true, Bool.and_eq_true, List.all_eq_true] at hwf
    show CodeRes P n r f h w _ b k cs (cond (roundOk f h) (rangeR ev (call1 funcs ev) (evO t (opd g)) ps.toList (ccode P asg) (ccode P body) t f (h.new (.loop .ready t ps.toList (ccode P asg) (ccode P body) none))) .stuck)
    cases hro : roundOk f h with
    | false => trivial
    | true => exact rangeFunc_ok hC hev hs hro (fun p hp => ble_iff.1 (hwf.1 p hp)) hwf.2.1 hwf.2.2
end
end Go.AM
