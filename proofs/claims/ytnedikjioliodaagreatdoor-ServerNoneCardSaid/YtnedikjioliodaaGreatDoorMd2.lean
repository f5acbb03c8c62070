/- A body cut in pieces; errors.As. -/
import Derived.Test.YtnedikjioliodaaGreatDoorMd1
set_option linter.all false
namespace Go.AM
open Go
variable [Env]
/-! ### a run cut in pieces: what is there at a cut, told anew, without what nothing reaches -/
def sameV (x y : AV) : Bool := match x, y with | .bot, .bot => true | x, y => sameAV x y
def eqOV (x y : Option AV) : Bool := match x, y with | none, none => true | some a, some b => sameV a b | _, _ => false
def isLf {α : Type} (t : T α) : Bool := match t with | .lf => true | _ => false
noncomputable def eqT (a : T AV) : T AV → Bool := T.rec (fun b => isLf b) (fun v _ _ il ir b => T.rec false (fun v' l' r' _ _ => and (eqOV v v') (and (il l') (ir r'))) b) a
def sameEs : List (AV × AV × Nat) → List (AV × AV × Nat) → Bool
  | [], [] => true
  | (k, v, n) :: r, (k', v', n') :: r' => and (sameV k k') (and (sameV v v') (and (Nat.beq n n') (sameEs r r')))
  | _, _ => false
noncomputable def sameO (o o' : Obj) : Bool := match o, o' with
  | .row s d c k e, .row s' d' c' k' e' => and (Nat.beq s s') (and (Nat.beq k k') (and (Nat.beq e e') (and (sameV d d') (eqT c c'))))
  | .map es c, .map es' c' => and (sameEs es es') (Nat.beq c c')
  | .cst a b c d, .cst a' b' c' d' => and (Nat.beq a a') (and (Nat.beq b b') (and (Nat.beq c c') (Nat.beq d d')))
  | _, _ => false
def clsO (o : Obj) : Nat := match o with | .row _ _ _ k _ => k | _ => 0
noncomputable def okO (h : H) (b : Nat) (o : Obj) : Bool := match h.obj b with | some o' => and (sameO o' o) (h.alive (clsO o')) | none => false
noncomputable def okOs (h : H) : List (Nat × Obj) → Bool
  | [] => true
  | (b, o) :: r => cond (okO h b o) (okOs h r) false
noncomputable def okT (t : TM) (n : Nat) (x : AV) : Bool := match T.get t n with | some y => sameV y x | none => false
noncomputable def okTs (t : TM) : List (Nat × AV) → Bool
  | [] => true
  | (n, x) :: r => cond (okT t n x) (okTs t r) false
noncomputable def ofL {α : Type} : List (Nat × α) → T α
  | [] => .lf
  | (n, x) :: r => T.put (ofL r) n x
/-- a row, by its cells -/
noncomputable def rowL (s : Nat) (d : AV) (l : List (Nat × AV)) (k e : Nat) : Obj := .row s d (ofL l) k e
noncomputable def heapL (os : List (Nat × Obj)) (nx cl : Nat) : H := ⟨ofL os, nx, .lf, cl⟩
noncomputable def okH (h : H) (os : List (Nat × Obj)) (nx cl : Nat) : Bool := match h with | ⟨b, n, d, c⟩ => and (okOs ⟨b, n, d, c⟩ os) (and (Nat.beq n nx) (Nat.beq c cl))
def frOk (f : Fr) : Bool := match f with | ⟨[], none, none⟩ => true | _ => false
noncomputable def cutOk (r : R) (ts : List (Nat × AV)) (os : List (Nat × Obj)) (nx cl : Nat) : Bool := match r with
  | .normal t f h => and (frOk f) (and (okTs t ts) (okH h os nx cl))
  | _ => false
noncomputable def retOk (r : CR) (v : AV) (os : List (Nat × Obj)) (nx cl : Nat) : Bool := match r with
  | .ret x _ h => and (sameV x v) (okH h os nx cl)
  | _ => false
noncomputable def runSpine (E : EvF) : Nat → ACode → TM → Fr → H → R
  | 0, _, t, f, h => .normal t f h
  | k + 1, .seq a b, t, f, h => (match E a t f h with
    | .normal t f h => runSpine E k b t f h
    | _ => .stuck)
  | _, _, _, _, _ => .stuck
def dropN : Nat → ACode → ACode
  | 0, c => c
  | k + 1, .seq _ b => dropN k b
  | _, _ => .bad

theorem sameV_eq {x y : AV} (h : sameV x y = true) : x = y := by
  unfold sameV at h
  split at h
  · rfl
  · exact sameAV_eq _ _ h
theorem eqOV_eq {x y : Option AV} (h : eqOV x y = true) : x = y := by
  unfold eqOV at h
  split at h
  · rfl
  · rw [sameV_eq h]
  · simp at h
theorem eqT_get : ∀ (a b : T AV), eqT a b = true → ∀ n, T.get a n = T.get b n
  | .lf, .lf, _, n => rfl
  | .lf, .nd v l r, h, _ => by have h : isLf (.nd v l r : T AV) = true := h; simp [isLf] at h
  | .nd _ _ _, .lf, h, _ => by have h : false = true := h; simp at h
  | .nd v l r, .nd v' l' r', h, n => by
    have h : (eqOV v v' && (eqT l l' && eqT r r')) = true := h
    rw [Bool.and_eq_true, Bool.and_eq_true] at h
    have e := eqOV_eq h.1
    have hl := eqT_get l l' h.2.1
    have hr := eqT_get r r' h.2.2
    subst e
    cases n with
    | zero => rfl
    | succ m =>
      show (@Bool.rec (fun _ => Option AV) (T.get r (Nat.div m 2)) (T.get l (Nat.div m 2)) (Nat.beq (Nat.mod m 2) 0)) = (@Bool.rec (fun _ => Option AV) (T.get r' (Nat.div m 2)) (T.get l' (Nat.div m 2)) (Nat.beq (Nat.mod m 2) 0))
      rw [hl, hr]
theorem sameEs_eq : ∀ (a b : List (AV × AV × Nat)), sameEs a b = true → a = b
  | [], [], _ => rfl
  | (k, v, n) :: r, (k', v', n') :: r', h => by
    unfold sameEs at h
    rw [Bool.and_eq_true, Bool.and_eq_true, Bool.and_eq_true] at h
    rw [sameV_eq h.1, sameV_eq h.2.1, beq_iff.1 h.2.2.1, sameEs_eq r r' h.2.2.2]
  | [], _ :: _, h => by simp [sameEs] at h
  | _ :: _, [], h => by simp [sameEs] at h
theorem ofL_get {α : Type} : ∀ (l : List (Nat × α)) (n : Nat) (x : α), T.get (ofL l) n = some x → (n, x) ∈ l
  | [], n, x, h => by have h : T.get (.lf : T α) n = some x := h; rw [T.get_lf] at h; simp at h
  | (m, y) :: r, n, x, h => by
    have h : T.get (T.put (ofL r) m y) n = some x := h
    rw [T.get_put] at h
    by_cases e : n = m
    · subst e; rw [if_pos rfl] at h; injection h with h; subst h; exact List.mem_cons_self ..
    · rw [if_neg e] at h; exact List.mem_cons_of_mem _ (ofL_get r n x h)
theorem okTs_get (t : TM) : ∀ (l : List (Nat × AV)), okTs t l = true → ∀ n x, (n, x) ∈ l → T.get t n = some x
  | [], _, n, x, h => by simp at h
  | (m, y) :: r, h, n, x, hm => by
    unfold okTs at h
    cases hk : okT t m y with
    | false => rw [hk] at h; simp at h
    | true =>
      rw [hk] at h
      rcases List.mem_cons.1 hm with e | hm
      · injection e with e1 e2; subst e1; subst e2
        unfold okT at hk
        split at hk
        · rename_i z hz; rw [hz, sameV_eq hk]
        · simp at hk
      · exact okTs_get t r h n x hm
theorem okOs_get (h : H) : ∀ (l : List (Nat × Obj)), okOs h l = true → ∀ b o, (b, o) ∈ l → ∃ o', h.obj b = some o' ∧ sameO o' o = true ∧ h.alive (clsO o') = true
  | [], _, n, x, h => by simp at h
  | (m, y) :: r, hh, n, x, hm => by
    unfold okOs at hh
    cases hk : okO h m y with
    | false => rw [hk] at hh; simp at hh
    | true =>
      rw [hk] at hh
      rcases List.mem_cons.1 hm with e | hm
      · injection e with e1 e2; subst e1; subst e2
        unfold okO at hk
        split at hk
        · rename_i z hz
          rw [Bool.and_eq_true] at hk
          exact ⟨z, hz, hk.1, hk.2⟩
        · simp at hk
      · exact okOs_get h r hh n x hm
theorem sameO_ok {o o' : Obj} (h : sameO o o' = true) : clsOf o = clsOf o' ∧ esOf o = esOf o' ∧ endOf o = endOf o' ∧ ∀ P r w l, ObjR P r w l o → ObjR P r w l o' := by
  unfold sameO at h
  split at h
  · rename_i s d c k e s' d' c' k' e'
    simp only [Bool.and_eq_true] at h
    obtain ⟨h1, h2, h3, h4, h5⟩ := h
    have h1 := beq_iff.1 h1; have h2 := beq_iff.1 h2; have h3 := beq_iff.1 h3; have h4 := sameV_eq h4
    subst h1; subst h2; subst h3; subst h4
    refine ⟨rfl, rfl, rfl, ?_⟩
    rintro P r w l ⟨⟨q1, q2, q3, q4⟩, q5⟩
    refine ⟨⟨q1, q2, q3, fun i hi => ?_⟩, q5⟩
    have := q4 i hi
    unfold cellAt at *
    rw [← eqT_get _ _ h5]
    exact this
  · rename_i es c es' c'
    simp only [Bool.and_eq_true] at h
    have h1 := sameEs_eq _ _ h.1
    have h2 := beq_iff.1 h.2
    subst h1; subst h2
    exact ⟨rfl, rfl, rfl, fun _ _ _ _ h => h⟩
  · rename_i a b c d a' b' c' d'
    simp only [Bool.and_eq_true] at h
    obtain ⟨h1, h2, h3, h4⟩ := h
    have h1 := beq_iff.1 h1; have h2 := beq_iff.1 h2; have h3 := beq_iff.1 h3; have h4 := beq_iff.1 h4
    subst h1; subst h2; subst h3; subst h4
    exact ⟨rfl, rfl, rfl, fun _ _ _ _ h => h⟩
  · simp at h
section
variable {P : Program} {n : Nat} {r : Rho} {t : TM} {f : Fr} {h : H} {b : Frame} {a : Act} {k : List Item} {cs : List Frame} {w w' : World} {ev : EvF} {funcs : T AFn} {call : CallF}

structure SubH (h' h : H) : Prop where
  obj : ∀ b o', h'.obj b = some o' → ∃ o, h.obj b = some o ∧ Live h o ∧ clsOf o = clsOf o' ∧ esOf o = esOf o' ∧ endOf o = endOf o' ∧ ∀ P r w l, ObjR P r w l o → ObjR P r w l o'
  next : h'.nextOf = h.nextOf
  cls : h'.clsN = h.clsN
  dead : ∀ k, h'.alive k = true
theorem clsO_eq (o : Obj) : clsO o = clsOf o := by cases o <;> rfl
theorem okH_sub {os : List (Nat × Obj)} {nx cl : Nat} (e : okH h os nx cl = true) : SubH (heapL os nx cl) h := by
  cases h with
  | mk bl n d c =>
  unfold okH at e
  rw [Bool.and_eq_true, Bool.and_eq_true] at e
  obtain ⟨e1, e2, e3⟩ := e
  have e2 := beq_iff.1 e2
  have e3 := beq_iff.1 e3
  subst e2; subst e3
  refine ⟨?_, rfl, rfl, ?_⟩
  · intro b o' hb
    have hm := ofL_get os b o' hb
    obtain ⟨o, h1, h2, h3⟩ := okOs_get _ os e1 b o' hm
    obtain ⟨q1, q2, q3, q4⟩ := sameO_ok h2
    exact ⟨o, h1, by unfold Live; rw [← clsO_eq]; exact h3, q1, q2, q3, q4⟩
  · intro k
    unfold heapL
    rw [H.alive_mk]
    cases k with
    | zero => rfl
    | succ k => show (match T.get (.lf : T Unit) (k + 1) with | none => true | some _ => false) = true; rw [T.get_lf]
theorem Rel.sub {h' : H} (hr : Rel P r h w) (s : SubH h' h) : Rel P r h' w ∧ Keeps r h w r h' w := by
  refine ⟨⟨?_, fun b l hb => by rw [s.next]; exact hr.dom b l hb, ?_, ?_, ?_, fun k _ => s.dead k, by rw [s.cls, s.next]; exact hr.pos⟩, ⟨Rho.le_refl r, Nat.le_refl _, rfl, rfl, rfl, by rw [s.next]; exact Nat.le_refl _, fun _ _ _ => rfl, ?_⟩⟩
  · intro b o' hb _
    obtain ⟨o, h1, h2, _, _, _, h6⟩ := s.obj b o' hb
    obtain ⟨l, hl, hO⟩ := hr.obj b o h1 h2
    exact ⟨l, hl, h6 _ _ _ _ hO⟩
  · intro b o' hb
    obtain ⟨o, h1, h2, h3, _⟩ := s.obj b o' hb
    have := hr.key b o h1
    rw [s.next, s.cls, ← h3]; exact this
  · intro b b' o o' l l' hb _ hb' _ hl hl' heq hne
    obtain ⟨o1, p1, p2, p3, _⟩ := s.obj b o hb
    obtain ⟨o2, q1, q2, q3, _⟩ := s.obj b' o' hb'
    rw [← p3, ← q3]
    exact hr.inj b b' o1 o2 l l' p1 p2 q1 q2 hl hl' heq hne
  · intro b b' o o' l l' hb _ hb' _ hl hl' heq hne ht
    obtain ⟨o1, p1, p2, p3, p4, p5, _⟩ := s.obj b o hb
    obtain ⟨o2, q1, q2, q3, q4, q5, _⟩ := s.obj b' o' hb'
    rw [← q4, ← q5, ← p5]
    exact hr.tip b b' o1 o2 l l' p1 p2 q1 q2 hl hl' heq hne (by rw [p4]; exact ht)
  · rintro blk _ ⟨b', o', l', hb', _, hl', rfl⟩
    obtain ⟨o, h1, h2, _⟩ := s.obj b' o' hb'
    exact ⟨b', o, l', h1, h2, hl', rfl⟩
theorem St.sub {h' : H} {t' : TM} (hs : St P n r t f h b a cs w) (s : SubH h' h) (ht : ∀ n x, T.get t' n = some x → T.get t n = some x) : Fin P n r f h w b cs r t' f h' a cs w := by
  obtain ⟨h1, h2⟩ := hs.rel.sub s
  exact ⟨⟨h1, fun n x hx => hs.tmp n x (ht n x hx), hs.size, hs.low, hs.defs.keeps h2, hs.pan, hs.rnd⟩, h2, CsR.refl _ _, rfl⟩

def dropC : Nat → Code → Code
  | 0, c => c
  | k + 1, .seq _ b => dropC k b
  | _, _ => .refuse ""
theorem dropC_code : ∀ (k : Nat) (c : Code), ccode P (dropC k c) = dropN k (ccode P c)
  | 0, _ => rfl
  | k + 1, .seq a b => dropC_code k b
  | k + 1, .skip => rfl
  | k + 1, .region _ _ false => rfl
  | k + 1, .region _ ops true => by
    show ACode.bad = dropN (k + 1) (cdraw ops.toList (ops.toList.map (coper P ops)))
    unfold cdraw
    simp only
    generalize (drawOk _ _ _ && (_ && _)) = bb
    cases bb <;> rfl
  | k + 1, .cond _ _ _ => rfl
  | k + 1, .block _ _ => rfl
  | k + 1, .loop _ => rfl
  | k + 1, .rangeFunc _ _ _ _ => rfl
  | k + 1, .exit _ => rfl
  | k + 1, .scope _ => rfl
  | k + 1, .label _ => rfl
  | k + 1, .goto _ => rfl
  | k + 1, .ret => rfl
  | k + 1, .refuse _ => rfl
theorem dropC_wf : ∀ (k : Nat) (c : Code), wfCode n c = true → wfCode n (dropC k c) = true
  | 0, _, h => h
  | k + 1, .seq a b, h => by
    have h : (wfCode n a && wfCode n b) = true := h
    rw [Bool.and_eq_true] at h
    exact dropC_wf k b h.2
  | k + 1, .skip, _ => rfl
  | k + 1, .region _ _ _, _ => rfl
  | k + 1, .cond _ _ _, _ => rfl
  | k + 1, .block _ _, _ => rfl
  | k + 1, .loop _, _ => rfl
  | k + 1, .rangeFunc _ _ _ _, _ => rfl
  | k + 1, .exit _, _ => rfl
  | k + 1, .scope _, _ => rfl
  | k + 1, .label _, _ => rfl
  | k + 1, .goto _, _ => rfl
  | k + 1, .ret, _ => rfl
  | k + 1, .refuse _, _ => rfl
/-- the first pieces, then the rest -/
theorem spine_ok (hev : SimEv P ev) {R0 : R} : ∀ (m : Nat) (c : Code) (r : Rho) (t : TM) (f : Fr) (h : H) (a : Act) (cs : List Frame) (w : World) (t1 : TM) (f1 : Fr) (h1 : H), wfCode n c = true → St P n r t f h b a cs w →
    runSpine ev m (ccode P c) t f h = .normal t1 f1 h1 →
    (∀ r1 a1 cs1 w1, St P n r1 t1 f1 h1 b a1 cs1 w1 → CodeRes P n r1 f1 h1 w1 (lone (b.atR a1 (.code (dropC m c) :: k)) cs1 w1) b k cs1 R0) →
    CodeRes P n r f h w (lone (b.atR a (.code c :: k)) cs w) b k cs R0
  | 0, c, r, t, f, h, a, cs, w, t1, f1, h1, _, hs, e, hrest => by
    have e : R.normal t f h = .normal t1 f1 h1 := e
    injection e with e1 e2 e3
    subst e1; subst e2; subst e3
    exact hrest r a cs w hs
  | m + 1, .seq x y, r, t, f, h, a, cs, w, t1, f1, h1, hwf, hs, e, hrest => by
    have hwf : (wfCode n x && wfCode n y) = true := hwf
    rw [Bool.and_eq_true] at hwf
    have e : (match ev (ccode P x) t f h with | .normal t f h => runSpine ev m (ccode P y) t f h | _ => .stuck) = .normal t1 f1 h1 := e
    have hx := hev x n r t f h b a cs w (.code y :: k) _ hwf.1 hs (.code _ _)
    cases hxe : ev (ccode P x) t f h with
    | normal t' f' h' =>
      rw [hxe] at e hx
      obtain ⟨r1, a1, cs1, w1, hst, hfin⟩ := hx
      refine CodeRes.after (.head stepR_seq hst) hfin ?_
      exact spine_ok hev m y r1 t' f' h' a1 cs1 w1 t1 f1 h1 hwf.2 hfin.st e hrest
    | _ => rw [hxe] at e; simp at e
  | m + 1, .skip, _, _, _, _, _, _, _, _, _, _, _, _, e, _ => by have e : R.stuck = .normal _ _ _ := e; simp at e
  | m + 1, .region _ _ false, _, _, _, _, _, _, _, _, _, _, _, _, e, _ => by have e : R.stuck = .normal _ _ _ := e; simp at e
  | m + 1, .region _ ops true, _, t, f, h, _, _, _, t1, f1, h1, _, _, e, _ => by
    have e : runSpine ev (m + 1) (cdraw ops.toList (ops.toList.map (coper P ops))) t f h = .normal t1 f1 h1 := e
    exfalso
    revert e
    unfold cdraw
    simp only
    generalize (drawOk _ _ _ && (_ && _)) = bb
    cases bb <;> intro e <;> (have e : R.stuck = .normal _ _ _ := e; simp at e)
  | m + 1, .cond _ _ _, _, _, _, _, _, _, _, _, _, _, _, _, e, _ => by have e : R.stuck = .normal _ _ _ := e; simp at e
  | m + 1, .block _ _, _, _, _, _, _, _, _, _, _, _, _, _, e, _ => by have e : R.stuck = .normal _ _ _ := e; simp at e
  | m + 1, .loop _, _, _, _, _, _, _, _, _, _, _, _, _, e, _ => by have e : R.stuck = .normal _ _ _ := e; simp at e
  | m + 1, .rangeFunc _ _ _ _, _, _, _, _, _, _, _, _, _, _, _, _, e, _ => by have e : R.stuck = .normal _ _ _ := e; simp at e
  | m + 1, .exit _, _, _, _, _, _, _, _, _, _, _, _, _, e, _ => by have e : R.stuck = .normal _ _ _ := e; simp at e
  | m + 1, .scope _, _, _, _, _, _, _, _, _, _, _, _, _, e, _ => by have e : R.stuck = .normal _ _ _ := e; simp at e
  | m + 1, .label _, _, _, _, _, _, _, _, _, _, _, _, _, e, _ => by have e : R.stuck = .normal _ _ _ := e; simp at e
  | m + 1, .goto _, _, _, _, _, _, _, _, _, _, _, _, _, e, _ => by have e : R.stuck = .normal _ _ _ := e; simp at e
  | m + 1, .ret, _, _, _, _, _, _, _, _, _, _, _, _, e, _ => by have e : R.stuck = .normal _ _ _ := e; simp at e
  | m + 1, .refuse _, _, _, _, _, _, _, _, _, _, _, _, _, e, _ => by have e : R.stuck = .normal _ _ _ := e; simp at e

/-- pieces, one behind the other -/
inductive Chain (E : EvF) : ACode → TM → H → ACode → TM → H → Prop where
  | done (c : ACode) (t : TM) (h : H) : Chain E c t h c t h
  | cut {c : ACode} {t : TM} {h : H} {c' : ACode} {t' : TM} {h' : H} (m : Nat) (ts : List (Nat × AV)) (os : List (Nat × Obj)) (nx cl : Nat) (e : cutOk (runSpine E m c t ⟨[], none, none⟩ h) ts os nx cl = true)
      (rest : Chain E (dropN m c) (ofL ts) (heapL os nx cl) c' t' h') : Chain E c t h c' t' h'
theorem cutOk_sub {R0 : R} {ts : List (Nat × AV)} {os : List (Nat × Obj)} {nx cl : Nat} (e : cutOk R0 ts os nx cl = true) : ∃ t h, R0 = .normal t ⟨[], none, none⟩ h ∧ SubH (heapL os nx cl) h ∧ ∀ n x, T.get (ofL ts) n = some x → T.get t n = some x := by
  unfold cutOk at e
  split at e
  · rename_i t f h
    rw [Bool.and_eq_true, Bool.and_eq_true] at e
    obtain ⟨e1, e2, e3⟩ := e
    have : f = ⟨[], none, none⟩ := by
      unfold frOk at e1
      split at e1
      · rfl
      · simp at e1
    subst this
    exact ⟨t, h, rfl, okH_sub e3, fun n x hx => okTs_get t ts e2 n x (ofL_get ts n x hx)⟩
  · simp at e
theorem chain_ok (hev : SimEv P ev) {c' : ACode} {t' : TM} {h' : H} {ac : ACode} (hc : Chain ev ac t h c' t' h') : ∀ (c : Code), ac = ccode P c → wfCode n c = true → ∀ (r : Rho) (a : Act) (cs : List Frame) (w : World), St P n r t ⟨[], none, none⟩ h b a cs w →
    CodeRes P n r ⟨[], none, none⟩ h w (lone (b.atR a (.code c :: k)) cs w) b k cs (ev c' t' ⟨[], none, none⟩ h') := by
  induction hc with
  | done c0 t h =>
    intro c hc hwf r a cs w hs
    subst hc
    exact hev c n r t _ h b a cs w k _ hwf hs (.code _ _)
  | cut m ts os nx cl e rest ih =>
    intro c hc hwf r a cs w hs
    subst hc
    obtain ⟨t1, h1, e1, hsub, ht⟩ := cutOk_sub e
    refine spine_ok hev m c r _ _ _ a cs w t1 _ h1 hwf hs e1 ?_
    intro r1 a1 cs1 w1 hs1
    have hfin := hs1.sub hsub ht
    exact CodeRes.after (.refl _ _) hfin (ih (dropC m c) (dropC_code m c).symm (dropC_wf m c hwf) r1 a1 cs1 w1 hfin.st)
/-- a function's call, in pieces -/
theorem chain_calls (hF : Fol P) (hN : Named P) (nat : List (Nat × (List AV → H → QR))) (hnat : ∀ fi g, nat.lookup fi = some g → NatOk P fi g) (m : Nat) {fi : FuncId} {args : List AV} {args' : Array Value} {fn : Func} {bd : Code} {rs : List ARes}
    (hfn : P.funcs[fi]? = some fn) (hbd : fn.body = some bd) (hrs : cresults P fn.results.toList = some rs) (hwf : wfCode fn.ntmps bd = true) (hr : Rel P r h w) (ha : VRs r args args'.toList)
    {c' : ACode} {t' : TM} {h' : H} (hc : Chain (AM.ev (ctable P nat) m) (ccode P bd) (argsT args) h c' t' h') {v : AV} {pan : Option (AV × Bool)} {h1 : H}
    (e : leave (call0 (ctable P nat) (AM.ev (ctable P nat) m)) rs (AM.ev (ctable P nat) m c' t' ⟨[], none, none⟩ h') = .ret v pan h1) :
    Calls P fi args' w fun e w' => ∃ r' v', e = .returned v' ∧ VR r' v v' ∧ Rel P r' h1 w' ∧ Keeps r h w r' h1 w' := by
  have hev := ev_ok hF hN nat hnat (fun call hC => draw_ok hF hC) m
  have h0 := call0_ok hN nat hev (ev_bad (ctable P nat) m)
  intro cs
  let b : Frame := { Frame.enter P fi args' .normal with tmps := Array.replicate w.heap.size undef }
  let a : Act := ⟨args' ++ Array.replicate (fn.ntmps - args'.size) undef, []⟩
  have henter : Frame.enter P fi args' .normal = b.atR a [.code bd] := by
    show Frame.enter P fi args' .normal = { fn := fi, tmps := args' ++ Array.replicate (fn.ntmps - args'.size) undef, todo := [.code bd], defers := [], mode := .run, kind := .normal, roundOf := none }
    unfold Frame.enter
    simp only [hfn, hbd, Option.map_some, Option.getD_some, Option.bind_some]
  have hst : St P fn.ntmps r (argsT args) ⟨[], none, none⟩ h b a cs w := by
    refine ⟨hr, argsT_tr ha _, ?_, ?_, .nil, .normal _, trivial⟩
    · show fn.ntmps ≤ (args' ++ Array.replicate (fn.ntmps - args'.size) undef).size
      rw [Array.size_append, Array.size_replicate]; omega
    · show (Array.replicate w.heap.size undef).size ≤ w.heap.size
      rw [Array.size_replicate]; exact Nat.le_refl _
  obtain ⟨r', v', w', fr, hs, g1, g2, g3, g4, g5, g6, g7, g8⟩ := leave_calls (b := b) h0 hrs ⟨rfl, rfl, rfl, by show (Array.replicate w.heap.size undef).size = w.heap.size; rw [Array.size_replicate]⟩ (chain_ok hev hc bd rfl hwf r a cs w hst) e
  rw [henter]
  exact ⟨.returned v', w', fr, ⟨r', v', rfl, g6, g7, g8⟩, hs, g4, g1, g2, g3, fn, by rw [g4]; exact hfn, g5⟩
/-- a call, told by what it gives and what is there then -/
theorem run_calls_sub (hF : Fol P) (hN : Named P) (nat : List (Nat × (List AV → H → QR))) (hnat : ∀ fi g, nat.lookup fi = some g → NatOk P fi g) (m : Nat) {fi : FuncId} {args : List AV} {args' : Array Value}
    (hno : nat.lookup fi = none) (hr : Rel P r h w) (ha : VRs r args args'.toList) {v : AV} {os : List (Nat × Obj)} {nx cl : Nat} (e : retOk (run (ctable P nat) m fi args h) v os nx cl = true) :
    Calls P fi args' w fun e w' => ∃ r' v', e = .returned v' ∧ VR r' v v' ∧ Rel P r' (heapL os nx cl) w' ∧ Keeps r h w r' (heapL os nx cl) w' := by
  cases hx : run (ctable P nat) m fi args h with
  | panic v p h => rw [hx] at e; simp [retOk] at e
  | stuck => rw [hx] at e; simp [retOk] at e
  | ret x pan h1 =>
    rw [hx] at e
    unfold retOk at e
    rw [Bool.and_eq_true] at e
    have hv := sameV_eq e.1
    subst hv
    refine (run_calls hF hN nat hnat m hno hr ha hx).mono ?_
    rintro e' w' ⟨r', v', rfl, h1', h2, h3⟩
    obtain ⟨q1, q2⟩ := h2.sub (okH_sub e.2)
    exact ⟨r', v', rfl, h1', q1, h3.trans q2⟩
end
end Go.AM
namespace Go.AM
open Go
/-! ### errors.As -/
/-- more memory, nothing else -/
structure Junk (w w' : World) : Prop where
  size : w.heap.size ≤ w'.heap.size
  same : ∀ i, i < w.heap.size → w'.heap[i]? = w.heap[i]?
  tape : w'.tape = w.tape
  os : w'.os = w.os
  output : w'.output = w.output
theorem Junk.refl (w : World) : Junk w w := ⟨Nat.le_refl _, fun _ _ => rfl, rfl, rfl, rfl⟩
theorem Junk.alloc {w w' : World} (j : Junk w w') (O : Go.Obj) : Junk w (w'.alloc O) :=
  ⟨by have := j.size; simp; omega, fun i hi => (by have := j.size; simp only [World.alloc, Array.getElem?_push]; rw [if_neg (by omega)] : (w'.alloc O).heap[i]? = w'.heap[i]?).trans (j.same i hi), j.tape, j.os, j.output⟩
theorem Junk.cell {w w' : World} (j : Junk w w') {a : Addr} (h : a.block < w.heap.size) : w'.cell? a = w.cell? a := by unfold World.cell?; rw [j.same _ h]
theorem Junk.frozen {w w' : World} (j : Junk w w') {a : Addr} (h : a.block < w.heap.size) : w'.frozen? a = w.frozen? a := by unfold World.frozen?; rw [j.same _ h]
/-- what an error wraps, as far as the wanted type -/
inductive Wraps (w : World) (kT fT T : TypeId) : Value → Option Value → Prop where
  | hit (v : Value) : Wraps w kT fT T (.iface T v) (some v)
  | miss (v : Value) (h : kT ≠ T) : Wraps w kT fT T (.iface kT v) none
  | wrapNil (a : Addr) (h : fT ≠ T) (hs : a.spot = none) (hc : w.cell? ⟨a.block, a.off + 2, none⟩ = some .nilIface) : Wraps w kT fT T (.iface fT (.pointer (some a))) none
  | wrap (a : Addr) (t : TypeId) (v : Value) (x : Option Value) (h : fT ≠ T) (hs : a.spot = none) (hc : w.cell? ⟨a.block, a.off + 2, none⟩ = some (.iface t v)) (hw : Wraps w kT fT T (.iface t v) x) : Wraps w kT fT T (.iface fT (.pointer (some a))) x
def GlobOk (rt tb et : Nat) (w : World) : Prop := w.cell? ⟨0, 0, none⟩ = some (.iface rt (.agg #[.pointer (some ⟨tb, et, none⟩)]))
/-- what is asked of a program's errors.As -/
def AsOk (P : Program) (fi : FuncId) (rt tb et kT fT pT T : Nat) : Prop := ∀ (ev : Value) (t : Addr) (x : Option Value) (w : World), GlobOk rt tb et w → Wraps w kT fT T ev x → t.spot = none →
  (∀ v, x = some v → v.oneCell' = true ∧ (∃ old, w.cell? t = some old) ∧ w.frozen? t = false) → Calls P fi #[ev, .iface pT (.pointer (some t))] w fun e w' => e = .returned (.bool x.isSome) ∧ ∃ w1, Junk w w1 ∧ w' = (match x with | some v => w1.setCell t v | none => w1)
section
variable [Env]
variable {P : Program} {r : Rho} {h h' : H} {w w' : World} {fi : FuncId}
theorem Rel.junk (hr : Rel P r h w) (j : Junk w w') : Rel P r h w' ∧ Keeps r h w r h w' := by
  refine ⟨⟨?_, hr.dom, hr.key, hr.inj, hr.tip, hr.dead, hr.pos⟩, ⟨Rho.le_refl r, j.size, j.tape, j.os, j.output, Nat.le_refl _, fun blk hb _ => j.same blk hb, fun _ _ h => h⟩⟩
  intro b o hb hv
  obtain ⟨l, hl, hO⟩ := hr.obj b o hb hv
  exact ⟨l, hl, hO.keep (j.same _ hO.blk_lt)⟩
/-- one cell that is stored is there -/
theorem Rel.store_cell (hr : Rel P r h w) {b o : Nat} {y : AV} (e : h.stores b o [y] = some h') : (∃ o', h.obj b = some o') ∧ H.oneCell y = true ∧ ∃ l, r b = some l ∧ (∃ old, w.cell? ⟨l.blk, o + l.sh, none⟩ = some old) ∧ w.frozen? ⟨l.blk, o + l.sh, none⟩ = false := by
  unfold H.stores H.storesR at e
  split at e
  case h_2 => simp at e
  rename_i s d c k es hb
  obtain ⟨hk, e⟩ := bif_some e
  obtain ⟨h2, e⟩ := bif_some e
  obtain ⟨h3, h4⟩ : Nat.ble (Nat.add o [y].length) s = true ∧ H.oneCells [y] = true := by simpa using h2
  have h3 : o + 1 ≤ s := ble_iff.1 h3
  obtain ⟨l, hl, ⟨r1, ⟨el, r2, r2t⟩, r3, r4⟩, hes⟩ := hr.obj b _ hb hk
  refine ⟨⟨_, hb⟩, H.oneCells_all [y] h4 y (List.mem_singleton.2 rfl), l, hl, ?_, r3 _ (by omega)⟩
  obtain ⟨v, hv, _⟩ := r4 o (by omega)
  exact ⟨v, hv⟩
theorem wraps_of (hr : Rel P r h w) {kT fT T b o : Nat} : ∀ (n : Nat) (e : AV) (ev : Value) (res : AV) (h' : H), VR r e ev → errAsGo kT fT T b o n e h = .v res h' →
    (ev = .nilIface ∧ res = .bool false ∧ h' = h) ∨ (∃ x, Wraps w kT fT T ev x ∧ ((x = none ∧ res = .bool false ∧ h' = h) ∨ ∃ v y, x = some v ∧ VR r y v ∧ res = .bool true ∧ h.stores b o [y] = some h'))
  | 0, e, ev, res, h', he, hg => by have hg : QR.no = .v res h' := hg; simp at hg
  | n + 1, e, ev, res, h', he, hg => by
    have hg : errAsS kT fT T b o (errAsGo kT fT T b o n) e h = .v res h' := hg
    cases e with
    | nili =>
      have := he.inv_nili; subst this
      obtain ⟨rfl, rfl⟩ := qr_v (show QR.v (.bool false) h = .v res h' from hg)
      exact .inl ⟨rfl, rfl, rfl⟩
    | iface t v =>
      have hg : cond (Nat.beq t T) (giveR (.bool true) (h.stores b o [v])) (errAsT fT kT t (errAsGo kT fT T b o n) v h) = .v res h' := hg
      obtain ⟨v', rfl, hv⟩ := he.inv_iface
      right
      cases hT : Nat.beq t T with
      | true =>
        have := beq_iff.1 hT; subst this
        rw [hT] at hg
        simp only [cond_true] at hg
        unfold giveR at hg
        split at hg
        · rename_i h1 hst
          obtain ⟨rfl, rfl⟩ := qr_v hg
          exact ⟨some v', .hit v', .inr ⟨v', v, rfl, hv, rfl, hst⟩⟩
        · simp at hg
      | false =>
        rw [hT] at hg
        simp only [cond_false] at hg
        have hne : t ≠ T := fun e => by rw [beq_iff.2 e] at hT; simp at hT
        unfold errAsT at hg
        cases hF : Nat.beq t fT with
        | true =>
          have := beq_iff.1 hF; subst this
          rw [hF] at hg
          simp only [cond_true] at hg
          cases v with
          | ptr fb fo =>
            obtain ⟨l, hl, rfl⟩ := hv.inv_ptr
            have hg : (match h.loads fb (fo + 2) 1 with | some [e] => errAsGo kT t T b o n e h | _ => .no) = .v res h' := hg
            split at hg
            · rename_i e2 hld
              obtain ⟨l2, cells, hl2, hcs, hlen, _, hcell⟩ := hr.loads hld
              rw [hl] at hl2; injection hl2 with hl2; subst hl2
              obtain ⟨u, hu, hur⟩ := hcs.get' 0 _ rfl
              have hc := hcell 0 u hu
              have hc : w.cell? ⟨l.blk, fo + l.sh + 2, none⟩ = some u := cell_of_eq hc (by omega)
              rcases wraps_of hr n e2 u res h' hur hg with ⟨rfl, rfl, rfl⟩ | ⟨x, hx, hy⟩
              · exact ⟨none, .wrapNil _ hne rfl hc, .inl ⟨rfl, rfl, rfl⟩⟩
              · have : ∃ t2 v2, u = .iface t2 v2 := by cases hx <;> exact ⟨_, _, rfl⟩
                obtain ⟨t2, v2, rfl⟩ := this
                exact ⟨x, .wrap _ t2 v2 x hne rfl hc hx, hy⟩
            · simp at hg
          | _ =>
            have hg : QR.no = .v res h' := hg
            simp at hg
        | false =>
          rw [hF] at hg
          simp only [cond_false] at hg
          cases hK : Nat.beq t kT with
          | true =>
            have := beq_iff.1 hK; subst this
            rw [hK] at hg
            obtain ⟨rfl, rfl⟩ := qr_v (show QR.v (.bool false) h = .v res h' from hg)
            exact ⟨none, .miss v' hne, .inl ⟨rfl, rfl, rfl⟩⟩
          | false =>
            rw [hK] at hg
            have hg : QR.no = .v res h' := hg
            simp at hg
    | _ =>
      have hg : QR.no = .v res h' := hg
      simp at hg
theorem isCst_eq {t b o : Nat} {x : Option Obj} (h : isCst t b o x = true) : x = some (.cst 0 t b o) := by
  unfold isCst at h
  split at h
  · rename_i t' b' o'
    rw [Bool.and_eq_true, Bool.and_eq_true] at h
    rw [beq_iff.1 h.1, beq_iff.1 h.2.1, beq_iff.1 h.2.2]
  · simp at h
theorem glob_of (hr : Rel P r h w) {rt tb et : Nat} (h1 : h.obj 1 = some (.cst 0 rt tb et)) : GlobOk rt tb et w := by
  obtain ⟨l, hl, h2, _, h3⟩ := hr.obj 1 _ h1 (H.alive_zero _)
  rw [h2] at h3
  exact h3
theorem as_nat (hN : Named P) {rt tb et kT fT pK pF : Nat} {fn : Func} {bd : Code} (h1 : P.funcs[fi]? = some fn) (h2 : fn.body = some bd)
    (hnil : ∀ (t : Value) (w : World), Calls P fi #[.nilIface, t] w fun e w' => e = .returned (.bool false) ∧ w' = w)
    (hK : AsOk P fi rt tb et kT fT pK kT) (hF : AsOk P fi rt tb et kT fT pF fT) : NatOk P fi (errAs rt tb et kT fT pK pF) := by
  intro r h w args args' c cs hr ha
  unfold errAs
  cases hcst : isCst rt tb et (h.obj 1) with
  | false => trivial
  | true =>
    simp only [cond_true]
    have hglob := glob_of hr (isCst_eq hcst)
    unfold errAsA
    split
    · rename_i err t b o
      obtain ⟨ev, tv, rfl, he, ht⟩ := vrs2 ha
      obtain ⟨pv, rfl, hp⟩ := ht.inv_iface
      obtain ⟨l, hl, rfl⟩ := hp.inv_ptr
      have key : ∀ T pT, t = pT → AsOk P fi rt tb et kT fT pT T → CallOk P r h w (callFunc fi #[ev, .iface t (.pointer (some ⟨l.blk, o + l.sh, none⟩))]) c cs (natR none (errAsGo kT fT T b o 1000 err h)) := by
        rintro T pT rfl hOk
        cases hg : errAsGo kT fT T b o 1000 err h with
        | no => trivial
        | v res h' =>
          rcases wraps_of hr 1000 err ev res h' he hg with ⟨rfl, rfl, rfl⟩ | ⟨x, hx, ⟨rfl, rfl, rfl⟩ | ⟨v, y, rfl, hy, rfl, hst⟩⟩
          · refine callOk_of_calls hN h1 h2 ((hnil _ w).mono ?_) c cs
            rintro e w' ⟨rfl, rfl⟩
            exact ⟨r, _, rfl, .bool false, hr, Keeps.refl r _ w'⟩
          · refine callOk_of_calls hN h1 h2 ((hOk ev ⟨l.blk, o + l.sh, none⟩ none w hglob hx rfl (fun v e => by simp at e)).mono ?_) c cs
            rintro e w' ⟨rfl, w1, hj, rfl⟩
            obtain ⟨q1, q2⟩ := hr.junk hj
            exact ⟨r, _, rfl, .bool false, q1, q2⟩
          · obtain ⟨hal, hone, l0, hl0, hrow, hle0⟩ := hr.store_cell hst
            rw [hl] at hl0; injection hl0 with hl0; subst hl0
            refine callOk_of_calls hN h1 h2 ((hOk ev ⟨l.blk, o + l.sh, none⟩ (some v) w hglob hx rfl ?_).mono ?_) c cs
            · intro v2 e; injection e with e; subst e
              exact ⟨hy.oneCell hone, hrow, hle0⟩
            · rintro e w' ⟨rfl, w1, hj, rfl⟩
              obtain ⟨q1, q2⟩ := hr.junk hj
              obtain ⟨l3, hl3, hle3, hrun⟩ := q1.stores hst
              rw [hl] at hl3; injection hl3 with hl3; subst hl3
              obtain ⟨w', hw', hrel, hk⟩ := hrun [v] (.cons _ _ _ _ hy .nil) ⟨l.blk, o + l.sh, none⟩ rfl rfl (fun _ => rfl)
              obtain ⟨old, hold⟩ := hrow
              have hlt := World.block_lt_of_cell? _ _ hold
              rw [store_one (old := old) (hy.oneCell hone) (by rw [hj.cell hlt]; exact hold) (by rw [hj.frozen hlt]; exact hle0)] at hw'
              injection hw' with _ hw'
              subst hw'
              exact ⟨r, _, rfl, .bool true, hrel, q2.trans hk⟩
      cases hk : Nat.beq t pK with
      | true => exact key kT pK (beq_iff.1 hk) hK
      | false =>
        simp only [cond_false]
        cases hf : Nat.beq t pF with
        | true => exact key fT pF (beq_iff.1 hf) hF
        | false => trivial
    · trivial
end
end Go.AM
