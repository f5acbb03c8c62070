/- What the lesser machine says of values and cells holds of the model. -/
import Derived.Test.YtnedikjioliodaaGreatDoorMa1
import Derived.WalkKit
set_option linter.all false
namespace Go.AM
open Go
namespace T
variable {α : Type}
theorem get_lf (n : Nat) : get (lf : T α) n = none := rfl
theorem get_zero (v : Option α) (l r : T α) : get (nd v l r) 0 = v := rfl
theorem get_succ (v : Option α) (l r : T α) (m : Nat) : get (nd v l r) (m + 1) = if m % 2 = 0 then get l (m / 2) else get r (m / 2) := by
  show @Bool.rec (fun _ => Option α) (get r (m / 2)) (get l (m / 2)) (Nat.beq (m % 2) 0) = _
  cases h : Nat.beq (m % 2) 0 with
  | true => have : m % 2 = 0 := Nat.eq_of_beq_eq_true h; simp [this]
  | false => have : ¬ m % 2 = 0 := by intro e; rw [e] at h; exact absurd h (by decide)
             simp [this]
/-- the inner function of 'put' -/
noncomputable def putF (x : α) (f : Nat) : T α → Nat → T α := Nat.rec (fun t _ => t) (fun _ ih t n => T.rec (setL x ih n) (fun v l r _ _ => setN x ih v l r n) t) f
theorem put_eq (t : T α) (n : Nat) (x : α) : put t n x = putF x (n + 1) t n := rfl
theorem bsel (b : Bool) {β : Type} (x y : β) : (@Bool.rec (fun _ => β) x y b) = if b = true then y else x := by cases b <;> rfl
theorem get_putF (x : α) (f : Nat) : ∀ (t : T α) (n m : Nat), n < f → get (putF x f t n) m = if m = n then some x else get t m := by
  induction f with
  | zero => intro t n m h; omega
  | succ f ih =>
    intro t n m h
    have e : putF x (f + 1) t n = T.rec (setL x (putF x f) n) (fun v l r _ _ => setN x (putF x f) v l r n) t := rfl
    rw [e]
    cases t with
    | lf =>
      show get (setL x (putF x f) n) m = _
      cases n with
      | zero =>
        show get (nd (some x) lf lf) m = _
        cases m with
        | zero => simp [get_zero]
        | succ m => rw [get_succ]; simp [get_lf]
      | succ n =>
        show get (@Bool.rec (fun _ => T α) (nd none lf (putF x f lf (n / 2))) (nd none (putF x f lf (n / 2)) lf) (Nat.beq (n % 2) 0)) m = _
        rw [bsel]
        have hb : Nat.beq (n % 2) 0 = decide (n % 2 = 0) := by
          cases hh : Nat.beq (n % 2) 0 with
          | true => simp [Nat.eq_of_beq_eq_true hh]
          | false => have : ¬ n % 2 = 0 := by intro e'; rw [e'] at hh; exact absurd hh (by decide)
                     simp [this]
        rw [hb]
        have hlt : n / 2 < f := by omega
        cases m with
        | zero => by_cases c : n % 2 = 0 <;> simp [c, get_zero, get_lf]
        | succ m =>
          by_cases c : n % 2 = 0
          · simp only [c, decide_true, if_true, get_succ]
            by_cases cm : m % 2 = 0
            · simp only [cm, if_true, ih _ _ _ hlt, get_lf]
              by_cases q : m / 2 = n / 2
              · have : m = n := by omega
                simp [this]
              · have : m ≠ n := by omega
                simp [this, q]
            · have : m ≠ n := by omega
              simp [cm, this, get_lf]
          · simp only [c, decide_false, get_succ, if_false, Bool.false_eq_true]
            by_cases cm : m % 2 = 0
            · have : m ≠ n := by omega
              simp [cm, this, get_lf]
            · simp only [cm, if_false, ih _ _ _ hlt, get_lf]
              by_cases q : m / 2 = n / 2
              · have : m = n := by omega
                simp [this]
              · have : m ≠ n := by omega
                simp [this, q]
    | nd v l r =>
      show get (setN x (putF x f) v l r n) m = _
      cases n with
      | zero =>
        show get (nd (some x) l r) m = _
        cases m with
        | zero => simp [get_zero]
        | succ m => rw [get_succ, get_succ]; simp
      | succ n =>
        show get (@Bool.rec (fun _ => T α) (nd v l (putF x f r (n / 2))) (nd v (putF x f l (n / 2)) r) (Nat.beq (n % 2) 0)) m = _
        rw [bsel]
        have hb : Nat.beq (n % 2) 0 = decide (n % 2 = 0) := by
          cases hh : Nat.beq (n % 2) 0 with
          | true => simp [Nat.eq_of_beq_eq_true hh]
          | false => have : ¬ n % 2 = 0 := by intro e'; rw [e'] at hh; exact absurd hh (by decide)
                     simp [this]
        rw [hb]
        have hlt : n / 2 < f := by omega
        cases m with
        | zero => by_cases c : n % 2 = 0 <;> simp [c, get_zero]
        | succ m =>
          by_cases c : n % 2 = 0
          · simp only [c, decide_true, if_true, get_succ]
            by_cases cm : m % 2 = 0
            · simp only [cm, if_true, ih _ _ _ hlt]
              by_cases q : m / 2 = n / 2
              · have : m = n := by omega
                simp [this]
              · have : m ≠ n := by omega
                simp [this, q]
            · have : m ≠ n := by omega
              simp [cm, this]
          · simp only [c, decide_false, get_succ, if_false, Bool.false_eq_true]
            by_cases cm : m % 2 = 0
            · have : m ≠ n := by omega
              simp [cm, this]
            · simp only [cm, if_false, ih _ _ _ hlt]
              by_cases q : m / 2 = n / 2
              · have : m = n := by omega
                simp [this]
              · have : m ≠ n := by omega
                simp [this, q]
theorem get_put (t : T α) (n m : Nat) (x : α) : get (put t n x) m = if m = n then some x else get t m := by
  rw [put_eq]; exact get_putF x (n + 1) t n m (by omega)
theorem putList_nil (t : T α) (n : Nat) : putList t n [] = t := rfl
theorem putList_cons (t : T α) (n : Nat) (x : α) (l : List α) : putList t n (x :: l) = putList (put t n x) (n + 1) l := rfl
theorem get_putList (l : List α) : ∀ (t : T α) (n m : Nat), get (putList t n l) m = if n ≤ m ∧ m < n + l.length then l[m - n]? else get t m := by
  induction l with
  | nil => intro t n m; rw [putList_nil]; simp; intro _ h; omega
  | cons x l ih =>
    intro t n m
    rw [putList_cons, ih, get_put]
    by_cases h1 : n + 1 ≤ m ∧ m < n + 1 + l.length
    · rw [if_pos h1, if_pos (by simp; omega)]
      have : m - n = (m - (n + 1)) + 1 := by omega
      rw [this]; simp
    · rw [if_neg h1]
      by_cases h2 : m = n
      · subst h2; simp
      · rw [if_neg h2, if_neg (by simp; omega)]
end T
end Go.AM
namespace Go.AM
open Go

/-- what is not known of a run: values, by number -/
class Env where
  val : Nat → Value
  one : ∀ n, (val n).oneCell' = true
  /-- what lies in the first block -/
  fix : Go.Obj

variable [Env]
/-! ## values -/
structure Loc where
  blk : Nat
  sh : Nat
  es : Nat
  n : Nat
abbrev Rho := Nat → Option Loc
def Rho.le (r r' : Rho) : Prop := ∀ b l, r b = some l → r' b = some l
theorem Rho.le_refl (r : Rho) : r.le r := fun _ _ h => h
theorem Rho.le_trans {a b c : Rho} (h : a.le b) (h' : b.le c) : a.le c := fun x l e => h' x l (h x l e)

inductive FnR (r : Rho) : Fn → Fn → Prop where
  | same (f : Fn) (h : ∀ l, f ≠ .yield l) : FnR r f f
  | yield (l : Nat) (loc : Loc) (h : r l = some loc) : FnR r (.yield l) (.yield loc.blk)
theorem FnR.mono {r r' : Rho} (hl : r.le r') {f g : Fn} (h : FnR r f g) : FnR r' f g := by
  cases h with
  | same f h => exact .same f h
  | yield l loc h => exact .yield l loc (hl _ _ h)

mutual
inductive VR (r : Rho) : AV → Value → Prop where
  | bot (v : Value) : VR r .bot v
  | sym (n : Nat) : VR r (.sym n) (Env.val n)
  | bool (b : Bool) : VR r (.bool b) (.bool b)
  | int (k : IntKind) (n : Int) : VR r (.int k n) (.int k n)
  | str (s : ByteArray) : VR r (.str s.data.toList) (.string s)
  | nilp : VR r .nilp (.pointer none)
  | ptr (b o : Nat) (l : Loc) (h : r b = some l) : VR r (.ptr b o) (.pointer (some ⟨l.blk, o + l.sh, none⟩))
  | nils : VR r .nils (.slice none 0 0)
  | sliceC (b o len c : Nat) (l : Loc) (h : r b = some l) : VR r (.slice b o len (some c)) (.slice (some ⟨l.blk, o + l.sh, none⟩) len c)
  | sliceO (b o len cap : Nat) (a : Addr) (l : Loc) (h : r b = some l) (h1 : 0 < l.es) (h2 : len ≤ cap) (h3 : o + l.sh + cap * l.es = l.n)
      (h4 : a.block = l.blk) (h5 : a.spot = none) (h6 : 0 < cap → a.off = o + l.sh) : VR r (.slice b o len none) (.slice (some a) len cap)
  | nilm : VR r .nilm (.map none)
  | map (m : Nat) (l : Loc) (h : r m = some l) : VR r (.map m) (.map (some l.blk))
  | nilf : VR r .nilf .nilFunc
  | func (f g : Fn) (xs cs : List AV) (ys ds : Array Value) (h : FnR r f g) (h1 : VRs r xs ys.toList) (h2 : VRs r cs ds.toList) : VR r (.func f xs cs) (.func g ys ds)
  | nili : VR r .nili .nilIface
  | iface (t : TypeId) (x : AV) (v : Value) (h : VR r x v) : VR r (.iface t x) (.iface t v)
  | agg (xs : List AV) (vs : Array Value) (h : VRs r xs vs.toList) : VR r (.agg xs) (.agg vs)
  | tup (xs : List AV) (vs : Array Value) (h : VRs r xs vs.toList) : VR r (.tup xs) (.tuple vs)
inductive VRs (r : Rho) : List AV → List Value → Prop where
  | nil : VRs r [] []
  | cons (x : AV) (xs : List AV) (v : Value) (vs : List Value) (h : VR r x v) (hs : VRs r xs vs) : VRs r (x :: xs) (v :: vs)
end

mutual
theorem VR.mono {r r' : Rho} (hl : r.le r') {x : AV} {v : Value} (h : VR r x v) : VR r' x v := by
  cases h with
  | bot v => exact .bot v
  | sym n => exact .sym n
  | bool b => exact .bool b
  | int k n => exact .int k n
  | str s => exact .str s
  | nilp => exact .nilp
  | ptr b o l h => exact .ptr b o l (hl _ _ h)
  | nils => exact .nils
  | sliceC b o len c l h => exact .sliceC b o len c l (hl _ _ h)
  | sliceO b o len cap a l h h1 h2 h3 h4 h5 h6 => exact .sliceO b o len cap a l (hl _ _ h) h1 h2 h3 h4 h5 h6
  | nilm => exact .nilm
  | map m l h => exact .map m l (hl _ _ h)
  | nilf => exact .nilf
  | func f g xs cs ys ds h h1 h2 => exact .func f g xs cs ys ds (h.mono hl) (VRs.mono hl h1) (VRs.mono hl h2)
  | nili => exact .nili
  | iface t x v h => exact .iface t x v (VR.mono hl h)
  | agg xs vs h => exact .agg xs vs (VRs.mono hl h)
  | tup xs vs h => exact .tup xs vs (VRs.mono hl h)
theorem VRs.mono {r r' : Rho} (hl : r.le r') {xs : List AV} {vs : List Value} (h : VRs r xs vs) : VRs r' xs vs := by
  cases h with
  | nil => exact .nil
  | cons x xs v vs h hs => exact .cons x xs v vs (VR.mono hl h) (VRs.mono hl hs)
end

theorem VRs.length {r : Rho} : ∀ {xs : List AV} {vs : List Value}, VRs r xs vs → xs.length = vs.length
  | _, _, .nil => rfl
  | _, _, .cons _ _ _ _ _ hs => by simp [hs.length]
theorem VRs.append {r : Rho} : ∀ {xs : List AV} {vs : List Value} {ys : List AV} {us : List Value}, VRs r xs vs → VRs r ys us → VRs r (xs ++ ys) (vs ++ us)
  | _, _, _, _, .nil, h => h
  | _, _, _, _, .cons x xs v vs h hs, h' => .cons _ _ _ _ h (hs.append h')
theorem VRs.get {r : Rho} : ∀ {xs : List AV} {vs : List Value}, VRs r xs vs → ∀ (i : Nat) (v : Value), vs[i]? = some v → ∃ x, xs[i]? = some x ∧ VR r x v
  | _, _, .nil, i, v, h => by simp at h
  | _, _, .cons x xs u vs h hs, 0, v, e => by simp at e; subst e; exact ⟨x, rfl, h⟩
  | _, _, .cons x xs u vs h hs, i + 1, v, e => by simpa using hs.get i v (by simpa using e)
theorem VRs.get' {r : Rho} : ∀ {xs : List AV} {vs : List Value}, VRs r xs vs → ∀ (i : Nat) (x : AV), xs[i]? = some x → ∃ v, vs[i]? = some v ∧ VR r x v
  | _, _, .nil, i, v, h => by simp at h
  | _, _, .cons x xs u vs h hs, 0, v, e => by simp at e; subst e; exact ⟨u, rfl, h⟩
  | _, _, .cons x xs u vs h hs, i + 1, v, e => by simpa using hs.get' i v (by simpa using e)
theorem VRs.drop {r : Rho} : ∀ {xs : List AV} {vs : List Value} (n : Nat), VRs r xs vs → VRs r (xs.drop n) (vs.drop n)
  | _, _, 0, h => by simpa using h
  | _, _, n + 1, .nil => by simpa using VRs.nil
  | _, _, n + 1, .cons _ _ _ _ _ hs => by simpa using hs.drop n
theorem VRs.take {r : Rho} : ∀ {xs : List AV} {vs : List Value} (n : Nat), VRs r xs vs → VRs r (xs.take n) (vs.take n)
  | _, _, 0, _ => by simpa using VRs.nil
  | _, _, n + 1, .nil => by simpa using VRs.nil
  | _, _, n + 1, .cons _ _ _ _ h hs => by simpa using VRs.cons _ _ _ _ h (hs.take n)
theorem VR.cells {r : Rho} {x : AV} {v : Value} (h : VR r x v) (hb : x ≠ .bot) : VRs r x.cells v.cells.toList := by
  have hsym : ∀ n, VRs r [AV.sym n] (Env.val n).cells.toList := by
    intro n
    have e : (Env.val n).cells = #[Env.val n] := by
      have := Env.one n
      generalize Env.val n = v at this
      cases v <;> first | rfl | simp [Value.oneCell'] at this
    rw [e]
    exact .cons _ _ _ _ (.sym n) .nil
  cases h <;> first
    | exact absurd rfl hb
    | exact hsym _
    | exact .cons _ _ _ _ (by constructor <;> assumption) .nil
    | assumption

/-! ## the heap -/
namespace H
noncomputable def nextOf (h : H) : Nat := match h with | ⟨_, n, _, _⟩ => n
noncomputable def clsN (h : H) : Nat := match h with | ⟨_, _, _, c⟩ => c
end H
def clsOf (o : Obj) : Nat := match o with | .row _ _ _ k _ => k | _ => 0
def esOf (o : Obj) : Nat := match o with | .row _ _ _ _ e => e | _ => 0
def endOf (o : Obj) : Nat := match o with | .row s _ _ _ _ => s | _ => 0
def Live (h : H) (o : Obj) : Prop := h.alive (clsOf o) = true
noncomputable def cellAt (d : AV) (c : T AV) (i : Nat) : AV := (T.get c i).getD d

def EsR (r : Rho) : List (AV × AV × Nat) → List MapEntry → Prop
  | [], [] => True
  | (k, v, n) :: l, e :: m => VR r k e.key ∧ VR r v e.val ∧ n = e.born ∧ EsR r l m
  | _, _ => False
theorem EsR.mono {r r' : Rho} (hl : r.le r') : ∀ {l : List (AV × AV × Nat)} {m : List MapEntry}, EsR r l m → EsR r' l m
  | [], [], _ => trivial
  | (_, _, _) :: _, _ :: _, h => ⟨h.1.mono hl, h.2.1.mono hl, h.2.2.1, EsR.mono hl h.2.2.2⟩
  | [], _ :: _, h => h.elim
  | _ :: _, [], h => h.elim

/-- temporaries: what ours say of them -/
def TR (r : Rho) (t : TM) (tmps : Array Value) : Prop := ∀ n x, T.get t n = some x → ∃ v, tmps[n]? = some v ∧ VR r x v
theorem TR.mono {r r' : Rho} (hl : r.le r') {t : TM} {tmps : Array Value} (h : TR r t tmps) : TR r' t tmps :=
  fun n x e => let ⟨v, h1, h2⟩ := h n x e; ⟨v, h1, h2.mono hl⟩

def stR (a : LoopSt) (b : LoopState) : Prop := match a, b with
  | .ready, .ready | .busy, .busy | .done, .done | .exhausted, .exhausted => True
  | _, _ => False

def TagR (e : TypeId) (l : Loc) (s : Nat) (d : AV) : Prop := (∀ n, d = tagD n → e = n ∧ l.sh = 0) ∧ ∀ n, d = tagA n → e = n ∧ l.sh = 0 ∧ l.n = s
def RowR (r : Rho) (w : World) (l : Loc) (s : Nat) (d : AV) (c : T AV) : Prop :=
  s + l.sh ≤ l.n ∧ (∃ e, w.shape? l.blk = some (e, l.n) ∧ TagR e l s d) ∧ (∀ i, i < l.n → w.frozen? ⟨l.blk, i, none⟩ = false) ∧
  ∀ i, i < s → ∃ v, w.cell? ⟨l.blk, i + l.sh, none⟩ = some v ∧ VR r (cellAt d c i) v

structure LoopWf (lp : Loop) : Prop where
  wf : ∃ n, n ≤ lp.tmps.size ∧ (∀ p ∈ lp.params.toList, p < n) ∧ wfCode n lp.assign = true ∧ wfCode n lp.body = true
  jump : ∀ c, lp.pending = some c → ∀ n, wfCode n c = true
def ObjR (P : Program) (r : Rho) (w : World) (l : Loc) (o : Obj) : Prop := match o with
  | .row s d c _ e => RowR r w l s d c ∧ (0 < e → e = l.es)
  | .map es clock => l.sh = 0 ∧ ∃ es' : Array MapEntry, w.heap[l.blk]? = some (.map es' clock) ∧ EsR r es es'.toList
  | .cst blk t b o => l.blk = blk ∧ w.heap[l.blk]? = some Env.fix ∧ w.cell? ⟨l.blk, 0, none⟩ = some (.iface t (.agg #[.pointer (some ⟨b, o, none⟩)]))
  | .siter s pos => l.sh = 0 ∧ ∃ s' : ByteArray, w.heap[l.blk]? = some (.stringIter s' pos) ∧ s'.data.toList = s
  | .miter m since seen st => l.sh = 0 ∧ ∃ m', w.heap[l.blk]? = some (.mapIter m' since seen.toArray st) ∧
      (match m, m' with | none, none => True | some a, some b => ∃ la, r a = some la ∧ la.blk = b | _, _ => False)
  | .loop st tm ps asg body pend => l.sh = 0 ∧ ∃ lp : Loop, w.heap[l.blk]? = some (.loop lp) ∧ stR st lp.state ∧ TR r tm lp.tmps ∧ ps = lp.params.toList ∧
      asg = ccode P lp.assign ∧ body = ccode P lp.body ∧ pend = lp.pending.map (ccode P) ∧ LoopWf lp

def LiveAt (r : Rho) (h : H) (blk : Nat) : Prop := ∃ b o l, h.obj b = some o ∧ Live h o ∧ r b = some l ∧ l.blk = blk

structure Rel (P : Program) (r : Rho) (h : H) (w : World) : Prop where
  obj : ∀ b o, h.obj b = some o → Live h o → ∃ l, r b = some l ∧ ObjR P r w l o
  dom : ∀ b l, r b = some l → b < h.nextOf
  key : ∀ b o, h.obj b = some o → b < h.nextOf ∧ clsOf o < h.clsN
  inj : ∀ b b' o o' l l', h.obj b = some o → Live h o → h.obj b' = some o' → Live h o' → r b = some l → r b' = some l' → l.blk = l'.blk → b ≠ b' →
    0 < clsOf o ∧ clsOf o = clsOf o'
  tip : ∀ b b' o o' l l', h.obj b = some o → Live h o → h.obj b' = some o' → Live h o' → r b = some l → r b' = some l' → l.blk = l'.blk → b ≠ b' → 0 < esOf o →
    esOf o' = 0 ∧ endOf o' + l'.sh ≤ endOf o + l.sh
  dead : ∀ k, h.clsN ≤ k → h.alive k = true
  pos : 0 < h.clsN ∧ 0 < h.nextOf

structure Keeps (r : Rho) (h : H) (w : World) (r' : Rho) (h' : H) (w' : World) : Prop where
  le : r.le r'
  size : w.heap.size ≤ w'.heap.size
  tape : w'.tape = w.tape
  os : w'.os = w.os
  output : w'.output = w.output
  next : h.nextOf ≤ h'.nextOf
  same : ∀ blk, blk < w.heap.size → ¬ LiveAt r h blk → w'.heap[blk]? = w.heap[blk]?
  back : ∀ blk, blk < w.heap.size → LiveAt r' h' blk → LiveAt r h blk

theorem Keeps.refl (r : Rho) (h : H) (w : World) : Keeps r h w r h w :=
  ⟨Rho.le_refl r, Nat.le_refl _, rfl, rfl, rfl, Nat.le_refl _, fun _ _ _ => rfl, fun _ _ h => h⟩
theorem Keeps.trans {r r1 r2 : Rho} {h h1 h2 : H} {w w1 w2 : World} (a : Keeps r h w r1 h1 w1) (b : Keeps r1 h1 w1 r2 h2 w2) : Keeps r h w r2 h2 w2 where
  le := Rho.le_trans a.le b.le
  size := Nat.le_trans a.size b.size
  tape := b.tape.trans a.tape
  os := b.os.trans a.os
  output := b.output.trans a.output
  next := Nat.le_trans a.next b.next
  same blk hb hn := (b.same blk (Nat.lt_of_lt_of_le hb a.size) (fun hl => hn (a.back blk hb hl))).trans (a.same blk hb hn)
  back blk hb hl := a.back blk hb (b.back blk (Nat.lt_of_lt_of_le hb a.size) hl)
theorem Keeps.drew (r : Rho) (h : H) (w : World) : Keeps r h w r h w.drew :=
  ⟨Rho.le_refl r, Nat.le_refl _, rfl, rfl, rfl, Nat.le_refl _, fun _ _ _ => rfl, fun _ _ h => h⟩
theorem ObjR.drew {P : Program} {r : Rho} {w : World} {l : Loc} {o : Obj} (h : ObjR P r w l o) : ObjR P r w.drew l o := h
theorem Rel.drew {P : Program} {r : Rho} {h : H} {w : World} (hr : Rel P r h w) : Rel P r h w.drew :=
  ⟨hr.obj, hr.dom, hr.key, hr.inj, hr.tip, hr.dead, hr.pos⟩
end Go.AM
namespace Go.AM
open Go
variable [Env]

theorem bif_some {α : Type} {b : Bool} {x : Option α} {y : α} (h : (cond b x none) = some y) : b = true ∧ x = some y := by
  cases b with
  | true => exact ⟨rfl, h⟩
  | false => simp at h
theorem bif_qr {b : Bool} {x : QR} {y : AV} {h' : H} (h : (cond b x .no) = .v y h') : b = true ∧ x = .v y h' := by
  cases b with
  | true => exact ⟨rfl, h⟩
  | false => simp at h
theorem ble_iff {a b : Nat} : Nat.ble a b = true ↔ a ≤ b := Iff.of_eq Nat.ble_eq
theorem beq_iff {a b : Nat} : Nat.beq a b = true ↔ a = b := by
  constructor
  · exact Nat.eq_of_beq_eq_true
  · rintro rfl; exact Nat.beq_refl a

namespace H
theorem alive_zero (h : H) : h.alive 0 = true := by cases h; rfl
theorem obj_eq (bl : T Obj) (n : Nat) (d : T Unit) (c : Nat) (b : Nat) : (H.mk bl n d c).obj b = T.get bl b := rfl
theorem new_eq (bl : T Obj) (n : Nat) (d : T Unit) (c : Nat) (o : Obj) (hn : 0 < n) : (H.mk bl n d c).new o = (n, ⟨T.put bl n o, n + 1, d, c⟩) := by
  cases n with
  | zero => omega
  | succ m => rfl
theorem alive_mk (bl : T Obj) (n : Nat) (d : T Unit) (c k : Nat) : (H.mk bl n d c).alive k = (match k with | 0 => true | m + 1 => match T.get d (m + 1) with | none => true | some _ => false) := by
  cases k with
  | zero => rfl
  | succ m => rfl
theorem cellsFrom_zero (d : AV) (c : T AV) (i : Nat) : cellsFrom d c 0 i = [] := rfl
theorem cellsFrom_succ (d : AV) (c : T AV) (n i : Nat) : cellsFrom d c (n + 1) i = cellAt d c i :: cellsFrom d c n (i + 1) := by
  show (@Option.rec AV (fun _ => AV) d (fun v => v) (T.get c i)) :: cellsFrom d c n (i + 1) = _
  unfold cellAt
  cases T.get c i <;> rfl
theorem cellsFrom_length (d : AV) (c : T AV) : ∀ n i, (cellsFrom d c n i).length = n
  | 0, _ => rfl
  | n + 1, i => by rw [cellsFrom_succ]; simp [cellsFrom_length d c n (i + 1)]
theorem cellsFrom_get (d : AV) (c : T AV) : ∀ n i j, j < n → (cellsFrom d c n i)[j]? = some (cellAt d c (i + j))
  | 0, _, _, h => by omega
  | n + 1, i, 0, _ => by rw [cellsFrom_succ]; simp
  | n + 1, i, j + 1, h => by
    rw [cellsFrom_succ]
    have := cellsFrom_get d c n (i + 1) j (by omega)
    simpa [Nat.add_assoc, Nat.add_comm 1 j] using this
theorem oneCells_all : ∀ (l : List AV), oneCells l = true → ∀ x ∈ l, oneCell x = true
  | [], _, x, hx => by simp at hx
  | y :: l, h, x, hx => by
    have e : oneCells (y :: l) = @Bool.rec (fun _ => Bool) false (oneCells l) (oneCell y) := rfl
    rw [e] at h
    cases hy : oneCell y with
    | false => rw [hy] at h; exact absurd h (by simp)
    | true =>
      rw [hy] at h
      rcases List.mem_cons.1 hx with rfl | hx
      · exact hy
      · exact oneCells_all l h x hx
end H

theorem cellAt_putList (d : AV) (c : T AV) (o : Nat) (vs : List AV) (i : Nat) :
    cellAt d (T.putList c o vs) i = if o ≤ i ∧ i < o + vs.length then (vs[i - o]?).getD d else cellAt d c i := by
  unfold cellAt
  rw [T.get_putList]
  split <;> rfl

theorem loads_some {h : H} {b o n : Nat} {vs : List AV} (e : h.loads b o n = some vs) :
    ∃ s d c k es, h.obj b = some (.row s d c k es) ∧ h.alive k = true ∧ o + n ≤ s ∧ vs = H.cellsFrom d c n o := by
  unfold H.loads H.loadsR at e
  split at e
  · rename_i s d c k es hb
    obtain ⟨h1, h2⟩ := bif_some e
    obtain ⟨h3, h4⟩ := bif_some h2
    exact ⟨s, d, c, k, es, hb, h1, ble_iff.1 h3, by simpa using h4.symm⟩
  · simp at e

theorem VRs_of_get {r : Rho} : ∀ (xs : List AV) (vs : List Value), xs.length = vs.length → (∀ (i : Nat) (x : AV) (v : Value), xs[i]? = some x → vs[i]? = some v → VR r x v) → VRs r xs vs
  | [], [], _, _ => .nil
  | x :: xs, v :: vs, hl, h => .cons _ _ _ _ (h 0 x v rfl rfl) (VRs_of_get xs vs (by simpa using hl) fun i x v a b => h (i + 1) x v (by simpa using a) (by simpa using b))
  | [], _ :: _, hl, _ => by simp at hl
  | _ :: _, [], hl, _ => by simp at hl

/-- what is read of a row, in memory -/
theorem Rel.loads {P : Program} {r : Rho} {h : H} {w : World} (hr : Rel P r h w) {b o n : Nat} {vs : List AV} (e : h.loads b o n = some vs) :
    ∃ (l : Loc) (cs : List Value), r b = some l ∧ VRs r vs cs ∧ cs.length = n ∧ o + n + l.sh ≤ l.n ∧ ∀ (j : Nat) (v : Value), cs[j]? = some v → w.cell? ⟨l.blk, o + l.sh + j, none⟩ = some v := by
  obtain ⟨s, d, c, k, es, hb, hk, hle, rfl⟩ := loads_some e
  obtain ⟨l, hl, hrow, hes⟩ := hr.obj b _ hb hk
  obtain ⟨h1, h2, h3, h4⟩ := hrow
  have hc : ∀ j, j < n → ∃ v, w.cell? ⟨l.blk, o + l.sh + j, none⟩ = some v ∧ VR r (cellAt d c (o + j)) v := by
    intro j hj
    obtain ⟨v, hv, hx⟩ := h4 (o + j) (by omega)
    exact ⟨v, by rw [← hv]; congr 2; omega, hx⟩
  refine ⟨l, (List.range n).map fun j => (w.cell? ⟨l.blk, o + l.sh + j, none⟩).getD undef, hl, ?_, by simp, by omega, ?_⟩
  · refine VRs_of_get _ _ (by simp [H.cellsFrom_length]) ?_
    intro i x v hx hv
    have hi : i < n := by
      have := (List.getElem?_eq_some_iff.1 hx).1
      simpa [H.cellsFrom_length] using this
    rw [H.cellsFrom_get d c n o i hi] at hx
    obtain ⟨u, hu, hur⟩ := hc i hi
    simp [hi, hu] at hx hv
    subst hx; subst hv
    exact hur
  · intro j v hv
    have hj : j < n := by
      have := (List.getElem?_eq_some_iff.1 hv).1
      simpa using this
    obtain ⟨u, hu, _⟩ := hc j hj
    simp [hj, hu] at hv
    subst hv
    exact hu

theorem VR.oneCell {r : Rho} {x : AV} {v : Value} (h : VR r x v) (ho : H.oneCell x = true) : v.oneCell' = true := by
  cases h <;> first | rfl | exact Env.one _ | (simp [H.oneCell] at ho; done)

theorem shape?_setCell' (w : World) (a : Addr) (v : Value) (x : Nat) : (w.setCell a v).shape? x = w.shape? x := by
  simp only [World.setCell, World.shape?, Array.getElem?_modify]
  by_cases hb : a.block = x
  · subst hb
    simp only [if_true]
    cases hh : w.heap[a.block]? with
    | none => simp
    | some o => cases o <;> simp; split <;> simp
  · simp [hb]
/-- cells written, one behind the other: what becomes of the world -/
structure Wrote (w w' : World) (blk o : Nat) (vs : List Value) : Prop where
  old : ∀ a : Addr, a.block ≠ blk ∨ a.off < o ∨ o + vs.length ≤ a.off → w'.cell? a = w.cell? a
  new : ∀ (j : Nat) (v : Value), vs[j]? = some v → w'.cell? ⟨blk, o + j, none⟩ = some v
  frozen : ∀ a, w'.frozen? a = w.frozen? a
  shape : ∀ x, w'.shape? x = w.shape? x
  size : w'.heap.size = w.heap.size
  tape : w'.tape = w.tape
  os : w'.os = w.os
  output : w'.output = w.output
  other : ∀ x, x ≠ blk → w'.heap[x]? = w.heap[x]?

theorem run_storeCells_wrote (P : Program) (a : Addr) (hs : a.spot = none) : ∀ (vs : List Value) (i : Nat) (w : World),
    (∀ j, j < vs.length → (w.cell? ⟨a.block, a.off + i + j, none⟩).isSome = true) → (∀ j, j < vs.length → w.frozen? ⟨a.block, a.off + i + j, none⟩ = false) →
    (∀ v ∈ vs, v.oneCell' = true) → ∃ w', (storeCells a vs i).run P w = .ok () w' ∧ Wrote w w' a.block (a.off + i) vs
  | [], i, w, _, _, _ => ⟨w, rfl, ⟨fun _ _ => rfl, fun j v h => by simp at h, fun _ => rfl, fun _ => rfl, rfl, rfl, rfl, rfl, fun _ _ => rfl⟩⟩
  | v :: vs, i, w, h1, h2, h3 => by
    have hadd : a.add i = ⟨a.block, a.off + i, none⟩ := by
      cases a with
      | mk b o s =>
        simp at hs; subst hs
        unfold Addr.add; split <;> simp_all
    have c0 : (w.cell? ⟨a.block, a.off + i, none⟩).isSome = true := by simpa using h1 0 (by simp)
    obtain ⟨u, hu⟩ := Option.isSome_iff_exists.1 c0
    have f0 : w.frozen? ⟨a.block, a.off + i, none⟩ = false := by simpa using h2 0 (by simp)
    have hoff : ∀ j, a.off + (i + 1) + j = a.off + i + (j + 1) := fun j => by omega
    obtain ⟨w', hrun, hw⟩ := run_storeCells_wrote P a hs vs (i + 1) (w.setCell ⟨a.block, a.off + i, none⟩ v) (by
        intro j hj
        rw [hoff, World.cell?_setCell_other _ _ _ _ (by intro e; injection e; omega)]
        exact h1 (j + 1) (by simpa using hj)) (by
        intro j hj
        rw [hoff, World.frozen?_setCell]
        exact h2 (j + 1) (by simpa using hj)) (fun x hx => h3 x (List.mem_cons_of_mem _ hx))
    refine ⟨w', ?_, ?_⟩
    · simp only [storeCells, hadd]
      rw [Sem.run_bind, run_store _ _ _ _ _ (h3 v (by simp)), hu]
      simp [f0, hrun]
    · refine ⟨?_, ?_, ?_, ?_, ?_, ?_, ?_, ?_, ?_⟩
      · intro x hx
        simp only [List.length_cons] at hx
        have hx' : x.block ≠ a.block ∨ x.off < a.off + (i + 1) ∨ a.off + (i + 1) + vs.length ≤ x.off := by
          rcases hx with h | h | h
          · exact .inl h
          · exact .inr (.inl (by omega))
          · exact .inr (.inr (by omega))
        rw [hw.old x hx']
        refine World.cell?_setCell_other _ _ _ _ ?_
        rintro rfl
        rcases hx with h | h | h
        · exact h rfl
        · simp at h
        · simp at h; omega
      · intro j x hx
        cases j with
        | zero =>
          simp at hx; subst hx
          rw [hw.old _ (by right; left; simp)]
          exact World.cell?_setCell_same _ _ _ hu
        | succ j =>
          have := hw.new j x (by simpa using hx)
          rw [← this]; congr 2; omega
      · intro x; rw [hw.frozen, World.frozen?_setCell]
      · intro x; rw [hw.shape, shape?_setCell']
      · rw [hw.size, World.size_setCell]
      · rw [hw.tape, World.tape_setCell]
      · rw [hw.os]; rfl
      · rw [hw.output]; rfl
      · intro x hx; rw [hw.other x hx]; simp only [World.setCell, Array.getElem?_modify]; rw [if_neg (Ne.symm hx)]

theorem Wrote.objR {P : Program} {r : Rho} {w w' : World} {blk o : Nat} {vs : List Value} (hw : Wrote w w' blk o vs) {l : Loc} {ob : Obj} (h : ObjR P r w l ob) (hne : l.blk ≠ blk) : ObjR P r w' l ob := by
  cases ob with
  | row s d c k e =>
    obtain ⟨⟨h1, h2, h3, h4⟩, h5⟩ := h
    refine ⟨⟨h1, by rw [hw.shape]; exact h2, fun i hi => by rw [hw.frozen]; exact h3 i hi, fun i hi => ?_⟩, h5⟩
    obtain ⟨v, hv, hx⟩ := h4 i hi
    exact ⟨v, by rw [hw.old _ (.inl hne)]; exact hv, hx⟩
  | map es c => obtain ⟨h1, es', h2, h3⟩ := h; exact ⟨h1, es', by rw [hw.other _ hne]; exact h2, h3⟩
  | cst blk t b o => obtain ⟨h1, h2, h3⟩ := h; exact ⟨h1, by rw [hw.other _ hne]; exact h2, by unfold World.cell? at *; simp only at *; rw [hw.other _ hne]; exact h3⟩
  | siter s p => obtain ⟨h1, es', h2, h3⟩ := h; exact ⟨h1, es', by rw [hw.other _ hne]; exact h2, h3⟩
  | miter m a b c => obtain ⟨h1, es', h2, h3⟩ := h; exact ⟨h1, es', by rw [hw.other _ hne]; exact h2, h3⟩
  | loop st tm ps asg body p => obtain ⟨h1, es', h2, h3⟩ := h; exact ⟨h1, es', by rw [hw.other _ hne]; exact h2, h3⟩

theorem cell_isSome_of_shape {w : World} {b n : Nat} {e : TypeId} (h : w.shape? b = some (e, n)) {i : Nat} (hi : i < n) : (w.cell? ⟨b, i, none⟩).isSome = true := by
  unfold World.shape? at h
  split at h
  · rename_i c el fz hb
    simp at h
    obtain ⟨_, rfl⟩ := h
    simp [World.cell?, hb, hi]
  · simp at h
theorem block_of_shape {w : World} {b n : Nat} {e : TypeId} (h : w.shape? b = some (e, n)) : b < w.heap.size := by
  unfold World.shape? at h
  rcases Nat.lt_or_ge b w.heap.size with h' | h'
  · exact h'
  · simp [Array.getElem?_eq_none h'] at h
theorem lt_of_heap {w : World} {b : Nat} {o : Go.Obj} (h : w.heap[b]? = some o) : b < w.heap.size := by
  rcases Nat.lt_or_ge b w.heap.size with h' | h'
  · exact h'
  · simp [Array.getElem?_eq_none h'] at h
theorem lt_of_cell {w : World} {b : Nat} {v : Value} (h : w.cell? ⟨b, 0, none⟩ = some v) : b < w.heap.size := by
  rcases Nat.lt_or_ge b w.heap.size with h' | h'
  · exact h'
  · simp [World.cell?, Array.getElem?_eq_none h'] at h
theorem ObjR.blk_lt {P : Program} {r : Rho} {w : World} {l : Loc} {o : Obj} (h : ObjR P r w l o) : l.blk < w.heap.size := by
  cases o with
  | row s d c k e => obtain ⟨⟨_, ⟨_, h2, _⟩, _⟩, _⟩ := h; exact block_of_shape h2
  | map es c => obtain ⟨_, _, h2, _⟩ := h; exact lt_of_heap h2
  | cst blk t b o => obtain ⟨_, h2, _⟩ := h; exact lt_of_heap h2
  | siter s p => obtain ⟨_, _, h2, _⟩ := h; exact lt_of_heap h2
  | miter m a b c => obtain ⟨_, _, h2, _⟩ := h; exact lt_of_heap h2
  | loop st tm ps asg body p => obtain ⟨_, _, h2, _⟩ := h; exact lt_of_heap h2

theorem alive_kill {d : T Unit} {bl bl' : T Obj} {n n' c c' k j : Nat} : (H.mk bl' n' (H.kill k d) c').alive j = true ↔ (H.mk bl n d c).alive j = true ∧ (j = k → k = 0) := by
  rw [H.alive_mk, H.alive_mk]
  cases j with
  | zero => simp; intro h; exact h.symm
  | succ j =>
    cases k with
    | zero => show (match T.get d (j + 1) with | none => true | some _ => false) = true ↔ _; simp
    | succ k =>
      show (match T.get (T.put d (k + 1) ()) (j + 1) with | none => true | some _ => false) = true ↔ _
      rw [T.get_put]
      by_cases e : j = k
      · subst e; simp
      · simp [e]
theorem alive_same {d : T Unit} {bl bl' : T Obj} {n n' c c' j : Nat} : (H.mk bl' n' d c').alive j = (H.mk bl n d c).alive j := by rw [H.alive_mk, H.alive_mk]

/-- a row is written -/
theorem Rel.stores {P : Program} {r : Rho} {h h' : H} {w : World} (hr : Rel P r h w) {b o : Nat} {vs : List AV} (e : h.stores b o vs = some h') :
    ∃ l : Loc, r b = some l ∧ o + vs.length + l.sh ≤ l.n ∧ ∀ (cs : List Value), VRs r vs cs → ∀ a : Addr, a.block = l.blk → a.spot = none → (0 < cs.length → a.off = o + l.sh) →
      ∃ w', (storeCells a cs).run P w = .ok () w' ∧ Rel P r h' w' ∧ Keeps r h w r h' w' := by
  unfold H.stores H.storesR at e
  split at e
  case h_2 => simp at e
  rename_i s d c k es hb
  obtain ⟨hk, e⟩ := bif_some e
  obtain ⟨h2, e⟩ := bif_some e
  obtain ⟨h3, h4⟩ : Nat.ble (Nat.add o vs.length) s = true ∧ H.oneCells vs = true := by simpa using h2
  have h3 : o + vs.length ≤ s := ble_iff.1 h3
  obtain ⟨l, hl, hrow, hes⟩ := hr.obj b _ hb hk
  obtain ⟨r1, ⟨el, r2, r2t⟩, r3, r4⟩ := hrow
  cases h with
  | mk bl nx dd cl =>
  simp at e
  subst e
  refine ⟨l, hl, by omega, fun cs hcs a ha hsp hoff => ?_⟩
  have hlen := hcs.length
  have hone : ∀ v ∈ cs, v.oneCell' = true := by
    intro v hv
    obtain ⟨i, hi, rfl⟩ := List.getElem_of_mem hv
    obtain ⟨x, hx, hxr⟩ := hcs.get i _ (List.getElem?_eq_getElem hi)
    exact hxr.oneCell (H.oneCells_all vs h4 x (List.mem_of_getElem? hx))
  obtain ⟨w', hrun, hw⟩ := run_storeCells_wrote P a hsp cs 0 w (by
      intro j hj
      rw [ha, hoff (by omega)]
      refine cell_isSome_of_shape r2 ?_
      omega) (by
      intro j hj
      rw [ha, hoff (by omega)]
      exact r3 _ (by omega)) hone
  have hwo : Wrote w w' l.blk (o + l.sh) cs := by
    by_cases hz : 0 < cs.length
    · rw [ha, hoff hz] at hw; simpa using hw
    · have hcs0 : cs = [] := List.length_eq_zero_iff.1 (by omega)
      subst hcs0
      have : w' = w := by
        have : (storeCells a [] : Sem Unit).run P w = .ok () w := rfl
        rw [this] at hrun; injection hrun with _ e; exact e.symm
      subst this
      exact ⟨fun _ _ => rfl, fun j v h => by simp at h, fun _ => rfl, fun _ => rfl, rfl, rfl, rfl, rfl, fun _ _ => rfl⟩
  refine ⟨w', hrun, ?_, ?_⟩
  · -- the relation
    have hlive : ∀ b' o', (H.mk (T.put bl b (.row s d (T.putList c o vs) 0 es)) nx (H.kill k dd) cl).obj b' = some o' → Live (H.mk (T.put bl b (.row s d (T.putList c o vs) 0 es)) nx (H.kill k dd) cl) o' →
        (b' = b ∧ o' = .row s d (T.putList c o vs) 0 es) ∨ (b' ≠ b ∧ (H.mk bl nx dd cl).obj b' = some o' ∧ Live (H.mk bl nx dd cl) o' ∧ (clsOf o' = k → k = 0)) := by
      intro b' o' hb' hlv
      rw [H.obj_eq, T.get_put] at hb'
      by_cases e : b' = b
      · left; rw [if_pos e] at hb'; simp at hb'; exact ⟨e, hb'.symm⟩
      · right
        rw [if_neg e] at hb'
        have := (alive_kill (bl := bl) (n := nx) (c := cl)).1 hlv
        exact ⟨e, hb', this.1, this.2⟩
    have hsep : ∀ b' o' l', b' ≠ b → (H.mk bl nx dd cl).obj b' = some o' → Live (H.mk bl nx dd cl) o' → (clsOf o' = k → k = 0) → r b' = some l' → l'.blk ≠ l.blk := by
      intro b' o' l' hne hb' hlv hck hl' heq
      have := hr.inj b' b o' _ l' l hb' hlv hb hk hl' hl heq hne
      have hk0 : clsOf o' = k := this.2
      have := this.1
      rw [hk0, hck hk0] at this
      omega
    refine ⟨?_, hr.dom, ?_, ?_, ?_, ?_, hr.pos⟩
    · intro b' o' hb' hlv
      rcases hlive b' o' hb' hlv with ⟨rfl, rfl⟩ | ⟨hne, hb0, hlv0, hck⟩
      · refine ⟨l, hl, ⟨r1, ⟨el, by rw [hwo.shape]; exact ⟨r2, r2t⟩⟩, fun i hi => by rw [hwo.frozen]; exact r3 i hi, fun i hi => ?_⟩, hes⟩
        rw [cellAt_putList]
        by_cases hin : o ≤ i ∧ i < o + vs.length
        · rw [if_pos hin]
          have hx : vs[i - o]? = some vs[i - o] := List.getElem?_eq_getElem (by omega)
          obtain ⟨v, hv, hxr⟩ := hcs.get' (i - o) _ hx
          refine ⟨v, ?_, by rw [hx]; exact hxr⟩
          have := hwo.new (i - o) v hv
          rw [← this]; congr 2; omega
        · rw [if_neg hin]
          obtain ⟨v, hv, hxr⟩ := r4 i hi
          refine ⟨v, ?_, hxr⟩
          rw [hwo.old _ (by right; simp; omega)]
          exact hv
      · obtain ⟨l', hl', ho⟩ := hr.obj b' o' hb0 hlv0
        exact ⟨l', hl', hwo.objR ho (hsep b' o' l' hne hb0 hlv0 hck hl')⟩
    · intro b' o' hb'
      rw [H.obj_eq, T.get_put] at hb'
      by_cases e : b' = b
      · subst e
        rw [if_pos rfl] at hb'; simp at hb'; subst hb'
        have := hr.key b' _ hb
        exact ⟨this.1, by have := hr.pos.1; exact this⟩
      · rw [if_neg e] at hb'
        exact hr.key b' o' hb'
    · intro b1 b2 o1 o2 l1 l2 hb1 hv1 hb2 hv2 hl1 hl2 heq hne
      rcases hlive b1 o1 hb1 hv1 with ⟨rfl, rfl⟩ | ⟨hne1, hb1', hv1', hck1⟩
      · rcases hlive b2 o2 hb2 hv2 with ⟨rfl, rfl⟩ | ⟨hne2, hb2', hv2', hck2⟩
        · exact absurd rfl hne
        · rw [hl] at hl1; injection hl1 with hl1; subst hl1
          exact absurd heq.symm (hsep b2 o2 l2 hne2 hb2' hv2' hck2 hl2)
      · rcases hlive b2 o2 hb2 hv2 with ⟨rfl, rfl⟩ | ⟨hne2, hb2', hv2', hck2⟩
        · rw [hl] at hl2; injection hl2 with hl2; subst hl2
          exact absurd heq (hsep b1 o1 l1 hne1 hb1' hv1' hck1 hl1)
        · exact hr.inj b1 b2 o1 o2 l1 l2 hb1' hv1' hb2' hv2' hl1 hl2 heq hne
    · intro b1 b2 o1 o2 l1 l2 hb1 hv1 hb2 hv2 hl1 hl2 heq hne ht
      rcases hlive b1 o1 hb1 hv1 with ⟨rfl, rfl⟩ | ⟨hne1, hb1', hv1', hck1⟩
      · rcases hlive b2 o2 hb2 hv2 with ⟨rfl, rfl⟩ | ⟨hne2, hb2', hv2', hck2⟩
        · exact absurd rfl hne
        · rw [hl] at hl1; injection hl1 with hl1; subst hl1
          exact absurd heq.symm (hsep b2 o2 l2 hne2 hb2' hv2' hck2 hl2)
      · rcases hlive b2 o2 hb2 hv2 with ⟨rfl, rfl⟩ | ⟨hne2, hb2', hv2', hck2⟩
        · rw [hl] at hl2; injection hl2 with hl2; subst hl2
          exact absurd heq (hsep b1 o1 l1 hne1 hb1' hv1' hck1 hl1)
        · exact hr.tip b1 b2 o1 o2 l1 l2 hb1' hv1' hb2' hv2' hl1 hl2 heq hne ht
    · intro j hj
      refine (alive_kill (bl := bl) (n := nx) (c := cl)).2 ⟨hr.dead j hj, ?_⟩
      rintro rfl
      have := (hr.key b _ hb).2
      exact absurd this (by show ¬ j < cl; have : cl ≤ j := hj; omega)
  · refine ⟨Rho.le_refl r, by rw [hwo.size]; exact Nat.le_refl _, hwo.tape, hwo.os, hwo.output, Nat.le_refl _, ?_, ?_⟩
    · intro blk _ hn
      refine hwo.other blk ?_
      rintro rfl
      exact hn ⟨b, _, l, hb, hk, hl, rfl⟩
    · rintro blk _ ⟨b', o', l', hb', hv', hl', rfl⟩
      rw [H.obj_eq, T.get_put] at hb'
      by_cases e : b' = b
      · subst e
        rw [hl] at hl'; injection hl' with hl'; subst hl'
        exact ⟨b', _, l, hb, hk, hl, rfl⟩
      · rw [if_neg e] at hb'
        exact ⟨b', o', l', hb', ((alive_kill (bl := bl) (n := nx) (c := cl)).1 hv').1, hl', rfl⟩
end Go.AM
namespace Go.AM
open Go
variable [Env]

theorem RowR.mono {r r' : Rho} (hl : r.le r') {w : World} {l : Loc} {s : Nat} {d : AV} {c : T AV} (h : RowR r w l s d c) : RowR r' w l s d c :=
  ⟨h.1, h.2.1, h.2.2.1, fun i hi => let ⟨v, h1, h2⟩ := h.2.2.2 i hi; ⟨v, h1, h2.mono hl⟩⟩
theorem ObjR.mono {P : Program} {r r' : Rho} (hl : r.le r') {w : World} {l : Loc} {o : Obj} (h : ObjR P r w l o) : ObjR P r' w l o := by
  cases o with
  | row s d c k e => exact ⟨h.1.mono hl, h.2⟩
  | map es c => obtain ⟨h1, es', h2, h3⟩ := h; exact ⟨h1, es', h2, h3.mono hl⟩
  | cst blk t b o => exact h
  | siter s p => exact h
  | miter m a b c =>
    obtain ⟨h1, m', h2, h3⟩ := h
    refine ⟨h1, m', h2, ?_⟩
    cases m <;> cases m' <;> first | exact h3 | exact h3.elim | (obtain ⟨la, h4, h5⟩ := h3; exact ⟨la, hl _ _ h4, h5⟩)
  | loop st tm ps asg body p => obtain ⟨h1, lp, h2, h3, h4, h5⟩ := h; exact ⟨h1, lp, h2, h3, h4.mono hl, h5⟩

/-- a world in which what a block holds is as it was -/
theorem ObjR.keep {P : Program} {r : Rho} {w w' : World} {l : Loc} {o : Obj} (h : ObjR P r w l o) (e : w'.heap[l.blk]? = w.heap[l.blk]?) : ObjR P r w' l o := by
  cases o with
  | row s d c k es =>
    obtain ⟨⟨h1, h2, h3, h4⟩, h5⟩ := h
    refine ⟨⟨h1, ?_, ?_, ?_⟩, h5⟩
    · unfold World.shape? at *; rw [e]; exact h2
    · intro i hi; have := h3 i hi; unfold World.frozen? at *; rw [e]; exact this
    · intro i hi; obtain ⟨v, hv, hx⟩ := h4 i hi; exact ⟨v, by unfold World.cell? at *; rw [e]; exact hv, hx⟩
  | map es c => obtain ⟨h1, es', h2, h3⟩ := h; exact ⟨h1, es', by rw [e]; exact h2, h3⟩
  | cst blk t b o => obtain ⟨h1, h2, h3⟩ := h; exact ⟨h1, by rw [e]; exact h2, by unfold World.cell? at *; simp only at *; rw [e]; exact h3⟩
  | siter s p => obtain ⟨h1, es', h2, h3⟩ := h; exact ⟨h1, es', by rw [e]; exact h2, h3⟩
  | miter m a b c => obtain ⟨h1, es', h2, h3⟩ := h; exact ⟨h1, es', by rw [e]; exact h2, h3⟩
  | loop st tm ps asg body p => obtain ⟨h1, es', h2, h3⟩ := h; exact ⟨h1, es', by rw [e]; exact h2, h3⟩

theorem heap_alloc_lt (w : World) (O : Go.Obj) {i : Nat} (h : i < w.heap.size) : (w.alloc O).heap[i]? = w.heap[i]? := by
  simp only [World.alloc, Array.getElem?_push]
  rw [if_neg (by omega)]
theorem heap_alloc_new (w : World) (O : Go.Obj) : (w.alloc O).heap[w.heap.size]? = some O := by
  show (w.heap.push O)[w.heap.size]? = some O
  simp

def Rho.upd (r : Rho) (b : Nat) (l : Loc) : Rho := fun x => if x = b then some l else r x
theorem Rho.upd_same (r : Rho) (b : Nat) (l : Loc) : r.upd b l b = some l := by simp [Rho.upd]
theorem Rho.upd_other (r : Rho) {b x : Nat} (l : Loc) (h : x ≠ b) : r.upd b l x = r x := by simp [Rho.upd, h]
theorem Rho.le_upd (r : Rho) (b : Nat) (l : Loc) (h : r b = none) : r.le (r.upd b l) := by
  intro x m e
  by_cases hx : x = b
  · subst hx; rw [h] at e; simp at e
  · rw [Rho.upd_other r l hx]; exact e
theorem Rel.fresh {P : Program} {r : Rho} {h : H} {w : World} (hr : Rel P r h w) : r h.nextOf = none := by
  cases e : r h.nextOf with
  | none => rfl
  | some l => exact absurd (hr.dom _ _ e) (Nat.lt_irrefl _)

theorem H.new_nextOf (h : H) (o : Obj) (hp : 0 < h.nextOf) : (h.new o).1 = h.nextOf := by
  cases h with | mk bl n d c => rw [H.new_eq bl n d c o hp]; rfl

/-- a new thing in memory -/
theorem Rel.new' {P : Program} {r : Rho} {h h' : H} {w : World} {b : Nat} (hr : Rel P r h w) (o : Obj) (O : Go.Obj) (es n : Nat) (hc : clsOf o < h.clsN)
    (e : h.new o = (b, h')) (ho : ObjR P (r.upd b ⟨w.heap.size, 0, es, n⟩) (w.alloc O) ⟨w.heap.size, 0, es, n⟩ o) :
    Rel P (r.upd b ⟨w.heap.size, 0, es, n⟩) h' (w.alloc O) ∧ Keeps r h w (r.upd b ⟨w.heap.size, 0, es, n⟩) h' (w.alloc O) := by
  have hb : b = h.nextOf := by have := H.new_nextOf h o hr.pos.2; rw [e] at this; exact this
  have hfr := hr.fresh
  rw [← hb] at hfr
  have hle := Rho.le_upd r b ⟨w.heap.size, 0, es, n⟩ hfr
  cases h with
  | mk bl nx dd cl =>
  rw [H.new_eq bl nx dd cl o hr.pos.2] at e
  injection e with e1 e2
  subst e1; subst e2
  have hnone : ∀ x, (H.mk bl nx dd cl).obj nx = some x → False := fun x hx => absurd (hr.key _ _ hx).1 (Nat.lt_irrefl _)
  have hobj : ∀ b' o', (H.mk (T.put bl nx o) (nx + 1) dd cl).obj b' = some o' → (b' = nx ∧ o' = o) ∨ (b' ≠ nx ∧ (H.mk bl nx dd cl).obj b' = some o') := by
    intro b' o' hb'
    rw [H.obj_eq, T.get_put] at hb'
    by_cases q : b' = nx
    · left; rw [if_pos q] at hb'; simp at hb'; exact ⟨q, hb'.symm⟩
    · right; rw [if_neg q] at hb'; exact ⟨q, hb'⟩
  have hlv : ∀ o', Live (H.mk (T.put bl nx o) (nx + 1) dd cl) o' ↔ Live (H.mk bl nx dd cl) o' := by
    intro o'; unfold Live; rw [alive_same (bl := bl) (bl' := T.put bl nx o) (n := nx) (n' := nx + 1) (c := cl) (c' := cl)]
  refine ⟨⟨?_, ?_, ?_, ?_, ?_, ?_, ?_⟩, ?_⟩
  · intro b' o' hb' hv
    rcases hobj b' o' hb' with ⟨rfl, rfl⟩ | ⟨hne, h0⟩
    · exact ⟨_, Rho.upd_same r _ _, ho⟩
    · obtain ⟨l, hl, hO⟩ := hr.obj b' o' h0 ((hlv o').1 hv)
      exact ⟨l, hle _ _ hl, (hO.mono hle).keep (heap_alloc_lt w O hO.blk_lt)⟩
  · intro b' l hl
    by_cases q : b' = nx
    · subst q; exact Nat.lt_succ_self _
    · rw [Rho.upd_other r _ q] at hl; exact Nat.lt_succ_of_lt (hr.dom _ _ hl)
  · intro b' o' hb'
    rcases hobj b' o' hb' with ⟨rfl, rfl⟩ | ⟨hne, h0⟩
    · exact ⟨Nat.lt_succ_self _, hc⟩
    · exact ⟨Nat.lt_succ_of_lt (hr.key _ _ h0).1, (hr.key _ _ h0).2⟩
  · intro b1 b2 o1 o2 l1 l2 hb1 hv1 hb2 hv2 hl1 hl2 heq hne
    rcases hobj b1 o1 hb1 with ⟨rfl, rfl⟩ | ⟨hne1, h1⟩
    · rcases hobj b2 o2 hb2 with ⟨rfl, rfl⟩ | ⟨hne2, h2⟩
      · exact absurd rfl hne
      · rw [Rho.upd_same] at hl1; injection hl1 with hl1; subst hl1
        rw [Rho.upd_other r _ hne2] at hl2
        obtain ⟨l, hl, hO⟩ := hr.obj b2 o2 h2 ((hlv o2).1 hv2)
        rw [hl] at hl2; injection hl2 with hl2; subst hl2
        have := hO.blk_lt
        exact absurd heq (by show w.heap.size ≠ l.blk; omega)
    · rcases hobj b2 o2 hb2 with ⟨rfl, rfl⟩ | ⟨hne2, h2⟩
      · rw [Rho.upd_same] at hl2; injection hl2 with hl2; subst hl2
        rw [Rho.upd_other r _ hne1] at hl1
        obtain ⟨l, hl, hO⟩ := hr.obj b1 o1 h1 ((hlv o1).1 hv1)
        rw [hl] at hl1; injection hl1 with hl1; subst hl1
        have := hO.blk_lt
        exact absurd heq (by show l.blk ≠ w.heap.size; omega)
      · rw [Rho.upd_other r _ hne1] at hl1
        rw [Rho.upd_other r _ hne2] at hl2
        exact hr.inj b1 b2 o1 o2 l1 l2 h1 ((hlv o1).1 hv1) h2 ((hlv o2).1 hv2) hl1 hl2 heq hne
  · intro b1 b2 o1 o2 l1 l2 hb1 hv1 hb2 hv2 hl1 hl2 heq hne ht
    rcases hobj b1 o1 hb1 with ⟨rfl, rfl⟩ | ⟨hne1, h1⟩
    · rcases hobj b2 o2 hb2 with ⟨rfl, rfl⟩ | ⟨hne2, h2⟩
      · exact absurd rfl hne
      · rw [Rho.upd_same] at hl1; injection hl1 with hl1; subst hl1
        rw [Rho.upd_other r _ hne2] at hl2
        obtain ⟨l, hl, hO⟩ := hr.obj b2 o2 h2 ((hlv o2).1 hv2)
        rw [hl] at hl2; injection hl2 with hl2; subst hl2
        have := hO.blk_lt
        exact absurd heq (by show w.heap.size ≠ l.blk; omega)
    · rcases hobj b2 o2 hb2 with ⟨rfl, rfl⟩ | ⟨hne2, h2⟩
      · rw [Rho.upd_same] at hl2; injection hl2 with hl2; subst hl2
        rw [Rho.upd_other r _ hne1] at hl1
        obtain ⟨l, hl, hO⟩ := hr.obj b1 o1 h1 ((hlv o1).1 hv1)
        rw [hl] at hl1; injection hl1 with hl1; subst hl1
        have := hO.blk_lt
        exact absurd heq (by show l.blk ≠ w.heap.size; omega)
      · rw [Rho.upd_other r _ hne1] at hl1
        rw [Rho.upd_other r _ hne2] at hl2
        exact hr.tip b1 b2 o1 o2 l1 l2 h1 ((hlv o1).1 hv1) h2 ((hlv o2).1 hv2) hl1 hl2 heq hne ht
  · intro k hk
    rw [alive_same (bl := bl) (bl' := T.put bl nx o) (n := nx) (n' := nx + 1) (c := cl) (c' := cl)]; exact hr.dead k hk
  · exact ⟨hr.pos.1, Nat.succ_pos _⟩
  · refine ⟨hle, by simp, rfl, rfl, rfl, Nat.le_succ _, fun blk hb _ => heap_alloc_lt w O hb, ?_⟩
    rintro blk hb ⟨b', o', l', hb', hv', hl', rfl⟩
    rcases hobj b' o' hb' with ⟨rfl, rfl⟩ | ⟨hne, h0⟩
    · rw [Rho.upd_same] at hl'; injection hl' with hl'; subst hl'
      exact absurd hb (Nat.lt_irrefl _)
    · rw [Rho.upd_other r _ hne] at hl'
      exact ⟨b', o', l', h0, (hlv o').1 hv', hl', rfl⟩

theorem Rel.new {P : Program} {r : Rho} {h h' : H} {w : World} {b : Nat} (hr : Rel P r h w) (o : Obj) (O : Go.Obj) (es n : Nat) (hc : clsOf o = 0)
    (e : h.new o = (b, h')) (ho : ObjR P (r.upd b ⟨w.heap.size, 0, es, n⟩) (w.alloc O) ⟨w.heap.size, 0, es, n⟩ o) :
    Rel P (r.upd b ⟨w.heap.size, 0, es, n⟩) h' (w.alloc O) ∧ Keeps r h w (r.upd b ⟨w.heap.size, 0, es, n⟩) h' (w.alloc O) :=
  hr.new' o O es n (by rw [hc]; exact hr.pos.1) e ho

/-- a thing that is no row is written anew -/
theorem Rel.setObj {P : Program} {r : Rho} {h : H} {w w' : World} {b : Nat} {o o' : Obj} {l : Loc} (hr : Rel P r h w) (hb : h.obj b = some o) (hc : clsOf o = 0) (hc' : clsOf o' = 0) (hl : r b = some l)
    (hw : ∀ x, x ≠ l.blk → w'.heap[x]? = w.heap[x]?) (hz : w'.heap.size = w.heap.size) (ht : w'.tape = w.tape) (hos : w'.os = w.os) (hout : w'.output = w.output) (ho : ObjR P r w' l o') :
    Rel P r (h.setObj b o') w' ∧ Keeps r h w r (h.setObj b o') w' := by
  cases h with
  | mk bl nx dd cl =>
  have hsv : (H.mk bl nx dd cl).setObj b o' = ⟨T.put bl b o', nx, dd, cl⟩ := rfl
  rw [hsv]
  have hobj : ∀ b' q, (H.mk (T.put bl b o') nx dd cl).obj b' = some q → (b' = b ∧ q = o') ∨ (b' ≠ b ∧ (H.mk bl nx dd cl).obj b' = some q) := by
    intro b' q hb'
    rw [H.obj_eq, T.get_put] at hb'
    by_cases e : b' = b
    · left; rw [if_pos e] at hb'; simp at hb'; exact ⟨e, hb'.symm⟩
    · right; rw [if_neg e] at hb'; exact ⟨e, hb'⟩
  have hlv : ∀ q, Live (H.mk (T.put bl b o') nx dd cl) q ↔ Live (H.mk bl nx dd cl) q := by
    intro q; unfold Live; rw [alive_same (bl := bl) (bl' := T.put bl b o') (n := nx) (n' := nx) (c := cl) (c' := cl)]
  have hLo : Live (H.mk bl nx dd cl) o := by unfold Live; rw [hc]; exact H.alive_zero _
  have hsep : ∀ b' q l', b' ≠ b → (H.mk bl nx dd cl).obj b' = some q → Live (H.mk bl nx dd cl) q → r b' = some l' → l'.blk ≠ l.blk := by
    intro b' q l' hne hq hv hl' heq
    have := hr.inj b' b q o l' l hq hv hb hLo hl' hl heq hne
    rw [this.2, hc] at this
    exact absurd this.1 (Nat.lt_irrefl _)
  refine ⟨⟨?_, hr.dom, ?_, ?_, ?_, ?_, hr.pos⟩, ?_⟩
  · intro b' q hb' hv
    rcases hobj b' q hb' with ⟨rfl, rfl⟩ | ⟨hne, h0⟩
    · exact ⟨l, hl, ho⟩
    · obtain ⟨l', hl', hO⟩ := hr.obj b' q h0 ((hlv q).1 hv)
      exact ⟨l', hl', hO.keep (hw _ (hsep b' q l' hne h0 ((hlv q).1 hv) hl'))⟩
  · intro b' q hb'
    rcases hobj b' q hb' with ⟨rfl, rfl⟩ | ⟨hne, h0⟩
    · exact ⟨(hr.key _ _ hb).1, by rw [hc']; exact hr.pos.1⟩
    · exact hr.key _ _ h0
  · intro b1 b2 o1 o2 l1 l2 hb1 hv1 hb2 hv2 hl1 hl2 heq hne
    rcases hobj b1 o1 hb1 with ⟨rfl, rfl⟩ | ⟨hne1, h1⟩
    · rcases hobj b2 o2 hb2 with ⟨rfl, rfl⟩ | ⟨hne2, h2⟩
      · exact absurd rfl hne
      · rw [hl] at hl1; injection hl1 with hl1; subst hl1
        exact absurd heq.symm (hsep b2 o2 l2 hne2 h2 ((hlv o2).1 hv2) hl2)
    · rcases hobj b2 o2 hb2 with ⟨rfl, rfl⟩ | ⟨hne2, h2⟩
      · rw [hl] at hl2; injection hl2 with hl2; subst hl2
        exact absurd heq (hsep b1 o1 l1 hne1 h1 ((hlv o1).1 hv1) hl1)
      · exact hr.inj b1 b2 o1 o2 l1 l2 h1 ((hlv o1).1 hv1) h2 ((hlv o2).1 hv2) hl1 hl2 heq hne
  · intro b1 b2 o1 o2 l1 l2 hb1 hv1 hb2 hv2 hl1 hl2 heq hne ht
    rcases hobj b1 o1 hb1 with ⟨rfl, rfl⟩ | ⟨hne1, h1⟩
    · rcases hobj b2 o2 hb2 with ⟨rfl, rfl⟩ | ⟨hne2, h2⟩
      · exact absurd rfl hne
      · rw [hl] at hl1; injection hl1 with hl1; subst hl1
        exact absurd heq.symm (hsep b2 o2 l2 hne2 h2 ((hlv o2).1 hv2) hl2)
    · rcases hobj b2 o2 hb2 with ⟨rfl, rfl⟩ | ⟨hne2, h2⟩
      · rw [hl] at hl2; injection hl2 with hl2; subst hl2
        exact absurd heq (hsep b1 o1 l1 hne1 h1 ((hlv o1).1 hv1) hl1)
      · exact hr.tip b1 b2 o1 o2 l1 l2 h1 ((hlv o1).1 hv1) h2 ((hlv o2).1 hv2) hl1 hl2 heq hne ht
  · intro k hk
    rw [alive_same (bl := bl) (bl' := T.put bl b o') (n := nx) (n' := nx) (c := cl) (c' := cl)]; exact hr.dead k hk
  · refine ⟨Rho.le_refl r, by rw [hz]; exact Nat.le_refl _, ht, hos, hout, Nat.le_refl _, ?_, ?_⟩
    · intro blk _ hn
      refine hw blk ?_
      rintro rfl
      exact hn ⟨b, o, l, hb, hLo, hl, rfl⟩
    · rintro blk _ ⟨b', q, l', hb', hv', hl', rfl⟩
      rcases hobj b' q hb' with ⟨rfl, rfl⟩ | ⟨hne, h0⟩
      · rw [hl] at hl'; injection hl' with hl'; subst hl'
        exact ⟨b', o, l, hb, hLo, hl, rfl⟩
      · exact ⟨b', q, l', h0, (hlv q).1 hv', hl', rfl⟩

theorem tagD_inj {a b : Nat} (h : tagD a = tagD b) : a = b := by
  unfold tagD at h
  injection h with h; injection h with h; injection h with _ h
  exact Int.ofNat.inj h
def TyTag (d : AV) (t : TypeId) : Prop := (∀ n, d = tagD n → t = n) ∧ ∀ n, d = tagA n → t = n
theorem bot_tag {t : TypeId} : TyTag .bot t := ⟨fun n h => by simp [tagD] at h, fun n h => by simp [tagA] at h⟩
theorem tagA_inj {a b : Nat} (h : tagA a = tagA b) : a = b := by
  unfold tagA at h
  injection h with h; injection h with h; injection h with _ h
  exact Int.ofNat.inj h
theorem tagD_ne_tagA {a b : Nat} (h : tagD a = tagA b) : False := by
  unfold tagD tagA at h
  injection h with h; injection h with _ h; simp at h
theorem tagA_ty {t : TypeId} : TyTag (tagA t) t := ⟨fun n h => (tagD_ne_tagA h.symm).elim, fun n h => tagA_inj h⟩
theorem tagD_ty {t : TypeId} : TyTag (tagD t) t := ⟨fun n h => tagD_inj h, fun n h => (tagD_ne_tagA h).elim⟩
/-- a new row of cells that are known -/
theorem newRow_rowR {r : Rho} {w : World} {vs : List AV} {cs : Array Value} {t : TypeId} {d : AV} (hd : TyTag d t) (h : VRs r vs cs.toList) (es n : Nat) (hn : n = cs.size) :
    RowR r (w.alloc (.cells cs t)) ⟨w.heap.size, 0, es, n⟩ vs.length d (T.putList .lf 0 vs) := by
  subst hn
  have hlen := h.length
  simp at hlen
  refine ⟨by simp; omega, ⟨t, ?_, fun n h => ⟨hd.1 n h, rfl⟩, fun n h => ⟨hd.2 n h, rfl, by show cs.size = vs.length; omega⟩⟩, ?_, ?_⟩
  · unfold World.shape?; rw [heap_alloc_new]
  · intro i _; simp
  · intro i hi
    have hx : vs[i]? = some vs[i] := List.getElem?_eq_getElem hi
    obtain ⟨v, hv, hr⟩ := h.get' i _ hx
    refine ⟨v, ?_, ?_⟩
    · simp; simpa using hv
    · unfold cellAt
      rw [T.get_putList]
      simp [hi]; exact hr
end Go.AM
namespace Go.AM
open Go
variable [Env]

section tools
variable {P : Program}
theorem withU_eq {t : TypeId} {k : TypeDesc → AOp} {o : AOp} (h : withU P t k = o) (hb : o ≠ .bad) : ∃ d, P.underlying t = some d ∧ k d = o := by
  unfold withU at h
  split at h
  · rename_i d hd; exact ⟨d, hd, h⟩
  · exact absurd h.symm hb
theorem withT_eq {t : TypeId} {k : TypeInfo → AOp} {o : AOp} (h : withT P t k = o) (hb : o ≠ .bad) : ∃ d, P.info? t = some d ∧ k d = o := by
  unfold withT at h
  split at h
  · rename_i d hd; exact ⟨d, hd, h⟩
  · exact absurd h.symm hb
theorem zeroI_eq {i : TypeInfo} {k : AV → AOp} {o : AOp} (h : zeroI i k = o) (hb : o ≠ .bad) : ∃ z x, i.zero = some z ∧ ofValue z = some x ∧ k x = o := by
  unfold zeroI at h
  split at h
  · rename_i z hz
    split at h
    · rename_i x hx; exact ⟨z, x, hz, hx, h⟩
    · exact absurd h.symm hb
  · exact absurd h.symm hb
theorem run_info {t : TypeId} {i : TypeInfo} (h : P.info? t = some i) (w : World) : (typeInfo t).run P w = .ok i w := by
  simp [typeInfo, h]
theorem run_und {t : TypeId} {d : TypeDesc} (h : P.underlying t = some d) (w : World) : (underlying t).run P w = .ok d w := by
  simp [Go.underlying, h]
theorem run_size {t : TypeId} {i : TypeInfo} (h : P.info? t = some i) (w : World) : (sizeOf t).run P w = .ok i.size w := by
  simp [Go.sizeOf, run_info h]
theorem run_zero {t : TypeId} {i : TypeInfo} {z : Value} (h : P.info? t = some i) (hz : i.zero = some z) (w : World) : (zeroValue t).run P w = .ok z w := by
  simp [zeroValue, run_info h, hz]
theorem run_isAgg {t : TypeId} {d : TypeDesc} (h : P.underlying t = some d) (w : World) : (isAgg t).run P w = .ok (aggD d) w := by
  unfold isAgg aggD
  rw [Sem.run_bind, run_und h]
  cases d <;> rfl
end tools

/-! ## constants -/
theorem bif_opt {α : Type} {b : Bool} {x : Option α} {y : α} (h : (bif b then x else none) = some y) : b = true ∧ x = some y := by
  cases b with
  | true => exact ⟨rfl, h⟩
  | false => simp at h
theorem ofFlat_vr {r : Rho} {v : Value} {x : AV} (h : ofFlat v = some x) : VR r x v ∧ x ≠ .bot := by
  unfold ofFlat at h
  cases v with
  | bool b => simp at h; subst h; exact ⟨.bool _, by simp⟩
  | int k n => simp at h; subst h; exact ⟨.int _ _, by simp⟩
  | float k n => simp at h
  | complex k a b => simp at h
  | string s => simp at h; subst h; exact ⟨.str _, by simp⟩
  | pointer a => cases a with
    | none => simp at h; subst h; exact ⟨.nilp, by simp⟩
    | some a => simp at h
  | slice a n c => cases a with
    | none =>
      obtain ⟨hb, h⟩ := bif_opt h
      simp at h; subst h
      simp at hb
      obtain ⟨rfl, rfl⟩ := hb
      exact ⟨.nils, by simp⟩
    | some a => simp at h
  | map m => cases m with
    | none => simp at h; subst h; exact ⟨.nilm, by simp⟩
    | some a => simp at h
  | chan m => simp at h
  | func fn a c =>
    obtain ⟨hb, h⟩ := bif_opt h
    cases fn <;> simp at h
    subst h
    simp at hb
    obtain ⟨rfl, rfl⟩ := hb
    exact ⟨.func _ _ _ _ _ _ (.same _ (by simp)) .nil .nil, by simp⟩
  | nilFunc => simp at h; subst h; exact ⟨.nilf, by simp⟩
  | iface t v => simp at h
  | nilIface => simp at h; subst h; exact ⟨.nili, by simp⟩
  | agg cs => simp at h
  | tuple vs =>
    obtain ⟨hb, h⟩ := bif_opt h
    simp at h hb; subst h; subst hb
    exact ⟨.tup _ _ .nil, by simp⟩
theorem ofFlats_vr {r : Rho} : ∀ {vs : List Value} {xs : List AV}, ofFlats vs = some xs → VRs r xs vs
  | [], xs, h => by simp [ofFlats] at h; subst h; exact .nil
  | v :: vs, xs, h => by
    unfold ofFlats at h
    split at h
    · rename_i a l ha hl
      injection h with h; subst h
      exact .cons _ _ _ _ (ofFlat_vr ha).1 (ofFlats_vr hl)
    · simp at h
theorem ofValue_vr {r : Rho} {v : Value} {x : AV} (h : ofValue v = some x) : VR r x v ∧ x ≠ .bot := by
  unfold ofValue at h
  split at h
  · split at h
    · rename_i l hl; injection h with h; subst h; exact ⟨.agg _ _ (ofFlats_vr hl), by simp⟩
    · simp at h
  · exact ofFlat_vr h

/-! ## operands -/
/-- our temporaries tell of the operands' values -/
def EnvR (r : Rho) (t : TM) (ρ : Operand → Value) : Prop := ∀ o, VR r (evO t (opd o)) (ρ o)
theorem evO_tmp (t : TM) (n : Nat) : evO t (.tmp n) = (T.get t n).getD .bot := by
  show (@Option.rec AV (fun _ => AV) .bot (fun v => v) (T.get t n)) = _
  cases T.get t n <;> rfl
theorem evO_const (t : TM) (v : AV) : evO t (.const v) = v := rfl
theorem TR.env {r : Rho} {t : TM} {a : Act} (h : TR r t a.tmps) : EnvR r t a.eval := by
  intro o
  cases o with
  | tmp n =>
    show VR r (evO t (.tmp n)) (a.tmps.getD n undef)
    rw [evO_tmp]
    cases hg : T.get t n with
    | none => exact .bot _
    | some x =>
      obtain ⟨v, hv, hx⟩ := h n x hg
      have : a.tmps.getD n undef = v := by
        rw [Array.getD_eq_getD_getElem?, hv]; rfl
      rw [this]; exact hx
  | const v =>
    show VR r (evO t (.const ((ofValue v).getD .bot))) v
    rw [evO_const]
    cases hv : ofValue v with
    | none => exact .bot _
    | some x => exact (ofValue_vr hv).1
  | global g => exact .bot _
  | func f => exact .func _ _ _ _ _ _ (.same _ (by simp)) .nil .nil

/-! ## inversions -/
section inv
variable {r : Rho}
theorem VR.inv_bool {b : Bool} {v : Value} (h : VR r (.bool b) v) : v = .bool b := by cases h; rfl
theorem VR.inv_int {k : IntKind} {n : Int} {v : Value} (h : VR r (.int k n) v) : v = .int k n := by cases h; rfl
theorem VR.inv_str {s : List UInt8} {v : Value} (h : VR r (.str s) v) : ∃ b : ByteArray, v = .string b ∧ b.data.toList = s := by cases h; exact ⟨_, rfl, rfl⟩
theorem VR.inv_ptr {b o : Nat} {v : Value} (h : VR r (.ptr b o) v) : ∃ l, r b = some l ∧ v = .pointer (some ⟨l.blk, o + l.sh, none⟩) := by cases h; rename_i l h; exact ⟨l, h, rfl⟩
theorem VR.inv_nilp {v : Value} (h : VR r .nilp v) : v = .pointer none := by cases h; rfl
theorem VR.inv_nils {v : Value} (h : VR r .nils v) : v = .slice none 0 0 := by cases h; rfl
theorem VR.inv_nilm {v : Value} (h : VR r .nilm v) : v = .map none := by cases h; rfl
theorem VR.inv_map {m : Nat} {v : Value} (h : VR r (.map m) v) : ∃ l, r m = some l ∧ v = .map (some l.blk) := by cases h; rename_i l h; exact ⟨l, h, rfl⟩
theorem VR.inv_nilf {v : Value} (h : VR r .nilf v) : v = .nilFunc := by cases h; rfl
theorem VR.inv_nili {v : Value} (h : VR r .nili v) : v = .nilIface := by cases h; rfl
theorem VR.inv_iface {t : TypeId} {x : AV} {v : Value} (h : VR r (.iface t x) v) : ∃ u, v = .iface t u ∧ VR r x u := by cases h; rename_i u h; exact ⟨u, rfl, h⟩
theorem VR.inv_agg {xs : List AV} {v : Value} (h : VR r (.agg xs) v) : ∃ vs, v = .agg vs ∧ VRs r xs vs.toList := by cases h; rename_i u h; exact ⟨u, rfl, h⟩
theorem VR.inv_tup {xs : List AV} {v : Value} (h : VR r (.tup xs) v) : ∃ vs, v = .tuple vs ∧ VRs r xs vs.toList := by cases h; rename_i u h; exact ⟨u, rfl, h⟩
theorem VR.inv_func {f : Fn} {xs cs : List AV} {v : Value} (h : VR r (.func f xs cs) v) : ∃ g ys ds, v = .func g ys ds ∧ FnR r f g ∧ VRs r xs ys.toList ∧ VRs r cs ds.toList := by
  cases h; rename_i g ys ds h h1 h2; exact ⟨g, ys, ds, rfl, h, h1, h2⟩
theorem VR.inv_sliceC {b o len c : Nat} {v : Value} (h : VR r (.slice b o len (some c)) v) : ∃ l, r b = some l ∧ v = .slice (some ⟨l.blk, o + l.sh, none⟩) len c := by
  cases h; rename_i l h; exact ⟨l, h, rfl⟩
theorem VR.inv_sliceO {b o len : Nat} {v : Value} (h : VR r (.slice b o len none) v) : ∃ l a cap, r b = some l ∧ v = .slice (some a) len cap ∧ 0 < l.es ∧ len ≤ cap ∧ o + l.sh + cap * l.es = l.n ∧
    a.block = l.blk ∧ a.spot = none ∧ (0 < cap → a.off = o + l.sh) := by
  cases h; rename_i cap a l h1 h4 h5 h h3 h6 h2; exact ⟨l, a, cap, h, rfl, h1, h2, h3, h4, h5, h6⟩
end inv

/-! ## numbers -/
theorem forceI_eq {β : Type} (n : Int) (f : Int → β) : forceI n f = f n := by
  unfold forceI
  cases n with
  | ofNat m => cases m <;> rfl
  | negSucc m => cases m <;> rfl
theorem forceN_eq {β : Type} (n : Nat) (f : Nat → β) : forceN n f = f n := by
  unfold forceN
  cases n <;> rfl
theorem forceB_eq {β : Type} (b : Bool) (f : Bool → β) : forceB b f = f b := by cases b <;> rfl
theorem mkInt_eq (k : IntKind) (n : Int) : mkInt k n = some (.int k n) := by unfold mkInt; rw [forceI_eq]
theorem mkBool_eq (b : Bool) : mkBool b = some (.bool b) := by unfold mkBool; rw [forceB_eq]
theorem wrapQ_eq (k : IntKind) (n : Int) : wrapQ k n = k.wrap n := by
  unfold wrapQ
  split
  · rename_i m
    cases hm : Nat.ble m 9223372036854775807 with
    | false => rfl
    | true =>
      have := ble_iff.1 hm
      simp [IntKind.wrap, IntKind.bits, IntKind.signed]
      omega
  · rename_i m
    show ((m % 256 : Nat) : Int) = _
    simp [IntKind.wrap, IntKind.bits, IntKind.signed]
  · rfl
theorem eqI_eq (x y : Int) : eqI x y = (x == y) := by
  have hb : ∀ a b : Nat, Nat.beq a b = decide (a = b) := by
    intro a b
    by_cases h : a = b
    · subst h; simp
    · cases q : Nat.beq a b with
      | false => simp [h]
      | true => exact absurd (Nat.eq_of_beq_eq_true q) h
  cases x <;> cases y <;> rename_i a b
  · show Nat.beq a b = _
    rw [hb]; by_cases h : a = b
    · subst h; simp
    · have : ((Int.ofNat a) == (Int.ofNat b)) = false := by simp; omega
      rw [this]; simp [h]
  · rfl
  · rfl
  · show Nat.beq a b = _
    rw [hb]; by_cases h : a = b
    · subst h; simp
    · have : ((Int.negSucc a) == (Int.negSucc b)) = false := by simp; omega
      rw [this]; simp [h]
theorem ltI_eq (x y : Int) : ltI x y = decide (x < y) := by
  cases x <;> cases y <;> simp only [ltI] <;> rename_i a b
  · by_cases h : a < b
    · simp [ble_iff.2 (show Nat.succ a ≤ b from h), h]
    · have : Nat.ble (Nat.succ a) b = false := by cases q : Nat.ble (Nat.succ a) b with
        | false => rfl
        | true => exact absurd (ble_iff.1 q) h
      simp [this]; omega
  · simp; omega
  · simp; omega
  · by_cases h : b < a
    · simp [ble_iff.2 (show Nat.succ b ≤ a from h)]; omega
    · have : Nat.ble (Nat.succ b) a = false := by cases q : Nat.ble (Nat.succ b) a with
        | false => rfl
        | true => exact absurd (ble_iff.1 q) h
      simp [this]; omega
theorem leI_eq (x y : Int) : leI x y = decide (x ≤ y) := by
  cases x <;> cases y <;> simp only [leI] <;> rename_i a b
  · by_cases h : a ≤ b
    · simp [ble_iff.2 h, h]
    · have : Nat.ble a b = false := by cases q : Nat.ble a b with
        | false => rfl
        | true => exact absurd (ble_iff.1 q) h
      simp [this]; omega
  · simp; omega
  · simp; omega
  · by_cases h : b ≤ a
    · simp [ble_iff.2 h]; omega
    · have : Nat.ble b a = false := by cases q : Nat.ble b a with
        | false => rfl
        | true => exact absurd (ble_iff.1 q) h
      simp [this]; omega
theorem u8_beq (a b : UInt8) : Nat.beq a.toNat b.toNat = (a == b) := by
  by_cases h : a = b
  · subst h; simp
  · have : a.toNat ≠ b.toNat := fun e => h (UInt8.toNat_inj.1 e)
    have h2 : (a == b) = false := by simp [h]
    rw [h2]
    cases q : Nat.beq a.toNat b.toNat with
    | false => rfl
    | true => exact absurd (Nat.eq_of_beq_eq_true q) this
theorem eqStr_eq : ∀ (x y : List UInt8), eqStr x y = (x == y)
  | [], [] => rfl
  | [], _ :: _ => rfl
  | _ :: _, [] => rfl
  | a :: x, b :: y => by
    unfold eqStr
    rw [u8_beq, eqStr_eq x y]
    show cond (a == b) (x == y) false = ((a == b) && (x == y))
    cases (a == b) <;> rfl
theorem ltStr_eq : ∀ (x y : List UInt8), ltStr x y = Op.bytesLess x y
  | x, [] => by cases x <;> rfl
  | [], _ :: _ => rfl
  | a :: x, b :: y => by
    unfold ltStr Op.bytesLess
    rw [u8_beq, ltStr_eq x y]
    by_cases h : a = b
    · subst h; simp
    · have h2 : (a == b) = false := by simp [h]
      rw [h2]
      have : Nat.ble (Nat.succ a.toNat) b.toNat = decide (a < b) := by
        have e : (a < b) ↔ (a.toNat < b.toNat) := UInt8.lt_iff_toNat_lt
        rw [show decide (a < b) = decide (a.toNat < b.toNat) from decide_eq_decide.2 e]
        cases q : Nat.ble (Nat.succ a.toNat) b.toNat with
        | true => have := ble_iff.1 q; simp; omega
        | false => have : ¬ (Nat.succ a.toNat ≤ b.toNat) := fun e => by rw [ble_iff.2 e] at q; exact absurd q (by simp)
                   simp; omega
      simp [this]
end Go.AM
namespace Go.AM
open Go
variable [Env]

/-- what an operation without effect comes to -/
def Gives (P : Program) (r : Rho) (w : World) (s : Sem Value) (x : AV) : Prop := ∃ v, s.run P w = .ok v w ∧ VR r x v

section pure
variable {P : Program} {r : Rho} {w : World}
theorem Gives.pure {x : AV} {v : Value} (h : VR r x v) : Gives P r w (Pure.pure v) x := ⟨v, rfl, h⟩

theorem run_asIntOf (k : IntKind) (n : Int) : (asIntOf (.int k n)).run P w = .ok (k, n) w := rfl
theorem run_asInt (k : IntKind) (n : Int) : (asInt (.int k n)).run P w = .ok n w := rfl
theorem run_asBool (b : Bool) : (asBool (.bool b)).run P w = .ok b w := rfl
theorem run_sureAddr (a : Addr) : (Instr.sureAddr (.pointer (some a))).run P w = .ok a w := rfl

theorem add_off (b o sh n : Nat) : (Addr.mk b (o + sh) none).add n = ⟨b, o + n + sh, none⟩ := by
  unfold Addr.add
  split
  · rename_i h; subst h; rfl
  · show Addr.mk b (o + sh + n) none = _
    rw [show o + sh + n = o + n + sh from by omega]

/-! ### integers, strings -/
theorem bits_ok {op : BinOp} {k : IntKind} {a b : Int} {x : AV} (h : bitsI op k a b = some x) (ho : op = .and ∨ op = .or ∨ op = .xor ∨ op = .andNot) :
    Gives P r w (Op.intBits op k a b) x := by
  unfold bitsI at h
  rcases ho with rfl | rfl | rfl | rfl <;> (simp only [mkInt_eq] at h; injection h with h; subst h; exact ⟨_, rfl, .int _ _⟩)
theorem shift_ok {op : BinOp} {k yk : IntKind} {a b : Int} {x : AV} (h : bitsI op k a b = some x) (ho : op = .shl ∨ op = .shr) :
    Gives P r w (Op.shift op k a yk b) x := by
  unfold bitsI at h
  unfold Op.shift
  rcases ho with rfl | rfl
  · simp only at h
    split at h
    · simp at h
    · rename_i hb
      rw [mkInt_eq] at h; injection h with h; subst h
      rw [if_neg hb]; exact ⟨_, rfl, .int _ _⟩
  · simp only at h
    split at h
    · simp at h
    · rename_i hb
      rw [mkInt_eq] at h; injection h with h; subst h
      rw [if_neg hb]; exact ⟨_, rfl, .int _ _⟩
theorem cmp_ok {op : BinOp} {a b : Int} {x : AV} (h : cmpI op a b = some x) : Gives P r w (Op.intCmp op a b) x := by
  unfold cmpI at h
  split at h <;> first
    | (simp only [mkBool_eq, eqI_eq, ltI_eq, leI_eq] at h; injection h with h; subst h; exact ⟨_, rfl, .bool _⟩)
    | (simp at h)
theorem arith_ok {op : BinOp} {k : IntKind} {a b : Int} {x : AV} (h : arithI op k a b = some x) :
    (op = .add ∨ op = .sub ∨ op = .mul → Gives P r w (Op.intArith op k a b) x) ∧ (op = .quo ∨ op = .rem → Gives P r w (Op.intDiv op k a b) x) := by
  unfold arithI at h
  split at h
  · simp only [mkInt_eq, wrapQ_eq] at h; injection h with h; subst h; exact ⟨fun _ => ⟨_, rfl, .int _ _⟩, by simp⟩
  · simp only [mkInt_eq, wrapQ_eq] at h; injection h with h; subst h; exact ⟨fun _ => ⟨_, rfl, .int _ _⟩, by simp⟩
  · simp only [mkInt_eq, wrapQ_eq] at h; injection h with h; subst h; exact ⟨fun _ => ⟨_, rfl, .int _ _⟩, by simp⟩
  · split at h
    · simp at h
    · rename_i hb
      simp only [mkInt_eq, wrapQ_eq] at h; injection h with h; subst h
      refine ⟨by simp, fun _ => ?_⟩
      unfold Op.intDiv; rw [if_neg hb]; exact ⟨_, rfl, .int _ _⟩
  · split at h
    · simp at h
    · rename_i hb
      simp only [mkInt_eq] at h; injection h with h; subst h
      refine ⟨by simp, fun _ => ?_⟩
      unfold Op.intDiv; rw [if_neg hb]; exact ⟨_, rfl, .int _ _⟩
  · simp at h
theorem size_eq (a : ByteArray) : a.size = a.data.toList.length := by show a.data.size = _; rw [Array.length_toList]
theorem data_app (a b : ByteArray) : (a ++ b).data.toList = a.data.toList ++ b.data.toList := by rw [ByteArray.data_append, Array.toList_append]
theorem str_ok {op : BinOp} {a b : ByteArray} {x : AV} (h : strOp op a.data.toList b.data.toList = some x) : Gives P r w (Op.stringOp op a b) x := by
  have ha : a.toList = a.data.toList := ByteArray.toList_eq a
  have hb : b.toList = b.data.toList := ByteArray.toList_eq b
  have leq : ∀ x y : List UInt8, (!(Op.bytesLess y x)) = (Op.bytesLess x y || x == y) := by
    intro x
    induction x with
    | nil => intro y; cases y <;> rfl
    | cons c x ih =>
      intro y
      cases y with
      | nil => rfl
      | cons d y =>
        have i := ih y
        unfold Op.bytesLess
        by_cases e : c = d
        · subst e
          have irr : ¬ c < c := fun h => by have := UInt8.lt_iff_toNat_lt.1 h; omega
          simp [irr, i]
        · have h1 : (c == d) = false := by simp [e]
          have h2 : (d == c) = false := by simp [Ne.symm e]
          have h3 : (c :: x == d :: y) = false := by simp [e]
          rw [h1, h2, h3]
          by_cases q : d < c
          · have : ¬ c < d := fun h => by have a := UInt8.lt_iff_toNat_lt.1 h; have b := UInt8.lt_iff_toNat_lt.1 q; omega
            simp [q, this]
          · have : c < d := by
              refine UInt8.lt_iff_toNat_lt.2 ?_
              have : c.toNat ≠ d.toNat := fun h => e (UInt8.toNat_inj.1 h)
              have : ¬ d.toNat < c.toNat := fun h => q (UInt8.lt_iff_toNat_lt.2 h)
              omega
            simp [q, this]
  unfold strOp at h
  unfold Op.stringOp
  rw [ha, hb]
  split at h
  · obtain ⟨hl, h⟩ := bif_some h
    injection h with h; subst h
    have hl := ble_iff.1 hl
    have hle : ¬ (((a.size + b.size : Nat) : Int) > IntKind.i64.max) := by
      rw [size_eq, size_eq]
      have : IntKind.i64.max = 9223372036854775807 := by decide
      rw [this]
      have : a.data.toList.length + b.data.toList.length ≤ 9223372036854775807 := hl
      omega
    simp only [if_neg hle]
    exact ⟨_, rfl, by rw [← data_app]; exact .str _⟩
  · simp only [mkBool_eq, eqStr_eq] at h; injection h with h; subst h; exact ⟨_, rfl, .bool _⟩
  · simp only [mkBool_eq, eqStr_eq] at h; injection h with h; subst h; exact ⟨_, rfl, .bool _⟩
  · simp only [mkBool_eq, ltStr_eq] at h; injection h with h; subst h; exact ⟨_, rfl, .bool _⟩
  · simp only [mkBool_eq, ltStr_eq] at h; injection h with h; subst h; exact ⟨_, rfl, by rw [leq]; exact .bool _⟩
  · simp only [mkBool_eq, ltStr_eq] at h; injection h with h; subst h
    refine ⟨_, rfl, ?_⟩
    have := leq a.data.toList b.data.toList
    rw [← this, Bool.not_not]; exact .bool _
  · simp only [mkBool_eq, ltStr_eq] at h; injection h with h; subst h; exact ⟨_, rfl, .bool _⟩
  · simp at h

/-! ### the binary operations on numbers and texts -/
theorem bin_ok {op : BinOp} {t : TypeId} {x y : AV} {a b : Value} {z : AV} (hx : VR r x a) (hy : VR r y b) (h : binAV op x y = some z) : Gives P r w (binOp op t a b) z := by
  unfold binAV at h
  split at h
  · rename_i k n
    have ha := hx.inv_int; subst ha
    split at h
    · rename_i k' m
      have hb := hy.inv_int; subst hb
      split at h
      · simp only [binOp]; exact shift_ok h (.inl rfl)
      · simp only [binOp]; exact shift_ok h (.inr rfl)
      · rename_i op' n1 n2
        split at h
        · rename_i hk
          subst hk
          unfold intOp at h
          cases op <;> first | exact absurd rfl n1 | exact absurd rfl n2 | skip
          all_goals simp only [bkOf] at h
          all_goals simp only [binOp, ne_eq, not_true_eq_false, if_false]
          all_goals first
            | exact (arith_ok h).1 (by simp)
            | exact (arith_ok h).2 (by simp)
            | exact bits_ok h (by simp)
            | exact cmp_ok h
            | (simp at h)
        · simp at h
    · simp at h
  · obtain ⟨sa, rfl, rfl⟩ := hx.inv_str
    split at h
    · obtain ⟨sb, rfl, rfl⟩ := hy.inv_str
      have := str_ok (P := P) (r := r) (w := w) h
      cases op <;> simp only [binOp] <;> first | exact this | (simp [strOp] at h)
    · simp at h
  · simp at h
/-! ### comparisons -/
theorem fk_kind {t : TypeId} {k : FK} (h : fkOf P t = some k) : ∃ i d, P.info? t = some i ∧ P.underlying t = some d ∧ i.size = 1 ∧
    (match k with | .bool => d = .bool | .int => ∃ j, d = .int j | .str => d = .string) := by
  unfold fkOf at h
  split at h
  · rename_i i d hi hd
    cases hb : Nat.beq i.size 1 with
    | false => rw [hb] at h; simp at h
    | true =>
      rw [hb] at h
      have hs := beq_iff.1 hb
      refine ⟨i, d, hi, hd, hs, ?_⟩
      cases d <;> simp at h <;> subst h <;> simp
  · simp at h
theorem fk_equal {t : TypeId} {k : FK} (h : fkOf P t = some k) {x y : AV} {a b : Value} (hx : VR r x a) (hy : VR r y b) {c : Bool} (e : eqFK k x y = some c) (n : Nat) :
    (Op.equalIn (n + 1) t a b).run P w = .ok c w := by
  obtain ⟨i, d, _, hd, _, hk⟩ := fk_kind h
  unfold eqFK at e
  cases k with
  | bool =>
    simp only at e hk; subst hk
    split at e
    · rename_i p q
      have ha := hx.inv_bool; have hb := hy.inv_bool; subst ha; subst hb
      injection e with e; subst e
      exact run_equalIn_bool' w n t _ _ hd
    · simp at e
  | int =>
    simp only at e hk; obtain ⟨j, rfl⟩ := hk
    split at e
    · have ha := hx.inv_int; have hb := hy.inv_int; subst ha; subst hb
      split at e
      · rename_i hkk
        subst hkk
        injection e with e; subst e
        rw [eqI_eq]
        exact run_equalIn_int w n t _ j _ _ hd
      · simp at e
    · simp at e
  | str =>
    simp only at e hk; subst hk
    split at e
    · obtain ⟨sa, rfl, rfl⟩ := hx.inv_str
      obtain ⟨sb, rfl, rfl⟩ := hy.inv_str
      injection e with e; subst e
      rw [eqStr_eq, ← ByteArray.toList_eq, ← ByteArray.toList_eq]
      exact run_equalIn_string w n t _ _ hd
    · simp at e
theorem fk_notAgg {t : TypeId} {k : FK} (h : fkOf P t = some k) : (isAgg t).run P w = .ok false w := by
  obtain ⟨i, d, _, hd, _, hk⟩ := fk_kind h
  rw [run_isAgg hd]
  cases k <;> simp only at hk
  · subst hk; rfl
  · obtain ⟨j, rfl⟩ := hk; rfl
  · subst hk; rfl
theorem nthV_get {xs : List AV} {vs : Array Value} (h : VRs r xs vs.toList) (o : Nat) (hb : nthV xs o ≠ .bot) : ∃ v, vs[o]? = some v ∧ VR r (nthV xs o) v := by
  have key : ∀ (xs : List AV) (l : List Value) (o : Nat), VRs r xs l → nthV xs o ≠ .bot → ∃ v, l[o]? = some v ∧ VR r (nthV xs o) v := by
    intro xs
    induction xs with
    | nil => intro l o _ hb; exact absurd rfl hb
    | cons x xs ih =>
      intro l o h hb
      cases h with
      | cons _ _ v vs h hs =>
        cases o with
        | zero => exact ⟨v, rfl, h⟩
        | succ o => exact ih vs o hs hb
  obtain ⟨v, hv, hr⟩ := key xs vs.toList o h hb
  exact ⟨v, by simpa using hv, hr⟩
theorem eqFK_notBot {k : FK} {x y : AV} {c : Bool} (e : eqFK k x y = some c) : x ≠ .bot ∧ y ≠ .bot := by
  constructor
  · rintro rfl; cases k <;> simp [eqFK] at e
  · rintro rfl; cases k <;> cases x <;> simp [eqFK] at e
theorem eqAggs_ok {xs ys : List AV} {as bs : Array Value} (hx : VRs r xs as.toList) (hy : VRs r ys bs.toList) (n : Nat) :
    ∀ (fs : List Field) (pl : List (Nat × FK)) (c : Bool), planFields P fs = some pl → eqAggs pl xs ys = some c → (Op.eqFields (n + 1) as bs fs).run P w = .ok c w
  | [], pl, c, hp, e => by
    simp [planFields] at hp; subst hp
    simp [eqAggs] at e; subst e
    rfl
  | f :: fs, pl, c, hp, e => by
    unfold planFields at hp
    split at hp
    case h_2 => simp at hp
    rename_i k l hk hl
    cases hn : (f.name == "_") with
    | true => rw [hn] at hp; simp at hp
    | false =>
      rw [hn] at hp
      simp at hp; subst hp
      have hne : f.name ≠ "_" := by intro h; rw [h] at hn; exact absurd hn (by decide)
      simp only [eqAggs] at e
      have ih := eqAggs_ok hx hy n fs l
      simp only [Op.eqFields, if_pos hne, Sem.run_bind]
      have hpart : ∀ (zs : List AV) (vs : Array Value), VRs r zs vs.toList → nthV zs f.offset ≠ .bot → ∃ v, (part f.type vs f.offset).run P w = .ok v w ∧ VR r (nthV zs f.offset) v := by
        intro zs vs hz hb
        obtain ⟨v, hv, hr⟩ := nthV_get hz f.offset hb
        refine ⟨v, ?_, hr⟩
        unfold part
        rw [Sem.run_bind, fk_notAgg hk]
        simp [hv]
      cases he : eqFK k (nthV xs f.offset) (nthV ys f.offset) with
      | none => rw [he] at e; simp at e
      | some b =>
        rw [he] at e
        obtain ⟨hb1, hb2⟩ := eqFK_notBot he
        obtain ⟨va, ha1, ha2⟩ := hpart xs as hx hb1
        obtain ⟨vb, hb1, hb2⟩ := hpart ys bs hy hb2
        rw [ha1]; simp only [Result.andThen_ok]
        rw [hb1]; simp only [Result.andThen_ok]
        rw [fk_equal hk ha2 hb2 he n]; simp only [Result.andThen_ok]
        cases b with
        | true =>
          simp only [Bool.not_true, Bool.false_eq_true, if_false]
          exact ih c hl e
        | false =>
          simp at e; subst e
          rfl

theorem run_equal {t : TypeId} {a b : Value} {c : Bool} (h : (Op.equalIn 10000 t a b).run P w = .ok c w) : (Op.equal t a b).run P w = .ok c w := h
def eqlSem (op : BinOp) (t : TypeId) (a b : Value) : Sem Value := match op with
  | .eql => do pure (.bool (← Op.equal t a b))
  | _ => do pure (.bool (!(← Op.equal t a b)))
/-- an operation '==' or '!=' out of what 'equal' comes to -/
theorem eql_of {op : BinOp} {neg : Bool} (ho : op = .eql ∧ neg = false ∨ op = .neq ∧ neg = true) {t : TypeId} {a b : Value} {c : Bool}
    (hbin : binOp op t a b = eqlSem op t a b) (h : (Op.equal t a b).run P w = .ok c w) :
    Gives P r w (binOp op t a b) (.bool (xor neg c)) := by
  refine ⟨.bool (xor neg c), ?_, .bool _⟩
  rw [hbin]
  rcases ho with ⟨rfl, rfl⟩ | ⟨rfl, rfl⟩
  · simp only [eqlSem, Sem.run_bind, h, Result.andThen_ok, Sem.run_pure]; cases c <;> rfl
  · simp only [eqlSem, Sem.run_bind, h, Result.andThen_ok, Sem.run_pure]; cases c <;> rfl
theorem _root_.Go.AM.VR.inv_slice {b o n : Nat} {c : Option Nat} {v : Value} (h : VR r (.slice b o n c) v) : ∃ a n m, v = .slice a n m := by
  cases h <;> exact ⟨_, _, _, rfl⟩
theorem sameAddr_self (a b : Addr) (h : a.block = b.block) : (sameAddr a b).run P w = .ok (a == b) w := by
  unfold sameAddr
  simp [h]
theorem equal_ptr {t e : TypeId} {i : TypeInfo} (hu : P.underlying t = some (.pointer e)) (hi : P.info? e = some i) (hz : i.size ≠ 0) {x y : AV} {a b : Value} (hx : VR r x a) (hy : VR r y b) {c : Bool} (h : eqPtr x y = some c) :
    (Op.equalIn 10000 t a b).run P w = .ok c w := by
  unfold eqPtr at h
  split at h
  · have := hx.inv_nilp; have := hy.inv_nilp; subst_vars; injection h with h; subst h; rw [Op.equalIn]; simp [run_und hu]
  · obtain ⟨l, _, rfl⟩ := hy.inv_ptr; have := hx.inv_nilp; subst_vars; injection h with h; subst h; rw [Op.equalIn]; simp [run_und hu]
  · obtain ⟨l, _, rfl⟩ := hx.inv_ptr; have := hy.inv_nilp; subst_vars; injection h with h; subst h; rw [Op.equalIn]; simp [run_und hu]
  · rename_i b1 o1 b2 o2
    obtain ⟨l1, h1, rfl⟩ := hx.inv_ptr
    obtain ⟨l2, h2, rfl⟩ := hy.inv_ptr
    obtain ⟨hb, h⟩ := bif_some h
    injection h with h; subst h
    have hb := beq_iff.1 hb
    subst hb
    rw [h1] at h2; injection h2 with h2; subst h2
    have hs := sameAddr_self (P := P) (w := w) ⟨l1.blk, o1 + l1.sh, none⟩ ⟨l1.blk, o2 + l1.sh, none⟩ rfl
    rw [Op.equalIn]
    simp only [Sem.run_bind, run_und hu, Result.andThen_ok, run_size hi]
    rw [if_pos (by simpa using hz), hs]
    congr 1
    rw [Bool.eq_iff_iff, beq_iff]
    simp
  · simp at h
theorem equal_slice {t e : TypeId} (hu : P.underlying t = some (.slice e)) {x y : AV} {a b : Value} (hx : VR r x a) (hy : VR r y b) {c : Bool} (h : eqSl x y = some c) :
    (Op.equalIn 10000 t a b).run P w = .ok c w := by
  unfold eqSl at h
  split at h
  · have := hx.inv_nils; have := hy.inv_nils; subst_vars; injection h with h; subst h; rw [Op.equalIn]; simp [run_und hu]
  · have := hx.inv_nils; subst_vars; injection h with h; subst h; cases hy <;> (rw [Op.equalIn]; simp [run_und hu])
  · have := hy.inv_nils; subst_vars; injection h with h; subst h; cases hx <;> (rw [Op.equalIn]; simp [run_und hu])
  · simp at h
theorem equal_map {t k e : TypeId} (hu : P.underlying t = some (.map k e)) {x y : AV} {a b : Value} (hx : VR r x a) (hy : VR r y b) {c : Bool} (h : eqMp x y = some c) :
    (Op.equalIn 10000 t a b).run P w = .ok c w := by
  unfold eqMp at h
  split at h
  · have := hx.inv_nilm; have := hy.inv_nilm; subst_vars; injection h with h; subst h; rw [Op.equalIn]; simp [run_und hu]
  · have := hx.inv_nilm; subst_vars; injection h with h; subst h; cases hy; rw [Op.equalIn]; simp [run_und hu]
  · have := hy.inv_nilm; subst_vars; injection h with h; subst h; cases hx; rw [Op.equalIn]; simp [run_und hu]
  · simp at h
theorem equal_func {t : TypeId} {p q : Array TypeId} {v : Bool} (hu : P.underlying t = some (.func p q v)) {x y : AV} {a b : Value} (hx : VR r x a) (hy : VR r y b) {c : Bool} (h : eqFn x y = some c) :
    (Op.equalIn 10000 t a b).run P w = .ok c w := by
  unfold eqFn at h
  split at h
  · have := hx.inv_nilf; have := hy.inv_nilf; subst_vars; injection h with h; subst h; rw [Op.equalIn]; simp [run_und hu]
  · have := hx.inv_nilf; subst_vars; injection h with h; subst h; obtain ⟨g, ys, ds, rfl, _⟩ := hy.inv_func; rw [Op.equalIn]; simp [run_und hu]
  · have := hy.inv_nilf; subst_vars; injection h with h; subst h; obtain ⟨g, ys, ds, rfl, _⟩ := hx.inv_func; rw [Op.equalIn]; simp [run_und hu]
  · simp at h
theorem equal_iface {t : TypeId} {ms : Array (String × TypeId)} (hu : P.underlying t = some (.interface ms)) {both : Bool} {x y : AV} {a b : Value} (hx : VR r x a) (hy : VR r y b) {c : Bool} (h : eqIface both x y = some c) :
    (Op.equalIn 10000 t a b).run P w = .ok c w := by
  unfold eqIface at h
  split at h
  · have := hx.inv_nili; have := hy.inv_nili; subst_vars; obtain ⟨_, h⟩ := bif_some h; injection h with h; subst h; rw [Op.equalIn]; simp [run_und hu]
  · have := hx.inv_nili; subst_vars; injection h with h; subst h; obtain ⟨u, rfl, _⟩ := hy.inv_iface; rw [Op.equalIn]; simp [run_und hu]
  · have := hy.inv_nili; subst_vars; injection h with h; subst h; obtain ⟨u, rfl, _⟩ := hx.inv_iface; rw [Op.equalIn]; simp [run_und hu]
  · rename_i tx _ ty _
    obtain ⟨u, rfl, _⟩ := hx.inv_iface
    obtain ⟨u', rfl, _⟩ := hy.inv_iface
    cases hb : Nat.beq tx ty with
    | true => rw [hb] at h; simp at h
    | false =>
      rw [hb] at h; simp at h; subst h
      have hne : tx ≠ ty := fun e => by rw [beq_iff.2 e] at hb; exact absurd hb (by simp)
      rw [Op.equalIn]; simp [run_und hu, hne]
  · simp at h

theorem eqAV_some {neg : Bool} {x : Option Bool} {z : AV} (h : eqAV neg x = some z) : ∃ c, x = some c ∧ z = .bool (xor neg c) := by
  unfold eqAV at h
  split at h
  · rename_i b; rw [mkBool_eq] at h; injection h with h; exact ⟨b, rfl, h.symm⟩
  · simp at h
/-- no guard stands in the way -/
theorem run_guardIn {t : TypeId} {ms : Array (String × TypeId)} (hu : P.underlying t = some (.interface ms)) (hm : ms.isEmpty = true) : (Op.eqGuardIn Op.maxDepth t .nilIface .nilIface).run P w = .ok false w := by
  show (Op.eqGuardIn (9999 + 1) t .nilIface .nilIface).run P w = _
  unfold Op.eqGuardIn
  simp only [Sem.run_bind, run_und hu, Result.andThen_ok, hm]
  rfl
theorem guard_eq {op : BinOp} (t : TypeId) (x y : Operand) (a b : Value) (w : World) (ho : op = .eql ∨ op = .neq) (ha : ∀ xs, a ≠ .agg xs)
    (hn : a = .nilIface → b = .nilIface → (isConstO x || isConstO y) = true ∨ ∃ ms : Array (String × TypeId), P.underlying t = some (.interface ms) ∧ ms.isEmpty = true) :
    (eqGuard op t x y a b).run P w = .ok () w := by
  have nn : (eqGuard op t x y .nilIface .nilIface).run P w = .ok () w ∨ ¬ (a = .nilIface ∧ b = .nilIface) := by
    by_cases hab : a = .nilIface ∧ b = .nilIface
    · left
      rcases hn hab.1 hab.2 with h | ⟨ms, hu, hm⟩
      · rcases ho with rfl | rfl <;> cases x <;> cases y <;> first | rfl | (simp [isConstO] at h)
      · have g := run_guardIn (P := P) (w := w) hu hm
        have e : ((do if ← Op.eqGuardIn Op.maxDepth t .nilIface .nilIface then unsupported (.noEntry "binop/eql: two nil values of an interface type with methods, neither of them the literal nil")) : Sem Unit).run P w = .ok () w := by
          rw [Sem.run_bind, g]; rfl
        rcases ho with rfl | rfl <;> cases x <;> cases y <;> first | rfl | exact e
    · exact .inr hab
  rcases nn with h | h
  · by_cases hab : a = .nilIface ∧ b = .nilIface
    · rw [hab.1, hab.2]; exact h
    · rcases ho with rfl | rfl <;> cases a <;> cases b <;> first | rfl | exact absurd rfl (ha _) | exact absurd ⟨rfl, rfl⟩ hab
  · rcases ho with rfl | rfl <;> cases a <;> cases b <;> first | rfl | exact absurd rfl (ha _) | exact absurd ⟨rfl, rfl⟩ h
end pure
end Go.AM
namespace Go.AM
open Go
variable [Env]
section
variable {P : Program} {r : Rho} {w : World} {t : TM} {ρ : Operand → Value}

theorem Gives.bind_unit {s : Sem Unit} {f : Sem Value} {x : AV} (h1 : s.run P w = .ok () w) (h2 : Gives P r w f x) : Gives P r w (do s; f) x := by
  obtain ⟨v, hv, hr⟩ := h2
  exact ⟨v, by rw [Sem.run_bind, h1]; exact hv, hr⟩

theorem binAV_shape {op : BinOp} {x y z : AV} (h : binAV op x y = some z) : (∃ k n, x = .int k n) ∨ (∃ s, x = .str s) := by
  unfold binAV at h
  split at h
  · exact .inl ⟨_, _, rfl⟩
  · exact .inr ⟨_, rfl⟩
  · simp at h

theorem num_ok (hE : EnvR r t ρ) {op : BinOp} {ty : TypeId} {x y : Operand} {z : AV} (h : binAV op (evO t (opd x)) (evO t (opd y)) = some z) :
    Gives P r w (do eqGuard op ty x y (ρ x) (ρ y); binOp op ty (ρ x) (ρ y)) z := by
  refine Gives.bind_unit ?_ (bin_ok (hE x) (hE y) h)
  have hx := hE x
  have hsh : (∀ xs, ρ x ≠ .agg xs) ∧ ρ x ≠ .nilIface := by
    rcases binAV_shape h with ⟨k, n, e⟩ | ⟨s, e⟩
    · rw [e] at hx; have := hx.inv_int; rw [this]; simp
    · rw [e] at hx; obtain ⟨b, hb, _⟩ := hx.inv_str; rw [hb]; simp
  by_cases ho : op = .eql ∨ op = .neq
  · exact guard_eq ty x y _ _ w ho hsh.1 (fun h _ => absurd h hsh.2)
  · cases op <;> first | rfl | (simp at ho)

/-- '==' and '!=' of values that are no numbers and no texts -/
theorem eq_ok (hE : EnvR r t ρ) {op : BinOp} {neg : Bool} (ho : op = .eql ∧ neg = false ∨ op = .neq ∧ neg = true) {ty : TypeId} {x y : Operand} {p : P2} {z : AV}
    (hc : cEq P op neg ty (isConstO x || isConstO y) (opd x) (opd y) = .p2 p) (h : doP2 t p = some z) :
    Gives P r w (do eqGuard op ty x y (ρ x) (ρ y); binOp op ty (ρ x) (ρ y)) z := by
  have ho' : op = .eql ∨ op = .neq := by rcases ho with ⟨h, _⟩ | ⟨h, _⟩ <;> simp [h]
  unfold cEq at hc
  obtain ⟨d, hd, hc⟩ := withU_eq hc (by simp)
  have fin : ∀ {k : EK}, p = .eq neg k (opd x) (opd y) → (∀ c, eqEK k (evO t (opd x)) (evO t (opd y)) = some c →
      (Op.equalIn 10000 ty (ρ x) (ρ y)).run P w = .ok c w ∧ (eqGuard op ty x y (ρ x) (ρ y)).run P w = .ok () w ∧
      binOp op ty (ρ x) (ρ y) = eqlSem op ty (ρ x) (ρ y)) →
      Gives P r w (do eqGuard op ty x y (ρ x) (ρ y); binOp op ty (ρ x) (ρ y)) z := by
    intro k hp hk
    subst hp
    have h : eqAV neg (eqEK k (evO t (opd x)) (evO t (opd y))) = some z := h
    obtain ⟨c, hc1, rfl⟩ := eqAV_some h
    obtain ⟨h1, h2, h3⟩ := hk c hc1
    exact Gives.bind_unit h2 (eql_of ho h3 h1)
  have hx := hE x
  have hy := hE y
  cases d with
  | bool =>
    simp at hc
    refine fin hc.symm fun c e => ?_
    simp only [eqEK, eqFK] at e
    split at e
    · rename_i p' q' hp' hq'
      rw [hp'] at hx; rw [hq'] at hy
      have h1 := hx.inv_bool; have h2 := hy.inv_bool
      injection e with e; subst e
      rw [h1, h2]
      refine ⟨run_equalIn_bool' w 9999 ty _ _ hd, guard_eq ty x y _ _ w ho' (by simp) (by simp), ?_⟩
      rcases ho' with rfl | rfl <;> rfl
    · simp at e
  | pointer e =>
    obtain ⟨i, hi, hc⟩ := withT_eq hc (by simp)
    cases hz : Nat.beq i.size 0 with
    | true => rw [hz] at hc; simp at hc
    | false =>
      rw [hz] at hc; simp at hc
      have hz' : i.size ≠ 0 := fun e => by rw [beq_iff.2 e] at hz; exact absurd hz (by simp)
      refine fin hc.symm fun c e => ?_
      have e : eqPtr _ _ = some c := e
      refine ⟨equal_ptr hd hi hz' hx hy e, ?_, ?_⟩
      all_goals
        unfold eqPtr at e
        split at e
        all_goals rename_i h1 h2
        all_goals try (simp at e; done)
        all_goals rw [h1] at hx
        all_goals rw [h2] at hy
      · rw [hx.inv_nilp]; exact guard_eq ty x y _ _ w ho' (by simp) (by simp)
      · rw [hx.inv_nilp]; exact guard_eq ty x y _ _ w ho' (by simp) (by simp)
      · obtain ⟨l, _, q⟩ := hx.inv_ptr; rw [q]; exact guard_eq ty x y _ _ w ho' (by simp) (by simp)
      · obtain ⟨l, _, q⟩ := hx.inv_ptr; rw [q]; exact guard_eq ty x y _ _ w ho' (by simp) (by simp)
      · rw [hx.inv_nilp, hy.inv_nilp]; rcases ho' with rfl | rfl <;> rfl
      · obtain ⟨l, _, q⟩ := hy.inv_ptr; rw [hx.inv_nilp, q]; rcases ho' with rfl | rfl <;> rfl
      · obtain ⟨l, _, q⟩ := hx.inv_ptr; rw [hy.inv_nilp, q]; rcases ho' with rfl | rfl <;> rfl
      · obtain ⟨l, _, q⟩ := hx.inv_ptr; obtain ⟨l', _, q'⟩ := hy.inv_ptr; rw [q, q']; rcases ho' with rfl | rfl <;> rfl
  | slice e =>
    simp at hc
    refine fin hc.symm fun c e => ?_
    have e : eqSl _ _ = some c := e
    have sl : ∃ a n m, ρ x = .slice a n m := by
      unfold eqSl at e
      split at e
      all_goals rename_i h1 h2
      all_goals try (simp at e; done)
      all_goals rw [h1] at hx
      · exact ⟨_, _, _, hx.inv_nils⟩
      · exact ⟨_, _, _, hx.inv_nils⟩
      · exact hx.inv_slice
    refine ⟨equal_slice hd hx hy e, ?_, ?_⟩
    · obtain ⟨a, n, m, q⟩ := sl; rw [q]; exact guard_eq ty x y _ _ w ho' (by simp) (by simp)
    · obtain ⟨a, n, m, q⟩ := sl; rw [q]; rcases ho' with rfl | rfl <;> (simp only [binOp, eqlSem])
  | map k e =>
    simp at hc
    refine fin hc.symm fun c e => ?_
    have e : eqMp _ _ = some c := e
    have sl : ∃ a, ρ x = .map a := by
      unfold eqMp at e
      split at e
      all_goals rename_i h1 h2
      all_goals try (simp at e; done)
      all_goals rw [h1] at hx
      · exact ⟨_, hx.inv_nilm⟩
      · exact ⟨_, hx.inv_nilm⟩
      · obtain ⟨l, _, q⟩ := hx.inv_map; exact ⟨_, q⟩
    refine ⟨equal_map hd hx hy e, ?_, ?_⟩
    · obtain ⟨a, q⟩ := sl; rw [q]; exact guard_eq ty x y _ _ w ho' (by simp) (by simp)
    · obtain ⟨a, q⟩ := sl; rw [q]; rcases ho' with rfl | rfl <;> (simp only [binOp, eqlSem])
  | func p' q' v =>
    simp at hc
    refine fin hc.symm fun c e => ?_
    have e : eqFn _ _ = some c := e
    have sl : ρ x = .nilFunc ∨ ∃ f a b, ρ x = .func f a b := by
      unfold eqFn at e
      split at e
      all_goals rename_i h1 h2
      all_goals try (simp at e; done)
      all_goals rw [h1] at hx
      · exact .inl hx.inv_nilf
      · exact .inl hx.inv_nilf
      · obtain ⟨g, a, b, q, _⟩ := hx.inv_func; exact .inr ⟨_, _, _, q⟩
    refine ⟨equal_func hd hx hy e, ?_, ?_⟩
    · rcases sl with q | ⟨f, a, b, q⟩ <;> (rw [q]; exact guard_eq ty x y _ _ w ho' (by simp) (by simp))
    · rcases sl with q | ⟨f, a, b, q⟩ <;> (rw [q]; rcases ho' with rfl | rfl <;> (simp only [binOp, eqlSem]))
  | interface ms =>
    simp at hc
    refine fin hc.symm fun c e => ?_
    have e : eqIface _ _ _ = some c := e
    have sl : (ρ x = .nilIface ∨ ∃ f a, ρ x = .iface f a) := by
      unfold eqIface at e
      split at e
      all_goals rename_i h1 h2
      all_goals try (simp at e; done)
      all_goals rw [h1] at hx
      · exact .inl hx.inv_nili
      · exact .inl hx.inv_nili
      · obtain ⟨g, q, _⟩ := hx.inv_iface; exact .inr ⟨_, _, q⟩
      · obtain ⟨g, q, _⟩ := hx.inv_iface; exact .inr ⟨_, _, q⟩
    refine ⟨equal_iface hd hx hy e, ?_, ?_⟩
    · refine guard_eq ty x y _ _ w ho' (by rcases sl with q | ⟨f, a, q⟩ <;> (rw [q]; simp)) ?_
      intro hxn hyn
      -- both nil: then the plan lets it
      unfold eqIface at e
      split at e
      · obtain ⟨hb, _⟩ := bif_some e
        cases hq : (isConstO x || isConstO y) with
        | true => exact .inl rfl
        | false =>
          right
          refine ⟨ms, hd, ?_⟩
          simp only [Bool.or_eq_false_iff] at hq
          simpa [hq.1, hq.2] using hb
      all_goals rename_i h1 h2
      · rw [h2] at hy; obtain ⟨g, q, _⟩ := hy.inv_iface; rw [q] at hyn; simp at hyn
      · rw [h1] at hx; obtain ⟨g, q, _⟩ := hx.inv_iface; rw [q] at hxn; simp at hxn
      · rw [h1] at hx; obtain ⟨g, q, _⟩ := hx.inv_iface; rw [q] at hxn; simp at hxn
      · simp at e
    · rcases sl with q | ⟨f, a, q⟩ <;> (rw [q]; rcases ho' with rfl | rfl <;> (simp only [binOp, eqlSem]))
  | struct fs =>
    simp only at hc
    cases hg : (P.eqGuardType P.depth ty || P.stoodInHeld ty) with
    | true => rw [hg] at hc; simp at hc
    | false =>
      rw [hg] at hc
      simp only [cond_false] at hc
      simp only [Bool.or_eq_false_iff] at hg
      split at hc
      · rename_i l hl
        simp at hc
        refine fin hc.symm fun c e => ?_
        simp only [eqEK] at e
        split at e
        · rename_i xs ys h1 h2
          rw [h1] at hx; rw [h2] at hy
          obtain ⟨as, ha, hxs⟩ := hx.inv_agg
          obtain ⟨bs, hb, hys⟩ := hy.inv_agg
          rw [ha, hb]
          have hfo : P.fieldsOf ty = fs := by simp [Program.fieldsOf, hd]
          refine ⟨?_, run_eqGuard_agg w op ty x y as bs hg.1, ?_⟩
          · rw [run_equalIn_agg w 9999 ty as bs (by rw [hfo]; exact hd) hg.2, hfo]
            exact eqAggs_ok hxs hys 9998 fs.toList l c hl e
          · rcases ho' with rfl | rfl <;> (simp only [binOp, eqlSem])
        · simp at e
      · simp at hc
  | _ => simp at hc
end
end Go.AM
namespace Go.AM
open Go
variable [Env]
section
variable {P : Program} {r : Rho} {w : World} {t : TM} {ρ : Operand → Value}

theorem pick_ok {c a b z : AV} {vc va vb : Value} (hc : VR r c vc) (ha : VR r a va) (hb : VR r b vb) (h : pickAV c a b = some z) :
    Gives P r w (do pure (if ← asBool vc then va else vb)) z := by
  unfold pickAV at h
  split at h
  · rw [hc.inv_bool]; injection h with h; subst h; exact ⟨va, rfl, ha⟩
  · rw [hc.inv_bool]; injection h with h; subst h; exact ⟨vb, rfl, hb⟩
  · simp at h

theorem fieldAddr_ok {s : TypeId} {f : Nat} {x : AOpd} {a z : AV} {va : Value} (ha : VR r a va) {off : Nat} (hc : cFieldAddr P s x f = .p1 (.fieldAddr off x)) (h : fieldAddrAV off a = some z) :
    Gives P r w (Instr.fieldAt s va f) z := by
  unfold cFieldAddr at hc
  obtain ⟨d, hd, hc⟩ := withU_eq hc (by simp)
  cases d <;> simp only at hc <;> try (simp at hc; done)
  rename_i fs
  split at hc
  · rename_i fd hf
    obtain ⟨i, hi, hc⟩ := withT_eq hc (by simp)
    cases hz : Nat.beq i.size 0 with
    | true => rw [hz] at hc; simp at hc
    | false =>
      rw [hz] at hc; simp at hc
      have hz' : i.size ≠ 0 := fun e => by rw [beq_iff.2 e] at hz; exact absurd hz (by simp)
      unfold fieldAddrAV at h
      split at h
      · rename_i b o
        obtain ⟨l, hl, rfl⟩ := ha.inv_ptr
        injection h with h; subst h
        refine ⟨.pointer (some ⟨l.blk, o + off + l.sh, none⟩), ?_, .ptr _ _ _ hl⟩
        unfold Instr.fieldAt
        simp only [Sem.run_bind, run_und hd, Result.andThen_ok, hf, run_sureAddr, fieldPlace, run_size hi]
        rw [if_neg hz']
        simp only [Sem.run_pure, Result.andThen_ok]
        rw [add_off, hc]
      · simp at h
  · simp at hc

theorem extract_ok {x z : AV} {v : Value} {i : Nat} (hx : VR r x v) (h : extractAV x i = some z) : Gives P r w (Instr.extract v i) z := by
  unfold extractAV at h
  split at h
  · obtain ⟨vs, rfl, hvs⟩ := hx.inv_tup
    rename_i xs
    have key : ∀ (xs : List AV) (i : Nat) (z : AV), nth' xs i = some z → xs[i]? = some z := by
      intro xs
      induction xs with
      | nil => intro i z h; simp [nth'] at h
      | cons x xs ih => intro i z h; cases i with
        | zero => simpa [nth'] using h
        | succ i => simpa using ih i z (by simpa [nth'] using h)
    obtain ⟨u, hu, hr⟩ := hvs.get' i z (key xs i z h)
    refine ⟨u, ?_, hr⟩
    have : vs[i]? = some u := by simpa using hu
    simp [Instr.extract, this]
  · simp at h

theorem un_ok {op : UnOp} {x z : AV} {v : Value} (hx : VR r x v) (h : unAV op x = some z) : Gives P r w (Op.unary op v) z := by
  unfold unAV at h
  split at h
  · split at h
    · rw [hx.inv_int]; rw [mkInt_eq] at h; injection h with h; subst h; exact ⟨_, rfl, .int _ _⟩
    · simp at h
  · split at h
    · rw [hx.inv_bool]; rw [mkBool_eq] at h; injection h with h; subst h; exact ⟨_, rfl, .bool _⟩
    · simp at h
  · simp at h

theorem mkIface_ok {ty : TypeId} {o : AOpd} {x : AV} {v : Value} (hx : VR r x v) {p : P2} (hc : cMkIface P ty o = .p2 p) : Gives P r w (Instr.makeInterface ty v) (.iface ty x) := by
  unfold cMkIface at hc
  obtain ⟨d, hd, hc⟩ := withU_eq hc (by simp)
  refine ⟨.iface ty v, ?_, .iface _ _ _ hx⟩
  unfold Instr.makeInterface
  rw [Sem.run_bind, run_und hd]
  cases d <;> first | rfl | (simp at hc)

theorem evOs_vrs (hE : EnvR r t ρ) : ∀ (l : List Operand), VRs r (evOs t (l.map opd)) (l.map ρ)
  | [] => .nil
  | o :: l => .cons _ _ _ _ (hE o) (evOs_vrs hE l)
theorem mkFunc_ok (hE : EnvR r t ρ) {fn : Fn} (first cap : Array Operand) (hy : ∀ l, fn ≠ .yield l) :
    Gives P r w (Instr.makeFunc fn (first.map ρ) (cap.map ρ)) (.func fn (evOs t (first.toList.map opd)) (evOs t (cap.toList.map opd))) := by
  refine ⟨_, rfl, .func _ _ _ _ _ _ (.same _ hy) ?_ ?_⟩
  · rw [Array.toList_map]; exact evOs_vrs hE _
  · rw [Array.toList_map]; exact evOs_vrs hE _

/-! ### parts -/
theorem pickCells_ok {agg : Bool} {xs : List AV} {vs : List Value} {z : AV} (h : VRs r xs vs) (hp : pickCells agg xs = some z) :
    (agg = true ∧ z = .agg xs) ∨ (agg = false ∧ ∃ x v, xs = [x] ∧ vs = [v] ∧ z = x ∧ VR r x v) := by
  unfold pickCells at hp
  split at hp
  · injection hp with hp; exact .inl ⟨rfl, hp.symm⟩
  · split at hp
    · injection hp with hp; subst hp
      cases h with
      | cons _ _ v vs h hs => cases hs; exact .inr ⟨rfl, _, v, rfl, rfl, rfl, h⟩
    · simp at hp
theorem part_ok {ty : TypeId} {i : TypeInfo} {d : TypeDesc} (hi : P.info? ty = some i) (hd : P.underlying ty = some d) {off : Nat} {x z : AV} {cs : Array Value} (hx : VR r x (.agg cs))
    (h : partAV off i.size (aggD d) x = some z) : Gives P r w (part ty cs off) z := by
  unfold partAV at h
  split at h
  · rename_i xs
    obtain ⟨vs, hv, hvs⟩ := hx.inv_agg
    injection hv with hv; subst hv
    have hs : VRs r ((xs.drop off).take i.size) ((cs.toList.drop off).take i.size) := (hvs.drop off).take i.size
    unfold part
    rcases pickCells_ok hs h with ⟨ha, rfl⟩ | ⟨ha, x1, v1, e1, e2, rfl, hr⟩
    · refine ⟨.agg (cs.extract off (off + i.size)), ?_, .agg _ _ ?_⟩
      · rw [Sem.run_bind, run_isAgg hd, ha]
        simp [run_size hi]
      · rw [Array.toList_extract, List.extract_eq_take_drop]
        simpa using hs
    · refine ⟨v1, ?_, hr⟩
      rw [Sem.run_bind, run_isAgg hd, ha]
      have : cs[off]? = some v1 := by
        have : ((cs.toList.drop off).take i.size)[0]? = some v1 := by rw [e2]; rfl
        rw [List.getElem?_take] at this
        split at this
        · simpa using this
        · simp at this
      simp [this]
  · simp at h
theorem field_ok {ty : TypeId} {f : Nat} {o : AOpd} {x z : AV} {v : Value} (hx : VR r x v) {off size : Nat} {agg : Bool} (hc : cField P ty o f = .p2 (.field off size agg o)) (h : partAV off size agg x = some z) :
    Gives P r w (Instr.field ty v f) z := by
  unfold cField at hc
  obtain ⟨d, hd, hc⟩ := withU_eq hc (by simp)
  cases d <;> simp only at hc <;> try (simp at hc; done)
  rename_i fs
  split at hc
  · rename_i fd hf
    obtain ⟨i, hi, hc⟩ := withT_eq hc (by simp)
    obtain ⟨u, hu, hc⟩ := withU_eq hc (by simp)
    simp at hc
    obtain ⟨rfl, rfl, rfl⟩ := hc
    have h0 := h
    unfold partAV at h
    split at h
    · obtain ⟨vs, rfl, hvs⟩ := hx.inv_agg
      obtain ⟨u', hu', hr⟩ := part_ok (P := P) (w := w) hi hu hx h0
      refine ⟨u', ?_, hr⟩
      unfold Instr.field
      simp only [Sem.run_bind, run_und hd, Result.andThen_ok, hf]
      simp only [asAgg, Sem.run_pure, Result.andThen_ok]
      exact hu'
    · simp at h
  · simp at hc

/-! ### indexes -/
theorem idxOf_some {x : AV} {len i : Nat} {v : Value} (hx : VR r x v) (h : idxOf x len = some i) : ∃ k, v = .int k i ∧ i < len := by
  unfold idxOf at h
  split at h
  · obtain ⟨hb, h⟩ := bif_some h
    injection h with h; subst h
    exact ⟨_, hx.inv_int, ble_iff.1 hb⟩
  · simp at h
theorem indexAddr_ok {ty : TypeId} {o1 o2 : AOpd} {x y z : AV} {v u : Value} (hx : VR r x v) (hy : VR r y u) {arr : Option Nat} {size : Nat}
    (hc : cIndexAddr P ty o1 o2 = .p2 (.indexAddr arr size o1 o2)) (h : indexAddrAV arr size x y = some z) : Gives P r w (Instr.indexAt ty v u) z := by
  unfold cIndexAddr at hc
  obtain ⟨d, hd, hc⟩ := withU_eq hc (by simp)
  unfold indexAddrAV at h
  cases d <;> simp only at hc <;> try (simp at hc; done)
  · rename_i e
    obtain ⟨i, hi, hc⟩ := withT_eq hc (by simp)
    simp at hc
    obtain ⟨rfl, rfl⟩ := hc
    split at h
    · simp at h
    · rename_i b o len cap
      simp only at h
      split at h
      · rename_i j hj
        injection h with h; subst h
        obtain ⟨k, rfl, hlt⟩ := idxOf_some hy hj
        have fin : ∀ (a : Addr) (n c : Nat), v = .slice (some a) n c → n = len → ∀ l, r b = some l → a = ⟨l.blk, o + l.sh, none⟩ → Gives P r w (Instr.indexAt ty v (.int k j)) (.ptr b (Nat.add o (Nat.mul j i.size))) := by
          rintro a n c rfl rfl l hl rfl
          refine ⟨.pointer (some ⟨l.blk, o + j * i.size + l.sh, none⟩), ?_, .ptr _ _ _ hl⟩
          unfold Instr.indexAt
          simp only [Sem.run_bind, run_asIntOf, Result.andThen_ok, run_und hd, Sem.run_pure]
          have : (0 : Int) ≤ (j : Int) ∧ (j : Int) < (n : Int) := ⟨by omega, by omega⟩
          rw [if_pos this]
          simp only [Sem.run_bind, run_size hi, Result.andThen_ok, Sem.run_pure, Int.toNat_natCast, add_off]
        cases cap with
        | some c => obtain ⟨l, hl, rfl⟩ := hx.inv_sliceC; exact fin _ _ _ rfl rfl l hl rfl
        | none =>
          obtain ⟨l, a, c, hl, rfl, h1, h2, h3, h4, h5, h6⟩ := hx.inv_sliceO
          refine fin _ _ _ rfl rfl l hl ?_
          cases a with
          | mk ab ao as => simp at h4 h5 h6; subst h4; subst h5; rw [h6 (by omega)]
      · simp at h
    · simp at h
  · rename_i n e
    obtain ⟨i, hi, hc⟩ := withT_eq hc (by simp)
    simp at hc
    obtain ⟨rfl, rfl⟩ := hc
    split at h
    · rename_i b o
      simp only at h
      split at h
      · rename_i j hj
        injection h with h; subst h
        obtain ⟨k, rfl, hlt⟩ := idxOf_some hy hj
        obtain ⟨l, hl, rfl⟩ := hx.inv_ptr
        refine ⟨.pointer (some ⟨l.blk, o + j * i.size + l.sh, none⟩), ?_, .ptr _ _ _ hl⟩
        unfold Instr.indexAt
        simp only [Sem.run_bind, run_asIntOf, Result.andThen_ok, run_und hd, Sem.run_pure, run_sureAddr]
        have : (0 : Int) ≤ (j : Int) ∧ (j : Int) < (n : Int) := ⟨by omega, by omega⟩
        rw [if_pos this]
        simp only [Sem.run_bind, run_size hi, Result.andThen_ok, Sem.run_pure, Int.toNat_natCast, add_off]
      · simp at h
    · simp at h
    · simp at h
theorem nth_get : ∀ (l : List UInt8) (i : Nat), nth l i = l[i]?
  | [], _ => rfl
  | x :: l, 0 => rfl
  | x :: l, i + 1 => by simpa [nth] using nth_get l i
theorem indexStr_ok {ty : TypeId} {o1 o2 : AOpd} {x y z : AV} {v u : Value} (hx : VR r x v) (hy : VR r y u) (hc : cIndex P ty o1 o2 = .p2 (.indexStr o1 o2)) (h : indexStrAV x y = some z) :
    Gives P r w (Instr.index ty v u) z := by
  unfold cIndex at hc
  obtain ⟨d, hd, hc⟩ := withU_eq hc (by simp)
  have hd' : P.underlying ty = some .string := by
    cases d <;> simp only at hc <;> first
      | exact hd
      | (simp at hc; done)
      | (obtain ⟨i, hi, hc⟩ := withT_eq hc (by simp); obtain ⟨q, hq, hc⟩ := withU_eq hc (by simp); simp at hc; done)
  unfold indexStrAV at h
  split at h
  · split at h
    · rename_i k i
      obtain ⟨s, rfl, hs⟩ := hx.inv_str
      have := hy.inv_int; subst this
      rw [nth_get] at h
      unfold mkByte at h
      split at h
      · rename_i b hb
        rw [mkInt_eq] at h; injection h with h; subst h
        refine ⟨.int .u8 b.toNat, ?_, .int _ _⟩
        unfold Instr.index
        simp only [Sem.run_bind, run_asIntOf, Result.andThen_ok, run_und hd']
        have h0 : (0 : Int) ≤ Int.ofNat i := Int.natCast_nonneg i
        have hg : s[(Int.ofNat i).toNat]? = some b := by
          rw [← hs] at hb
          have hlt := (List.getElem?_eq_some_iff.1 hb).1
          have hlt' : i < s.size := by rw [size_eq]; exact hlt
          show s[i]? = some b
          rw [getElem?_pos s i hlt']
          have := (List.getElem?_eq_some_iff.1 hb).2
          rw [← this]; simp [ByteArray.getElem_eq_getElem_data]
        simp only [if_pos h0, hg]
        rfl
      · simp at h
    · simp at h
  · simp at h
theorem indexArr_ok {ty : TypeId} {o1 o2 : AOpd} {x y z : AV} {v u : Value} (hx : VR r x v) (hy : VR r y u) {len size : Nat} {agg : Bool}
    (hc : cIndex P ty o1 o2 = .p3 (.indexArr len size agg o1 o2)) (h : indexArrAV len size agg x y = some z) : Gives P r w (Instr.index ty v u) z := by
  unfold cIndex at hc
  obtain ⟨d, hd, hc⟩ := withU_eq hc (by simp)
  cases d <;> simp only at hc <;> try (simp at hc; done)
  rename_i n e
  obtain ⟨i, hi, hc⟩ := withT_eq hc (by simp)
  obtain ⟨q, hq, hc⟩ := withU_eq hc (by simp)
  simp at hc
  obtain ⟨rfl, rfl, rfl⟩ := hc
  unfold indexArrAV at h
  split at h
  · rename_i j hj
    obtain ⟨k, rfl, hlt⟩ := idxOf_some hy hj
    have h0 := h
    unfold partAV at h
    split at h
    · obtain ⟨vs, rfl, hvs⟩ := hx.inv_agg
      obtain ⟨u', hu', hr⟩ := part_ok (P := P) (w := w) hi hq hx h0
      refine ⟨u', ?_, hr⟩
      unfold Instr.index
      simp only [Sem.run_bind, run_asIntOf, Result.andThen_ok, run_und hd]
      have : (0 : Int) ≤ (j : Int) ∧ (j : Int) < (n : Int) := ⟨by omega, by omega⟩
      rw [if_pos this]
      simp only [Sem.run_bind, run_size hi, Result.andThen_ok, Int.toNat_natCast]
      exact hu'
    · simp at h
  · simp at h
end
end Go.AM
