/- An event cut to light size. -/
import Derived.Test.YtnedikjioliodaaGreatDoorMd2
import Derived.Test.YtnedikjioliodaaGreatDoorNe1
import Derived.Lib.Hide
set_option linter.all false
namespace Go.AM
open Go
/-! natives of laws -/
/-- an event of which not more bytes are looked at: told by symbols -/
noncomputable def nLight (args : List AV) (h : H) : QR := match args with
  | [.agg [.sym 0, .sym 1, .sym 2, .sym 3, .sym 4]] => .v (.agg [.sym 0, .sym 1, .sym 2, .sym 3, .sym 5]) h
  | _ => .no
/-- a law's own example -/
noncomputable def nWorks (rt tb et : Nat) (args : List AV) (h : H) : QR := match args with
  | [] => cond (isCst rt tb et (h.obj 1)) (.v (.bool true) h) .no
  | _ => .no
section
variable [Env]
variable {P : Program} {fi : FuncId}
theorem vr_sym {r : Rho} {n : Nat} {v : Value} (h : VR r (.sym n) v) : v = Env.val n := by cases h; rfl
theorem light_nat (hN : Named P) {fn : Func} {bd : Code} (h1 : P.funcs[fi]? = some fn) (h2 : fn.body = some bd)
    (hc : ∀ w : World, Calls P fi #[.agg #[Env.val 0, Env.val 1, Env.val 2, Env.val 3, Env.val 4]] w fun e w' => e = .returned (.agg #[Env.val 0, Env.val 1, Env.val 2, Env.val 3, Env.val 5]) ∧ Junk w w') : NatOk P fi nLight := by
  intro r h w args args' c cs hr ha
  unfold nLight
  split
  · obtain ⟨v, rfl, hv⟩ := vrs1 ha
    obtain ⟨vs, rfl, hvs⟩ := hv.inv_agg
    obtain ⟨l⟩ := vs
    simp only at hvs
    cases hvs with
    | cons _ _ v0 l0 a0 hvs =>
    cases hvs with
    | cons _ _ v1 l1 a1 hvs =>
    cases hvs with
    | cons _ _ v2 l2 a2 hvs =>
    cases hvs with
    | cons _ _ v3 l3 a3 hvs =>
    cases hvs with
    | cons _ _ v4 l4 a4 hvs =>
    cases hvs
    have := vr_sym a0; subst this
    have := vr_sym a1; subst this
    have := vr_sym a2; subst this
    have := vr_sym a3; subst this
    have := vr_sym a4; subst this
    refine callOk_of_calls hN h1 h2 ((hc w).mono ?_) c cs
    rintro e w' ⟨rfl, hj⟩
    obtain ⟨q1, q2⟩ := hr.junk hj
    exact ⟨r, _, rfl, .agg _ _ (.cons _ _ _ _ (.sym 0) (.cons _ _ _ _ (.sym 1) (.cons _ _ _ _ (.sym 2) (.cons _ _ _ _ (.sym 3) (.cons _ _ _ _ (.sym 5) .nil))))), q1, q2⟩
  · trivial
theorem works_nat (hN : Named P) {rt tb et : Nat} {fn : Func} {bd : Code} (h1 : P.funcs[fi]? = some fn) (h2 : fn.body = some bd)
    (hc : ∀ w : World, GlobOk rt tb et w → Calls P fi #[] w fun e w' => e = .returned (.bool true) ∧ Junk w w') : NatOk P fi (nWorks rt tb et) := by
  intro r h w args args' c cs hr ha
  unfold nWorks
  split
  · have : args' = #[] := by
      obtain ⟨l⟩ := args'
      cases ha; rfl
    subst this
    cases hcst : isCst rt tb et (h.obj 1) with
    | false => trivial
    | true =>
      refine callOk_of_calls hN h1 h2 ((hc w (glob_of hr (isCst_eq hcst))).mono ?_) c cs
      rintro e w' ⟨rfl, hj⟩
      obtain ⟨q1, q2⟩ := hr.junk hj
      exact ⟨r, _, rfl, .bool true, q1, q2⟩
  · trivial
end
end Go.AM
namespace Go.Proofs.Ea
open Go Go.RowKit Go.AM
def lightS (s : ByteArray) : ByteArray := if s.size ≤ 5000 then s else s.extract 0 5000
theorem lit5000 : (5000 : Int) < 9223372036854775807 := by decide
set_option maxRecDepth 100000 in
set_option maxHeartbeats 1000000 in
theorem light_walk (k who n : Int) (ok : Bool) (s : ByteArray) (hs : s.size ≤ 140737488351232) (w : World) :
    Calls Tryz.prog 12 #[.agg #[.int .i64 k, .int .i64 who, .int .i64 n, .bool ok, .string s]] w fun e w' => e = .returned (.agg #[.int .i64 k, .int .i64 who, .int .i64 n, .bool ok, .string (lightS s)]) ∧ Junk w w' := by
  by_cases hl : s.size ≤ 5000
  · have e : lightS s = s := by unfold lightS; rw [if_pos hl]
    rw [e]
    clear e
    go_enter Tryz.func12, Tryz.ntmps12
    go_wp2
    exact bodyPost_ret (v := .agg #[.int .i64 k, .int .i64 who, .int .i64 n, .bool ok, .string s]) (by simp [results, Tryz.results12, go_sem]) rfl ⟨rfl, ((Junk.refl w).alloc _).alloc _⟩
  · have e : lightS s = s.extract 0 5000 := by unfold lightS; rw [if_neg hl]
    rw [e]
    clear e
    have hl : 5000 < s.size := by omega
    go_enter Tryz.func12, Tryz.ntmps12
    go_wp2
    exact bodyPost_ret (v := .agg #[.int .i64 k, .int .i64 who, .int .i64 n, .bool ok, .string (s.extract 0 5000)]) (by simp [results, Tryz.results12, go_sem]) rfl ⟨rfl, ((Junk.refl w).alloc _).alloc _⟩
end Go.Proofs.Ea
