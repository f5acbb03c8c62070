/- The example of the server answers true. -/
import Derived.Test.YtnedikjioliodaaGreatDoorNw1
import Derived.Test.YtnedikjioliodaaGreatDoorNw2
import Derived.Test.YtnedikjioliodaaGreatDoorNw3
import Derived.Test.YtnedikjioliodaaGreatDoorNw4
import Derived.Test.YtnedikjioliodaaGreatDoorNw5
import Derived.Test.YtnedikjioliodaaGreatDoorNw6
import Derived.Test.YtnedikjioliodaaGreatDoorNw7
set_option linter.all false
namespace Go.Proofs.Ea
open Go Go.AM
set_option maxRecDepth 100000
theorem fol : Fol Tryz.prog := ⟨by kernel_rfl, by kernel_rfl⟩
theorem named : Named Tryz.prog := by
  have h : (Tryz.prog.funcs.toList.all fun fn => !(fn.body.isSome && fn.name == "runtime.NumGoroutine")) = true := by kernel_rfl
  intro f fn hf hb
  rw [List.all_eq_true] at h
  have hm : fn ∈ Tryz.prog.funcs.toList := by
    obtain ⟨h1, h2⟩ := Array.getElem?_eq_some_iff.1 hf
    rw [← h2]; simp
  have := h fn hm
  rw [hb] at this
  simpa using this
theorem body_of {fn : Func} (h : fn.body.isSome = true) : ∃ b, fn.body = some b := Option.isSome_iff_exists.1 h
theorem body8_eq {bd : Code} (h : Tryz.f8.body = some bd) : body8 = ccode Tryz.prog bd := by unfold body8; rw [h]
section
variable [Env]
theorem nats_ok : ∀ fi g, nats.lookup fi = some g → NatOk Tryz.prog fi g := by
  intro fi g h
  unfold nats at h
  simp only [List.lookup] at h
  split at h
  · rename_i e
    have e : fi = 49 := by simpa using e
    subst e
    injection h with h; subst h
    obtain ⟨b, hb⟩ := body_of (fn := Tryz.f49) (by kernel_rfl)
    exact as_nat named Tryz.func49 hb as_nil asOk_K asOk_F
  · split at h
    · rename_i e
      have e : fi = 196 := by simpa using e
      subst e
      injection h with h; subst h
      obtain ⟨b, hb⟩ := body_of (fn := Tryz.f196) (by kernel_rfl)
      exact copyCheck_nat named Tryz.func196 hb cc_fresh cc_used
    · split at h
      · rename_i e
        have e : fi = 133 := by simpa using e
        subst e
        injection h with h; subst h
        obtain ⟨b, hb⟩ := body_of (fn := Tryz.f133) (by kernel_rfl)
        exact string_nat named Tryz.func133 hb str_nil str_some
      · split at h
        · rename_i e
          have e : fi = 356 := by simpa using e
          subst e
          injection h with h; subst h
          exact count_nat count_ext
        · simp at h
/-- where a run begins -/
def rho0 : Rho := fun b => if b = 1 then some ⟨0, 0, 0, 0⟩ else none
theorem rel0 {w : World} (h1 : w.heap[0]? = some Env.fix) (h2 : GlobOk 310 4 25 w) : Rel Tryz.prog rho0 (heapL os0 2 1) w := by
  have hobj : ∀ b o, (heapL os0 2 1).obj b = some o → b = 1 ∧ o = .cst 0 310 4 25 := by
    intro b o h
    have := ofL_get os0 b o h
    simpa [os0] using this
  refine ⟨?_, ?_, ?_, ?_, ?_, ?_, ⟨Nat.zero_lt_one, Nat.zero_lt_two⟩⟩
  · intro b o hb _
    obtain ⟨rfl, rfl⟩ := hobj b o hb
    exact ⟨⟨0, 0, 0, 0⟩, rfl, rfl, h1, h2⟩
  · intro b l hl
    unfold rho0 at hl
    split at hl
    · subst b; exact Nat.one_lt_two
    · simp at hl
  · intro b o hb
    obtain ⟨rfl, rfl⟩ := hobj b o hb
    exact ⟨Nat.one_lt_two, Nat.zero_lt_one⟩
  · intro b b' o o' l l' hb _ hb' _ _ _ _ hne
    exact absurd ((hobj b o hb).1.trans (hobj b' o' hb').1.symm) hne
  · intro b b' o o' l l' hb _ hb' _ _ _ _ hne
    exact absurd ((hobj b o hb).1.trans (hobj b' o' hb').1.symm) hne
  · intro k _
    unfold heapL
    rw [H.alive_mk]
    cases k with
    | zero => rfl
    | succ k => show (match T.get (.lf : T Unit) (k + 1) with | none => true | some _ => false) = true; rw [T.get_lf]
theorem kept_of {w w' : World} {r' : Rho} {nx cl : Nat} (h1 : w.heap[0]? = some Env.fix) (hr : Rel Tryz.prog r' (heapL os0 nx cl) w') (hk : Keeps rho0 (heapL os0 2 1) w r' (heapL os0 nx cl) w') : Junk w w' := by
  refine ⟨hk.size, ?_, hk.tape, hk.os, hk.output⟩
  intro i hi
  by_cases h0 : i = 0
  · subst h0
    have hb : (heapL os0 nx cl).obj 1 = some (.cst 0 310 4 25) := by
      show T.get (T.put (.lf : T AM.Obj) 1 (.cst 0 310 4 25)) 1 = _
      rw [T.get_put, if_pos rfl]
    obtain ⟨l, hl, h2, h3, _⟩ := hr.obj 1 _ hb (H.alive_zero _)
    rw [h2] at h3
    rw [h1, h3]
  · refine hk.same i hi ?_
    rintro ⟨b, o, l, hb, _, hl, rfl⟩
    have := ofL_get os0 b o hb
    have hb1 : b = 1 := by have : b = 1 ∧ o = .cst 0 310 4 25 := by simpa [os0] using this
                           exact this.1
    subst hb1
    have : rho0 1 = some ⟨0, 0, 0, 0⟩ := rfl
    rw [this] at hl; injection hl with hl; subst hl
    exact h0 rfl
theorem works_chain : Chain evT body8 (argsT []) (heapL os0 2 1) (dropN 1 (dropN 1 (dropN 1 (dropN 5 (dropN 3 (dropN 3 body8)))))) (ofL wts14) (heapL wos14 1609 54) :=
  .cut 3 _ _ _ _ w3 (.cut 3 _ _ _ _ w6 (.cut 5 _ _ _ _ w11 (.cut 1 _ _ _ _ w12 (.cut 1 _ _ _ _ w13 (.cut 1 _ _ _ _ w14 (.done _ _ _))))))
theorem works_run {w : World} (h1 : w.heap[0]? = some Env.fix) (h2 : GlobOk 310 4 25 w) : Calls Tryz.prog 8 #[] w fun e w' => e = .returned (.bool true) ∧ Junk w w' := by
  obtain ⟨bd, hbd⟩ := body_of (fn := Tryz.f8) (by kernel_rfl)
  have hrs : cresults Tryz.prog Tryz.f8.results.toList = some [.tmp 0] := by kernel_rfl
  have hwf : (match Tryz.f8.body with | some b => wfCode Tryz.f8.ntmps b | none => true) = true := by kernel_rfl
  rw [hbd] at hwf
  have hend := wEnd
  unfold retOk at hend
  split at hend
  · rename_i x pan h' hx
    rw [Bool.and_eq_true] at hend
    have hv := sameV_eq hend.1
    subst hv
    have hc := works_chain
    rw [body8_eq hbd] at hc hx
    refine (chain_calls fol named nats nats_ok 1000000 Tryz.func8 hbd hrs hwf (rel0 h1 h2) (args := []) .nil hc hx).mono ?_
    rintro e w' ⟨r', v', rfl, hv, hr, hk⟩
    have := hv.inv_bool; subst this
    obtain ⟨q1, q2⟩ := hr.sub (okH_sub hend.2)
    exact ⟨rfl, kept_of h1 q1 (hk.trans q2)⟩
  · simp at hend
end
/-- the server's own example, called anywhere -/
theorem works_ok {w : World} (h2 : GlobOk 310 4 25 w) : Calls Tryz.prog 8 #[] w fun e w' => e = .returned (.bool true) ∧ Junk w w' := by
  have hlt : 0 < w.heap.size := World.block_lt_of_cell? (a := ⟨0, 0, none⟩) _ h2
  exact @works_run ⟨fun _ => .nilIface, fun _ => rfl, w.heap[0]⟩ w (Array.getElem?_eq_getElem hlt) h2
end Go.Proofs.Ea
