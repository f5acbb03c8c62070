/- The row of the law. -/
import Derived.Test.YtnedikjioliodaaGreatDoorNx4
import Derived.Test.YtnedikjioliodaaGreatDoorNj8
set_option linter.all false
namespace Go.Proofs.Ea
open Go Go.ChangeShapes Go.WideShapes Go.ChangeAt Go.RowKit Go.AM
open Go.Joins Go.Deep Go.WideElems
open Go.Proofs.YtnedikjioliodaaGreatDoor
theorem kept_junk {w w' : World} (j : Junk w w') (may : MemPlace → Prop) : w.keptBut w' may :=
  Below.frame (W := w) (w' := w') ⟨j.os, j.tape, j.output, j.size, j.same⟩ may
noncomputable def evV (k who n : Int) (ok : Bool) (s : ByteArray) : Value := .agg #[.int .i64 k, .int .i64 who, .int .i64 n, .bool ok, .string s]
def evD {H : Type} (k who n : Int) (ok : Bool) (s : ByteArray) : DataW H := .agg [.lit (.int .i64 k), .lit (.int .i64 who), .lit (.int .i64 n), .lit (.bool ok), .lit (.string s.data.toList)]
set_option maxRecDepth 100000 in
theorem un9 : Tryz.prog.underlying 9 = some .string := by kernel_rfl
set_option maxRecDepth 100000 in
theorem one39 : oneCellFields Tryz.prog #[⟨ "Kind", 3, 0, false, "", "", 0⟩, ⟨ "Who", 3, 1, false, "", "", 8⟩, ⟨ "N", 3, 2, false, "", "", 16⟩, ⟨ "Ok", 4, 3, false, "", "", 24⟩, ⟨ "S", 9, 4, false, "", "", 32⟩] = true := by kernel_rfl
set_option maxRecDepth 100000 in
theorem cells39 : Tryz.prog.cellsOf 39 = 5 := by kernel_rfl
set_option maxRecDepth 100000 in
/-- an event read anew in any world -/
theorem ev_shut {H : Type} {enc : TypeId × Value → H} {w : World} {base : Nat} {sp : Nat → Bool} {held : Bool} {k who n : Int} {ok : Bool} {s : ByteArray}
    (hk : (Lit.int .i64 k).wf = true) (hw : (Lit.int .i64 who).wf = true) (hn : (Lit.int .i64 n).wf = true) (hs : s.size ≤ maxLen) :
    DataW.Trod enc Tryz.prog w base sp held 39 (evV k who n ok s) (evD k who n ok s) [] := by
  have ti : ∀ z : Int, (Lit.int .i64 z).wf = true → DataW.trod enc Tryz.prog w base sp held 1 3 [.int .i64 z] = some (.lit (.int .i64 z), []) := by
    intro z hz
    unfold DataW.trod
    rw [Tryz.underlying3]
    simp [hz]
  refine five_shut (n := 1) (y0 := (.lit (.int .i64 k), [])) (y1 := (.lit (.int .i64 who), [])) (y2 := (.lit (.int .i64 n), [])) (y3 := (.lit (.bool ok), [])) (y4 := (.lit (.string s.data.toList), [])) Tryz.underlying39 one39 cells39 (ti k hk) (ti who hw) (ti n hn) ?_ ?_
  · show DataW.trod enc Tryz.prog w base sp held 1 4 [.bool ok] = _
    unfold DataW.trod
    rw [Tryz.underlying4]
  · show DataW.trod enc Tryz.prog w base sp held 1 9 [.string s] = _
    unfold DataW.trod
    rw [un9]
    simp [hs]
set_option maxRecDepth 100000 in
/-- the two arguments opened -/
theorem args_open {H : Type} {enc : TypeId × Value → H} {W : World} {base : Nat} {sp : Nat → Bool} {held : Bool} {r : Reach} {b0 : Nat} {v0 v1 : Value} {d0 d1 : DataW H} {p0 p1 : List MemPlace}
    (hv0 : Value.okWide Tryz.prog W r b0 39 v0) (h0 : DataW.Trod enc Tryz.prog W base sp held 39 v0 d0 p0) (hv1 : Value.okWide Tryz.prog W r b0 3 v1) (h1 : DataW.Trod enc Tryz.prog W base sp held 3 v1 d1 p1) :
    ∃ (k who n : Int) (ok : Bool) (s : ByteArray) (i : Int), v0 = evV k who n ok s ∧ d0 = evD k who n ok s ∧ p0 = [] ∧ v1 = .int .i64 i ∧ d1 = .lit (.int .i64 i) ∧ p1 = [] ∧
      ((Lit.int .i64 k).wf = true ∧ (Lit.int .i64 who).wf = true ∧ (Lit.int .i64 n).wf = true) ∧ s.size ≤ maxLen ∧ (Lit.int .i64 i).wf = true := by
  obtain ⟨c0, c1, c2, c3, c4, y0, y1, y2, y3, y4, m, rfl, rfl, rfl, ⟨t0, t1, t2⟩, t3, t4⟩ := five_open Tryz.underlying39 one39 cells39 hv0 h0
  obtain ⟨k, e0, rfl, w0⟩ := DataW.trod_int Tryz.underlying3 t0
  obtain ⟨who, e1, rfl, w1⟩ := DataW.trod_int Tryz.underlying3 t1
  obtain ⟨n, e2, rfl, w2⟩ := DataW.trod_int Tryz.underlying3 t2
  obtain ⟨ok, e3, rfl⟩ := DataW.trod_bool Tryz.underlying4 t3
  obtain ⟨s, e4, rfl, w4⟩ := DataW.trod_string un9 t4
  obtain ⟨i, rfl, rfl, rfl, w5⟩ := open_int Tryz.underlying3 hv1 h1
  cases e0; cases e1; cases e2; cases e3; cases e4
  exact ⟨k, who, n, ok, s, i, rfl, rfl, rfl, rfl, rfl, rfl, ⟨w0, w1, w2⟩, w4, w5⟩

set_option maxRecDepth 100000 in
theorem none_lifted (os : Os) (started : os.Started) (H : Type) (enc : TypeId × Value → H) :
    ReturnsInHanded {} Tryz.checked os 4 .any (fun w args => (Rows.serverNoneSpec.pre enc Tryz.prog Tryz.f4 [] false w args ∧ laidMetH Tryz.prog Rows.serverNoneRow.laid w) ∧ sizedMet enc Tryz.prog Tryz.f4 (OpenSpec.ofChange Rows.serverNoneSpec) false w args)
      (Rows.serverNoneSpec.post enc Tryz.prog Tryz.f4 false true false false) := by
  refine returnsInHanded_of_change_and (C := Tryz.checked) (X := fun w _ => laidMetH Tryz.prog Rows.serverNoneRow.laid w) (fun _ _ _ hh h => h.of_heap hh) own started (by kernel_rfl) Tryz.func4
    (ChangeSpec.witness_shaped (enc := enc) (C := Tryz.checked) (os := os) (X := fun w _ => laidMetH Tryz.prog Rows.serverNoneRow.laid w) false (laidW os) #[evV 0 0 0 false ByteArray.empty, .int .i64 0] 8 (laidW_os os)
      (World.shaped_of_ZipB (by kernel_rfl) (by kernel_rfl)) (by kernel_rfl) (by kernel_rfl) (by kernel_rfl) (laidW_met os _)) ?_
  intro W base args ds gs before hval0 hW _ hsz hL _
  have hval : ∀ (j : Nat) t v, Tryz.f4.params[j]? = some t → args[j]? = some v → Value.okWide Tryz.prog W .any base t v := hval0
  have hW' := hW
  obtain ⟨p, q, hA0, hV, rfl, _, _⟩ := hW
  have hA : DataW.TrodAll enc Tryz.prog W 0 (fun _ => true) true Tryz.f4.params.toList args.toList ds p := hA0
  rw [Tryz.params4] at hA hval
  obtain ⟨v0, v1, d0, d1, p0, p1, ea, rfl, rfl, h0, h1⟩ := trodAll_two hA
  obtain ⟨rfl, rfl⟩ := trodVars_none hV
  obtain rfl : args = #[v0, v1] := ea
  obtain ⟨k, who, n, ok, s, i, rfl, rfl, rfl, rfl, rfl, rfl, ⟨w0, w1, w2⟩, w4, w5⟩ := args_open (hval 0 39 v0 rfl rfl) h0 (hval 1 3 v1 rfl rfl) h1
  have hlen : s.size ≤ 140737488351232 := by
    have e : DataW.weightsEach Tryz.prog (Tryz.f4.params.toList ++ Rows.serverNoneSpec.plain.varTypes Tryz.prog) ([evD (H := H) k who n ok s, .lit (.int .i64 i)] ++ []) = [s.data.toList.length] := by kernel_rfl
    have h2 := e ▸ hsz
    have h3 : s.data.toList.length ≤ reachBytes := by simpa using h2
    simpa [reachBytes] using h3
  refine (serverNone_calls k who n ok s hlen i W (glob_of_laid hL)).mono fun e W' ⟨he, hw⟩ => ?_
  subst he
  have e1 : Rows.serverNoneSpec.fn H ([evD k who n ok s, .lit (.int .i64 i)] ++ []) = { results := [.lit (.bool true)], args := [evD k who n ok s, .lit (.int .i64 i)] } := by simp [Rows.serverNoneSpec]
  refine ⟨_, rfl, _, _, _, [], [], [], hW', ?_, ?_, ?_, kept_junk hw _, fun h => by cases h⟩
  · rw [e1]; exact trodAll_mk1 (shut_bool Tryz.underlying4 true)
  · rw [e1]; exact trodAll_mk2 (ev_shut w0 w1 w2 w4) (shut_int Tryz.underlying3 w5)
  · rw [e1]; rfl
theorem none_holds : Rows.ServerNoneSaid :=
  OpenClaim.holds_of_wide 4 Tryz.f4 rfl rfl rfl rfl rfl rfl rfl ⟨rfl, rfl, rfl, rfl, rfl⟩ rfl rfl rfl rfl rfl (by kernel_rfl) Tryz.func4 none_closed
    (of_decide_eq_true (by kernel_rfl)) (by unfold Func.isWrapper; first | (rw [if_pos (by decide +kernel)]; kernel_rfl) | (rw [if_neg (by decide +kernel)]; exact ⟨rfl, rfl⟩))
    (fun os started H enc _ => none_lifted os started H enc)
end Go.Proofs.Ea
