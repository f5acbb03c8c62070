/- serverNone_card: ServerNone answers true whatever the input, each argument reads as it read, and the listed variables hold what the program text lays; no further condition. -/
import Derived.Test.YtnedikjioliodaaGreatDoorNx5
import Derived.Test.YtnedikjioliodaaGreatDoorCards
import Derived.SevenTiedAt
set_option linter.all false
namespace Go.Proofs.YtnedikjioliodaaGreatDoor
open Go Go.Proofs.Ea
set_option maxRecDepth 100000
theorem goes_none {P : Program} (h : P.funcs.toList.any Func.goes = false) (f : FuncId) : P.goes f = false := by
  have ha : P.funcs.any Func.goes = false := by rw [← Array.any_toList]; exact h
  have hg : ∀ g : Nat, (P.funcs[g]?).any Func.goes = false := by
    intro g
    cases e : P.funcs[g]? with
    | none => rfl
    | some fn =>
      have hm : fn ∈ P.funcs.toList := by
        have := (Array.getElem?_eq_some_iff.1 e)
        obtain ⟨h1, h2⟩ := this
        rw [← h2]; simp
      have := List.any_eq_false.1 h fn hm
      simpa using this
  unfold Program.goes
  rw [ha, Bool.and_false, Bool.or_false, List.any_eq_false]
  intro g _
  rw [hg g]; simp
theorem goesBy_none {P : Program} (h : P.funcs.toList.any Func.goes = false) (c : OpenClaim) (hs : c.start = .entering) : false = c.goesBy P := by
  unfold OpenClaim.goesBy Program.goesAt Program.goesFrom
  rw [hs]
  simp only [Bool.or_false]
  cases P.funcNamed c.func with
  | none => rfl
  | some f => exact (goes_none h f).symm
theorem noGo : Tryz.prog.funcs.toList.any Func.goes = false := by kernel_rfl
theorem c6 : false = Rows.serverNoneRow.goesBy Tryz.pinned.checked.prog := goesBy_none noGo _ rfl
theorem serverNone_card : Rows.ServerNoneCardSaid :=
  Claim7.holds_tied_plain_at .later [] [.data, .handle, .pinned] true (true, "f7d06d318e1acf766b5c63629f3843cbd928e947fdfde66514b3c257c19b7234") true
    none_holds (fun _ h => by cases h) (by kernel_rfl) (fun _ h => by cases h) serverNone_row_tie rfl ⟨rfl, rfl⟩ (by kernel_rfl) rfl
    (fun f fn hf hfn => by
      obtain rfl : f = 4 := Option.some.inj ((show Tryz.prog.funcNamed "wheelhouse/wheelhouselaw39.ServerNone" = some 4 by kernel_rfl).symm.trans hf) |>.symm
      obtain rfl : fn = Tryz.f4 := (Option.some.inj (Tryz.func4.symm.trans hfn)).symm
      exact ⟨by kernel_rfl, fun j t ht => by
        rw [Tryz.params4] at ht
        have hm : t ∈ [39, 3] := by simpa using Array.mem_of_getElem? ht
        have hall : ([39, 3].all fun u => !Tryz.prog.wantsStandIn u) = true := by kernel_rfl
        exact (show Tryz.prog.wantsStandIn t = false by simpa using List.all_eq_true.1 hall t hm)⟩)
    c6
end Go.Proofs.YtnedikjioliodaaGreatDoor
