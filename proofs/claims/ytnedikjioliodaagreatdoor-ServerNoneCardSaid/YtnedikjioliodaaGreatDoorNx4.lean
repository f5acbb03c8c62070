/- The condition on the listed variables: what it gives, and a world that meets it. -/
import Derived.Test.YtnedikjioliodaaGreatDoorNx3
import Derived.Test.YtnedikjioliodaaGreatDoorTie
import Derived.Lib.SmallJoins
import Derived.ProofKit
import Derived.OpenShut
import Derived.LaidMore
import Derived.Lay
import Derived.LaidHandle
import Derived.SevenTiedAt
import Derived.Stop.Joined
set_option linter.all false
namespace Go.Proofs.Ea
open Go Go.ChangeShapes Go.WideShapes Go.ChangeAt Go.RowKit Go.AM
open Go.Joins Go.Deep Go.WideElems
open Go.Proofs.YtnedikjioliodaaGreatDoor
section
variable {H : Type} {enc : TypeId × Value → H} {P : Program} {w : World} {base : Nat} {sp : Nat → Bool} {held : Bool}
/-- a struct of five one-cell fields, opened -/
theorem five_open {r : Reach} {b0 : Nat} {t : TypeId} {g0 g1 g2 g3 g4 : Field} {v : Value} {d : DataW H} {p : List MemPlace} (hs : P.underlying t = some (.struct #[g0, g1, g2, g3, g4])) (hone : oneCellFields P #[g0, g1, g2, g3, g4] = true) (hC : P.cellsOf t = 5)
    (hv : Value.okWide P w r b0 t v) (h : DataW.Trod enc P w base sp held t v d p) :
    ∃ (c0 c1 c2 c3 c4 : Value) (y0 y1 y2 y3 y4 : DataW H × List MemPlace) (n : Nat), v = .agg #[c0, c1, c2, c3, c4] ∧ d = .agg [y0.1, y1.1, y2.1, y3.1, y4.1] ∧ p = y0.2 ++ y1.2 ++ y2.2 ++ y3.2 ++ y4.2 ∧
      (DataW.trod enc P w base sp held n g0.type [c0] = some y0 ∧ DataW.trod enc P w base sp held n g1.type [c1] = some y1 ∧ DataW.trod enc P w base sp held n g2.type [c2] = some y2) ∧
      DataW.trod enc P w base sp held n g3.type [c3] = some y3 ∧ DataW.trod enc P w base sp held n g4.type [c4] = some y4 := by
  obtain ⟨⟨cs⟩, rfl, hsz⟩ := okWide_struct hs hv
  obtain ⟨fuel, hf⟩ := h
  obtain ⟨xs, n, _, hx, _, hlen, hg⟩ := DataW.trod_struct hs hf
  have hcs : cs.length = 5 := hsz.trans hC
  have hxs : xs.length = 5 := hlen
  match cs, hcs, xs, hxs with
  | [c0, c1, c2, c3, c4], _, [y0, y1, y2, y3, y4], _ =>
    have key : ∀ (i : Nat) (g : Field) (c : Value) (y : DataW H × List MemPlace), #[g0, g1, g2, g3, g4][i]? = some g → [c0, c1, c2, c3, c4][i]? = some c → [y0, y1, y2, y3, y4][i]? = some y → DataW.trod enc P w base sp held n g.type [c] = some y := by
      intro i g c y e1 e2 e3
      obtain ⟨o, k⟩ := hone_of hone i g e1
      have := hg i g e1
      rw [e3, o, k] at this
      rw [← this]
      congr 1
      show [c] = List.take 1 (List.drop i [c0, c1, c2, c3, c4])
      rw [List.take_one, List.head?_drop, e2]; rfl
    simp only [Prod.mk.injEq] at hx
    exact ⟨c0, c1, c2, c3, c4, y0, y1, y2, y3, y4, n, rfl, hx.1, by rw [hx.2]; simp, ⟨key 0 g0 c0 y0 rfl rfl rfl, key 1 g1 c1 y1 rfl rfl rfl, key 2 g2 c2 y2 rfl rfl rfl⟩, key 3 g3 c3 y3 rfl rfl rfl, key 4 g4 c4 y4 rfl rfl rfl⟩
/-- .. and shut -/
theorem five_shut {t : TypeId} {g0 g1 g2 g3 g4 : Field} {c0 c1 c2 c3 c4 : Value} {y0 y1 y2 y3 y4 : DataW H × List MemPlace} {n : Nat} (hs : P.underlying t = some (.struct #[g0, g1, g2, g3, g4])) (hone : oneCellFields P #[g0, g1, g2, g3, g4] = true) (hC : P.cellsOf t = 5)
    (h0 : DataW.trod enc P w base sp held n g0.type [c0] = some y0) (h1 : DataW.trod enc P w base sp held n g1.type [c1] = some y1) (h2 : DataW.trod enc P w base sp held n g2.type [c2] = some y2)
    (h3 : DataW.trod enc P w base sp held n g3.type [c3] = some y3) (h4 : DataW.trod enc P w base sp held n g4.type [c4] = some y4) :
    DataW.Trod enc P w base sp held t (.agg #[c0, c1, c2, c3, c4]) (.agg [y0.1, y1.1, y2.1, y3.1, y4.1]) (y0.2 ++ y1.2 ++ y2.2 ++ y3.2 ++ y4.2) := by
  obtain ⟨o0, k0⟩ := hone_of hone 0 g0 rfl
  obtain ⟨o1, k1⟩ := hone_of hone 1 g1 rfl
  obtain ⟨o2, k2⟩ := hone_of hone 2 g2 rfl
  obtain ⟨o3, k3⟩ := hone_of hone 3 g3 rfl
  obtain ⟨o4, k4⟩ := hone_of hone 4 g4 rfl
  refine ⟨n + 1, ?_⟩
  have := trod_struct_mk (enc := enc) (w := w) (base := base) (spare := sp) (held := held) (n := n) (cs := [c0, c1, c2, c3, c4]) (xs := [y0, y1, y2, y3, y4]) hs hC.symm
    (by simp [o0, k0, o1, k1, o2, k2, o3, k3, o4, k4, h0, h1, h2, h3, h4])
  simpa [Value.cells] using this
end
theorem own : ownKnob Tryz.prog.godebug = none := by kernel_rfl
theorem rt_row : (Tryz.prog.cutTypes.find? (·.1 == "internal/reflectlite.rtype")).map (·.2) = some 310 := by kernel_rfl
theorem et_glob : Tryz.prog.globalNamed "errors.errorType" = some 0 := by kernel_rfl
theorem one_row : ((List.range 602).filter fun t => Tryz.prog.rowNamed t [101, 114, 114, 111, 114]) = [25] := by kernel_rfl
theorem n_types : Tryz.prog.types.size = 602 := by kernel_rfl
theorem handle25 : typeHandle Tryz.prog 25 = .pointer (some ⟨4, 25, none⟩) := by kernel_rfl
/-- what the condition says of the variable that holds the type's handle -/
theorem glob_of_laid {W : World} (h : laidMetH Tryz.prog Rows.serverNoneRow.laid W) : GlobOk 310 4 25 W := by
  have h' := (laidMetH_iff.1 h).2
  have hm : ("errors.errorType", (Rows.laid_errors_errorType : DataW Unit)) ∈ (Rows.serverNoneRow.laid.filter fun x => x.2.handleName?.isSome) :=
    List.mem_filter.2 ⟨List.mem_cons_of_mem _ (List.mem_cons_self ..), rfl⟩
  obtain ⟨name, u, ty, e1, e2, e3, e4, e5⟩ := (show ∃ name u ty, _ from h' _ hm)
  have en : name = [101, 114, 114, 111, 114] := (Option.some.inj e1).symm
  subst en
  obtain rfl := Option.some.inj (rt_row.symm.trans e2)
  have hm : ty ∈ (List.range 602).filter fun t => Tryz.prog.rowNamed t [101, 114, 114, 111, 114] := List.mem_filter.2 ⟨List.mem_range.2 (by rw [← n_types]; exact e3), e4⟩
  rw [one_row] at hm
  obtain rfl := List.mem_singleton.1 hm
  rw [handle25] at e5
  simpa [GlobOk] using World.var?_cell et_glob e5 0
/-- the witness's heap: the handle by hand, the tables by the function -/
noncomputable def laid0 (os : Os) : World :=
  let w0 := World.holding Tryz.prog os ⟨#[], #[], []⟩
  { w0 with heap := w0.heap.modify 0 fun
      | .cells _ t frozen => .cells #[.iface 310 (.agg #[.pointer (some ⟨4, 25, none⟩)])] t frozen
      | o => o }
noncomputable def plainLaid : List (String × DataW Unit) := Rows.serverNoneRow.laid.filter fun x => x.2.handleName?.isNone
noncomputable def laidW (os : Os) : World := (laid0 os).layVars Tryz.prog plainLaid
theorem laidW_os (os : Os) : (laidW os).os = os := World.layVars_os _ _ _
theorem laidW_met (os : Os) (args : Array Value) : laidMetH Tryz.prog Rows.serverNoneRow.laid ((laidW os).forCall (fun _ _ => 0) ⟨#[], args, []⟩).memory := by
  refine laidMetH_of_parts ?_ (by kernel_rfl)
  have h : laidMet Tryz.prog plainLaid (laidW os) := by
    have e1 : (plainLaid.filter fun x => (plainLaid.map (·.1)).contains x.1) = plainLaid := List.filter_eq_self.2 fun x hx => List.contains_iff_mem.2 (List.mem_map.2 ⟨x, hx, rfl⟩)
    have e2 : (plainLaid.filter fun x => !(plainLaid.map (·.1)).contains x.1) = [] := List.filter_eq_nil_iff.2 fun x hx => by rw [List.contains_iff_mem.2 (List.mem_map.2 ⟨x, hx, rfl⟩)]; simp
    exact laidMet_layVars (w0 := laid0 os) (plainLaid.map (·.1)) [] (by rw [e1]; rfl) (by rw [e1]; kernel_rfl) (by rw [e1]; kernel_rfl) (by rw [e2]; exact LaidIn.none)
  exact h.of_heap (by simp [World.memory, World.forCall, Input.heap])
end Go.Proofs.Ea
