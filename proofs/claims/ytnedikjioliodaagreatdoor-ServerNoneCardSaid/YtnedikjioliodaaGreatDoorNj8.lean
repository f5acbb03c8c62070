/- The closed facts of the row. -/
import Derived.Test.YtnedikjioliodaaGreatDoorRows
import Derived.KernelRfl
import Derived.JoinedOf
import Derived.Test.YtnedikjioliodaaGreatDoorNj1
import Derived.Test.YtnedikjioliodaaGreatDoorNj2
import Derived.Test.YtnedikjioliodaaGreatDoorNj3
import Derived.Test.YtnedikjioliodaaGreatDoorNj4
import Derived.Test.YtnedikjioliodaaGreatDoorNj5
import Derived.Test.YtnedikjioliodaaGreatDoorNj6
import Derived.Test.YtnedikjioliodaaGreatDoorNj7
set_option linter.all false
namespace Go.Proofs.Ea
open Go Go.Proofs.YtnedikjioliodaaGreatDoor
set_option maxRecDepth 100000
theorem jf0 : (Rows.serverNoneRow.wf (OpenSpec.ofChange Rows.serverNoneSpec)) = true := by kernel_rfl
theorem jf3 : (Tryz.f4.params.all (Tryz.prog.readableRec ·)) = true := by kernel_rfl
theorem jf4 : (namedTie Tryz.prog Rows.serverNoneRow.named Rows.serverNoneSpec.vars) = true := by kernel_rfl
theorem jf5 : ((Rows.serverNoneRow.stops == [])) = true := by kernel_rfl
theorem jf6 : ((Tryz.prog.stops == [])) = true := by kernel_rfl
theorem jf7 : ((Rows.serverNoneRow.knobs == [])) = true := by kernel_rfl
theorem jf8 : ((Tryz.prog.stopKnobs == [])) = true := by kernel_rfl
theorem jf13 : ((Rows.serverNoneRow.maps == (Tryz.f4.params.toList ++ Rows.serverNoneSpec.plain.varTypes Tryz.prog).any (Tryz.prog.mapsRec ·))) = true := by kernel_rfl
theorem jf14 : ((Rows.serverNoneRow.ifaces == (Tryz.f4.params.toList ++ Rows.serverNoneSpec.plain.varTypes Tryz.prog).any (Tryz.prog.ifacesRec ·))) = true := by kernel_rfl
theorem jf15 : ((Rows.serverNoneRow.mapsOut == Tryz.prog.mapsAmong Tryz.f4.resultTypes.toList)) = true := by kernel_rfl
theorem jf16 : ((Rows.serverNoneRow.loops == (Tryz.f4.params.toList ++ Rows.serverNoneSpec.plain.varTypes Tryz.prog).any (Tryz.prog.loopsFrom ·))) = true := by kernel_rfl
theorem jf17 : ((Rows.serverNoneRow.wideKeys == (Tryz.f4.params.toList ++ Rows.serverNoneSpec.plain.varTypes Tryz.prog ++ Tryz.f4.resultTypes.toList).any (Tryz.prog.wideKeysFrom ·))) = true := by kernel_rfl
theorem jf18 : (Rows.serverNoneSpec.vars.all (Tryz.prog.varReadable ·)) = true := by kernel_rfl
theorem jf19 : (Tryz.f4.resultTypes.all (fun t => Tryz.prog.readableRec t && decide (t < Tryz.prog.types.size))) = true := by kernel_rfl
theorem jf20 : ((Rows.serverNoneRow.ifacesOut == Tryz.f4.resultTypes.toList.any (Tryz.prog.ifacesRec ·))) = true := by kernel_rfl
theorem jf21 : ((Rows.serverNoneRow.loopsOut == Tryz.f4.resultTypes.toList.any (Tryz.prog.loopsFrom ·))) = true := by kernel_rfl
theorem jf23 : (Rows.serverNoneRow.shortTexts.isNone) = true := by kernel_rfl
theorem jf28 : ((Rows.serverNoneRow.kinds == (if Rows.serverNoneRow.domain.isEmpty then [] else Tryz.f4.params.toList.map fun t => match Tryz.prog.underlying t with | some (.int k) => some k | _ => none))) = true := by kernel_rfl
theorem jf29 : ((Rows.serverNoneRow.pinned == Rows.serverNoneRow.pinnedBy)) = true := by kernel_rfl
theorem jf30 : ((Rows.serverNoneRow.veiled == (Tryz.f4.params.toList ++ Rows.serverNoneSpec.plain.varTypes Tryz.prog ++ Tryz.f4.resultTypes.toList).any (Tryz.prog.veiledRec ·))) = true := by kernel_rfl
theorem jf31 : (Rows.serverNoneRow.veiledFits Tryz.prog Tryz.f4.params.toList (Tryz.f4.params.toList ++ Rows.serverNoneSpec.plain.varTypes Tryz.prog ++ Tryz.f4.resultTypes.toList)) = true := by kernel_rfl
theorem none_closed : joinedFacts Tryz.prog 4 Tryz.f4 Rows.serverNoneSpec Rows.serverNoneRow = true := by
  unfold joinedFacts
  simp only [Bool.and_eq_true]
  exact ⟨⟨⟨⟨⟨⟨⟨⟨⟨⟨⟨⟨⟨⟨⟨⟨⟨⟨⟨⟨⟨⟨⟨⟨⟨⟨⟨⟨⟨⟨⟨jf0, jf1⟩, jf2⟩, jf3⟩, jf4⟩, jf5⟩, jf6⟩, jf7⟩, jf8⟩, jf9⟩, jf10⟩, jf11⟩, jf12⟩, jf13⟩, jf14⟩, jf15⟩, jf16⟩, jf17⟩, jf18⟩, jf19⟩, jf20⟩, jf21⟩, jf22⟩, jf23⟩, jf24⟩, jf25⟩, jf26⟩, jf27⟩, jf28⟩, jf29⟩, jf30⟩, jf31⟩
end Go.Proofs.Ea
