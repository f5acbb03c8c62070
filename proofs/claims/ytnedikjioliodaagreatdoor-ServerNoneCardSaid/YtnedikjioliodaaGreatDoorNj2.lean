/- Two closed facts of the program. -/
import Derived.Test.YtnedikjioliodaaGreatDoorRows
import Derived.KernelRfl
import Derived.JoinedOf
set_option linter.all false
namespace Go.Proofs.Ea
open Go Go.Proofs.YtnedikjioliodaaGreatDoor
set_option maxRecDepth 100000
theorem jf2 : (mapsRowed Tryz.prog) = true := by kernel_rfl
theorem jf22 : ((Rows.serverNoneRow.plainKeys == Tryz.prog.plainKeys)) = true := by kernel_rfl
end Go.Proofs.Ea
