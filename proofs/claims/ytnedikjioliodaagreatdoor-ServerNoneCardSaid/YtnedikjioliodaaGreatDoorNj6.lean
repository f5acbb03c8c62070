/- A closed fact of the law. -/
import Derived.Test.YtnedikjioliodaaGreatDoorRows
import Derived.KernelRfl
import Derived.JoinedOf
set_option linter.all false
namespace Go.Proofs.Ea
open Go Go.Proofs.YtnedikjioliodaaGreatDoor
set_option maxRecDepth 100000
theorem jf12 : ((Rows.serverNoneRow.named == Tryz.prog.varsNamed 4)) = true := by kernel_rfl
end Go.Proofs.Ea
