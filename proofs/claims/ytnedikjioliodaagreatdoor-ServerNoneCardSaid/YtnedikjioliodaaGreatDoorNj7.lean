/- Four closed facts of the program. -/
import Derived.Test.YtnedikjioliodaaGreatDoorRows
import Derived.KernelRfl
import Derived.JoinedOf
set_option linter.all false
namespace Go.Proofs.Ea
open Go Go.Proofs.YtnedikjioliodaaGreatDoor
set_option maxRecDepth 100000
theorem jf24 : (Tryz.prog.stopsHeard) = true := by kernel_rfl
theorem jf25 : (Tryz.prog.mayEnter) = true := by kernel_rfl
theorem jf26 : ((Rows.serverNoneRow.lifted == Tryz.prog.liftsFinal)) = true := by kernel_rfl
theorem jf27 : ((Tryz.prog.make == some Rows.serverNoneRow.make)) = true := by kernel_rfl
end Go.Proofs.Ea
