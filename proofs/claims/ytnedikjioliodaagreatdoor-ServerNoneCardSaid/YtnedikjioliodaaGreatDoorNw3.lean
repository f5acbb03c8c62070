/- A piece of the example. -/
import Derived.Test.YtnedikjioliodaaGreatDoorNw0
set_option linter.all false
namespace Go.Proofs.Ea
open Go Go.AM
set_option maxRecDepth 100000
theorem w11 : cutOk (runSpine evT 5 (dropN 3 (dropN 3 body8)) (ofL wts6) ⟨[], none, none⟩ (heapL wos6 725 23)) wts11 wos11 938 31 = true := by kernel_rfl
end Go.Proofs.Ea
