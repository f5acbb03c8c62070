/- A piece of the example. -/
import Derived.Test.YtnedikjioliodaaGreatDoorNw0
set_option linter.all false
namespace Go.Proofs.Ea
open Go Go.AM
set_option maxRecDepth 100000
theorem w12 : cutOk (runSpine evT 1 (dropN 5 (dropN 3 (dropN 3 body8))) (ofL wts11) ⟨[], none, none⟩ (heapL wos11 938 31)) wts12 wos12 1324 46 = true := by kernel_rfl
end Go.Proofs.Ea
