/- A piece of the example. -/
import Derived.Test.YtnedikjioliodaaGreatDoorNw0
set_option linter.all false
namespace Go.Proofs.Ea
open Go Go.AM
set_option maxRecDepth 100000
theorem w14 : cutOk (runSpine evT 1 (dropN 1 (dropN 1 (dropN 5 (dropN 3 (dropN 3 body8))))) (ofL wts13) ⟨[], none, none⟩ (heapL wos13 1523 52)) wts14 wos14 1609 54 = true := by kernel_rfl
end Go.Proofs.Ea
