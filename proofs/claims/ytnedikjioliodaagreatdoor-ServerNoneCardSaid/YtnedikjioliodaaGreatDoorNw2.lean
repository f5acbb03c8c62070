/- A piece of the example. -/
import Derived.Test.YtnedikjioliodaaGreatDoorNw0
set_option linter.all false
namespace Go.Proofs.Ea
open Go Go.AM
set_option maxRecDepth 100000
theorem w6 : cutOk (runSpine evT 3 (dropN 3 body8) (ofL wts3) ⟨[], none, none⟩ (heapL wos3 704 23)) wts6 wos6 725 23 = true := by kernel_rfl
end Go.Proofs.Ea
