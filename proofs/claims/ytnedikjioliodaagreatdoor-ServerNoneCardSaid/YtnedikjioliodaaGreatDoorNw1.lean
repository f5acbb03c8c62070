/- A piece of the example. -/
import Derived.Test.YtnedikjioliodaaGreatDoorNw0
set_option linter.all false
namespace Go.Proofs.Ea
open Go Go.AM
set_option maxRecDepth 100000
theorem w3 : cutOk (runSpine evT 3 body8 (argsT []) ⟨[], none, none⟩ (heapL os0 2 1)) wts3 wos3 704 23 = true := by kernel_rfl
end Go.Proofs.Ea
