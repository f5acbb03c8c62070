/- A piece of the example. -/
import Derived.Test.YtnedikjioliodaaGreatDoorNw0
set_option linter.all false
namespace Go.Proofs.Ea
open Go Go.AM
set_option maxRecDepth 100000
theorem wEnd : retOk (leave (call0 tab evT) [.tmp 0] (evT (dropN 1 (dropN 1 (dropN 1 (dropN 5 (dropN 3 (dropN 3 body8)))))) (ofL wts14) ⟨[], none, none⟩ (heapL wos14 1609 54))) (.bool true) os0 1653 55 = true := by kernel_rfl
end Go.Proofs.Ea
