/-
  The closed facts of the row of 'SectorsHas', by the kernel. No condition.
-/
import Derived.Test.YtihjjmhkfbcdeaaEnter
import Derived.WalkKit
import Derived.ProofKit
import Derived.OpenShut
namespace Go.Proofs.Ytihjjmhkfbcdeaa.sectorsHas
open Go.ChangeShapes Go.WideShapes Go.ChangeAt Go.RowKit
theorem closedFacts : joinedFacts Try.pinned.checked.prog 3 Try.f3 Rows.sectorsHasSpec Rows.sectorsHasRow = true := by
  unfold joinedFacts
  rw [mayEnterAll]
  kernel_rfl
end Go.Proofs.Ytihjjmhkfbcdeaa.sectorsHas
