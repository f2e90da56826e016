/-
  The closed facts of the row of 'SectorsNames', by the kernel. No condition.
-/
import Derived.Test.YtihjjmhkfbcdeaaEnter
import Derived.WalkKit
import Derived.ProofKit
import Derived.OpenShut
namespace Go.Proofs.Ytihjjmhkfbcdeaa.sectorsNames
open Go.ChangeShapes Go.WideShapes Go.ChangeAt Go.RowKit
theorem closedFacts : joinedFacts Try.pinned.checked.prog 5 Try.f5 Rows.sectorsNamesSpec Rows.sectorsNamesRow = true := by
  unfold joinedFacts
  rw [mayEnterAll]
  kernel_rfl
end Go.Proofs.Ytihjjmhkfbcdeaa.sectorsNames
