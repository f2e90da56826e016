/-
  The closed facts of the row of 'SectorsParts', by the kernel. No condition.
-/
import Derived.Test.YtihjjmhkfbcdeaaEnter
import Derived.WalkKit
import Derived.ProofKit
import Derived.OpenShut
namespace Go.Proofs.Ytihjjmhkfbcdeaa.sectorsParts
open Go.ChangeShapes Go.WideShapes Go.ChangeAt Go.RowKit
theorem closedFacts : joinedFacts Try.pinned.checked.prog 4 Try.f4 Rows.sectorsPartsSpec Rows.sectorsPartsRow = true := by
  unfold joinedFacts
  rw [mayEnterAll]
  kernel_rfl
end Go.Proofs.Ytihjjmhkfbcdeaa.sectorsParts
