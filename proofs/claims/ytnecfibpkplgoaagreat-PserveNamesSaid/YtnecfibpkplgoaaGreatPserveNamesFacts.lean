/-
  The closed facts of the row of 'PserveNames', by the kernel. No condition.
-/
import Derived.Test.YtnecfibpkplgoaaGreatEnter
import Derived.WalkKit
import Derived.ProofKit
import Derived.OpenShut
namespace Go.Proofs.YtnecfibpkplgoaaGreat.pserveNames
open Go.ChangeShapes Go.WideShapes Go.ChangeAt Go.RowKit
theorem closedFacts : joinedFacts Tryz.pinned.checked.prog 6 Tryz.f6 Rows.pserveNamesSpec Rows.pserveNamesRow = true := by
  unfold joinedFacts
  rw [mayEnterAll]
  kernel_rfl
end Go.Proofs.YtnecfibpkplgoaaGreat.pserveNames
