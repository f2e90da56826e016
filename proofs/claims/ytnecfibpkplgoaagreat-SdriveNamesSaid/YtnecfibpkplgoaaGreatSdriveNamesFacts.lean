/-
  The closed facts of the row of 'SdriveNames', by the kernel. No condition.
-/
import Derived.Test.YtnecfibpkplgoaaGreatEnter
import Derived.WalkKit
import Derived.ProofKit
import Derived.OpenShut
namespace Go.Proofs.YtnecfibpkplgoaaGreat.sdriveNames
open Go.ChangeShapes Go.WideShapes Go.ChangeAt Go.RowKit
theorem closedFacts : joinedFacts Tryz.pinned.checked.prog 11 Tryz.f11 Rows.sdriveNamesSpec Rows.sdriveNamesRow = true := by
  unfold joinedFacts
  rw [mayEnterAll]
  kernel_rfl
end Go.Proofs.YtnecfibpkplgoaaGreat.sdriveNames
