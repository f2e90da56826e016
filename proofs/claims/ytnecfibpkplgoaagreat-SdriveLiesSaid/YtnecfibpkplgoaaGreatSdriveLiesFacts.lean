/-
  The closed facts of the row of 'SdriveLies', by the kernel. No condition.
-/
import Derived.Test.YtnecfibpkplgoaaGreatEnter
import Derived.WalkKit
import Derived.ProofKit
import Derived.OpenShut
namespace Go.Proofs.YtnecfibpkplgoaaGreat.sdriveLies
open Go.ChangeShapes Go.WideShapes Go.ChangeAt Go.RowKit
theorem closedFacts : joinedFacts Tryz.pinned.checked.prog 14 Tryz.f14 Rows.sdriveLiesSpec Rows.sdriveLiesRow = true := by
  unfold joinedFacts
  rw [mayEnterAll]
  kernel_rfl
end Go.Proofs.YtnecfibpkplgoaaGreat.sdriveLies
