/-
  The closed facts of the row of 'PserveNil', by the kernel. No condition.
-/
import Derived.Test.YtnecfibpkplgoaaGreatEnter
import Derived.WalkKit
import Derived.ProofKit
import Derived.OpenShut
namespace Go.Proofs.YtnecfibpkplgoaaGreat.pserveNil
open Go.ChangeShapes Go.WideShapes Go.ChangeAt Go.RowKit
theorem closedFacts : joinedFacts Tryz.pinned.checked.prog 7 Tryz.f7 Rows.pserveNilSpec Rows.pserveNilRow = true := by
  unfold joinedFacts
  rw [mayEnterAll]
  kernel_rfl
end Go.Proofs.YtnecfibpkplgoaaGreat.pserveNil
