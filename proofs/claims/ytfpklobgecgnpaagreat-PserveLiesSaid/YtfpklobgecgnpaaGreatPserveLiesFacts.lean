/-
  The closed facts of the row of 'PserveLies', by the kernel. No condition.
-/
import Derived.Test.YtfpklobgecgnpaaGreatEnter
import Derived.WalkKit
import Derived.ProofKit
import Derived.OpenShut
namespace Go.Proofs.YtfpklobgecgnpaaGreat.pserveLies
open Go.ChangeShapes Go.WideShapes Go.ChangeAt Go.RowKit
theorem closedFacts : joinedFacts Tryz.pinned.checked.prog 4 Tryz.f4 Rows.pserveLiesSpec Rows.pserveLiesRow = true := by
  unfold joinedFacts
  rw [mayEnterAll]
  kernel_rfl
end Go.Proofs.YtfpklobgecgnpaaGreat.pserveLies
