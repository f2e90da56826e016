/-
  The closed facts of the row of 'PdriveSees', by the kernel. No condition.
-/
import Derived.Test.YtfpklobgecgnpaaGreatEnter
import Derived.WalkKit
import Derived.ProofKit
import Derived.OpenShut
namespace Go.Proofs.YtfpklobgecgnpaaGreat.pdriveSees
open Go.ChangeShapes Go.WideShapes Go.ChangeAt Go.RowKit
theorem closedFacts : joinedFacts Tryz.pinned.checked.prog 5 Tryz.f5 Rows.pdriveSeesSpec Rows.pdriveSeesRow = true := by
  unfold joinedFacts
  rw [mayEnterAll]
  kernel_rfl
end Go.Proofs.YtfpklobgecgnpaaGreat.pdriveSees
