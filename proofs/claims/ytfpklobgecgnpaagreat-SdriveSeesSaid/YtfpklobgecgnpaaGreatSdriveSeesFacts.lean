/-
  The closed facts of the row of 'SdriveSees', by the kernel. No condition.
-/
import Derived.Test.YtfpklobgecgnpaaGreatEnter
import Derived.WalkKit
import Derived.ProofKit
import Derived.OpenShut
namespace Go.Proofs.YtfpklobgecgnpaaGreat.sdriveSees
open Go.ChangeShapes Go.WideShapes Go.ChangeAt Go.RowKit
theorem closedFacts : joinedFacts Tryz.pinned.checked.prog 3 Tryz.f3 Rows.sdriveSeesSpec Rows.sdriveSeesRow = true := by
  unfold joinedFacts
  rw [mayEnterAll]
  kernel_rfl
end Go.Proofs.YtfpklobgecgnpaaGreat.sdriveSees
