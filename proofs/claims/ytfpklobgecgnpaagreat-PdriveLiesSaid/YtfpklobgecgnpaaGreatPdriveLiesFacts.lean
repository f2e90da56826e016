/-
  The closed facts of the row of 'PdriveLies', by the kernel. No condition.
-/
import Derived.Test.YtfpklobgecgnpaaGreatEnter
import Derived.WalkKit
import Derived.ProofKit
import Derived.OpenShut
namespace Go.Proofs.YtfpklobgecgnpaaGreat.pdriveLies
open Go.ChangeShapes Go.WideShapes Go.ChangeAt Go.RowKit
theorem closedFacts : joinedFacts Tryz.pinned.checked.prog 6 Tryz.f6 Rows.pdriveLiesSpec Rows.pdriveLiesRow = true := by
  unfold joinedFacts
  rw [mayEnterAll]
  kernel_rfl
end Go.Proofs.YtfpklobgecgnpaaGreat.pdriveLies
