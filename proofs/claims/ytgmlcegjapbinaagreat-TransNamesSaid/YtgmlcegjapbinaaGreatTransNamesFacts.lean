/-
  The closed facts of the row of 'TransNames', by the kernel. No condition.
-/
import Derived.Test.YtgmlcegjapbinaaGreatEnter
import Derived.WalkKit
import Derived.ProofKit
import Derived.OpenShut
namespace Go.Proofs.YtgmlcegjapbinaaGreat.transNames
open Go.ChangeShapes Go.WideShapes Go.ChangeAt Go.RowKit
theorem closedFacts : joinedFacts Tryz.pinned.checked.prog 3 Tryz.f3 Rows.transNamesSpec Rows.transNamesRow = true := by
  unfold joinedFacts
  rw [mayEnterAll]
  kernel_rfl
end Go.Proofs.YtgmlcegjapbinaaGreat.transNames
