/-
  The closed facts of the row of 'PairNames', by the kernel. No condition.
-/
import Derived.Test.YtapcbpknhnfcfaaGreatEnter
import Derived.WalkKit
import Derived.ProofKit
import Derived.OpenShut
namespace Go.Proofs.YtapcbpknhnfcfaaGreat.pairNames
open Go.ChangeShapes Go.WideShapes Go.ChangeAt Go.RowKit
theorem closedFacts : joinedFacts Tryz.pinned.checked.prog 4 Tryz.f4 Rows.pairNamesSpec Rows.pairNamesRow = true := by
  unfold joinedFacts
  rw [mayEnterAll]
  kernel_rfl
end Go.Proofs.YtapcbpknhnfcfaaGreat.pairNames
