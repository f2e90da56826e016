/-
  The closed facts of the row of 'PairNil', by the kernel. No condition.
-/
import Derived.Test.YtapcbpknhnfcfaaGreatEnter
import Derived.WalkKit
import Derived.ProofKit
import Derived.OpenShut
namespace Go.Proofs.YtapcbpknhnfcfaaGreat.pairNil
open Go.ChangeShapes Go.WideShapes Go.ChangeAt Go.RowKit
theorem closedFacts : joinedFacts Tryz.pinned.checked.prog 3 Tryz.f3 Rows.pairNilSpec Rows.pairNilRow = true := by
  unfold joinedFacts
  rw [mayEnterAll]
  kernel_rfl
end Go.Proofs.YtapcbpknhnfcfaaGreat.pairNil
