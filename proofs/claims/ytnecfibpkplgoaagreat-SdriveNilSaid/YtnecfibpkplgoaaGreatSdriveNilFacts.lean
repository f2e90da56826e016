/-
  The closed facts of the row of 'SdriveNil', by the kernel. No condition.
-/
import Derived.Test.YtnecfibpkplgoaaGreatEnter
import Derived.WalkKit
import Derived.ProofKit
import Derived.OpenShut
namespace Go.Proofs.YtnecfibpkplgoaaGreat.sdriveNil
open Go.ChangeShapes Go.WideShapes Go.ChangeAt Go.RowKit
theorem closedFacts : joinedFacts Tryz.pinned.checked.prog 12 Tryz.f12 Rows.sdriveNilSpec Rows.sdriveNilRow = true := by
  unfold joinedFacts
  rw [mayEnterAll]
  kernel_rfl
end Go.Proofs.YtnecfibpkplgoaaGreat.sdriveNil
