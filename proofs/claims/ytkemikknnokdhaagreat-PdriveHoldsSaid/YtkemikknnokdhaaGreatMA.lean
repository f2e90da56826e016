/-
  Proved: laws on the way to 'PdriveHoldsProof' (Lives5 Enter PdriveHoldsFacts); no condition.
-/
import Derived.Test.YtkemikknnokdhaaGreatM7
import Derived.Test.YtkemikknnokdhaaGreatProg
import Derived.KernelRfl
import Derived.Test.YtkemikknnokdhaaGreatRows
import Derived.WalkKit
import Derived.ProofKit
import Derived.OpenShut
set_option linter.unusedSimpArgs false
set_option linter.unusedVariables false
set_option maxHeartbeats 4000000
noncomputable section
namespace Go.Proofs.YtkemikknnokdhaaGreat
theorem zoz:(Dw.ev Tryz.prog (Dw.zot) 100000000 (.call 5 [] Dw.heap0 Dw.isTrue)).good=true:=by kernel_rfl
theorem lives5:Dw.ztr Tryz.prog 5:=Dw.zoj (by kernel_rfl) (fun w=>Dw.znf) zoz
theorem zl3:Tryz.pinned.checked.prog.mayEnter=true:=by kernel_rfl
end Go.Proofs.YtkemikknnokdhaaGreat
namespace Go.Proofs.YtkemikknnokdhaaGreat.pdriveHolds
open Go.ChangeShapes Go.WideShapes Go.ChangeAt Go.RowKit
theorem closedFacts:joinedFacts Tryz.pinned.checked.prog 4 Tryz.f4 Rows.pdriveHoldsSpec Rows.pdriveHoldsRow=true:=by
 unfold joinedFacts;rw [zl3];kernel_rfl
end Go.Proofs.YtkemikknnokdhaaGreat.pdriveHolds
end
