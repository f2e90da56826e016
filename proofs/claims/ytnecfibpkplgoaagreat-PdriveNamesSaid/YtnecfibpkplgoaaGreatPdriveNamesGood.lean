/-
  The abstract machine's run of the closed call 'PdriveNames', by the kernel: every way ends in 'true'. No condition.
-/
import Derived.Test.YtnecfibpkplgoaaGreatProg
import Derived.Test.YtnecfibpkplgoaaGreatDwEnd
import Derived.KernelRfl
namespace Go.Proofs.YtnecfibpkplgoaaGreat.pdriveNames

/-! ### The abstract machine's run of the closed call, by the kernel: every way ends in 'true' -/
theorem good : (Dw.ev Tryz.prog Dw.noOrc 100000000 (.call 9 [] Dw.heap0 Dw.isTrue)).good = true := by kernel_rfl

end Go.Proofs.YtnecfibpkplgoaaGreat.pdriveNames
