/-
  The abstract machine's run of the closed call 'SserveNames', by the kernel: every way ends in 'true'. No condition.
-/
import Derived.Test.YtnecfibpkplgoaaGreatProg
import Derived.Test.YtnecfibpkplgoaaGreatLives27
import Derived.KernelRfl
namespace Go.Proofs.YtnecfibpkplgoaaGreat.sserveNames

/-! ### The abstract machine's run of the closed call, by the kernel: every way ends in 'true' -/
theorem good : (Dw.ev Tryz.prog (Dw.orcOr (Dw.sortedOrc 97 [162, 173]) (Dw.trueOrc [27])) 100000000 (.call 3 [] Dw.heap0 Dw.isTrue)).good = true := by kernel_rfl

end Go.Proofs.YtnecfibpkplgoaaGreat.sserveNames
