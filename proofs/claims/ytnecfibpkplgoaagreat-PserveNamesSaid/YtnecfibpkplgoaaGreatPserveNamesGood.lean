/-
  The abstract machine's run of the closed call 'PserveNames', by the kernel: every way ends in 'true'. No condition.
-/
import Derived.Test.YtnecfibpkplgoaaGreatProg
import Derived.Test.YtnecfibpkplgoaaGreatLives47
import Derived.KernelRfl
namespace Go.Proofs.YtnecfibpkplgoaaGreat.pserveNames

/-! ### The abstract machine's run of the closed call, by the kernel: every way ends in 'true' -/
theorem good : (Dw.ev Tryz.prog (Dw.orcOr (Dw.sortedOrc 97 [162, 173]) (Dw.trueOrc [47])) 100000000 (.call 6 [] Dw.heap0 Dw.isTrue)).good = true := by kernel_rfl

end Go.Proofs.YtnecfibpkplgoaaGreat.pserveNames
