/-
  The abstract machine's run of the closed call 'SectorsNames', by the kernel: every way ends in 'true'. No condition.
-/
import Derived.Test.YtihjjmhkfbcdeaaProg
import Derived.Test.YtihjjmhkfbcdeaaLives6
import Derived.KernelRfl
namespace Go.Proofs.Ytihjjmhkfbcdeaa.sectorsNames

/-! ### The abstract machine's run of the closed call, by the kernel: every way ends in 'true' -/
theorem good : (Dw.ev Try.prog (Dw.orcOr (Dw.sortedOrc 22 [26]) (Dw.trueOrc [6])) 100000000 (.call 5 [] Dw.heap0 Dw.isTrue)).good = true := by kernel_rfl

end Go.Proofs.Ytihjjmhkfbcdeaa.sectorsNames
