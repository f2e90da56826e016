/-
  The abstract machine's run of the closed call 'TransNames', by the kernel: every way ends in 'true'. No condition.
-/
import Derived.Test.YtgmlcegjapbinaaGreatProg
import Derived.Test.YtgmlcegjapbinaaGreatLives10
import Derived.KernelRfl
namespace Go.Proofs.YtgmlcegjapbinaaGreat.transNames

/-! ### The abstract machine's run of the closed call, by the kernel: every way ends in 'true' -/
theorem good : (Dw.ev Tryz.prog (Dw.orcOr (Dw.sortedOrc 298 [304, 379]) (Dw.trueOrc [10])) 100000000 (.call 3 [] Dw.heap0 Dw.isTrue)).good = true := by kernel_rfl

end Go.Proofs.YtgmlcegjapbinaaGreat.transNames
