/-
  The abstract machine's run of the closed call 'PairNames', by the kernel: every way ends in 'true'. No condition.
-/
import Derived.Test.YtapcbpknhnfcfaaGreatProg
import Derived.Test.YtapcbpknhnfcfaaGreatLives7
import Derived.KernelRfl
namespace Go.Proofs.YtapcbpknhnfcfaaGreat.pairNames

/-! ### The abstract machine's run of the closed call, by the kernel: every way ends in 'true' -/
theorem good : (Dw.ev Tryz.prog (Dw.orcOr (Dw.sortedOrc 352 [357, 432]) (Dw.trueOrc [7])) 100000000 (.call 4 [] Dw.heap0 Dw.isTrue)).good = true := by kernel_rfl

end Go.Proofs.YtapcbpknhnfcfaaGreat.pairNames
