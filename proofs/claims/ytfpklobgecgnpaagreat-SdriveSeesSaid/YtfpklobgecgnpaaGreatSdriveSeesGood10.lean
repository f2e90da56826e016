/-
  The abstract machine's runs of 'SdriveSees', by the kernel: every way that a valuation may go ends in 'true'. No condition.
-/
import Derived.Test.YtfpklobgecgnpaaGreatProg
import Derived.Test.YtfpklobgecgnpaaGreatDwPick
import Derived.Test.YtfpklobgecgnpaaGreatOrc
import Derived.Test.YtfpklobgecgnpaaGreatOutC
import Derived.Test.YtfpklobgecgnpaaGreatTab
import Derived.KernelRfl
namespace Go.Proofs.YtfpklobgecgnpaaGreat.sdriveSees
theorem goodr7tl0 : Dw.goodG [] (Dw.ev Tryz.prog (Dw.orcOr (Dw.tabOrc (Dw.ringF [10,169] [130,53] 16)) (Dw.orcOr (Dw.orcOr (Dw.orcOr (Dw.sortedOrc 84 [135]) (Dw.trueOrc [7])) (Dw.pickOrc 9 0 12 7)) (Dw.outOrc 59 12))) 100000000 (.call 3 [.int .u16 (.lit 0), .int .i64 (.var 0), .bool (.lit true), .bool (.var 0)] Dw.heap0 Dw.isTrue)) = true := by kernel_rfl
theorem goodr7tl1 : Dw.goodG [] (Dw.ev Tryz.prog (Dw.orcOr (Dw.tabOrc (Dw.ringF [10,169] [130,53] 16)) (Dw.orcOr (Dw.orcOr (Dw.orcOr (Dw.sortedOrc 84 [135]) (Dw.trueOrc [7])) (Dw.pickOrc 9 0 12 7)) (Dw.outOrc 59 12))) 100000000 (.call 3 [.int .u16 (.lit 1), .int .i64 (.var 0), .bool (.lit true), .bool (.var 0)] Dw.heap0 Dw.isTrue)) = true := by kernel_rfl
theorem goodr7tl2 : Dw.goodG [] (Dw.ev Tryz.prog (Dw.orcOr (Dw.tabOrc (Dw.ringF [10,169] [130,53] 16)) (Dw.orcOr (Dw.orcOr (Dw.orcOr (Dw.sortedOrc 84 [135]) (Dw.trueOrc [7])) (Dw.pickOrc 9 0 12 7)) (Dw.outOrc 59 12))) 100000000 (.call 3 [.int .u16 (.lit 2), .int .i64 (.var 0), .bool (.lit true), .bool (.var 0)] Dw.heap0 Dw.isTrue)) = true := by kernel_rfl
theorem goodr7tl3 : Dw.goodG [] (Dw.ev Tryz.prog (Dw.orcOr (Dw.tabOrc (Dw.ringF [10,169] [130,53] 16)) (Dw.orcOr (Dw.orcOr (Dw.orcOr (Dw.sortedOrc 84 [135]) (Dw.trueOrc [7])) (Dw.pickOrc 9 0 12 7)) (Dw.outOrc 59 12))) 100000000 (.call 3 [.int .u16 (.lit 3), .int .i64 (.var 0), .bool (.lit true), .bool (.var 0)] Dw.heap0 Dw.isTrue)) = true := by kernel_rfl
theorem goodr7tl4 : Dw.goodG [] (Dw.ev Tryz.prog (Dw.orcOr (Dw.tabOrc (Dw.ringF [10,169] [130,53] 16)) (Dw.orcOr (Dw.orcOr (Dw.orcOr (Dw.sortedOrc 84 [135]) (Dw.trueOrc [7])) (Dw.pickOrc 9 0 12 7)) (Dw.outOrc 59 12))) 100000000 (.call 3 [.int .u16 (.lit 4), .int .i64 (.var 0), .bool (.lit true), .bool (.var 0)] Dw.heap0 Dw.isTrue)) = true := by kernel_rfl
end Go.Proofs.YtfpklobgecgnpaaGreat.sdriveSees
