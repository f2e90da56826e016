/-
  The abstract machine's runs of 'SdriveSees', by the kernel: every way that a valuation may go ends in 'true'. No condition.
-/
import Derived.Test.YtfpklobgecgnpaaGreatProg
import Derived.Test.YtfpklobgecgnpaaGreatDwPick
import Derived.Test.YtfpklobgecgnpaaGreatOrc
import Derived.Test.YtfpklobgecgnpaaGreatOutC
import Derived.Test.YtfpklobgecgnpaaGreatTab
import Derived.KernelRfl
namespace Go.Proofs.YtfpklobgecgnpaaGreat.sdriveSees
theorem goodr9tl2 : Dw.goodG [] (Dw.ev Tryz.prog (Dw.orcOr (Dw.tabOrc (Dw.ringF [10,169] [130,53] 16)) (Dw.orcOr (Dw.orcOr (Dw.orcOr (Dw.sortedOrc 84 [135]) (Dw.trueOrc [7])) (Dw.pickOrc 9 0 12 9)) (Dw.outOrc 59 12))) 100000000 (.call 3 [.int .u16 (.lit 2), .int .i64 (.var 0), .bool (.lit true), .bool (.var 0)] Dw.heap0 Dw.isTrue)) = true := by kernel_rfl
theorem goodr9tl3 : Dw.goodG [] (Dw.ev Tryz.prog (Dw.orcOr (Dw.tabOrc (Dw.ringF [10,169] [130,53] 16)) (Dw.orcOr (Dw.orcOr (Dw.orcOr (Dw.sortedOrc 84 [135]) (Dw.trueOrc [7])) (Dw.pickOrc 9 0 12 9)) (Dw.outOrc 59 12))) 100000000 (.call 3 [.int .u16 (.lit 3), .int .i64 (.var 0), .bool (.lit true), .bool (.var 0)] Dw.heap0 Dw.isTrue)) = true := by kernel_rfl
theorem goodr9tl4 : Dw.goodG [] (Dw.ev Tryz.prog (Dw.orcOr (Dw.tabOrc (Dw.ringF [10,169] [130,53] 16)) (Dw.orcOr (Dw.orcOr (Dw.orcOr (Dw.sortedOrc 84 [135]) (Dw.trueOrc [7])) (Dw.pickOrc 9 0 12 9)) (Dw.outOrc 59 12))) 100000000 (.call 3 [.int .u16 (.lit 4), .int .i64 (.var 0), .bool (.lit true), .bool (.var 0)] Dw.heap0 Dw.isTrue)) = true := by kernel_rfl
theorem goodr9tl5 : Dw.goodG [] (Dw.ev Tryz.prog (Dw.orcOr (Dw.tabOrc (Dw.ringF [10,169] [130,53] 16)) (Dw.orcOr (Dw.orcOr (Dw.orcOr (Dw.sortedOrc 84 [135]) (Dw.trueOrc [7])) (Dw.pickOrc 9 0 12 9)) (Dw.outOrc 59 12))) 100000000 (.call 3 [.int .u16 (.lit 5), .int .i64 (.var 0), .bool (.lit true), .bool (.var 0)] Dw.heap0 Dw.isTrue)) = true := by kernel_rfl
theorem goodr9tl6 : Dw.goodG [] (Dw.ev Tryz.prog (Dw.orcOr (Dw.tabOrc (Dw.ringF [10,169] [130,53] 16)) (Dw.orcOr (Dw.orcOr (Dw.orcOr (Dw.sortedOrc 84 [135]) (Dw.trueOrc [7])) (Dw.pickOrc 9 0 12 9)) (Dw.outOrc 59 12))) 100000000 (.call 3 [.int .u16 (.lit 6), .int .i64 (.var 0), .bool (.lit true), .bool (.var 0)] Dw.heap0 Dw.isTrue)) = true := by kernel_rfl
end Go.Proofs.YtfpklobgecgnpaaGreat.sdriveSees
