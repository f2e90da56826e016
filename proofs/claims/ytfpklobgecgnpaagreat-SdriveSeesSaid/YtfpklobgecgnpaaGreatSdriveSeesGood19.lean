/-
  The abstract machine's runs of 'SdriveSees', by the kernel: every way that a valuation may go ends in 'true'. No condition.
-/
import Derived.Test.YtfpklobgecgnpaaGreatProg
import Derived.Test.YtfpklobgecgnpaaGreatDwPick
import Derived.Test.YtfpklobgecgnpaaGreatOrc
import Derived.Test.YtfpklobgecgnpaaGreatOutC
import Derived.Test.YtfpklobgecgnpaaGreatTab
import Derived.KernelRfl
namespace Go.Proofs.YtfpklobgecgnpaaGreat.sdriveSees
theorem goodr10tl9 : Dw.goodG [] (Dw.ev Tryz.prog (Dw.orcOr (Dw.tabOrc (Dw.ringF [10,169] [130,53] 16)) (Dw.orcOr (Dw.orcOr (Dw.orcOr (Dw.sortedOrc 84 [135]) (Dw.trueOrc [7])) (Dw.pickOrc 9 0 12 10)) (Dw.outOrc 59 12))) 100000000 (.call 3 [.int .u16 (.lit 9), .int .i64 (.var 0), .bool (.lit true), .bool (.var 0)] Dw.heap0 Dw.isTrue)) = true := by kernel_rfl
theorem goodr10tl10 : Dw.goodG [] (Dw.ev Tryz.prog (Dw.orcOr (Dw.tabOrc (Dw.ringF [10,169] [130,53] 16)) (Dw.orcOr (Dw.orcOr (Dw.orcOr (Dw.sortedOrc 84 [135]) (Dw.trueOrc [7])) (Dw.pickOrc 9 0 12 10)) (Dw.outOrc 59 12))) 100000000 (.call 3 [.int .u16 (.lit 10), .int .i64 (.var 0), .bool (.lit true), .bool (.var 0)] Dw.heap0 Dw.isTrue)) = true := by kernel_rfl
theorem goodr10tl11 : Dw.goodG [] (Dw.ev Tryz.prog (Dw.orcOr (Dw.tabOrc (Dw.ringF [10,169] [130,53] 16)) (Dw.orcOr (Dw.orcOr (Dw.orcOr (Dw.sortedOrc 84 [135]) (Dw.trueOrc [7])) (Dw.pickOrc 9 0 12 10)) (Dw.outOrc 59 12))) 100000000 (.call 3 [.int .u16 (.lit 11), .int .i64 (.var 0), .bool (.lit true), .bool (.var 0)] Dw.heap0 Dw.isTrue)) = true := by kernel_rfl
theorem goodr10ti12to65535 : Dw.goodG [] (Dw.ev Tryz.prog (Dw.orcOr (Dw.tabOrc (Dw.ringF [10,169] [130,53] 16)) (Dw.orcOr (Dw.orcOr (Dw.orcOr (Dw.sortedOrc 84 [135]) (Dw.trueOrc [7])) (Dw.pickOrc 9 1 12 10)) (Dw.outOrc 59 12))) 100000000 (.call 3 [.int .u16 (.flds [⟨0, 12, 65535, 0, 16, 0⟩] 0), .int .i64 (.var 1), .bool (.lit true), .bool (.var 0)] Dw.heap0 Dw.isTrue)) = true := by kernel_rfl
theorem goodr11fi0to65535 : Dw.goodG [] (Dw.ev Tryz.prog (Dw.orcOr (Dw.tabOrc (Dw.ringF [10,169] [130,53] 16)) (Dw.orcOr (Dw.orcOr (Dw.orcOr (Dw.sortedOrc 84 [135]) (Dw.trueOrc [7])) (Dw.pickOrc 9 1 12 11)) (Dw.outOrc 59 12))) 100000000 (.call 3 [.int .u16 (.flds [⟨0, 0, 65535, 0, 16, 0⟩] 0), .int .i64 (.var 1), .bool (.lit false), .bool (.var 0)] Dw.heap0 Dw.isTrue)) = true := by kernel_rfl
end Go.Proofs.YtfpklobgecgnpaaGreat.sdriveSees
