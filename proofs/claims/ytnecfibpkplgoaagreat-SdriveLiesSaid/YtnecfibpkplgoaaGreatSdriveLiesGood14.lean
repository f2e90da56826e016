/-
  The abstract machine's runs of 'SdriveLies', by the kernel: every way that a valuation may go ends in 'true'. No condition.
-/
import Derived.Test.YtnecfibpkplgoaaGreatProg
import Derived.Test.YtnecfibpkplgoaaGreatDwPick
import Derived.Test.YtnecfibpkplgoaaGreatOrc
import Derived.KernelRfl
namespace Go.Proofs.YtnecfibpkplgoaaGreat.sdriveLies
theorem goodr3tfz : Dw.goodG [] (Dw.ev Tryz.prog (Dw.orcOr (Dw.orcOr (Dw.sortedOrc 97 [162, 173]) (Dw.trueOrc [72])) (Dw.pickOrc 31 0 5 3)) 100000000 (.call 14 [.int .i64 (.var 0), .agg [.bool (.lit true), .bool (.lit false), .bool (.var 0)], .int .u16 (.flds [⟨1, 0, 65535, 0, 16, 0⟩] 0), .int .u32 (.lit 0), .bool (.var 1)] Dw.heap0 Dw.isTrue)) = true := by kernel_rfl
theorem goodr3tfn : Dw.goodG [] (Dw.ev Tryz.prog (Dw.orcOr (Dw.orcOr (Dw.sortedOrc 97 [162, 173]) (Dw.trueOrc [72])) (Dw.pickOrc 31 0 5 3)) 100000000 (.call 14 [.int .i64 (.var 0), .agg [.bool (.lit true), .bool (.lit false), .bool (.var 0)], .int .u16 (.flds [⟨1, 0, 65535, 0, 16, 0⟩] 0), .int .u32 (.flds [⟨2, 1, 4294967295, 0, 32, 0⟩] 0), .bool (.var 1)] Dw.heap0 Dw.isTrue)) = true := by kernel_rfl
end Go.Proofs.YtnecfibpkplgoaaGreat.sdriveLies
