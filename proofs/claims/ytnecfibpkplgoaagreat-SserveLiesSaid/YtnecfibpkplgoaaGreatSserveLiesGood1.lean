/-
  The abstract machine's runs of 'SserveLies', by the kernel: every way that a valuation may go ends in 'true'. No condition.
-/
import Derived.Test.YtnecfibpkplgoaaGreatProg
import Derived.Test.YtnecfibpkplgoaaGreatDwPick
import Derived.Test.YtnecfibpkplgoaaGreatOrc
import Derived.KernelRfl
namespace Go.Proofs.YtnecfibpkplgoaaGreat.sserveLies
theorem goodr1 : Dw.goodG [] (Dw.ev Tryz.prog (Dw.orcOr (Dw.orcOr (Dw.sortedOrc 97 [162, 173]) (Dw.trueOrc [27])) (Dw.pickOrc 31 0 4 1)) 100000000 (.call 5 [.int .i64 (.var 0), .agg [.bool (.var 0), .bool (.var 1), .bool (.var 2)], .int .u16 (.flds [⟨1, 0, 65535, 0, 16, 0⟩] 0), .bool (.var 3)] Dw.heap0 Dw.isTrue)) = true := by kernel_rfl
end Go.Proofs.YtnecfibpkplgoaaGreat.sserveLies
