/-
  The abstract machine's runs of 'PdriveLies', by the kernel: every way that a valuation may go ends in 'true'. No condition.
-/
import Derived.Test.YtfpklobgecgnpaaGreatProg
import Derived.Test.YtfpklobgecgnpaaGreatDwPick
import Derived.KernelRfl
namespace Go.Proofs.YtfpklobgecgnpaaGreat.pdriveLies
theorem goodr2i3to65535 : Dw.goodG [] (Dw.ev Tryz.prog (Dw.orcOr (Dw.orcOr (Dw.noOrc) (Dw.trueOrc [34])) (Dw.pickOrc 9 0 16 2)) 100000000 (.call 6 [.int .i64 (.var 0), .agg [.bool (.var 0), .bool (.var 1), .bool (.var 2)], .int .u16 (.flds [⟨1, 0, 65535, 0, 16, 0⟩] 0), .int .u16 (.flds [⟨2, 3, 65535, 0, 16, 0⟩] 0)] Dw.heap0 Dw.isTrue)) = true := by kernel_rfl
theorem goodr3l0 : Dw.goodG [] (Dw.ev Tryz.prog (Dw.orcOr (Dw.orcOr (Dw.noOrc) (Dw.trueOrc [34])) (Dw.pickOrc 9 0 16 3)) 100000000 (.call 6 [.int .i64 (.var 0), .agg [.bool (.var 0), .bool (.var 1), .bool (.var 2)], .int .u16 (.flds [⟨1, 0, 65535, 0, 16, 0⟩] 0), .int .u16 (.lit 0)] Dw.heap0 Dw.isTrue)) = true := by kernel_rfl
theorem goodr3l1 : Dw.goodG [] (Dw.ev Tryz.prog (Dw.orcOr (Dw.orcOr (Dw.noOrc) (Dw.trueOrc [34])) (Dw.pickOrc 9 0 16 3)) 100000000 (.call 6 [.int .i64 (.var 0), .agg [.bool (.var 0), .bool (.var 1), .bool (.var 2)], .int .u16 (.flds [⟨1, 0, 65535, 0, 16, 0⟩] 0), .int .u16 (.lit 1)] Dw.heap0 Dw.isTrue)) = true := by kernel_rfl
theorem goodr3l2 : Dw.goodG [] (Dw.ev Tryz.prog (Dw.orcOr (Dw.orcOr (Dw.noOrc) (Dw.trueOrc [34])) (Dw.pickOrc 9 0 16 3)) 100000000 (.call 6 [.int .i64 (.var 0), .agg [.bool (.var 0), .bool (.var 1), .bool (.var 2)], .int .u16 (.flds [⟨1, 0, 65535, 0, 16, 0⟩] 0), .int .u16 (.lit 2)] Dw.heap0 Dw.isTrue)) = true := by kernel_rfl
theorem goodr3l3 : Dw.goodG [] (Dw.ev Tryz.prog (Dw.orcOr (Dw.orcOr (Dw.noOrc) (Dw.trueOrc [34])) (Dw.pickOrc 9 0 16 3)) 100000000 (.call 6 [.int .i64 (.var 0), .agg [.bool (.var 0), .bool (.var 1), .bool (.var 2)], .int .u16 (.flds [⟨1, 0, 65535, 0, 16, 0⟩] 0), .int .u16 (.lit 3)] Dw.heap0 Dw.isTrue)) = true := by kernel_rfl
theorem goodr3i4to65535 : Dw.goodG [] (Dw.ev Tryz.prog (Dw.orcOr (Dw.orcOr (Dw.noOrc) (Dw.trueOrc [34])) (Dw.pickOrc 9 0 16 3)) 100000000 (.call 6 [.int .i64 (.var 0), .agg [.bool (.var 0), .bool (.var 1), .bool (.var 2)], .int .u16 (.flds [⟨1, 0, 65535, 0, 16, 0⟩] 0), .int .u16 (.flds [⟨2, 4, 65535, 0, 16, 0⟩] 0)] Dw.heap0 Dw.isTrue)) = true := by kernel_rfl
theorem goodr4l0 : Dw.goodG [] (Dw.ev Tryz.prog (Dw.orcOr (Dw.orcOr (Dw.noOrc) (Dw.trueOrc [34])) (Dw.pickOrc 9 0 16 4)) 100000000 (.call 6 [.int .i64 (.var 0), .agg [.bool (.var 0), .bool (.var 1), .bool (.var 2)], .int .u16 (.flds [⟨1, 0, 65535, 0, 16, 0⟩] 0), .int .u16 (.lit 0)] Dw.heap0 Dw.isTrue)) = true := by kernel_rfl
theorem goodr4l1 : Dw.goodG [] (Dw.ev Tryz.prog (Dw.orcOr (Dw.orcOr (Dw.noOrc) (Dw.trueOrc [34])) (Dw.pickOrc 9 0 16 4)) 100000000 (.call 6 [.int .i64 (.var 0), .agg [.bool (.var 0), .bool (.var 1), .bool (.var 2)], .int .u16 (.flds [⟨1, 0, 65535, 0, 16, 0⟩] 0), .int .u16 (.lit 1)] Dw.heap0 Dw.isTrue)) = true := by kernel_rfl
end Go.Proofs.YtfpklobgecgnpaaGreat.pdriveLies
