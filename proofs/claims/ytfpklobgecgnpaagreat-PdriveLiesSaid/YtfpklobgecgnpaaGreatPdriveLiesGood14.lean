/-
  The abstract machine's runs of 'PdriveLies', by the kernel: every way that a valuation may go ends in 'true'. No condition.
-/
import Derived.Test.YtfpklobgecgnpaaGreatProg
import Derived.Test.YtfpklobgecgnpaaGreatDwPick
import Derived.KernelRfl
namespace Go.Proofs.YtfpklobgecgnpaaGreat.pdriveLies
theorem goodr13l8 : Dw.goodG [] (Dw.ev Tryz.prog (Dw.orcOr (Dw.orcOr (Dw.noOrc) (Dw.trueOrc [34])) (Dw.pickOrc 9 0 16 13)) 100000000 (.call 6 [.int .i64 (.var 0), .agg [.bool (.var 0), .bool (.var 1), .bool (.var 2)], .int .u16 (.flds [⟨1, 0, 65535, 0, 16, 0⟩] 0), .int .u16 (.lit 8)] Dw.heap0 Dw.isTrue)) = true := by kernel_rfl
theorem goodr13l9 : Dw.goodG [] (Dw.ev Tryz.prog (Dw.orcOr (Dw.orcOr (Dw.noOrc) (Dw.trueOrc [34])) (Dw.pickOrc 9 0 16 13)) 100000000 (.call 6 [.int .i64 (.var 0), .agg [.bool (.var 0), .bool (.var 1), .bool (.var 2)], .int .u16 (.flds [⟨1, 0, 65535, 0, 16, 0⟩] 0), .int .u16 (.lit 9)] Dw.heap0 Dw.isTrue)) = true := by kernel_rfl
theorem goodr13l10 : Dw.goodG [] (Dw.ev Tryz.prog (Dw.orcOr (Dw.orcOr (Dw.noOrc) (Dw.trueOrc [34])) (Dw.pickOrc 9 0 16 13)) 100000000 (.call 6 [.int .i64 (.var 0), .agg [.bool (.var 0), .bool (.var 1), .bool (.var 2)], .int .u16 (.flds [⟨1, 0, 65535, 0, 16, 0⟩] 0), .int .u16 (.lit 10)] Dw.heap0 Dw.isTrue)) = true := by kernel_rfl
theorem goodr13l11 : Dw.goodG [] (Dw.ev Tryz.prog (Dw.orcOr (Dw.orcOr (Dw.noOrc) (Dw.trueOrc [34])) (Dw.pickOrc 9 0 16 13)) 100000000 (.call 6 [.int .i64 (.var 0), .agg [.bool (.var 0), .bool (.var 1), .bool (.var 2)], .int .u16 (.flds [⟨1, 0, 65535, 0, 16, 0⟩] 0), .int .u16 (.lit 11)] Dw.heap0 Dw.isTrue)) = true := by kernel_rfl
theorem goodr13l12 : Dw.goodG [] (Dw.ev Tryz.prog (Dw.orcOr (Dw.orcOr (Dw.noOrc) (Dw.trueOrc [34])) (Dw.pickOrc 9 0 16 13)) 100000000 (.call 6 [.int .i64 (.var 0), .agg [.bool (.var 0), .bool (.var 1), .bool (.var 2)], .int .u16 (.flds [⟨1, 0, 65535, 0, 16, 0⟩] 0), .int .u16 (.lit 12)] Dw.heap0 Dw.isTrue)) = true := by kernel_rfl
theorem goodr13l13 : Dw.goodG [] (Dw.ev Tryz.prog (Dw.orcOr (Dw.orcOr (Dw.noOrc) (Dw.trueOrc [34])) (Dw.pickOrc 9 0 16 13)) 100000000 (.call 6 [.int .i64 (.var 0), .agg [.bool (.var 0), .bool (.var 1), .bool (.var 2)], .int .u16 (.flds [⟨1, 0, 65535, 0, 16, 0⟩] 0), .int .u16 (.lit 13)] Dw.heap0 Dw.isTrue)) = true := by kernel_rfl
theorem goodr13i14to65535 : Dw.goodG [] (Dw.ev Tryz.prog (Dw.orcOr (Dw.orcOr (Dw.noOrc) (Dw.trueOrc [34])) (Dw.pickOrc 9 0 16 13)) 100000000 (.call 6 [.int .i64 (.var 0), .agg [.bool (.var 0), .bool (.var 1), .bool (.var 2)], .int .u16 (.flds [⟨1, 0, 65535, 0, 16, 0⟩] 0), .int .u16 (.flds [⟨2, 14, 65535, 0, 16, 0⟩] 0)] Dw.heap0 Dw.isTrue)) = true := by kernel_rfl
theorem goodr14l0 : Dw.goodG [] (Dw.ev Tryz.prog (Dw.orcOr (Dw.orcOr (Dw.noOrc) (Dw.trueOrc [34])) (Dw.pickOrc 9 0 16 14)) 100000000 (.call 6 [.int .i64 (.var 0), .agg [.bool (.var 0), .bool (.var 1), .bool (.var 2)], .int .u16 (.flds [⟨1, 0, 65535, 0, 16, 0⟩] 0), .int .u16 (.lit 0)] Dw.heap0 Dw.isTrue)) = true := by kernel_rfl
end Go.Proofs.YtfpklobgecgnpaaGreat.pdriveLies
