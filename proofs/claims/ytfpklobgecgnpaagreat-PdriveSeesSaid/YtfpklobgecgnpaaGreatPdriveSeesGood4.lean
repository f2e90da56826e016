/-
  The abstract machine's runs of 'PdriveSees', by the kernel: every way that a valuation may go ends in 'true'. No condition.
-/
import Derived.Test.YtfpklobgecgnpaaGreatProg
import Derived.Test.YtfpklobgecgnpaaGreatDwPick
import Derived.Test.YtfpklobgecgnpaaGreatDwMod
import Derived.KernelRfl
namespace Go.Proofs.YtfpklobgecgnpaaGreat.pdriveSees
theorem goodr1m2i32776to65535 : Dw.goodG [] (Dw.ev Tryz.prog (Dw.orcOr (Dw.orcOr (Dw.noOrc) (Dw.trueOrc [34])) (Dw.pickOrc 9 2 8 1)) 100000000 (.call 5 [.int .u16 (.flds [⟨0, 8, 32767, 0, 15, 0⟩] 32768), .int .u16 (.flds [⟨1, 0, 16383, 0, 14, 2⟩] 2), .int .i64 (.var 2), .bool (.var 0), .bool (.var 1)] Dw.heap0 Dw.isTrue)) = true := by kernel_rfl
theorem goodr1m3i0to65535 : Dw.goodG [] (Dw.ev Tryz.prog (Dw.orcOr (Dw.orcOr (Dw.noOrc) (Dw.trueOrc [34])) (Dw.pickOrc 9 2 8 1)) 100000000 (.call 5 [.int .u16 (.flds [⟨0, 0, 65535, 0, 16, 0⟩] 0), .int .u16 (.flds [⟨1, 0, 16383, 0, 14, 2⟩] 3), .int .i64 (.var 2), .bool (.var 0), .bool (.var 1)] Dw.heap0 Dw.isTrue)) = true := by kernel_rfl
theorem goodr2m0i0to65535 : Dw.goodG [] (Dw.ev Tryz.prog (Dw.orcOr (Dw.orcOr (Dw.noOrc) (Dw.trueOrc [34])) (Dw.pickOrc 9 2 8 2)) 100000000 (.call 5 [.int .u16 (.flds [⟨0, 0, 65535, 0, 16, 0⟩] 0), .int .u16 (.flds [⟨1, 0, 16383, 0, 14, 2⟩] 0), .int .i64 (.var 2), .bool (.var 0), .bool (.var 1)] Dw.heap0 Dw.isTrue)) = true := by kernel_rfl
theorem goodr2m1i0to65535 : Dw.goodG [] (Dw.ev Tryz.prog (Dw.orcOr (Dw.orcOr (Dw.noOrc) (Dw.trueOrc [34])) (Dw.pickOrc 9 2 8 2)) 100000000 (.call 5 [.int .u16 (.flds [⟨0, 0, 65535, 0, 16, 0⟩] 0), .int .u16 (.flds [⟨1, 0, 16383, 0, 14, 2⟩] 1), .int .i64 (.var 2), .bool (.var 0), .bool (.var 1)] Dw.heap0 Dw.isTrue)) = true := by kernel_rfl
theorem goodr2m2l0 : Dw.goodG [] (Dw.ev Tryz.prog (Dw.orcOr (Dw.orcOr (Dw.noOrc) (Dw.trueOrc [34])) (Dw.pickOrc 9 1 8 2)) 100000000 (.call 5 [.int .u16 (.lit 0), .int .u16 (.flds [⟨0, 0, 16383, 0, 14, 2⟩] 2), .int .i64 (.var 1), .bool (.var 0), .bool (.var 1)] Dw.heap0 Dw.isTrue)) = true := by kernel_rfl
theorem goodr2m2l1 : Dw.goodG [] (Dw.ev Tryz.prog (Dw.orcOr (Dw.orcOr (Dw.noOrc) (Dw.trueOrc [34])) (Dw.pickOrc 9 1 8 2)) 100000000 (.call 5 [.int .u16 (.lit 1), .int .u16 (.flds [⟨0, 0, 16383, 0, 14, 2⟩] 2), .int .i64 (.var 1), .bool (.var 0), .bool (.var 1)] Dw.heap0 Dw.isTrue)) = true := by kernel_rfl
theorem goodr2m2l2 : Dw.goodG [] (Dw.ev Tryz.prog (Dw.orcOr (Dw.orcOr (Dw.noOrc) (Dw.trueOrc [34])) (Dw.pickOrc 9 1 8 2)) 100000000 (.call 5 [.int .u16 (.lit 2), .int .u16 (.flds [⟨0, 0, 16383, 0, 14, 2⟩] 2), .int .i64 (.var 1), .bool (.var 0), .bool (.var 1)] Dw.heap0 Dw.isTrue)) = true := by kernel_rfl
theorem goodr2m2l3 : Dw.goodG [] (Dw.ev Tryz.prog (Dw.orcOr (Dw.orcOr (Dw.noOrc) (Dw.trueOrc [34])) (Dw.pickOrc 9 1 8 2)) 100000000 (.call 5 [.int .u16 (.lit 3), .int .u16 (.flds [⟨0, 0, 16383, 0, 14, 2⟩] 2), .int .i64 (.var 1), .bool (.var 0), .bool (.var 1)] Dw.heap0 Dw.isTrue)) = true := by kernel_rfl
theorem goodr2m2l4 : Dw.goodG [] (Dw.ev Tryz.prog (Dw.orcOr (Dw.orcOr (Dw.noOrc) (Dw.trueOrc [34])) (Dw.pickOrc 9 1 8 2)) 100000000 (.call 5 [.int .u16 (.lit 4), .int .u16 (.flds [⟨0, 0, 16383, 0, 14, 2⟩] 2), .int .i64 (.var 1), .bool (.var 0), .bool (.var 1)] Dw.heap0 Dw.isTrue)) = true := by kernel_rfl
theorem goodr2m2l5 : Dw.goodG [] (Dw.ev Tryz.prog (Dw.orcOr (Dw.orcOr (Dw.noOrc) (Dw.trueOrc [34])) (Dw.pickOrc 9 1 8 2)) 100000000 (.call 5 [.int .u16 (.lit 5), .int .u16 (.flds [⟨0, 0, 16383, 0, 14, 2⟩] 2), .int .i64 (.var 1), .bool (.var 0), .bool (.var 1)] Dw.heap0 Dw.isTrue)) = true := by kernel_rfl
end Go.Proofs.YtfpklobgecgnpaaGreat.pdriveSees
