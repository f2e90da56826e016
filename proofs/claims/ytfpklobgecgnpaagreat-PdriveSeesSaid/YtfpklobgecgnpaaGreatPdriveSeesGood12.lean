/-
  The abstract machine's runs of 'PdriveSees', by the kernel: every way that a valuation may go ends in 'true'. No condition.
-/
import Derived.Test.YtfpklobgecgnpaaGreatProg
import Derived.Test.YtfpklobgecgnpaaGreatDwPick
import Derived.Test.YtfpklobgecgnpaaGreatDwMod
import Derived.KernelRfl
namespace Go.Proofs.YtfpklobgecgnpaaGreat.pdriveSees
theorem goodr5m2l32772 : Dw.goodG [] (Dw.ev Tryz.prog (Dw.orcOr (Dw.orcOr (Dw.noOrc) (Dw.trueOrc [34])) (Dw.pickOrc 9 1 8 5)) 100000000 (.call 5 [.int .u16 (.lit 32772), .int .u16 (.flds [⟨0, 0, 16383, 0, 14, 2⟩] 2), .int .i64 (.var 1), .bool (.var 0), .bool (.var 1)] Dw.heap0 Dw.isTrue)) = true := by kernel_rfl
theorem goodr5m2l32773 : Dw.goodG [] (Dw.ev Tryz.prog (Dw.orcOr (Dw.orcOr (Dw.noOrc) (Dw.trueOrc [34])) (Dw.pickOrc 9 1 8 5)) 100000000 (.call 5 [.int .u16 (.lit 32773), .int .u16 (.flds [⟨0, 0, 16383, 0, 14, 2⟩] 2), .int .i64 (.var 1), .bool (.var 0), .bool (.var 1)] Dw.heap0 Dw.isTrue)) = true := by kernel_rfl
theorem goodr5m2l32774 : Dw.goodG [] (Dw.ev Tryz.prog (Dw.orcOr (Dw.orcOr (Dw.noOrc) (Dw.trueOrc [34])) (Dw.pickOrc 9 1 8 5)) 100000000 (.call 5 [.int .u16 (.lit 32774), .int .u16 (.flds [⟨0, 0, 16383, 0, 14, 2⟩] 2), .int .i64 (.var 1), .bool (.var 0), .bool (.var 1)] Dw.heap0 Dw.isTrue)) = true := by kernel_rfl
theorem goodr5m2l32775 : Dw.goodG [] (Dw.ev Tryz.prog (Dw.orcOr (Dw.orcOr (Dw.noOrc) (Dw.trueOrc [34])) (Dw.pickOrc 9 1 8 5)) 100000000 (.call 5 [.int .u16 (.lit 32775), .int .u16 (.flds [⟨0, 0, 16383, 0, 14, 2⟩] 2), .int .i64 (.var 1), .bool (.var 0), .bool (.var 1)] Dw.heap0 Dw.isTrue)) = true := by kernel_rfl
theorem goodr5m2i32776to65535 : Dw.goodG [] (Dw.ev Tryz.prog (Dw.orcOr (Dw.orcOr (Dw.noOrc) (Dw.trueOrc [34])) (Dw.pickOrc 9 2 8 5)) 100000000 (.call 5 [.int .u16 (.flds [⟨0, 8, 32767, 0, 15, 0⟩] 32768), .int .u16 (.flds [⟨1, 0, 16383, 0, 14, 2⟩] 2), .int .i64 (.var 2), .bool (.var 0), .bool (.var 1)] Dw.heap0 Dw.isTrue)) = true := by kernel_rfl
theorem goodr5m3i0to65535 : Dw.goodG [] (Dw.ev Tryz.prog (Dw.orcOr (Dw.orcOr (Dw.noOrc) (Dw.trueOrc [34])) (Dw.pickOrc 9 2 8 5)) 100000000 (.call 5 [.int .u16 (.flds [⟨0, 0, 65535, 0, 16, 0⟩] 0), .int .u16 (.flds [⟨1, 0, 16383, 0, 14, 2⟩] 3), .int .i64 (.var 2), .bool (.var 0), .bool (.var 1)] Dw.heap0 Dw.isTrue)) = true := by kernel_rfl
theorem goodr6m0i0to65535 : Dw.goodG [] (Dw.ev Tryz.prog (Dw.orcOr (Dw.orcOr (Dw.noOrc) (Dw.trueOrc [34])) (Dw.pickOrc 9 2 8 6)) 100000000 (.call 5 [.int .u16 (.flds [⟨0, 0, 65535, 0, 16, 0⟩] 0), .int .u16 (.flds [⟨1, 0, 16383, 0, 14, 2⟩] 0), .int .i64 (.var 2), .bool (.var 0), .bool (.var 1)] Dw.heap0 Dw.isTrue)) = true := by kernel_rfl
theorem goodr6m1i0to65535 : Dw.goodG [] (Dw.ev Tryz.prog (Dw.orcOr (Dw.orcOr (Dw.noOrc) (Dw.trueOrc [34])) (Dw.pickOrc 9 2 8 6)) 100000000 (.call 5 [.int .u16 (.flds [⟨0, 0, 65535, 0, 16, 0⟩] 0), .int .u16 (.flds [⟨1, 0, 16383, 0, 14, 2⟩] 1), .int .i64 (.var 2), .bool (.var 0), .bool (.var 1)] Dw.heap0 Dw.isTrue)) = true := by kernel_rfl
theorem goodr6m2l0 : Dw.goodG [] (Dw.ev Tryz.prog (Dw.orcOr (Dw.orcOr (Dw.noOrc) (Dw.trueOrc [34])) (Dw.pickOrc 9 1 8 6)) 100000000 (.call 5 [.int .u16 (.lit 0), .int .u16 (.flds [⟨0, 0, 16383, 0, 14, 2⟩] 2), .int .i64 (.var 1), .bool (.var 0), .bool (.var 1)] Dw.heap0 Dw.isTrue)) = true := by kernel_rfl
theorem goodr6m2l1 : Dw.goodG [] (Dw.ev Tryz.prog (Dw.orcOr (Dw.orcOr (Dw.noOrc) (Dw.trueOrc [34])) (Dw.pickOrc 9 1 8 6)) 100000000 (.call 5 [.int .u16 (.lit 1), .int .u16 (.flds [⟨0, 0, 16383, 0, 14, 2⟩] 2), .int .i64 (.var 1), .bool (.var 0), .bool (.var 1)] Dw.heap0 Dw.isTrue)) = true := by kernel_rfl
end Go.Proofs.YtfpklobgecgnpaaGreat.pdriveSees
