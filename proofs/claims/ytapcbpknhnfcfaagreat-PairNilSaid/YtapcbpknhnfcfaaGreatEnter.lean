/-
  A closed fact on the program, by the kernel: its entries may be entered. No condition.
-/
import Derived.Test.YtapcbpknhnfcfaaGreatRows
import Derived.KernelRfl
namespace Go.Proofs.YtapcbpknhnfcfaaGreat
theorem mayEnterAll : Tryz.pinned.checked.prog.mayEnter = true := by kernel_rfl
end Go.Proofs.YtapcbpknhnfcfaaGreat
