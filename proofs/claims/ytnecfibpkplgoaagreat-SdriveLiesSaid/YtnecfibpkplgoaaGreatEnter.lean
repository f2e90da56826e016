/-
  A closed fact on the program, by the kernel: its entries may be entered. No condition.
-/
import Derived.Test.YtnecfibpkplgoaaGreatRows
import Derived.KernelRfl
namespace Go.Proofs.YtnecfibpkplgoaaGreat
theorem mayEnterAll : Tryz.pinned.checked.prog.mayEnter = true := by kernel_rfl
end Go.Proofs.YtnecfibpkplgoaaGreat
