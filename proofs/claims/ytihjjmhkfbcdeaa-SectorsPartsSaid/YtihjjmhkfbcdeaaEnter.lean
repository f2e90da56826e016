/-
  A closed fact on the program, by the kernel: its entries may be entered. No condition.
-/
import Derived.Test.YtihjjmhkfbcdeaaRows
import Derived.KernelRfl
namespace Go.Proofs.Ytihjjmhkfbcdeaa
theorem mayEnterAll : Try.pinned.checked.prog.mayEnter = true := by kernel_rfl
end Go.Proofs.Ytihjjmhkfbcdeaa
