/-
  A closed fact on the program, by the kernel: its types are laid out. No condition.
-/
import Derived.Test.YtihjjmhkfbcdeaaRows
import Derived.KernelRfl
import Derived.ProofKit
namespace Go.Proofs.Ytihjjmhkfbcdeaa
theorem laidOutAll : laidOutB Try.prog = true := by kernel_rfl
end Go.Proofs.Ytihjjmhkfbcdeaa
