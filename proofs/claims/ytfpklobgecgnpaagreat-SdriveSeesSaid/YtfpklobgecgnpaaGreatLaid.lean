/-
  A closed fact on the program, by the kernel: its types are laid out. No condition.
-/
import Derived.Test.YtfpklobgecgnpaaGreatRows
import Derived.KernelRfl
import Derived.ProofKit
namespace Go.Proofs.YtfpklobgecgnpaaGreat
theorem laidOutAll : laidOutB Tryz.prog = true := by kernel_rfl
end Go.Proofs.YtfpklobgecgnpaaGreat
