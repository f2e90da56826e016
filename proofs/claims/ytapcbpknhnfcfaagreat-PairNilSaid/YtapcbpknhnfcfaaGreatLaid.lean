/-
  A closed fact on the program, by the kernel: its types are laid out. No condition.
-/
import Derived.Test.YtapcbpknhnfcfaaGreatRows
import Derived.KernelRfl
import Derived.ProofKit
namespace Go.Proofs.YtapcbpknhnfcfaaGreat
theorem laidOutAll : laidOutB Tryz.prog = true := by kernel_rfl
end Go.Proofs.YtapcbpknhnfcfaaGreat
