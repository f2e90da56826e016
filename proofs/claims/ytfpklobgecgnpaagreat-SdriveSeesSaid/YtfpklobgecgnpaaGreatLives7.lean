/-
  The closed function 'dumbwaiter dumbwaiterlaw12.lives' returns true, whatever lies in memory: the abstract machine's run, by the kernel. No condition.
-/
import Derived.Test.YtfpklobgecgnpaaGreatProg
import Derived.Test.YtfpklobgecgnpaaGreatOrc
import Derived.KernelRfl
namespace Go.Proofs.YtfpklobgecgnpaaGreat
theorem livesGood7 : (Dw.ev Tryz.prog (Dw.sortedOrc 84 [135]) 100000000 (.call 7 [] Dw.heap0 Dw.isTrue)).good = true := by kernel_rfl
theorem lives7 : Dw.TrueOk Tryz.prog 7 := Dw.run_enters (by kernel_rfl) (fun w => Tryz.sortOrc) livesGood7
end Go.Proofs.YtfpklobgecgnpaaGreat
