/-
  The closed function 'dumbwaiter dumbwaiterlaw15.lives' returns true, whatever lies in memory: the abstract machine's run, by the kernel. No condition.
-/
import Derived.Test.YtfpklobgecgnpaaGreatProg
import Derived.Test.YtfpklobgecgnpaaGreatOrc
import Derived.KernelRfl
namespace Go.Proofs.YtfpklobgecgnpaaGreat
theorem livesGood20 : (Dw.ev Tryz.prog (Dw.sortedOrc 84 [135]) 100000000 (.call 20 [] Dw.heap0 Dw.isTrue)).good = true := by kernel_rfl
theorem lives20 : Dw.TrueOk Tryz.prog 20 := Dw.run_enters (by kernel_rfl) (fun w => Tryz.sortOrc) livesGood20
end Go.Proofs.YtfpklobgecgnpaaGreat
