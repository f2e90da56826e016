/-
  The closed function 'dumbwaiter dumbwaiterlaw19.lives' returns true, whatever lies in memory: the abstract machine's run, by the kernel. No condition.
-/
import Derived.Test.YtgmlcegjapbinaaGreatProg
import Derived.Test.YtgmlcegjapbinaaGreatOrc
import Derived.KernelRfl
namespace Go.Proofs.YtgmlcegjapbinaaGreat
theorem livesGood10 : (Dw.ev Tryz.prog (Dw.sortedOrc 298 [304, 379]) 100000000 (.call 10 [] Dw.heap0 Dw.isTrue)).good = true := by kernel_rfl
theorem lives10 : Dw.TrueOk Tryz.prog 10 := Dw.run_enters (by kernel_rfl) (fun w => Tryz.sortOrc) livesGood10
end Go.Proofs.YtgmlcegjapbinaaGreat
