/-
  The closed function 'dumbwaiter dumbwaiterlaw13.lives' returns true, whatever lies in memory: the abstract machine's run, by the kernel. No condition.
-/
import Derived.Test.YtnecfibpkplgoaaGreatProg
import Derived.Test.YtnecfibpkplgoaaGreatOrc
import Derived.KernelRfl
namespace Go.Proofs.YtnecfibpkplgoaaGreat
theorem livesGood27 : (Dw.ev Tryz.prog (Dw.sortedOrc 97 [162, 173]) 100000000 (.call 27 [] Dw.heap0 Dw.isTrue)).good = true := by kernel_rfl
theorem lives27 : Dw.TrueOk Tryz.prog 27 := Dw.run_enters (by kernel_rfl) (fun w => Tryz.sortOrc) livesGood27
end Go.Proofs.YtnecfibpkplgoaaGreat
