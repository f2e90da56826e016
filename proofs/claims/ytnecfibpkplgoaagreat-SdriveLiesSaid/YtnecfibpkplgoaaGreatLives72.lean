/-
  The closed function 'dumbwaiter dumbwaiterlaw12.lives' returns true, whatever lies in memory: the abstract machine's run, by the kernel. No condition.
-/
import Derived.Test.YtnecfibpkplgoaaGreatProg
import Derived.Test.YtnecfibpkplgoaaGreatOrc
import Derived.KernelRfl
namespace Go.Proofs.YtnecfibpkplgoaaGreat
theorem livesGood72 : (Dw.ev Tryz.prog (Dw.sortedOrc 97 [162, 173]) 100000000 (.call 72 [] Dw.heap0 Dw.isTrue)).good = true := by kernel_rfl
theorem lives72 : Dw.TrueOk Tryz.prog 72 := Dw.run_enters (by kernel_rfl) (fun w => Tryz.sortOrc) livesGood72
end Go.Proofs.YtnecfibpkplgoaaGreat
