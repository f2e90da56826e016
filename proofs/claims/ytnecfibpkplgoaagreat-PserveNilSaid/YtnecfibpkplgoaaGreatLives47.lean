/-
  The closed function 'dumbwaiter dumbwaiterlaw15.lives' returns true, whatever lies in memory: the abstract machine's run, by the kernel. No condition.
-/
import Derived.Test.YtnecfibpkplgoaaGreatProg
import Derived.Test.YtnecfibpkplgoaaGreatOrc
import Derived.KernelRfl
namespace Go.Proofs.YtnecfibpkplgoaaGreat
theorem livesGood47 : (Dw.ev Tryz.prog (Dw.sortedOrc 97 [162, 173]) 100000000 (.call 47 [] Dw.heap0 Dw.isTrue)).good = true := by kernel_rfl
theorem lives47 : Dw.TrueOk Tryz.prog 47 := Dw.run_enters (by kernel_rfl) (fun w => Tryz.sortOrc) livesGood47
end Go.Proofs.YtnecfibpkplgoaaGreat
