/-
  The closed function 'dumbwaiter dumbwaiterlaw14.lives' returns true, whatever lies in memory: the abstract machine's run, by the kernel. No condition.
-/
import Derived.Test.YtnecfibpkplgoaaGreatProg
import Derived.Test.YtnecfibpkplgoaaGreatOrc
import Derived.KernelRfl
namespace Go.Proofs.YtnecfibpkplgoaaGreat
theorem livesGood59 : (Dw.ev Tryz.prog (Dw.sortedOrc 97 [162, 173]) 100000000 (.call 59 [] Dw.heap0 Dw.isTrue)).good = true := by kernel_rfl
theorem lives59 : Dw.TrueOk Tryz.prog 59 := Dw.run_enters (by kernel_rfl) (fun w => Tryz.sortOrc) livesGood59
end Go.Proofs.YtnecfibpkplgoaaGreat
