/-
  The closed function 'dumbwaiter dumbwaiterlaw20.lives' returns true, whatever lies in memory: the abstract machine's run, by the kernel. No condition.
-/
import Derived.Test.YtihjjmhkfbcdeaaProg
import Derived.Test.YtihjjmhkfbcdeaaOrc
import Derived.KernelRfl
namespace Go.Proofs.Ytihjjmhkfbcdeaa
theorem livesGood6 : (Dw.ev Try.prog (Dw.sortedOrc 22 [26]) 100000000 (.call 6 [] Dw.heap0 Dw.isTrue)).good = true := by kernel_rfl
theorem lives6 : Dw.TrueOk Try.prog 6 := Dw.run_enters (by kernel_rfl) (fun w => Try.sortOrc) livesGood6
end Go.Proofs.Ytihjjmhkfbcdeaa
