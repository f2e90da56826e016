/-
  The closed function 'dumbwaiter dumbwaiterlaw14.lives' returns true, whatever lies in memory: the abstract machine's run, by the kernel. No condition.
-/
import Derived.Test.YtfpklobgecgnpaaGreatProg
import Derived.Test.YtfpklobgecgnpaaGreatDwOrc
import Derived.KernelRfl
namespace Go.Proofs.YtfpklobgecgnpaaGreat
theorem livesGood34 : (Dw.ev Tryz.prog (Dw.noOrc) 100000000 (.call 34 [] Dw.heap0 Dw.isTrue)).good = true := by kernel_rfl
theorem lives34 : Dw.TrueOk Tryz.prog 34 := Dw.run_enters (by kernel_rfl) (fun w => Dw.noOrc_ok) livesGood34
end Go.Proofs.YtfpklobgecgnpaaGreat
