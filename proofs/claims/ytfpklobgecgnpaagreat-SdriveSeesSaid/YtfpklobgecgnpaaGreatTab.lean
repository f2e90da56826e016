/-
  The table of where a ring's elements are, at this program: shown by the machine's own runs. No condition.
-/
import Derived.Test.YtfpklobgecgnpaaGreatProg
import Derived.Test.YtfpklobgecgnpaaGreatDwTab
import Derived.KernelRfl
namespace Go.Proofs
theorem Tryz.tabGood : Dw.ringGood Tryz.prog [10,169] [130,53] 16 = true := by kernel_rfl
theorem Tryz.tabOk : ∀ f args x, Dw.ringF [10,169] [130,53] 16 f args = some x → Dw.TabAt Tryz.prog f args x := Dw.ringF_ok (by kernel_rfl) Tryz.tabGood
end Go.Proofs
