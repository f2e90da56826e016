/-
  The abstract machine's run of a call of 'PserveNil' with arguments of which nothing is known, by the kernel: every way ends in 'true'. No condition.
-/
import Derived.Test.YtnecfibpkplgoaaGreatProg
import Derived.Test.YtnecfibpkplgoaaGreatLives47
import Derived.Test.YtnecfibpkplgoaaGreatDwArgs
import Derived.Test.YtnecfibpkplgoaaGreatOrc
import Derived.KernelRfl
namespace Go.Proofs.YtnecfibpkplgoaaGreat.pserveNil
theorem good : (Dw.ev Tryz.prog (Dw.orcOr (Dw.sortedOrc 97 [162, 173]) (Dw.trueOrc [47])) 100000000 (.call 7 [.int .i64 (.var 0), .int .u32 (.var 1)] Dw.heap0 Dw.isTrue)).good = true := by kernel_rfl

/-- The walk: by the machine's soundness. -/
theorem walk (x0 : Int) (x1 : Int) (w : World) : Calls Tryz.prog 7 #[.int .i64 x0, .int .u32 x1] w fun e w' => e = .returned (.bool true) ∧ RowKit.Below w.heap.size w w' :=
  Dw.run_args_good (orc := (Dw.orcOr (Dw.sortedOrc 97 [162, 173]) (Dw.trueOrc [47]))) (n := 100000000) (ρ := Dw.valOf [x0, x1] []) (args := [.int .i64 (.var 0), .int .u32 (.var 1)]) (vals := [.int .i64 x0, .int .u32 x1]) (by kernel_rfl) (fun w => Dw.orcOr_ok Tryz.sortOrc (Dw.trueOrc_ok fun f hf => by rw [List.mem_singleton.1 hf]; exact lives47)) (.cons rfl (.cons rfl .nil)) good w
end Go.Proofs.YtnecfibpkplgoaaGreat.pserveNil
