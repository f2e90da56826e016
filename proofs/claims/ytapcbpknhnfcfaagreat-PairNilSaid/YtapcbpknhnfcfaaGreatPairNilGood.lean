/-
  The abstract machine's run of a call of 'PairNil' with arguments of which nothing is known, by the kernel: every way ends in 'true'. No condition.
-/
import Derived.Test.YtapcbpknhnfcfaaGreatProg
import Derived.Test.YtapcbpknhnfcfaaGreatLives7
import Derived.Test.YtapcbpknhnfcfaaGreatDwArgs
import Derived.Test.YtapcbpknhnfcfaaGreatOrc
import Derived.KernelRfl
namespace Go.Proofs.YtapcbpknhnfcfaaGreat.pairNil
theorem good : (Dw.ev Tryz.prog (Dw.orcOr (Dw.sortedOrc 352 [357, 432]) (Dw.trueOrc [7])) 100000000 (.call 3 [.agg [.int .i64 (.var 0), .slu (.var 1), .int .i64 (.var 2), .int .u32 (.var 3)], .int .i64 (.var 4)] Dw.heap0 Dw.isTrue)).good = true := by kernel_rfl

/-- The walk: by the machine's soundness. -/
theorem walk (k0 n0 u0 : Int) (a0 : Option Addr) (l0 c0 : Nat) (x1 : Int) (w : World) : Calls Tryz.prog 3 #[.agg #[.int .i64 k0, .slice a0 l0 c0, .int .i64 n0, .int .u32 u0], .int .i64 x1] w fun e w' => e = .returned (.bool true) ∧ RowKit.Below w.heap.size w w' :=
  Dw.run_args_good (orc := (Dw.orcOr (Dw.sortedOrc 352 [357, 432]) (Dw.trueOrc [7]))) (n := 100000000) (ρ := Dw.valOf [k0, Int.ofNat l0, n0, u0, x1] []) (args := [.agg [.int .i64 (.var 0), .slu (.var 1), .int .i64 (.var 2), .int .u32 (.var 3)], .int .i64 (.var 4)]) (vals := [.agg #[.int .i64 k0, .slice a0 l0 c0, .int .i64 n0, .int .u32 u0], .int .i64 x1]) (by kernel_rfl) (fun w => Dw.orcOr_ok Tryz.sortOrc (Dw.trueOrc_ok fun f hf => by rw [List.mem_singleton.1 hf]; exact lives7)) (.cons ⟨[.int .i64 k0, .slice a0 l0 c0, .int .i64 n0, .int .u32 u0], rfl, .cons rfl (.cons ⟨a0, l0, c0, rfl, rfl⟩ (.cons rfl (.cons rfl .nil)))⟩ (.cons rfl .nil)) good w
end Go.Proofs.YtapcbpknhnfcfaaGreat.pairNil
