/-
  'SserveLies' returns true: by the runs, case by case. Conditions: the bounds that the parameters' types give.
-/
import Derived.Test.YtnecfibpkplgoaaGreatLives27
import Derived.Test.YtnecfibpkplgoaaGreatSserveLiesGood0
import Derived.Test.YtnecfibpkplgoaaGreatSserveLiesGood1
import Derived.Test.YtnecfibpkplgoaaGreatSserveLiesGood2
import Derived.Test.YtnecfibpkplgoaaGreatSserveLiesGood3
import Derived.KernelRfl
namespace Go.Proofs.YtnecfibpkplgoaaGreat.sserveLies
set_option linter.unusedVariables false
theorem pickIs : Dw.PickOk Tryz.prog 31 4 := Dw.pick_ok (N := 100000) (by kernel_rfl) (by kernel_rfl)
theorem caser0 (x0 : Int) (y1 : Bool) (z1 : Bool) (u1 : Bool) (x2 : Int) (x3 : Bool) (g2 : 0 ≤ x2 ∧ x2 ≤ 65535) (hp : Dw.pickI x0 4 = Int.ofNat 0) (w : World) : Calls Tryz.prog 5 #[.int .i64 x0, .agg #[.bool y1, .bool z1, .bool u1], .int .u16 x2, .bool x3] w fun e w' => e = .returned (.bool true) ∧ RowKit.Below w.heap.size w w' :=
  Dw.run_args_goodG (orc := (Dw.orcOr (Dw.orcOr (Dw.sortedOrc 97 [162, 173]) (Dw.trueOrc [27])) (Dw.pickOrc 31 0 4 0))) (n := 100000000) (ρ := Dw.valOf [x0, x2] [y1, z1, u1, x3]) (args := [.int .i64 (.var 0), .agg [.bool (.var 0), .bool (.var 1), .bool (.var 2)], .int .u16 (.flds [⟨1, 0, 65535, 0, 16, 0⟩] 0), .bool (.var 3)]) (vals := [.int .i64 x0, .agg #[.bool y1, .bool z1, .bool u1], .int .u16 x2, .bool x3]) (by kernel_rfl) (fun w => Dw.orcOr_ok (Dw.orcOr_ok Tryz.sortOrc (Dw.trueOrc_ok fun f hf => by rw [List.mem_singleton.1 hf]; exact lives27)) (Dw.pickOrc_ok pickIs hp)) (.cons rfl (.cons ⟨[.bool y1, .bool z1, .bool u1], rfl, .cons rfl (.cons rfl (.cons rfl .nil))⟩ (.cons (Dw.R_whole rfl g2.1 g2.2 (by decide)) (.cons rfl .nil)))) goodr0 w
theorem caser1 (x0 : Int) (y1 : Bool) (z1 : Bool) (u1 : Bool) (x2 : Int) (x3 : Bool) (g2 : 0 ≤ x2 ∧ x2 ≤ 65535) (hp : Dw.pickI x0 4 = Int.ofNat 1) (w : World) : Calls Tryz.prog 5 #[.int .i64 x0, .agg #[.bool y1, .bool z1, .bool u1], .int .u16 x2, .bool x3] w fun e w' => e = .returned (.bool true) ∧ RowKit.Below w.heap.size w w' :=
  Dw.run_args_goodG (orc := (Dw.orcOr (Dw.orcOr (Dw.sortedOrc 97 [162, 173]) (Dw.trueOrc [27])) (Dw.pickOrc 31 0 4 1))) (n := 100000000) (ρ := Dw.valOf [x0, x2] [y1, z1, u1, x3]) (args := [.int .i64 (.var 0), .agg [.bool (.var 0), .bool (.var 1), .bool (.var 2)], .int .u16 (.flds [⟨1, 0, 65535, 0, 16, 0⟩] 0), .bool (.var 3)]) (vals := [.int .i64 x0, .agg #[.bool y1, .bool z1, .bool u1], .int .u16 x2, .bool x3]) (by kernel_rfl) (fun w => Dw.orcOr_ok (Dw.orcOr_ok Tryz.sortOrc (Dw.trueOrc_ok fun f hf => by rw [List.mem_singleton.1 hf]; exact lives27)) (Dw.pickOrc_ok pickIs hp)) (.cons rfl (.cons ⟨[.bool y1, .bool z1, .bool u1], rfl, .cons rfl (.cons rfl (.cons rfl .nil))⟩ (.cons (Dw.R_whole rfl g2.1 g2.2 (by decide)) (.cons rfl .nil)))) goodr1 w
theorem caser2 (x0 : Int) (y1 : Bool) (z1 : Bool) (u1 : Bool) (x2 : Int) (x3 : Bool) (g2 : 0 ≤ x2 ∧ x2 ≤ 65535) (hp : Dw.pickI x0 4 = Int.ofNat 2) (w : World) : Calls Tryz.prog 5 #[.int .i64 x0, .agg #[.bool y1, .bool z1, .bool u1], .int .u16 x2, .bool x3] w fun e w' => e = .returned (.bool true) ∧ RowKit.Below w.heap.size w w' :=
  Dw.run_args_goodG (orc := (Dw.orcOr (Dw.orcOr (Dw.sortedOrc 97 [162, 173]) (Dw.trueOrc [27])) (Dw.pickOrc 31 0 4 2))) (n := 100000000) (ρ := Dw.valOf [x0, x2] [y1, z1, u1, x3]) (args := [.int .i64 (.var 0), .agg [.bool (.var 0), .bool (.var 1), .bool (.var 2)], .int .u16 (.flds [⟨1, 0, 65535, 0, 16, 0⟩] 0), .bool (.var 3)]) (vals := [.int .i64 x0, .agg #[.bool y1, .bool z1, .bool u1], .int .u16 x2, .bool x3]) (by kernel_rfl) (fun w => Dw.orcOr_ok (Dw.orcOr_ok Tryz.sortOrc (Dw.trueOrc_ok fun f hf => by rw [List.mem_singleton.1 hf]; exact lives27)) (Dw.pickOrc_ok pickIs hp)) (.cons rfl (.cons ⟨[.bool y1, .bool z1, .bool u1], rfl, .cons rfl (.cons rfl (.cons rfl .nil))⟩ (.cons (Dw.R_whole rfl g2.1 g2.2 (by decide)) (.cons rfl .nil)))) goodr2 w
theorem caser3 (x0 : Int) (y1 : Bool) (z1 : Bool) (u1 : Bool) (x2 : Int) (x3 : Bool) (g2 : 0 ≤ x2 ∧ x2 ≤ 65535) (hp : Dw.pickI x0 4 = Int.ofNat 3) (w : World) : Calls Tryz.prog 5 #[.int .i64 x0, .agg #[.bool y1, .bool z1, .bool u1], .int .u16 x2, .bool x3] w fun e w' => e = .returned (.bool true) ∧ RowKit.Below w.heap.size w w' :=
  Dw.run_args_goodG (orc := (Dw.orcOr (Dw.orcOr (Dw.sortedOrc 97 [162, 173]) (Dw.trueOrc [27])) (Dw.pickOrc 31 0 4 3))) (n := 100000000) (ρ := Dw.valOf [x0, x2] [y1, z1, u1, x3]) (args := [.int .i64 (.var 0), .agg [.bool (.var 0), .bool (.var 1), .bool (.var 2)], .int .u16 (.flds [⟨1, 0, 65535, 0, 16, 0⟩] 0), .bool (.var 3)]) (vals := [.int .i64 x0, .agg #[.bool y1, .bool z1, .bool u1], .int .u16 x2, .bool x3]) (by kernel_rfl) (fun w => Dw.orcOr_ok (Dw.orcOr_ok Tryz.sortOrc (Dw.trueOrc_ok fun f hf => by rw [List.mem_singleton.1 hf]; exact lives27)) (Dw.pickOrc_ok pickIs hp)) (.cons rfl (.cons ⟨[.bool y1, .bool z1, .bool u1], rfl, .cons rfl (.cons rfl (.cons rfl .nil))⟩ (.cons (Dw.R_whole rfl g2.1 g2.2 (by decide)) (.cons rfl .nil)))) goodr3 w
theorem walk (x0 : Int) (y1 z1 u1 : Bool) (x2 : Int) (x3 : Bool) (g2 : 0 ≤ x2 ∧ x2 ≤ 65535) (w : World) : Calls Tryz.prog 5 #[.int .i64 x0, .agg #[.bool y1, .bool z1, .bool u1], .int .u16 x2, .bool x3] w fun e w' => e = .returned (.bool true) ∧ RowKit.Below w.heap.size w w' := by
  obtain ⟨r, hr, hp⟩ := Dw.pick_lt x0 (n := 4) (by omega) (by omega)
  match r, hr, hp with
  | 0, _, hp =>
    exact caser0 x0 y1 z1 u1 x2 x3 g2 hp w
  | 1, _, hp =>
    exact caser1 x0 y1 z1 u1 x2 x3 g2 hp w
  | 2, _, hp =>
    exact caser2 x0 y1 z1 u1 x2 x3 g2 hp w
  | 3, _, hp =>
    exact caser3 x0 y1 z1 u1 x2 x3 g2 hp w
  | m + 4, h, _ => exact absurd h (by omega)
end Go.Proofs.YtnecfibpkplgoaaGreat.sserveLies
