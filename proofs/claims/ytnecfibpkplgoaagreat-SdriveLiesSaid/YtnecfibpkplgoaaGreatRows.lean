/-
  No cell of these rows narrows 'for every input' (looked for: loops, veiled, ifaces, maps, wideKeys, modest, calm, conditions, laid).
  DERIVED. THE GIVEN ROWS OF THIS SEAT. 12 by the template 'for every input the law returns true; each argument reads behind the call as it read before'; 0 by the template 'total and deterministic' (their statements: YtnecfibpkplgoaaGreatTotals.lean).
  GIVEN WITH THE SEED: the statements are not yours to turn. If you find one false, say at which input.
  Laid BY PROGRAM, IN A SANDBOX (cutbox-rows.mjs): the forced cells as the released guide's own fill.sh prints them over the translation b2411932558544c2… (all of the seat's roots in one cut). By AI agents, Wed Nov 11 2026. No macro, syntax, notation, axiom, sorry.
-/
import Derived.Test.YtnecfibpkplgoaaGreatChecked
import GoSem.Claim
import GoSem.ClaimJoined
import GoSem.ClaimMapViews
import Derived.JoinedTies
import Derived.KernelRfl
namespace Go.Proofs.YtnecfibpkplgoaaGreat
/- THE CELL 'sum', in the pinned program and in every row, IS THE sha256 OF THE DUMP (.gsa) THAT YtnecfibpkplgoaaGreatProg.lean LOADS. Nothing in Lean hashes anything: it is a label: what it is worth is what the hold of that sum in a sandbox is worth. -/
noncomputable def Tryz.pinned : Pinned := { name := "ytnecfibpkplgoaagreat", sum := "b2411932558544c28c82d2ad93901eba0fc68abb5a4e7e7650c9a9be678cfcd0", checked := Tryz.checked }
namespace Rows
def none {H : Type} : Left H := { results := [], args := [] }

/-- 'dumbwaiterlaw13.SserveNames': WHATEVER THE INPUT: true; the input reads as it did. -/
def sserveNamesSpec : ChangeSpec := { name := "sserveNames", fn := fun _ => fun
  | [] => { results := [.lit (.bool true)], args := [] }
  | _ => none }
def sserveNamesRow : OpenClaim := { program := "ytnecfibpkplgoaagreat", sum := "b2411932558544c28c82d2ad93901eba0fc68abb5a4e7e7650c9a9be678cfcd0", func := "dumbwaiter/dumbwaiterlaw13.SserveNames", spec := "sserveNames", unfollowed := true, recurses := true, apart := false }
def SserveNamesSaid : Prop := sserveNamesRow.holds Tryz.pinned (OpenSpec.ofChange sserveNamesSpec)

/-- ITS FALSE NEIGHBOUR: 'it returns false'. Refute it at one input. -/
def sserveNamesWrong : ChangeSpec := { name := "sserveNames", fn := fun _ => fun
  | [] => { results := [.lit (.bool false)], args := [] }
  | _ => none }
def SserveNamesWrongFalsely : Prop := sserveNamesRow.holds Tryz.pinned (OpenSpec.ofChange sserveNamesWrong)

/-- 'dumbwaiterlaw13.SserveNil': WHATEVER THE INPUT: true; the input reads as it did. -/
def sserveNilSpec : ChangeSpec := { name := "sserveNil", fn := fun _ => fun
  | [d1, d2] => { results := [.lit (.bool true)], args := [d1, d2] }
  | _ => none }
def sserveNilRow : OpenClaim := { program := "ytnecfibpkplgoaagreat", sum := "b2411932558544c28c82d2ad93901eba0fc68abb5a4e7e7650c9a9be678cfcd0", func := "dumbwaiter/dumbwaiterlaw13.SserveNil", spec := "sserveNil", unfollowed := true, recurses := true, apart := false }
def SserveNilSaid : Prop := sserveNilRow.holds Tryz.pinned (OpenSpec.ofChange sserveNilSpec)

/-- ITS FALSE NEIGHBOUR: 'it returns false'. Refute it at one input. -/
def sserveNilWrong : ChangeSpec := { name := "sserveNil", fn := fun _ => fun
  | [d1, d2] => { results := [.lit (.bool false)], args := [d1, d2] }
  | _ => none }
def SserveNilWrongFalsely : Prop := sserveNilRow.holds Tryz.pinned (OpenSpec.ofChange sserveNilWrong)

/-- 'dumbwaiterlaw13.SserveLies': WHATEVER THE INPUT: true; the input reads as it did. -/
def sserveLiesSpec : ChangeSpec := { name := "sserveLies", fn := fun _ => fun
  | [d1, d2, d3, d4] => { results := [.lit (.bool true)], args := [d1, d2, d3, d4] }
  | _ => none }
def sserveLiesRow : OpenClaim := { program := "ytnecfibpkplgoaagreat", sum := "b2411932558544c28c82d2ad93901eba0fc68abb5a4e7e7650c9a9be678cfcd0", func := "dumbwaiter/dumbwaiterlaw13.SserveLies", spec := "sserveLies", unfollowed := true, recurses := true, apart := false }
def SserveLiesSaid : Prop := sserveLiesRow.holds Tryz.pinned (OpenSpec.ofChange sserveLiesSpec)

/-- ITS FALSE NEIGHBOUR: 'it returns false'. Refute it at one input. -/
def sserveLiesWrong : ChangeSpec := { name := "sserveLies", fn := fun _ => fun
  | [d1, d2, d3, d4] => { results := [.lit (.bool false)], args := [d1, d2, d3, d4] }
  | _ => none }
def SserveLiesWrongFalsely : Prop := sserveLiesRow.holds Tryz.pinned (OpenSpec.ofChange sserveLiesWrong)

/-- 'dumbwaiterlaw15.PserveNames': WHATEVER THE INPUT: true; the input reads as it did. -/
def pserveNamesSpec : ChangeSpec := { name := "pserveNames", fn := fun _ => fun
  | [] => { results := [.lit (.bool true)], args := [] }
  | _ => none }
def pserveNamesRow : OpenClaim := { program := "ytnecfibpkplgoaagreat", sum := "b2411932558544c28c82d2ad93901eba0fc68abb5a4e7e7650c9a9be678cfcd0", func := "dumbwaiter/dumbwaiterlaw15.PserveNames", spec := "pserveNames", unfollowed := true, recurses := true, apart := false }
def PserveNamesSaid : Prop := pserveNamesRow.holds Tryz.pinned (OpenSpec.ofChange pserveNamesSpec)

/-- ITS FALSE NEIGHBOUR: 'it returns false'. Refute it at one input. -/
def pserveNamesWrong : ChangeSpec := { name := "pserveNames", fn := fun _ => fun
  | [] => { results := [.lit (.bool false)], args := [] }
  | _ => none }
def PserveNamesWrongFalsely : Prop := pserveNamesRow.holds Tryz.pinned (OpenSpec.ofChange pserveNamesWrong)

/-- 'dumbwaiterlaw15.PserveNil': WHATEVER THE INPUT: true; the input reads as it did. -/
def pserveNilSpec : ChangeSpec := { name := "pserveNil", fn := fun _ => fun
  | [d1, d2] => { results := [.lit (.bool true)], args := [d1, d2] }
  | _ => none }
def pserveNilRow : OpenClaim := { program := "ytnecfibpkplgoaagreat", sum := "b2411932558544c28c82d2ad93901eba0fc68abb5a4e7e7650c9a9be678cfcd0", func := "dumbwaiter/dumbwaiterlaw15.PserveNil", spec := "pserveNil", unfollowed := true, recurses := true, apart := false }
def PserveNilSaid : Prop := pserveNilRow.holds Tryz.pinned (OpenSpec.ofChange pserveNilSpec)

/-- ITS FALSE NEIGHBOUR: 'it returns false'. Refute it at one input. -/
def pserveNilWrong : ChangeSpec := { name := "pserveNil", fn := fun _ => fun
  | [d1, d2] => { results := [.lit (.bool false)], args := [d1, d2] }
  | _ => none }
def PserveNilWrongFalsely : Prop := pserveNilRow.holds Tryz.pinned (OpenSpec.ofChange pserveNilWrong)

/-- 'dumbwaiterlaw15.PserveLies': WHATEVER THE INPUT: true; the input reads as it did. -/
def pserveLiesSpec : ChangeSpec := { name := "pserveLies", fn := fun _ => fun
  | [d1, d2, d3, d4, d5] => { results := [.lit (.bool true)], args := [d1, d2, d3, d4, d5] }
  | _ => none }
def pserveLiesRow : OpenClaim := { program := "ytnecfibpkplgoaagreat", sum := "b2411932558544c28c82d2ad93901eba0fc68abb5a4e7e7650c9a9be678cfcd0", func := "dumbwaiter/dumbwaiterlaw15.PserveLies", spec := "pserveLies", unfollowed := true, recurses := true, apart := false }
def PserveLiesSaid : Prop := pserveLiesRow.holds Tryz.pinned (OpenSpec.ofChange pserveLiesSpec)

/-- ITS FALSE NEIGHBOUR: 'it returns false'. Refute it at one input. -/
def pserveLiesWrong : ChangeSpec := { name := "pserveLies", fn := fun _ => fun
  | [d1, d2, d3, d4, d5] => { results := [.lit (.bool false)], args := [d1, d2, d3, d4, d5] }
  | _ => none }
def PserveLiesWrongFalsely : Prop := pserveLiesRow.holds Tryz.pinned (OpenSpec.ofChange pserveLiesWrong)

/-- 'dumbwaiterlaw14.PdriveNames': WHATEVER THE INPUT: true; the input reads as it did. -/
def pdriveNamesSpec : ChangeSpec := { name := "pdriveNames", fn := fun _ => fun
  | [] => { results := [.lit (.bool true)], args := [] }
  | _ => none }
def pdriveNamesRow : OpenClaim := { program := "ytnecfibpkplgoaagreat", sum := "b2411932558544c28c82d2ad93901eba0fc68abb5a4e7e7650c9a9be678cfcd0", func := "dumbwaiter/dumbwaiterlaw14.PdriveNames", spec := "pdriveNames", unfollowed := true, recurses := true, apart := false }
def PdriveNamesSaid : Prop := pdriveNamesRow.holds Tryz.pinned (OpenSpec.ofChange pdriveNamesSpec)

/-- ITS FALSE NEIGHBOUR: 'it returns false'. Refute it at one input. -/
def pdriveNamesWrong : ChangeSpec := { name := "pdriveNames", fn := fun _ => fun
  | [] => { results := [.lit (.bool false)], args := [] }
  | _ => none }
def PdriveNamesWrongFalsely : Prop := pdriveNamesRow.holds Tryz.pinned (OpenSpec.ofChange pdriveNamesWrong)

/-- 'dumbwaiterlaw14.PdriveNil': WHATEVER THE INPUT: true; the input reads as it did. -/
def pdriveNilSpec : ChangeSpec := { name := "pdriveNil", fn := fun _ => fun
  | [d1, d2] => { results := [.lit (.bool true)], args := [d1, d2] }
  | _ => none }
def pdriveNilRow : OpenClaim := { program := "ytnecfibpkplgoaagreat", sum := "b2411932558544c28c82d2ad93901eba0fc68abb5a4e7e7650c9a9be678cfcd0", func := "dumbwaiter/dumbwaiterlaw14.PdriveNil", spec := "pdriveNil", unfollowed := true, recurses := true, apart := false }
def PdriveNilSaid : Prop := pdriveNilRow.holds Tryz.pinned (OpenSpec.ofChange pdriveNilSpec)

/-- ITS FALSE NEIGHBOUR: 'it returns false'. Refute it at one input. -/
def pdriveNilWrong : ChangeSpec := { name := "pdriveNil", fn := fun _ => fun
  | [d1, d2] => { results := [.lit (.bool false)], args := [d1, d2] }
  | _ => none }
def PdriveNilWrongFalsely : Prop := pdriveNilRow.holds Tryz.pinned (OpenSpec.ofChange pdriveNilWrong)

/-- 'dumbwaiterlaw12.SdriveNames': WHATEVER THE INPUT: true; the input reads as it did. -/
def sdriveNamesSpec : ChangeSpec := { name := "sdriveNames", fn := fun _ => fun
  | [] => { results := [.lit (.bool true)], args := [] }
  | _ => none }
def sdriveNamesRow : OpenClaim := { program := "ytnecfibpkplgoaagreat", sum := "b2411932558544c28c82d2ad93901eba0fc68abb5a4e7e7650c9a9be678cfcd0", func := "dumbwaiter/dumbwaiterlaw12.SdriveNames", spec := "sdriveNames", unfollowed := true, recurses := true, apart := false }
def SdriveNamesSaid : Prop := sdriveNamesRow.holds Tryz.pinned (OpenSpec.ofChange sdriveNamesSpec)

/-- ITS FALSE NEIGHBOUR: 'it returns false'. Refute it at one input. -/
def sdriveNamesWrong : ChangeSpec := { name := "sdriveNames", fn := fun _ => fun
  | [] => { results := [.lit (.bool false)], args := [] }
  | _ => none }
def SdriveNamesWrongFalsely : Prop := sdriveNamesRow.holds Tryz.pinned (OpenSpec.ofChange sdriveNamesWrong)

/-- 'dumbwaiterlaw12.SdriveNil': WHATEVER THE INPUT: true; the input reads as it did. -/
def sdriveNilSpec : ChangeSpec := { name := "sdriveNil", fn := fun _ => fun
  | [d1, d2] => { results := [.lit (.bool true)], args := [d1, d2] }
  | _ => none }
def sdriveNilRow : OpenClaim := { program := "ytnecfibpkplgoaagreat", sum := "b2411932558544c28c82d2ad93901eba0fc68abb5a4e7e7650c9a9be678cfcd0", func := "dumbwaiter/dumbwaiterlaw12.SdriveNil", spec := "sdriveNil", unfollowed := true, recurses := true, apart := false }
def SdriveNilSaid : Prop := sdriveNilRow.holds Tryz.pinned (OpenSpec.ofChange sdriveNilSpec)

/-- ITS FALSE NEIGHBOUR: 'it returns false'. Refute it at one input. -/
def sdriveNilWrong : ChangeSpec := { name := "sdriveNil", fn := fun _ => fun
  | [d1, d2] => { results := [.lit (.bool false)], args := [d1, d2] }
  | _ => none }
def SdriveNilWrongFalsely : Prop := sdriveNilRow.holds Tryz.pinned (OpenSpec.ofChange sdriveNilWrong)

/-- 'dumbwaiterlaw12.SdriveSees': WHATEVER THE INPUT: true; the input reads as it did. -/
def sdriveSeesSpec : ChangeSpec := { name := "sdriveSees", fn := fun _ => fun
  | [d1, d2, d3, d4] => { results := [.lit (.bool true)], args := [d1, d2, d3, d4] }
  | _ => none }
def sdriveSeesRow : OpenClaim := { program := "ytnecfibpkplgoaagreat", sum := "b2411932558544c28c82d2ad93901eba0fc68abb5a4e7e7650c9a9be678cfcd0", func := "dumbwaiter/dumbwaiterlaw12.SdriveSees", spec := "sdriveSees", unfollowed := true, recurses := true, apart := false }
def SdriveSeesSaid : Prop := sdriveSeesRow.holds Tryz.pinned (OpenSpec.ofChange sdriveSeesSpec)

/-- ITS FALSE NEIGHBOUR: 'it returns false'. Refute it at one input. -/
def sdriveSeesWrong : ChangeSpec := { name := "sdriveSees", fn := fun _ => fun
  | [d1, d2, d3, d4] => { results := [.lit (.bool false)], args := [d1, d2, d3, d4] }
  | _ => none }
def SdriveSeesWrongFalsely : Prop := sdriveSeesRow.holds Tryz.pinned (OpenSpec.ofChange sdriveSeesWrong)

/-- 'dumbwaiterlaw12.SdriveLies': WHATEVER THE INPUT: true; the input reads as it did. -/
def sdriveLiesSpec : ChangeSpec := { name := "sdriveLies", fn := fun _ => fun
  | [d1, d2, d3, d4, d5] => { results := [.lit (.bool true)], args := [d1, d2, d3, d4, d5] }
  | _ => none }
def sdriveLiesRow : OpenClaim := { program := "ytnecfibpkplgoaagreat", sum := "b2411932558544c28c82d2ad93901eba0fc68abb5a4e7e7650c9a9be678cfcd0", func := "dumbwaiter/dumbwaiterlaw12.SdriveLies", spec := "sdriveLies", unfollowed := true, recurses := true, apart := false }
def SdriveLiesSaid : Prop := sdriveLiesRow.holds Tryz.pinned (OpenSpec.ofChange sdriveLiesSpec)

/-- ITS FALSE NEIGHBOUR: 'it returns false'. Refute it at one input. -/
def sdriveLiesWrong : ChangeSpec := { name := "sdriveLies", fn := fun _ => fun
  | [d1, d2, d3, d4, d5] => { results := [.lit (.bool false)], args := [d1, d2, d3, d4, d5] }
  | _ => none }
def SdriveLiesWrongFalsely : Prop := sdriveLiesRow.holds Tryz.pinned (OpenSpec.ofChange sdriveLiesWrong)

/- THE SECOND FORM. 'bulk': how many values and letters a reading holds, each counted each time it is reached (what is shared counts as often as it is met; a slice's spare places count too). A statement '..UptoSaid' is the law's where the arguments, and the package variables that the reading takes, are together of bulk at most 1048576: NARROWER than '..Said'. Prove '..Said' where nothing that the law and all that it calls make is longer than what came in: it says more and counts as full. Else prove '..UptoSaid'. A law counts once. -/
mutual
def uptoBulk {H : Type} : DataW H → Nat
  | .lit (.string bytes) => bytes.length + 1
  | .lit _ => 1
  | .nil => 1
  | .ptr d => uptoBulk d + 1
  | .slice elems spare => uptoBulkAll elems + uptoBulkAll spare + 1
  | .agg parts => uptoBulkAll parts + 1
  | .iface _ d => uptoBulk d + 1
  | .map entries => uptoBulkEntries entries + 1
  | .held _ => 1
def uptoBulkAll {H : Type} : List (DataW H) → Nat
  | [] => 0
  | d :: r => uptoBulk d + uptoBulkAll r
def uptoBulkEntries {H : Type} : List (Lit × DataW H) → Nat
  | [] => 0
  | x :: r => uptoBulkEntry x + uptoBulkEntries r
def uptoBulkEntry {H : Type} : Lit × DataW H → Nat
  | (.string bytes, d) => bytes.length + uptoBulk d + 1
  | (_, d) => uptoBulk d + 1
 end
def uptoSmall : (H : Type) → List (DataW H) → Bool := fun _ ds => decide (uptoBulkAll ds ≤ 1048576)
def OpenSpec.upto (s : _root_.Go.ChangeSpec) : _root_.Go.OpenSpec := { _root_.Go.OpenSpec.ofChange s with cond := some uptoSmall }

/-- 'dumbwaiterlaw13.SserveNames', WHERE WHAT IT READS IS OF BULK AT MOST 1048576: true; the input reads as it did. -/
def sserveNamesUptoRow : OpenClaim := { program := "ytnecfibpkplgoaagreat", sum := "b2411932558544c28c82d2ad93901eba0fc68abb5a4e7e7650c9a9be678cfcd0", func := "dumbwaiter/dumbwaiterlaw13.SserveNames", spec := "sserveNames", unfollowed := true, recurses := true, apart := false, narrowed := true }
def SserveNamesUptoSaid : Prop := sserveNamesUptoRow.holds Tryz.pinned (OpenSpec.upto sserveNamesSpec)

/-- 'dumbwaiterlaw13.SserveNil', WHERE WHAT IT READS IS OF BULK AT MOST 1048576: true; the input reads as it did. -/
def sserveNilUptoRow : OpenClaim := { program := "ytnecfibpkplgoaagreat", sum := "b2411932558544c28c82d2ad93901eba0fc68abb5a4e7e7650c9a9be678cfcd0", func := "dumbwaiter/dumbwaiterlaw13.SserveNil", spec := "sserveNil", unfollowed := true, recurses := true, apart := false, narrowed := true }
def SserveNilUptoSaid : Prop := sserveNilUptoRow.holds Tryz.pinned (OpenSpec.upto sserveNilSpec)

/-- 'dumbwaiterlaw13.SserveLies', WHERE WHAT IT READS IS OF BULK AT MOST 1048576: true; the input reads as it did. -/
def sserveLiesUptoRow : OpenClaim := { program := "ytnecfibpkplgoaagreat", sum := "b2411932558544c28c82d2ad93901eba0fc68abb5a4e7e7650c9a9be678cfcd0", func := "dumbwaiter/dumbwaiterlaw13.SserveLies", spec := "sserveLies", unfollowed := true, recurses := true, apart := false, narrowed := true }
def SserveLiesUptoSaid : Prop := sserveLiesUptoRow.holds Tryz.pinned (OpenSpec.upto sserveLiesSpec)

/-- 'dumbwaiterlaw15.PserveNames', WHERE WHAT IT READS IS OF BULK AT MOST 1048576: true; the input reads as it did. -/
def pserveNamesUptoRow : OpenClaim := { program := "ytnecfibpkplgoaagreat", sum := "b2411932558544c28c82d2ad93901eba0fc68abb5a4e7e7650c9a9be678cfcd0", func := "dumbwaiter/dumbwaiterlaw15.PserveNames", spec := "pserveNames", unfollowed := true, recurses := true, apart := false, narrowed := true }
def PserveNamesUptoSaid : Prop := pserveNamesUptoRow.holds Tryz.pinned (OpenSpec.upto pserveNamesSpec)

/-- 'dumbwaiterlaw15.PserveNil', WHERE WHAT IT READS IS OF BULK AT MOST 1048576: true; the input reads as it did. -/
def pserveNilUptoRow : OpenClaim := { program := "ytnecfibpkplgoaagreat", sum := "b2411932558544c28c82d2ad93901eba0fc68abb5a4e7e7650c9a9be678cfcd0", func := "dumbwaiter/dumbwaiterlaw15.PserveNil", spec := "pserveNil", unfollowed := true, recurses := true, apart := false, narrowed := true }
def PserveNilUptoSaid : Prop := pserveNilUptoRow.holds Tryz.pinned (OpenSpec.upto pserveNilSpec)

/-- 'dumbwaiterlaw15.PserveLies', WHERE WHAT IT READS IS OF BULK AT MOST 1048576: true; the input reads as it did. -/
def pserveLiesUptoRow : OpenClaim := { program := "ytnecfibpkplgoaagreat", sum := "b2411932558544c28c82d2ad93901eba0fc68abb5a4e7e7650c9a9be678cfcd0", func := "dumbwaiter/dumbwaiterlaw15.PserveLies", spec := "pserveLies", unfollowed := true, recurses := true, apart := false, narrowed := true }
def PserveLiesUptoSaid : Prop := pserveLiesUptoRow.holds Tryz.pinned (OpenSpec.upto pserveLiesSpec)

/-- 'dumbwaiterlaw14.PdriveNames', WHERE WHAT IT READS IS OF BULK AT MOST 1048576: true; the input reads as it did. -/
def pdriveNamesUptoRow : OpenClaim := { program := "ytnecfibpkplgoaagreat", sum := "b2411932558544c28c82d2ad93901eba0fc68abb5a4e7e7650c9a9be678cfcd0", func := "dumbwaiter/dumbwaiterlaw14.PdriveNames", spec := "pdriveNames", unfollowed := true, recurses := true, apart := false, narrowed := true }
def PdriveNamesUptoSaid : Prop := pdriveNamesUptoRow.holds Tryz.pinned (OpenSpec.upto pdriveNamesSpec)

/-- 'dumbwaiterlaw14.PdriveNil', WHERE WHAT IT READS IS OF BULK AT MOST 1048576: true; the input reads as it did. -/
def pdriveNilUptoRow : OpenClaim := { program := "ytnecfibpkplgoaagreat", sum := "b2411932558544c28c82d2ad93901eba0fc68abb5a4e7e7650c9a9be678cfcd0", func := "dumbwaiter/dumbwaiterlaw14.PdriveNil", spec := "pdriveNil", unfollowed := true, recurses := true, apart := false, narrowed := true }
def PdriveNilUptoSaid : Prop := pdriveNilUptoRow.holds Tryz.pinned (OpenSpec.upto pdriveNilSpec)

/-- 'dumbwaiterlaw12.SdriveNames', WHERE WHAT IT READS IS OF BULK AT MOST 1048576: true; the input reads as it did. -/
def sdriveNamesUptoRow : OpenClaim := { program := "ytnecfibpkplgoaagreat", sum := "b2411932558544c28c82d2ad93901eba0fc68abb5a4e7e7650c9a9be678cfcd0", func := "dumbwaiter/dumbwaiterlaw12.SdriveNames", spec := "sdriveNames", unfollowed := true, recurses := true, apart := false, narrowed := true }
def SdriveNamesUptoSaid : Prop := sdriveNamesUptoRow.holds Tryz.pinned (OpenSpec.upto sdriveNamesSpec)

/-- 'dumbwaiterlaw12.SdriveNil', WHERE WHAT IT READS IS OF BULK AT MOST 1048576: true; the input reads as it did. -/
def sdriveNilUptoRow : OpenClaim := { program := "ytnecfibpkplgoaagreat", sum := "b2411932558544c28c82d2ad93901eba0fc68abb5a4e7e7650c9a9be678cfcd0", func := "dumbwaiter/dumbwaiterlaw12.SdriveNil", spec := "sdriveNil", unfollowed := true, recurses := true, apart := false, narrowed := true }
def SdriveNilUptoSaid : Prop := sdriveNilUptoRow.holds Tryz.pinned (OpenSpec.upto sdriveNilSpec)

/-- 'dumbwaiterlaw12.SdriveSees', WHERE WHAT IT READS IS OF BULK AT MOST 1048576: true; the input reads as it did. -/
def sdriveSeesUptoRow : OpenClaim := { program := "ytnecfibpkplgoaagreat", sum := "b2411932558544c28c82d2ad93901eba0fc68abb5a4e7e7650c9a9be678cfcd0", func := "dumbwaiter/dumbwaiterlaw12.SdriveSees", spec := "sdriveSees", unfollowed := true, recurses := true, apart := false, narrowed := true }
def SdriveSeesUptoSaid : Prop := sdriveSeesUptoRow.holds Tryz.pinned (OpenSpec.upto sdriveSeesSpec)

/-- 'dumbwaiterlaw12.SdriveLies', WHERE WHAT IT READS IS OF BULK AT MOST 1048576: true; the input reads as it did. -/
def sdriveLiesUptoRow : OpenClaim := { program := "ytnecfibpkplgoaagreat", sum := "b2411932558544c28c82d2ad93901eba0fc68abb5a4e7e7650c9a9be678cfcd0", func := "dumbwaiter/dumbwaiterlaw12.SdriveLies", spec := "sdriveLies", unfollowed := true, recurses := true, apart := false, narrowed := true }
def SdriveLiesUptoSaid : Prop := sdriveLiesUptoRow.holds Tryz.pinned (OpenSpec.upto sdriveLiesSpec)

end Rows
end Go.Proofs.YtnecfibpkplgoaaGreat
