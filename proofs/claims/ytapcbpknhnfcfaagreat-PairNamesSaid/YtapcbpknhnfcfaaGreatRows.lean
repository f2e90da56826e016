/-
  No cell of these rows narrows 'for every input' (looked for: loops, veiled, ifaces, maps, wideKeys, modest, calm, conditions, laid).
  DERIVED. THE GIVEN ROWS OF THIS SEAT. 4 by the template 'for every input the law returns true; each argument reads behind the call as it read before'; 0 by the template 'total and deterministic' (their statements: YtapcbpknhnfcfaaGreatTotals.lean).
  GIVEN WITH THE SEED: the statements are not yours to turn. If you find one false, say at which input.
  Laid BY PROGRAM, IN A SANDBOX (cutbox-rows.mjs): the forced cells as the released guide's own fill.sh prints them over the translation af88cfa01b802f2c… (all of the seat's roots in one cut). By AI agents, Wed Nov 11 2026. No macro, syntax, notation, axiom, sorry.
-/
import Derived.Test.YtapcbpknhnfcfaaGreatChecked
import GoSem.Claim
import GoSem.ClaimJoined
import GoSem.ClaimMapViews
import Derived.JoinedTies
import Derived.KernelRfl
namespace Go.Proofs.YtapcbpknhnfcfaaGreat
/- THE CELL 'sum', in the pinned program and in every row, IS THE sha256 OF THE DUMP (.gsa) THAT YtapcbpknhnfcfaaGreatProg.lean LOADS. Nothing in Lean hashes anything: it is a label: what it is worth is what the hold of that sum in a sandbox is worth. -/
noncomputable def Tryz.pinned : Pinned := { name := "ytapcbpknhnfcfaagreat", sum := "af88cfa01b802f2c3aef633ee4b23a9f7b920d05540c4f4a7269640b7e782d6f", checked := Tryz.checked }
namespace Rows
def none {H : Type} : Left H := { results := [], args := [] }

/-- 'dumbwaiterlaw16.PairNil': WHATEVER THE INPUT: true; the input reads as it did. -/
def pairNilSpec : ChangeSpec := { name := "pairNil", fn := fun _ => fun
  | [d1, d2] => { results := [.lit (.bool true)], args := [d1, d2] }
  | _ => none }
def pairNilRow : OpenClaim := { program := "ytapcbpknhnfcfaagreat", sum := "af88cfa01b802f2c3aef633ee4b23a9f7b920d05540c4f4a7269640b7e782d6f", func := "dumbwaiter/dumbwaiterlaw16.PairNil", spec := "pairNil", inPlace := ["slices.overlaps[dumbwaiter/api.Tok]"], unfollowed := true, recurses := true, plainKeys := false, apart := false }
def PairNilSaid : Prop := pairNilRow.holds Tryz.pinned (OpenSpec.ofChange pairNilSpec)

/-- ITS FALSE NEIGHBOUR: 'it returns false'. Refute it at one input. -/
def pairNilWrong : ChangeSpec := { name := "pairNil", fn := fun _ => fun
  | [d1, d2] => { results := [.lit (.bool false)], args := [d1, d2] }
  | _ => none }
def PairNilWrongFalsely : Prop := pairNilRow.holds Tryz.pinned (OpenSpec.ofChange pairNilWrong)

/-- 'dumbwaiterlaw16.PairNames': WHATEVER THE INPUT: true; the input reads as it did. -/
def pairNamesSpec : ChangeSpec := { name := "pairNames", fn := fun _ => fun
  | [] => { results := [.lit (.bool true)], args := [] }
  | _ => none }
def pairNamesRow : OpenClaim := { program := "ytapcbpknhnfcfaagreat", sum := "af88cfa01b802f2c3aef633ee4b23a9f7b920d05540c4f4a7269640b7e782d6f", func := "dumbwaiter/dumbwaiterlaw16.PairNames", spec := "pairNames", inPlace := ["slices.overlaps[dumbwaiter/api.Tok]"], unfollowed := true, recurses := true, plainKeys := false, apart := false }
def PairNamesSaid : Prop := pairNamesRow.holds Tryz.pinned (OpenSpec.ofChange pairNamesSpec)

/-- ITS FALSE NEIGHBOUR: 'it returns false'. Refute it at one input. -/
def pairNamesWrong : ChangeSpec := { name := "pairNames", fn := fun _ => fun
  | [] => { results := [.lit (.bool false)], args := [] }
  | _ => none }
def PairNamesWrongFalsely : Prop := pairNamesRow.holds Tryz.pinned (OpenSpec.ofChange pairNamesWrong)

/-- 'dumbwaiterlaw17.BellNames': WHATEVER THE INPUT: true; the input reads as it did. -/
def bellNamesSpec : ChangeSpec := { name := "bellNames", fn := fun _ => fun
  | [] => { results := [.lit (.bool true)], args := [] }
  | _ => none }
def bellNamesRow : OpenClaim := { program := "ytapcbpknhnfcfaagreat", sum := "af88cfa01b802f2c3aef633ee4b23a9f7b920d05540c4f4a7269640b7e782d6f", func := "dumbwaiter/dumbwaiterlaw17.BellNames", spec := "bellNames", inPlace := ["slices.overlaps[dumbwaiter/api.Tok]"], unfollowed := true, recurses := true, plainKeys := false, apart := false }
def BellNamesSaid : Prop := bellNamesRow.holds Tryz.pinned (OpenSpec.ofChange bellNamesSpec)

/-- ITS FALSE NEIGHBOUR: 'it returns false'. Refute it at one input. -/
def bellNamesWrong : ChangeSpec := { name := "bellNames", fn := fun _ => fun
  | [] => { results := [.lit (.bool false)], args := [] }
  | _ => none }
def BellNamesWrongFalsely : Prop := bellNamesRow.holds Tryz.pinned (OpenSpec.ofChange bellNamesWrong)

/-- 'dumbwaiterlaw29.WorldNames': WHATEVER THE INPUT: true; the input reads as it did. -/
def worldNamesSpec : ChangeSpec := { name := "worldNames", fn := fun _ => fun
  | [] => { results := [.lit (.bool true)], args := [] }
  | _ => none }
def worldNamesRow : OpenClaim := { program := "ytapcbpknhnfcfaagreat", sum := "af88cfa01b802f2c3aef633ee4b23a9f7b920d05540c4f4a7269640b7e782d6f", func := "dumbwaiter/dumbwaiterlaw29.WorldNames", spec := "worldNames", unfollowed := true, recurses := true, plainKeys := false, apart := false }
def WorldNamesSaid : Prop := worldNamesRow.holds Tryz.pinned (OpenSpec.ofChange worldNamesSpec)

/-- ITS FALSE NEIGHBOUR: 'it returns false'. Refute it at one input. -/
def worldNamesWrong : ChangeSpec := { name := "worldNames", fn := fun _ => fun
  | [] => { results := [.lit (.bool false)], args := [] }
  | _ => none }
def WorldNamesWrongFalsely : Prop := worldNamesRow.holds Tryz.pinned (OpenSpec.ofChange worldNamesWrong)

/- THE SECOND FORM. 'bulk': how many values and letters a reading holds, each counted each time it is reached (what is shared counts as often as it is met; a slice's spare places count too). A statement '..UptoSaid' is the law's where the arguments, and the package variables that the reading takes, are together of bulk at most 1048576: NARROWER than '..Said'. Prove '..Said' where nothing that the law and all that it calls make is longer than what came in: it says more and counts as full. Else prove '..UptoSaid'. A law counts once. -/
mutual
def uptoBulk {H : Type} : DataW H → Nat
  | .lit (.string bytes) => bytes.length + 1
  | .lit _ => 1
  | .nil => 1
  | .ptr d => uptoBulk d + 1
  | .slice elems spare => uptoBulkAll elems + uptoBulkAll spare + 1
  | .agg parts => uptoBulkAll parts + 1
  | .iface _ d => uptoBulk d + 1
  | .map entries => uptoBulkEntries entries + 1
  | .held _ => 1
def uptoBulkAll {H : Type} : List (DataW H) → Nat
  | [] => 0
  | d :: r => uptoBulk d + uptoBulkAll r
def uptoBulkEntries {H : Type} : List (Lit × DataW H) → Nat
  | [] => 0
  | x :: r => uptoBulkEntry x + uptoBulkEntries r
def uptoBulkEntry {H : Type} : Lit × DataW H → Nat
  | (.string bytes, d) => bytes.length + uptoBulk d + 1
  | (_, d) => uptoBulk d + 1
 end
def uptoSmall : (H : Type) → List (DataW H) → Bool := fun _ ds => decide (uptoBulkAll ds ≤ 1048576)
def OpenSpec.upto (s : _root_.Go.ChangeSpec) : _root_.Go.OpenSpec := { _root_.Go.OpenSpec.ofChange s with cond := some uptoSmall }

/-- 'dumbwaiterlaw16.PairNil', WHERE WHAT IT READS IS OF BULK AT MOST 1048576: true; the input reads as it did. -/
def pairNilUptoRow : OpenClaim := { program := "ytapcbpknhnfcfaagreat", sum := "af88cfa01b802f2c3aef633ee4b23a9f7b920d05540c4f4a7269640b7e782d6f", func := "dumbwaiter/dumbwaiterlaw16.PairNil", spec := "pairNil", inPlace := ["slices.overlaps[dumbwaiter/api.Tok]"], unfollowed := true, recurses := true, plainKeys := false, apart := false, narrowed := true }
def PairNilUptoSaid : Prop := pairNilUptoRow.holds Tryz.pinned (OpenSpec.upto pairNilSpec)

/-- 'dumbwaiterlaw16.PairNames', WHERE WHAT IT READS IS OF BULK AT MOST 1048576: true; the input reads as it did. -/
def pairNamesUptoRow : OpenClaim := { program := "ytapcbpknhnfcfaagreat", sum := "af88cfa01b802f2c3aef633ee4b23a9f7b920d05540c4f4a7269640b7e782d6f", func := "dumbwaiter/dumbwaiterlaw16.PairNames", spec := "pairNames", inPlace := ["slices.overlaps[dumbwaiter/api.Tok]"], unfollowed := true, recurses := true, plainKeys := false, apart := false, narrowed := true }
def PairNamesUptoSaid : Prop := pairNamesUptoRow.holds Tryz.pinned (OpenSpec.upto pairNamesSpec)

/-- 'dumbwaiterlaw17.BellNames', WHERE WHAT IT READS IS OF BULK AT MOST 1048576: true; the input reads as it did. -/
def bellNamesUptoRow : OpenClaim := { program := "ytapcbpknhnfcfaagreat", sum := "af88cfa01b802f2c3aef633ee4b23a9f7b920d05540c4f4a7269640b7e782d6f", func := "dumbwaiter/dumbwaiterlaw17.BellNames", spec := "bellNames", inPlace := ["slices.overlaps[dumbwaiter/api.Tok]"], unfollowed := true, recurses := true, plainKeys := false, apart := false, narrowed := true }
def BellNamesUptoSaid : Prop := bellNamesUptoRow.holds Tryz.pinned (OpenSpec.upto bellNamesSpec)

/-- 'dumbwaiterlaw29.WorldNames', WHERE WHAT IT READS IS OF BULK AT MOST 1048576: true; the input reads as it did. -/
def worldNamesUptoRow : OpenClaim := { program := "ytapcbpknhnfcfaagreat", sum := "af88cfa01b802f2c3aef633ee4b23a9f7b920d05540c4f4a7269640b7e782d6f", func := "dumbwaiter/dumbwaiterlaw29.WorldNames", spec := "worldNames", unfollowed := true, recurses := true, plainKeys := false, apart := false, narrowed := true }
def WorldNamesUptoSaid : Prop := worldNamesUptoRow.holds Tryz.pinned (OpenSpec.upto worldNamesSpec)

end Rows
end Go.Proofs.YtapcbpknhnfcfaaGreat
