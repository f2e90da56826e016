/-
  No cell of these rows narrows 'for every input' (looked for: loops, veiled, ifaces, maps, wideKeys, modest, calm, conditions, laid).
  DERIVED. THE GIVEN ROWS OF THIS SEAT. 3 by the template 'for every input the law returns true; each argument reads behind the call as it read before'; 0 by the template 'total and deterministic' (their statements: YtihjjmhkfbcdeaaTotals.lean).
  GIVEN WITH THE SEED: the statements are not yours to turn. If you find one false, say at which input.
  Laid BY PROGRAM, IN A SANDBOX (cutbox-rows.mjs): the forced cells as the released guide's own fill.sh prints them over the translation e071e453e6aa6428… (all of the seat's roots in one cut). By AI agents, Wed Nov 11 2026. No macro, syntax, notation, axiom, sorry.
-/
import Derived.Test.YtihjjmhkfbcdeaaChecked
import GoSem.Claim
import GoSem.ClaimJoined
import GoSem.ClaimMapViews
import Derived.JoinedTies
import Derived.KernelRfl
namespace Go.Proofs.Ytihjjmhkfbcdeaa
/- THE CELL 'sum', in the pinned program and in every row, IS THE sha256 OF THE DUMP (.gsa) THAT YtihjjmhkfbcdeaaProg.lean LOADS. Nothing in Lean hashes anything: it is a label: what it is worth is what the hold of that sum in a sandbox is worth. -/
noncomputable def Try.pinned : Pinned := { name := "ytihjjmhkfbcdeaa", sum := "e071e453e6aa6428fcc864a11604438532282d635f2bf10af0ec1761f5686c54", checked := Try.checked }
namespace Rows
def none {H : Type} : Left H := { results := [], args := [] }

/-- 'dumbwaiterlaw20.SectorsHas': WHATEVER THE INPUT: true; the input reads as it did. -/
def sectorsHasSpec : ChangeSpec := { name := "sectorsHas", fn := fun _ => fun
  | [d1, d2, d3, d4] => { results := [.lit (.bool true)], args := [d1, d2, d3, d4] }
  | _ => none }
def sectorsHasRow : OpenClaim := { program := "ytihjjmhkfbcdeaa", sum := "e071e453e6aa6428fcc864a11604438532282d635f2bf10af0ec1761f5686c54", func := "dumbwaiter/dumbwaiterlaw20.SectorsHas", spec := "sectorsHas", unfollowed := true, recurses := true, apart := false }
def SectorsHasSaid : Prop := sectorsHasRow.holds Try.pinned (OpenSpec.ofChange sectorsHasSpec)

/-- ITS FALSE NEIGHBOUR: 'it returns false'. Refute it at one input. -/
def sectorsHasWrong : ChangeSpec := { name := "sectorsHas", fn := fun _ => fun
  | [d1, d2, d3, d4] => { results := [.lit (.bool false)], args := [d1, d2, d3, d4] }
  | _ => none }
def SectorsHasWrongFalsely : Prop := sectorsHasRow.holds Try.pinned (OpenSpec.ofChange sectorsHasWrong)

/-- 'dumbwaiterlaw20.SectorsParts': WHATEVER THE INPUT: true; the input reads as it did. -/
def sectorsPartsSpec : ChangeSpec := { name := "sectorsParts", fn := fun _ => fun
  | [d1, d2, d3, d4] => { results := [.lit (.bool true)], args := [d1, d2, d3, d4] }
  | _ => none }
def sectorsPartsRow : OpenClaim := { program := "ytihjjmhkfbcdeaa", sum := "e071e453e6aa6428fcc864a11604438532282d635f2bf10af0ec1761f5686c54", func := "dumbwaiter/dumbwaiterlaw20.SectorsParts", spec := "sectorsParts", unfollowed := true, recurses := true, apart := false }
def SectorsPartsSaid : Prop := sectorsPartsRow.holds Try.pinned (OpenSpec.ofChange sectorsPartsSpec)

/-- ITS FALSE NEIGHBOUR: 'it returns false'. Refute it at one input. -/
def sectorsPartsWrong : ChangeSpec := { name := "sectorsParts", fn := fun _ => fun
  | [d1, d2, d3, d4] => { results := [.lit (.bool false)], args := [d1, d2, d3, d4] }
  | _ => none }
def SectorsPartsWrongFalsely : Prop := sectorsPartsRow.holds Try.pinned (OpenSpec.ofChange sectorsPartsWrong)

/-- 'dumbwaiterlaw20.SectorsNames': WHATEVER THE INPUT: true; the input reads as it did. -/
def sectorsNamesSpec : ChangeSpec := { name := "sectorsNames", fn := fun _ => fun
  | [] => { results := [.lit (.bool true)], args := [] }
  | _ => none }
def sectorsNamesRow : OpenClaim := { program := "ytihjjmhkfbcdeaa", sum := "e071e453e6aa6428fcc864a11604438532282d635f2bf10af0ec1761f5686c54", func := "dumbwaiter/dumbwaiterlaw20.SectorsNames", spec := "sectorsNames", unfollowed := true, recurses := true, apart := false }
def SectorsNamesSaid : Prop := sectorsNamesRow.holds Try.pinned (OpenSpec.ofChange sectorsNamesSpec)

/-- ITS FALSE NEIGHBOUR: 'it returns false'. Refute it at one input. -/
def sectorsNamesWrong : ChangeSpec := { name := "sectorsNames", fn := fun _ => fun
  | [] => { results := [.lit (.bool false)], args := [] }
  | _ => none }
def SectorsNamesWrongFalsely : Prop := sectorsNamesRow.holds Try.pinned (OpenSpec.ofChange sectorsNamesWrong)

/- THE SECOND FORM. 'bulk': how many values and letters a reading holds, each counted each time it is reached (what is shared counts as often as it is met; a slice's spare places count too). A statement '..UptoSaid' is the law's where the arguments, and the package variables that the reading takes, are together of bulk at most 1048576: NARROWER than '..Said'. Prove '..Said' where nothing that the law and all that it calls make is longer than what came in: it says more and counts as full. Else prove '..UptoSaid'. A law counts once. -/
mutual
def uptoBulk {H : Type} : DataW H → Nat
  | .lit (.string bytes) => bytes.length + 1
  | .lit _ => 1
  | .nil => 1
  | .ptr d => uptoBulk d + 1
  | .slice elems spare => uptoBulkAll elems + uptoBulkAll spare + 1
  | .agg parts => uptoBulkAll parts + 1
  | .iface _ d => uptoBulk d + 1
  | .map entries => uptoBulkEntries entries + 1
  | .held _ => 1
def uptoBulkAll {H : Type} : List (DataW H) → Nat
  | [] => 0
  | d :: r => uptoBulk d + uptoBulkAll r
def uptoBulkEntries {H : Type} : List (Lit × DataW H) → Nat
  | [] => 0
  | x :: r => uptoBulkEntry x + uptoBulkEntries r
def uptoBulkEntry {H : Type} : Lit × DataW H → Nat
  | (.string bytes, d) => bytes.length + uptoBulk d + 1
  | (_, d) => uptoBulk d + 1
 end
def uptoSmall : (H : Type) → List (DataW H) → Bool := fun _ ds => decide (uptoBulkAll ds ≤ 1048576)
def OpenSpec.upto (s : _root_.Go.ChangeSpec) : _root_.Go.OpenSpec := { _root_.Go.OpenSpec.ofChange s with cond := some uptoSmall }

/-- 'dumbwaiterlaw20.SectorsHas', WHERE WHAT IT READS IS OF BULK AT MOST 1048576: true; the input reads as it did. -/
def sectorsHasUptoRow : OpenClaim := { program := "ytihjjmhkfbcdeaa", sum := "e071e453e6aa6428fcc864a11604438532282d635f2bf10af0ec1761f5686c54", func := "dumbwaiter/dumbwaiterlaw20.SectorsHas", spec := "sectorsHas", unfollowed := true, recurses := true, apart := false, narrowed := true }
def SectorsHasUptoSaid : Prop := sectorsHasUptoRow.holds Try.pinned (OpenSpec.upto sectorsHasSpec)

/-- 'dumbwaiterlaw20.SectorsParts', WHERE WHAT IT READS IS OF BULK AT MOST 1048576: true; the input reads as it did. -/
def sectorsPartsUptoRow : OpenClaim := { program := "ytihjjmhkfbcdeaa", sum := "e071e453e6aa6428fcc864a11604438532282d635f2bf10af0ec1761f5686c54", func := "dumbwaiter/dumbwaiterlaw20.SectorsParts", spec := "sectorsParts", unfollowed := true, recurses := true, apart := false, narrowed := true }
def SectorsPartsUptoSaid : Prop := sectorsPartsUptoRow.holds Try.pinned (OpenSpec.upto sectorsPartsSpec)

/-- 'dumbwaiterlaw20.SectorsNames', WHERE WHAT IT READS IS OF BULK AT MOST 1048576: true; the input reads as it did. -/
def sectorsNamesUptoRow : OpenClaim := { program := "ytihjjmhkfbcdeaa", sum := "e071e453e6aa6428fcc864a11604438532282d635f2bf10af0ec1761f5686c54", func := "dumbwaiter/dumbwaiterlaw20.SectorsNames", spec := "sectorsNames", unfollowed := true, recurses := true, apart := false, narrowed := true }
def SectorsNamesUptoSaid : Prop := sectorsNamesUptoRow.holds Try.pinned (OpenSpec.upto sectorsNamesSpec)

end Rows
end Go.Proofs.Ytihjjmhkfbcdeaa
