/-
  No cell of these rows narrows 'for every input' (looked for: loops, veiled, ifaces, maps, wideKeys, modest, calm, conditions, laid).
  DERIVED. THE GIVEN ROWS OF THIS SEAT. 2 by the template 'for every input the law returns true; each argument reads behind the call as it read before'; 0 by the template 'total and deterministic' (their statements: YtkemikknnokdhaaGreatTotals.lean).
  GIVEN WITH THE SEED: the statements are not yours to turn. If you find one false, say at which input.
  Laid BY PROGRAM, IN A SANDBOX (cutbox-rows.mjs): the forced cells as the released guide's own fill.sh prints them over the translation 16c5de6337bb4ae1… (all of the seat's roots in one cut). By AI agents, Wed Nov 11 2026. No macro, syntax, notation, axiom, sorry.
-/
import Derived.Test.YtkemikknnokdhaaGreatChecked
import GoSem.Claim
import GoSem.ClaimJoined
import GoSem.ClaimMapViews
import Derived.JoinedTies
import Derived.KernelRfl
namespace Go.Proofs.YtkemikknnokdhaaGreat
/- THE CELL 'sum', in the pinned program and in every row, IS THE sha256 OF THE DUMP (.gsa) THAT YtkemikknnokdhaaGreatProg.lean LOADS. Nothing in Lean hashes anything: it is a label: what it is worth is what the hold of that sum in a sandbox is worth. -/
noncomputable def Tryz.pinned : Pinned := { name := "ytkemikknnokdhaagreat", sum := "16c5de6337bb4ae11c321eac9e05f36343f44df3ae79bd148619678a9502930a", checked := Tryz.checked }
namespace Rows
def none {H : Type} : Left H := { results := [], args := [] }

/-- 'dumbwaiterlaw14.PdriveScript': WHATEVER THE INPUT: true; the input reads as it did. -/
def pdriveScriptSpec : ChangeSpec := { name := "pdriveScript", fn := fun _ => fun
  | [d1, d2, d3] => { results := [.lit (.bool true)], args := [d1, d2, d3] }
  | _ => none }
def pdriveScriptRow : OpenClaim := { program := "ytkemikknnokdhaagreat", sum := "16c5de6337bb4ae11c321eac9e05f36343f44df3ae79bd148619678a9502930a", func := "dumbwaiter/dumbwaiterlaw14.PdriveScript", spec := "pdriveScript", unfollowed := true, recurses := true, apart := false }
def PdriveScriptSaid : Prop := pdriveScriptRow.holds Tryz.pinned (OpenSpec.ofChange pdriveScriptSpec)

/-- ITS FALSE NEIGHBOUR: 'it returns false'. Refute it at one input. -/
def pdriveScriptWrong : ChangeSpec := { name := "pdriveScript", fn := fun _ => fun
  | [d1, d2, d3] => { results := [.lit (.bool false)], args := [d1, d2, d3] }
  | _ => none }
def PdriveScriptWrongFalsely : Prop := pdriveScriptRow.holds Tryz.pinned (OpenSpec.ofChange pdriveScriptWrong)

/-- 'dumbwaiterlaw14.PdriveHolds': WHATEVER THE INPUT: true; the input reads as it did. -/
def pdriveHoldsSpec : ChangeSpec := { name := "pdriveHolds", fn := fun _ => fun
  | [d1, d2, d3] => { results := [.lit (.bool true)], args := [d1, d2, d3] }
  | _ => none }
def pdriveHoldsRow : OpenClaim := { program := "ytkemikknnokdhaagreat", sum := "16c5de6337bb4ae11c321eac9e05f36343f44df3ae79bd148619678a9502930a", func := "dumbwaiter/dumbwaiterlaw14.PdriveHolds", spec := "pdriveHolds", unfollowed := true, recurses := true, apart := false }
def PdriveHoldsSaid : Prop := pdriveHoldsRow.holds Tryz.pinned (OpenSpec.ofChange pdriveHoldsSpec)

/-- ITS FALSE NEIGHBOUR: 'it returns false'. Refute it at one input. -/
def pdriveHoldsWrong : ChangeSpec := { name := "pdriveHolds", fn := fun _ => fun
  | [d1, d2, d3] => { results := [.lit (.bool false)], args := [d1, d2, d3] }
  | _ => none }
def PdriveHoldsWrongFalsely : Prop := pdriveHoldsRow.holds Tryz.pinned (OpenSpec.ofChange pdriveHoldsWrong)

/- THE SECOND FORM. 'bulk': how many values and letters a reading holds, each counted each time it is reached (what is shared counts as often as it is met; a slice's spare places count too). A statement '..UptoSaid' is the law's where the arguments, and the package variables that the reading takes, are together of bulk at most 1048576: NARROWER than '..Said'. Prove '..Said' where nothing that the law and all that it calls make is longer than what came in: it says more and counts as full. Else prove '..UptoSaid'. A law counts once. -/
mutual
def uptoBulk {H : Type} : DataW H → Nat
  | .lit (.string bytes) => bytes.length + 1
  | .lit _ => 1
  | .nil => 1
  | .ptr d => uptoBulk d + 1
  | .slice elems spare => uptoBulkAll elems + uptoBulkAll spare + 1
  | .agg parts => uptoBulkAll parts + 1
  | .iface _ d => uptoBulk d + 1
  | .map entries => uptoBulkEntries entries + 1
  | .held _ => 1
def uptoBulkAll {H : Type} : List (DataW H) → Nat
  | [] => 0
  | d :: r => uptoBulk d + uptoBulkAll r
def uptoBulkEntries {H : Type} : List (Lit × DataW H) → Nat
  | [] => 0
  | x :: r => uptoBulkEntry x + uptoBulkEntries r
def uptoBulkEntry {H : Type} : Lit × DataW H → Nat
  | (.string bytes, d) => bytes.length + uptoBulk d + 1
  | (_, d) => uptoBulk d + 1
 end
def uptoSmall : (H : Type) → List (DataW H) → Bool := fun _ ds => decide (uptoBulkAll ds ≤ 1048576)
def OpenSpec.upto (s : _root_.Go.ChangeSpec) : _root_.Go.OpenSpec := { _root_.Go.OpenSpec.ofChange s with cond := some uptoSmall }

/-- 'dumbwaiterlaw14.PdriveScript', WHERE WHAT IT READS IS OF BULK AT MOST 1048576: true; the input reads as it did. -/
def pdriveScriptUptoRow : OpenClaim := { program := "ytkemikknnokdhaagreat", sum := "16c5de6337bb4ae11c321eac9e05f36343f44df3ae79bd148619678a9502930a", func := "dumbwaiter/dumbwaiterlaw14.PdriveScript", spec := "pdriveScript", unfollowed := true, recurses := true, apart := false, narrowed := true }
def PdriveScriptUptoSaid : Prop := pdriveScriptUptoRow.holds Tryz.pinned (OpenSpec.upto pdriveScriptSpec)

/-- 'dumbwaiterlaw14.PdriveHolds', WHERE WHAT IT READS IS OF BULK AT MOST 1048576: true; the input reads as it did. -/
def pdriveHoldsUptoRow : OpenClaim := { program := "ytkemikknnokdhaagreat", sum := "16c5de6337bb4ae11c321eac9e05f36343f44df3ae79bd148619678a9502930a", func := "dumbwaiter/dumbwaiterlaw14.PdriveHolds", spec := "pdriveHolds", unfollowed := true, recurses := true, apart := false, narrowed := true }
def PdriveHoldsUptoSaid : Prop := pdriveHoldsUptoRow.holds Tryz.pinned (OpenSpec.upto pdriveHoldsSpec)

end Rows
end Go.Proofs.YtkemikknnokdhaaGreat
