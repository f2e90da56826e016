/-
  No cell of these rows narrows 'for every input' (looked for: loops, veiled, ifaces, maps, wideKeys, modest, calm, conditions, laid).
  DERIVED. THE GIVEN ROWS OF THIS SEAT. 4 by the template 'for every input the law returns true; each argument reads behind the call as it read before'; 0 by the template 'total and deterministic' (their statements: YtfpklobgecgnpaaGreatTotals.lean).
  GIVEN WITH THE SEED: the statements are not yours to turn. If you find one false, say at which input.
  Laid BY PROGRAM, IN A SANDBOX (cutbox-rows.mjs): the forced cells as the released guide's own fill.sh prints them over the translation 7f3e9c00baa50b31… (all of the seat's roots in one cut). By AI agents, Wed Nov 11 2026. No macro, syntax, notation, axiom, sorry.
-/
import Derived.Test.YtfpklobgecgnpaaGreatChecked
import GoSem.Claim
import GoSem.ClaimJoined
import GoSem.ClaimMapViews
import Derived.JoinedTies
import Derived.KernelRfl
namespace Go.Proofs.YtfpklobgecgnpaaGreat
/- THE CELL 'sum', in the pinned program and in every row, IS THE sha256 OF THE DUMP (.gsa) THAT YtfpklobgecgnpaaGreatProg.lean LOADS. Nothing in Lean hashes anything: it is a label: what it is worth is what the hold of that sum in a sandbox is worth. -/
noncomputable def Tryz.pinned : Pinned := { name := "ytfpklobgecgnpaagreat", sum := "7f3e9c00baa50b3104348439b507ef044f7e073ce0fc58208f5189b738239866", checked := Tryz.checked }
namespace Rows
def none {H : Type} : Left H := { results := [], args := [] }

/-- 'dumbwaiterlaw12.SdriveSees': WHATEVER THE INPUT: true; the input reads as it did. -/
def sdriveSeesSpec : ChangeSpec := { name := "sdriveSees", fn := fun _ => fun
  | [d1, d2, d3, d4] => { results := [.lit (.bool true)], args := [d1, d2, d3, d4] }
  | _ => none }
def sdriveSeesRow : OpenClaim := { program := "ytfpklobgecgnpaagreat", sum := "7f3e9c00baa50b3104348439b507ef044f7e073ce0fc58208f5189b738239866", func := "dumbwaiter/dumbwaiterlaw12.SdriveSees", spec := "sdriveSees", unfollowed := true, recurses := true, apart := false }
def SdriveSeesSaid : Prop := sdriveSeesRow.holds Tryz.pinned (OpenSpec.ofChange sdriveSeesSpec)

/-- ITS FALSE NEIGHBOUR: 'it returns false'. Refute it at one input. -/
def sdriveSeesWrong : ChangeSpec := { name := "sdriveSees", fn := fun _ => fun
  | [d1, d2, d3, d4] => { results := [.lit (.bool false)], args := [d1, d2, d3, d4] }
  | _ => none }
def SdriveSeesWrongFalsely : Prop := sdriveSeesRow.holds Tryz.pinned (OpenSpec.ofChange sdriveSeesWrong)

/-- 'dumbwaiterlaw15.PserveLies': WHATEVER THE INPUT: true; the input reads as it did. -/
def pserveLiesSpec : ChangeSpec := { name := "pserveLies", fn := fun _ => fun
  | [d1, d2, d3, d4, d5] => { results := [.lit (.bool true)], args := [d1, d2, d3, d4, d5] }
  | _ => none }
def pserveLiesRow : OpenClaim := { program := "ytfpklobgecgnpaagreat", sum := "7f3e9c00baa50b3104348439b507ef044f7e073ce0fc58208f5189b738239866", func := "dumbwaiter/dumbwaiterlaw15.PserveLies", spec := "pserveLies", unfollowed := true, recurses := true, apart := false }
def PserveLiesSaid : Prop := pserveLiesRow.holds Tryz.pinned (OpenSpec.ofChange pserveLiesSpec)

/-- ITS FALSE NEIGHBOUR: 'it returns false'. Refute it at one input. -/
def pserveLiesWrong : ChangeSpec := { name := "pserveLies", fn := fun _ => fun
  | [d1, d2, d3, d4, d5] => { results := [.lit (.bool false)], args := [d1, d2, d3, d4, d5] }
  | _ => none }
def PserveLiesWrongFalsely : Prop := pserveLiesRow.holds Tryz.pinned (OpenSpec.ofChange pserveLiesWrong)

/-- 'dumbwaiterlaw14.PdriveSees': WHATEVER THE INPUT: true; the input reads as it did. -/
def pdriveSeesSpec : ChangeSpec := { name := "pdriveSees", fn := fun _ => fun
  | [d1, d2, d3, d4, d5] => { results := [.lit (.bool true)], args := [d1, d2, d3, d4, d5] }
  | _ => none }
def pdriveSeesRow : OpenClaim := { program := "ytfpklobgecgnpaagreat", sum := "7f3e9c00baa50b3104348439b507ef044f7e073ce0fc58208f5189b738239866", func := "dumbwaiter/dumbwaiterlaw14.PdriveSees", spec := "pdriveSees", unfollowed := true, recurses := true, apart := false }
def PdriveSeesSaid : Prop := pdriveSeesRow.holds Tryz.pinned (OpenSpec.ofChange pdriveSeesSpec)

/-- ITS FALSE NEIGHBOUR: 'it returns false'. Refute it at one input. -/
def pdriveSeesWrong : ChangeSpec := { name := "pdriveSees", fn := fun _ => fun
  | [d1, d2, d3, d4, d5] => { results := [.lit (.bool false)], args := [d1, d2, d3, d4, d5] }
  | _ => none }
def PdriveSeesWrongFalsely : Prop := pdriveSeesRow.holds Tryz.pinned (OpenSpec.ofChange pdriveSeesWrong)

/-- 'dumbwaiterlaw14.PdriveLies': WHATEVER THE INPUT: true; the input reads as it did. -/
def pdriveLiesSpec : ChangeSpec := { name := "pdriveLies", fn := fun _ => fun
  | [d1, d2, d3, d4] => { results := [.lit (.bool true)], args := [d1, d2, d3, d4] }
  | _ => none }
def pdriveLiesRow : OpenClaim := { program := "ytfpklobgecgnpaagreat", sum := "7f3e9c00baa50b3104348439b507ef044f7e073ce0fc58208f5189b738239866", func := "dumbwaiter/dumbwaiterlaw14.PdriveLies", spec := "pdriveLies", unfollowed := true, recurses := true, apart := false }
def PdriveLiesSaid : Prop := pdriveLiesRow.holds Tryz.pinned (OpenSpec.ofChange pdriveLiesSpec)

/-- ITS FALSE NEIGHBOUR: 'it returns false'. Refute it at one input. -/
def pdriveLiesWrong : ChangeSpec := { name := "pdriveLies", fn := fun _ => fun
  | [d1, d2, d3, d4] => { results := [.lit (.bool false)], args := [d1, d2, d3, d4] }
  | _ => none }
def PdriveLiesWrongFalsely : Prop := pdriveLiesRow.holds Tryz.pinned (OpenSpec.ofChange pdriveLiesWrong)

/- THE SECOND FORM. 'bulk': how many values and letters a reading holds, each counted each time it is reached (what is shared counts as often as it is met; a slice's spare places count too). A statement '..UptoSaid' is the law's where the arguments, and the package variables that the reading takes, are together of bulk at most 1048576: NARROWER than '..Said'. Prove '..Said' where nothing that the law and all that it calls make is longer than what came in: it says more and counts as full. Else prove '..UptoSaid'. A law counts once. -/
mutual
def uptoBulk {H : Type} : DataW H → Nat
  | .lit (.string bytes) => bytes.length + 1
  | .lit _ => 1
  | .nil => 1
  | .ptr d => uptoBulk d + 1
  | .slice elems spare => uptoBulkAll elems + uptoBulkAll spare + 1
  | .agg parts => uptoBulkAll parts + 1
  | .iface _ d => uptoBulk d + 1
  | .map entries => uptoBulkEntries entries + 1
  | .held _ => 1
def uptoBulkAll {H : Type} : List (DataW H) → Nat
  | [] => 0
  | d :: r => uptoBulk d + uptoBulkAll r
def uptoBulkEntries {H : Type} : List (Lit × DataW H) → Nat
  | [] => 0
  | x :: r => uptoBulkEntry x + uptoBulkEntries r
def uptoBulkEntry {H : Type} : Lit × DataW H → Nat
  | (.string bytes, d) => bytes.length + uptoBulk d + 1
  | (_, d) => uptoBulk d + 1
 end
def uptoSmall : (H : Type) → List (DataW H) → Bool := fun _ ds => decide (uptoBulkAll ds ≤ 1048576)
def OpenSpec.upto (s : _root_.Go.ChangeSpec) : _root_.Go.OpenSpec := { _root_.Go.OpenSpec.ofChange s with cond := some uptoSmall }

/-- 'dumbwaiterlaw12.SdriveSees', WHERE WHAT IT READS IS OF BULK AT MOST 1048576: true; the input reads as it did. -/
def sdriveSeesUptoRow : OpenClaim := { program := "ytfpklobgecgnpaagreat", sum := "7f3e9c00baa50b3104348439b507ef044f7e073ce0fc58208f5189b738239866", func := "dumbwaiter/dumbwaiterlaw12.SdriveSees", spec := "sdriveSees", unfollowed := true, recurses := true, apart := false, narrowed := true }
def SdriveSeesUptoSaid : Prop := sdriveSeesUptoRow.holds Tryz.pinned (OpenSpec.upto sdriveSeesSpec)

/-- 'dumbwaiterlaw15.PserveLies', WHERE WHAT IT READS IS OF BULK AT MOST 1048576: true; the input reads as it did. -/
def pserveLiesUptoRow : OpenClaim := { program := "ytfpklobgecgnpaagreat", sum := "7f3e9c00baa50b3104348439b507ef044f7e073ce0fc58208f5189b738239866", func := "dumbwaiter/dumbwaiterlaw15.PserveLies", spec := "pserveLies", unfollowed := true, recurses := true, apart := false, narrowed := true }
def PserveLiesUptoSaid : Prop := pserveLiesUptoRow.holds Tryz.pinned (OpenSpec.upto pserveLiesSpec)

/-- 'dumbwaiterlaw14.PdriveSees', WHERE WHAT IT READS IS OF BULK AT MOST 1048576: true; the input reads as it did. -/
def pdriveSeesUptoRow : OpenClaim := { program := "ytfpklobgecgnpaagreat", sum := "7f3e9c00baa50b3104348439b507ef044f7e073ce0fc58208f5189b738239866", func := "dumbwaiter/dumbwaiterlaw14.PdriveSees", spec := "pdriveSees", unfollowed := true, recurses := true, apart := false, narrowed := true }
def PdriveSeesUptoSaid : Prop := pdriveSeesUptoRow.holds Tryz.pinned (OpenSpec.upto pdriveSeesSpec)

/-- 'dumbwaiterlaw14.PdriveLies', WHERE WHAT IT READS IS OF BULK AT MOST 1048576: true; the input reads as it did. -/
def pdriveLiesUptoRow : OpenClaim := { program := "ytfpklobgecgnpaagreat", sum := "7f3e9c00baa50b3104348439b507ef044f7e073ce0fc58208f5189b738239866", func := "dumbwaiter/dumbwaiterlaw14.PdriveLies", spec := "pdriveLies", unfollowed := true, recurses := true, apart := false, narrowed := true }
def PdriveLiesUptoSaid : Prop := pdriveLiesUptoRow.holds Tryz.pinned (OpenSpec.upto pdriveLiesSpec)

end Rows
end Go.Proofs.YtfpklobgecgnpaaGreat
