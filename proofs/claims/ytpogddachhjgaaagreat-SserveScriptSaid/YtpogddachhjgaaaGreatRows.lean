/-
  No cell of these rows narrows 'for every input' (looked for: loops, veiled, ifaces, maps, wideKeys, modest, calm, conditions, laid).
  DERIVED. THE GIVEN ROWS OF THIS SEAT. 3 by the template 'for every input the law returns true; each argument reads behind the call as it read before'; 0 by the template 'total and deterministic' (their statements: YtpogddachhjgaaaGreatTotals.lean).
  GIVEN WITH THE SEED: the statements are not yours to turn. If you find one false, say at which input.
  Laid BY PROGRAM, IN A SANDBOX (cutbox-rows.mjs): the forced cells as the released guide's own fill.sh prints them over the translation f99ac02d9e98d65b… (all of the seat's roots in one cut). By AI agents, Wed Nov 11 2026. No macro, syntax, notation, axiom, sorry.
-/
import Derived.Test.YtpogddachhjgaaaGreatChecked
import GoSem.Claim
import GoSem.ClaimJoined
import GoSem.ClaimMapViews
import Derived.JoinedTies
import Derived.KernelRfl
namespace Go.Proofs.YtpogddachhjgaaaGreat
/- THE CELL 'sum', in the pinned program and in every row, IS THE sha256 OF THE DUMP (.gsa) THAT YtpogddachhjgaaaGreatProg.lean LOADS. Nothing in Lean hashes anything: it is a label: what it is worth is what the hold of that sum in a sandbox is worth. -/
noncomputable def Tryz.pinned : Pinned := { name := "ytpogddachhjgaaagreat", sum := "f99ac02d9e98d65b6d089ca727fd9516d35da0b137badf29b05187fa9d094411", checked := Tryz.checked }
namespace Rows
def none {H : Type} : Left H := { results := [], args := [] }

/-- 'dumbwaiterlaw13.SserveTakes': WHATEVER THE INPUT: true; the input reads as it did. -/
def sserveTakesSpec : ChangeSpec := { name := "sserveTakes", fn := fun _ => fun
  | [d1, d2, d3, d4] => { results := [.lit (.bool true)], args := [d1, d2, d3, d4] }
  | _ => none }
def sserveTakesRow : OpenClaim := { program := "ytpogddachhjgaaagreat", sum := "f99ac02d9e98d65b6d089ca727fd9516d35da0b137badf29b05187fa9d094411", func := "dumbwaiter/dumbwaiterlaw13.SserveTakes", spec := "sserveTakes", unfollowed := true, recurses := true, apart := false }
def SserveTakesSaid : Prop := sserveTakesRow.holds Tryz.pinned (OpenSpec.ofChange sserveTakesSpec)

/-- ITS FALSE NEIGHBOUR: 'it returns false'. Refute it at one input. -/
def sserveTakesWrong : ChangeSpec := { name := "sserveTakes", fn := fun _ => fun
  | [d1, d2, d3, d4] => { results := [.lit (.bool false)], args := [d1, d2, d3, d4] }
  | _ => none }
def SserveTakesWrongFalsely : Prop := sserveTakesRow.holds Tryz.pinned (OpenSpec.ofChange sserveTakesWrong)

/-- 'dumbwaiterlaw13.SserveEnds': WHATEVER THE INPUT: true; the input reads as it did. -/
def sserveEndsSpec : ChangeSpec := { name := "sserveEnds", fn := fun _ => fun
  | [d1, d2, d3] => { results := [.lit (.bool true)], args := [d1, d2, d3] }
  | _ => none }
def sserveEndsRow : OpenClaim := { program := "ytpogddachhjgaaagreat", sum := "f99ac02d9e98d65b6d089ca727fd9516d35da0b137badf29b05187fa9d094411", func := "dumbwaiter/dumbwaiterlaw13.SserveEnds", spec := "sserveEnds", unfollowed := true, recurses := true, apart := false }
def SserveEndsSaid : Prop := sserveEndsRow.holds Tryz.pinned (OpenSpec.ofChange sserveEndsSpec)

/-- ITS FALSE NEIGHBOUR: 'it returns false'. Refute it at one input. -/
def sserveEndsWrong : ChangeSpec := { name := "sserveEnds", fn := fun _ => fun
  | [d1, d2, d3] => { results := [.lit (.bool false)], args := [d1, d2, d3] }
  | _ => none }
def SserveEndsWrongFalsely : Prop := sserveEndsRow.holds Tryz.pinned (OpenSpec.ofChange sserveEndsWrong)

/-- 'dumbwaiterlaw13.SserveScript': WHATEVER THE INPUT: true; the input reads as it did. -/
def sserveScriptSpec : ChangeSpec := { name := "sserveScript", fn := fun _ => fun
  | [d1, d2, d3] => { results := [.lit (.bool true)], args := [d1, d2, d3] }
  | _ => none }
def sserveScriptRow : OpenClaim := { program := "ytpogddachhjgaaagreat", sum := "f99ac02d9e98d65b6d089ca727fd9516d35da0b137badf29b05187fa9d094411", func := "dumbwaiter/dumbwaiterlaw13.SserveScript", spec := "sserveScript", unfollowed := true, recurses := true, apart := false }
def SserveScriptSaid : Prop := sserveScriptRow.holds Tryz.pinned (OpenSpec.ofChange sserveScriptSpec)

/-- ITS FALSE NEIGHBOUR: 'it returns false'. Refute it at one input. -/
def sserveScriptWrong : ChangeSpec := { name := "sserveScript", fn := fun _ => fun
  | [d1, d2, d3] => { results := [.lit (.bool false)], args := [d1, d2, d3] }
  | _ => none }
def SserveScriptWrongFalsely : Prop := sserveScriptRow.holds Tryz.pinned (OpenSpec.ofChange sserveScriptWrong)

/- THE SECOND FORM. 'bulk': how many values and letters a reading holds, each counted each time it is reached (what is shared counts as often as it is met; a slice's spare places count too). A statement '..UptoSaid' is the law's where the arguments, and the package variables that the reading takes, are together of bulk at most 1048576: NARROWER than '..Said'. Prove '..Said' where nothing that the law and all that it calls make is longer than what came in: it says more and counts as full. Else prove '..UptoSaid'. A law counts once. -/
mutual
def uptoBulk {H : Type} : DataW H → Nat
  | .lit (.string bytes) => bytes.length + 1
  | .lit _ => 1
  | .nil => 1
  | .ptr d => uptoBulk d + 1
  | .slice elems spare => uptoBulkAll elems + uptoBulkAll spare + 1
  | .agg parts => uptoBulkAll parts + 1
  | .iface _ d => uptoBulk d + 1
  | .map entries => uptoBulkEntries entries + 1
  | .held _ => 1
def uptoBulkAll {H : Type} : List (DataW H) → Nat
  | [] => 0
  | d :: r => uptoBulk d + uptoBulkAll r
def uptoBulkEntries {H : Type} : List (Lit × DataW H) → Nat
  | [] => 0
  | x :: r => uptoBulkEntry x + uptoBulkEntries r
def uptoBulkEntry {H : Type} : Lit × DataW H → Nat
  | (.string bytes, d) => bytes.length + uptoBulk d + 1
  | (_, d) => uptoBulk d + 1
 end
def uptoSmall : (H : Type) → List (DataW H) → Bool := fun _ ds => decide (uptoBulkAll ds ≤ 1048576)
def OpenSpec.upto (s : _root_.Go.ChangeSpec) : _root_.Go.OpenSpec := { _root_.Go.OpenSpec.ofChange s with cond := some uptoSmall }

/-- 'dumbwaiterlaw13.SserveTakes', WHERE WHAT IT READS IS OF BULK AT MOST 1048576: true; the input reads as it did. -/
def sserveTakesUptoRow : OpenClaim := { program := "ytpogddachhjgaaagreat", sum := "f99ac02d9e98d65b6d089ca727fd9516d35da0b137badf29b05187fa9d094411", func := "dumbwaiter/dumbwaiterlaw13.SserveTakes", spec := "sserveTakes", unfollowed := true, recurses := true, apart := false, narrowed := true }
def SserveTakesUptoSaid : Prop := sserveTakesUptoRow.holds Tryz.pinned (OpenSpec.upto sserveTakesSpec)

/-- 'dumbwaiterlaw13.SserveEnds', WHERE WHAT IT READS IS OF BULK AT MOST 1048576: true; the input reads as it did. -/
def sserveEndsUptoRow : OpenClaim := { program := "ytpogddachhjgaaagreat", sum := "f99ac02d9e98d65b6d089ca727fd9516d35da0b137badf29b05187fa9d094411", func := "dumbwaiter/dumbwaiterlaw13.SserveEnds", spec := "sserveEnds", unfollowed := true, recurses := true, apart := false, narrowed := true }
def SserveEndsUptoSaid : Prop := sserveEndsUptoRow.holds Tryz.pinned (OpenSpec.upto sserveEndsSpec)

/-- 'dumbwaiterlaw13.SserveScript', WHERE WHAT IT READS IS OF BULK AT MOST 1048576: true; the input reads as it did. -/
def sserveScriptUptoRow : OpenClaim := { program := "ytpogddachhjgaaagreat", sum := "f99ac02d9e98d65b6d089ca727fd9516d35da0b137badf29b05187fa9d094411", func := "dumbwaiter/dumbwaiterlaw13.SserveScript", spec := "sserveScript", unfollowed := true, recurses := true, apart := false, narrowed := true }
def SserveScriptUptoSaid : Prop := sserveScriptUptoRow.holds Tryz.pinned (OpenSpec.upto sserveScriptSpec)

end Rows
end Go.Proofs.YtpogddachhjgaaaGreat
