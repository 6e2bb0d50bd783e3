/-
  NARROWER THAN 'FOR EVERY INPUT', by the rows' own cells (each row's printed sentence says how): PlainStore: laid · PlainKept: laid · PlainFlush: laid.
  DERIVED. THE GIVEN ROWS OF THIS SEAT. 3 by the template 'for every input the law returns true; each argument reads behind the call as it read before'; 0 by the template 'total and deterministic' (their statements: YtieboeindnpnaaaGreatDoorTotals.lean).
  GIVEN WITH THE SEED: the statements are not yours to turn. If you find one false, say at which input.
  Laid BY PROGRAM, IN A SANDBOX (cutbox-rows.mjs): the forced cells as the released guide's own fill.sh prints them over the translation 0d4a1ccf0d9333e2… (all of the seat's roots in one cut). By AI agents, Wed Nov 11 2026. No macro, syntax, notation, axiom, sorry.
-/
import Derived.Test.YtieboeindnpnaaaGreatDoorChecked
import GoSem.Claim
import GoSem.ClaimJoined
import GoSem.ClaimMapViews
import Derived.JoinedTies
import Derived.KernelRfl
namespace Go.Proofs.YtieboeindnpnaaaGreatDoor
/- THE CELL 'sum', in the pinned program and in every row, IS THE sha256 OF THE DUMP (.gsa) THAT YtieboeindnpnaaaGreatDoorProg.lean LOADS. Nothing in Lean hashes anything: it is a label: what it is worth is what the hold of that sum in a sandbox is worth. -/
noncomputable def Tryz.pinned : Pinned := { name := "ytieboeindnpnaaagreatdoor", sum := "0d4a1ccf0d9333e2b934d65c9a41cb2ae5714afab4aea5e7bf229685291ea9a8", checked := Tryz.checked }
namespace Rows
def none {H : Type} : Left H := { results := [], args := [] }

/- WHAT THE LISTED PACKAGE-LEVEL VARIABLES READ AS WHEN THE CALL BEGINS. Each datum BY PROGRAM (the guide's laid-datum.mjs) off the statement by which the dump's own 'gosem.cut.vars' lays the variable. In a bare row this is a premise. The card (YtieboeindnpnaaaGreatDoorCards.lean) ties it to the program's text. -/
def laid_depot_entry_classes {H : Type} : DataW H := .agg [.lit (.int .i64 1), .lit (.int .i64 2), .lit (.int .i64 4), .lit (.int .i64 8)]

/-- 'depotlaw32.PlainStore': WHATEVER THE INPUT: true; the input reads as it did. -/
def plainStoreSpec : ChangeSpec := { name := "plainStore", fn := fun _ => fun
  | [d1, d2] => { results := [.lit (.bool true)], args := [d1, d2] }
  | _ => none }
def plainStoreRow : OpenClaim := { program := "ytieboeindnpnaaagreatdoor", sum := "0d4a1ccf0d9333e2b934d65c9a41cb2ae5714afab4aea5e7bf229685291ea9a8", func := "depot/depotlaw32.PlainStore", spec := "plainStore", unfollowed := true, recurses := true, named := ["depot/entry.classes"], plainKeys := false, apart := false, laid := [("depot/entry.classes", laid_depot_entry_classes)] }
def PlainStoreSaid : Prop := plainStoreRow.holds Tryz.pinned (OpenSpec.ofChange plainStoreSpec)

/-- ITS FALSE NEIGHBOUR: 'it returns false'. Refute it at one input. -/
def plainStoreWrong : ChangeSpec := { name := "plainStore", fn := fun _ => fun
  | [d1, d2] => { results := [.lit (.bool false)], args := [d1, d2] }
  | _ => none }
def PlainStoreWrongFalsely : Prop := plainStoreRow.holds Tryz.pinned (OpenSpec.ofChange plainStoreWrong)

/-- 'depotlaw32.PlainKept': WHATEVER THE INPUT: true; the input reads as it did. -/
def plainKeptSpec : ChangeSpec := { name := "plainKept", fn := fun _ => fun
  | [d1, d2, d3, d4, d5] => { results := [.lit (.bool true)], args := [d1, d2, d3, d4, d5] }
  | _ => none }
def plainKeptRow : OpenClaim := { program := "ytieboeindnpnaaagreatdoor", sum := "0d4a1ccf0d9333e2b934d65c9a41cb2ae5714afab4aea5e7bf229685291ea9a8", func := "depot/depotlaw32.PlainKept", spec := "plainKept", unfollowed := true, recurses := true, named := ["depot/entry.classes"], plainKeys := false, apart := false, laid := [("depot/entry.classes", laid_depot_entry_classes)] }
def PlainKeptSaid : Prop := plainKeptRow.holds Tryz.pinned (OpenSpec.ofChange plainKeptSpec)

/-- ITS FALSE NEIGHBOUR: 'it returns false'. Refute it at one input. -/
def plainKeptWrong : ChangeSpec := { name := "plainKept", fn := fun _ => fun
  | [d1, d2, d3, d4, d5] => { results := [.lit (.bool false)], args := [d1, d2, d3, d4, d5] }
  | _ => none }
def PlainKeptWrongFalsely : Prop := plainKeptRow.holds Tryz.pinned (OpenSpec.ofChange plainKeptWrong)

/-- 'depotlaw32.PlainFlush': WHATEVER THE INPUT: true; the input reads as it did. -/
def plainFlushSpec : ChangeSpec := { name := "plainFlush", fn := fun _ => fun
  | [d1, d2] => { results := [.lit (.bool true)], args := [d1, d2] }
  | _ => none }
def plainFlushRow : OpenClaim := { program := "ytieboeindnpnaaagreatdoor", sum := "0d4a1ccf0d9333e2b934d65c9a41cb2ae5714afab4aea5e7bf229685291ea9a8", func := "depot/depotlaw32.PlainFlush", spec := "plainFlush", unfollowed := true, recurses := true, named := ["depot/entry.classes"], plainKeys := false, apart := false, laid := [("depot/entry.classes", laid_depot_entry_classes)] }
def PlainFlushSaid : Prop := plainFlushRow.holds Tryz.pinned (OpenSpec.ofChange plainFlushSpec)

/-- ITS FALSE NEIGHBOUR: 'it returns false'. Refute it at one input. -/
def plainFlushWrong : ChangeSpec := { name := "plainFlush", fn := fun _ => fun
  | [d1, d2] => { results := [.lit (.bool false)], args := [d1, d2] }
  | _ => none }
def PlainFlushWrongFalsely : Prop := plainFlushRow.holds Tryz.pinned (OpenSpec.ofChange plainFlushWrong)

/- THE SECOND FORM. 'bulk': how many values and letters a reading holds, each counted each time it is reached (what is shared counts as often as it is met; a slice's spare places count too). A statement '..UptoSaid' is the law's where the arguments, and the package variables that the reading takes, are together of bulk at most 1048576: NARROWER than '..Said'. Prove '..Said' where nothing that the law and all that it calls make is longer than what came in: it says more and counts as full. Else prove '..UptoSaid'. A law counts once. -/
mutual
def uptoBulk {H : Type} : DataW H → Nat
  | .lit (.string bytes) => bytes.length + 1
  | .lit _ => 1
  | .nil => 1
  | .ptr d => uptoBulk d + 1
  | .slice elems spare => uptoBulkAll elems + uptoBulkAll spare + 1
  | .agg parts => uptoBulkAll parts + 1
  | .iface _ d => uptoBulk d + 1
  | .map entries => uptoBulkEntries entries + 1
  | .held _ => 1
def uptoBulkAll {H : Type} : List (DataW H) → Nat
  | [] => 0
  | d :: r => uptoBulk d + uptoBulkAll r
def uptoBulkEntries {H : Type} : List (Lit × DataW H) → Nat
  | [] => 0
  | x :: r => uptoBulkEntry x + uptoBulkEntries r
def uptoBulkEntry {H : Type} : Lit × DataW H → Nat
  | (.string bytes, d) => bytes.length + uptoBulk d + 1
  | (_, d) => uptoBulk d + 1
 end
def uptoSmall : (H : Type) → List (DataW H) → Bool := fun _ ds => decide (uptoBulkAll ds ≤ 1048576)
def OpenSpec.upto (s : _root_.Go.ChangeSpec) : _root_.Go.OpenSpec := { _root_.Go.OpenSpec.ofChange s with cond := some uptoSmall }

/-- 'depotlaw32.PlainStore', WHERE WHAT IT READS IS OF BULK AT MOST 1048576: true; the input reads as it did. -/
def plainStoreUptoRow : OpenClaim := { program := "ytieboeindnpnaaagreatdoor", sum := "0d4a1ccf0d9333e2b934d65c9a41cb2ae5714afab4aea5e7bf229685291ea9a8", func := "depot/depotlaw32.PlainStore", spec := "plainStore", unfollowed := true, recurses := true, named := ["depot/entry.classes"], plainKeys := false, apart := false, laid := [("depot/entry.classes", laid_depot_entry_classes)], narrowed := true }
def PlainStoreUptoSaid : Prop := plainStoreUptoRow.holds Tryz.pinned (OpenSpec.upto plainStoreSpec)

/-- 'depotlaw32.PlainKept', WHERE WHAT IT READS IS OF BULK AT MOST 1048576: true; the input reads as it did. -/
def plainKeptUptoRow : OpenClaim := { program := "ytieboeindnpnaaagreatdoor", sum := "0d4a1ccf0d9333e2b934d65c9a41cb2ae5714afab4aea5e7bf229685291ea9a8", func := "depot/depotlaw32.PlainKept", spec := "plainKept", unfollowed := true, recurses := true, named := ["depot/entry.classes"], plainKeys := false, apart := false, laid := [("depot/entry.classes", laid_depot_entry_classes)], narrowed := true }
def PlainKeptUptoSaid : Prop := plainKeptUptoRow.holds Tryz.pinned (OpenSpec.upto plainKeptSpec)

/-- 'depotlaw32.PlainFlush', WHERE WHAT IT READS IS OF BULK AT MOST 1048576: true; the input reads as it did. -/
def plainFlushUptoRow : OpenClaim := { program := "ytieboeindnpnaaagreatdoor", sum := "0d4a1ccf0d9333e2b934d65c9a41cb2ae5714afab4aea5e7bf229685291ea9a8", func := "depot/depotlaw32.PlainFlush", spec := "plainFlush", unfollowed := true, recurses := true, named := ["depot/entry.classes"], plainKeys := false, apart := false, laid := [("depot/entry.classes", laid_depot_entry_classes)], narrowed := true }
def PlainFlushUptoSaid : Prop := plainFlushUptoRow.holds Tryz.pinned (OpenSpec.upto plainFlushSpec)

end Rows
end Go.Proofs.YtieboeindnpnaaaGreatDoor
