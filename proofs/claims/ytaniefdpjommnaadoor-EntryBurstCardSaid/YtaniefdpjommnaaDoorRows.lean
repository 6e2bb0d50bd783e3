/-
  NARROWER THAN 'FOR EVERY INPUT', by the rows' own cells (each row's printed sentence says how): EntryCuts: laid · EntryJoins: laid · EntryBack: laid · EntryBurst: laid.
  DERIVED. THE GIVEN ROWS OF THIS SEAT. 4 by the template 'for every input the law returns true; each argument reads behind the call as it read before'; 0 by the template 'total and deterministic' (their statements: YtaniefdpjommnaaDoorTotals.lean).
  GIVEN WITH THE SEED: the statements are not yours to turn. If you find one false, say at which input.
  Laid BY PROGRAM, IN A SANDBOX (cutbox-rows.mjs): the forced cells as the released guide's own fill.sh prints them over the translation 4dffbef56f7c2303… (all of the seat's roots in one cut). By AI agents, Wed Nov 11 2026. No macro, syntax, notation, axiom, sorry.
-/
import Derived.Test.YtaniefdpjommnaaDoorChecked
import GoSem.Claim
import GoSem.ClaimJoined
import GoSem.ClaimMapViews
import Derived.JoinedTies
import Derived.KernelRfl
namespace Go.Proofs.YtaniefdpjommnaaDoor
/- THE CELL 'sum', in the pinned program and in every row, IS THE sha256 OF THE DUMP (.gsa) THAT YtaniefdpjommnaaDoorProg.lean LOADS. Nothing in Lean hashes anything: it is a label: what it is worth is what the hold of that sum in a sandbox is worth. -/
noncomputable def Tryd.pinned : Pinned := { name := "ytaniefdpjommnaadoor", sum := "4dffbef56f7c23036e0296c5d5f948a562ff43229d9d6c4962d07c3b03355932", checked := Tryd.checked }
namespace Rows
def none {H : Type} : Left H := { results := [], args := [] }

/- WHAT THE LISTED PACKAGE-LEVEL VARIABLES READ AS WHEN THE CALL BEGINS. Each datum BY PROGRAM (the guide's laid-datum.mjs) off the statement by which the dump's own 'gosem.cut.vars' lays the variable. In a bare row this is a premise. The card (YtaniefdpjommnaaDoorCards.lean) ties it to the program's text. -/
def laid_depot_entry_classes {H : Type} : DataW H := .agg [.lit (.int .i64 1), .lit (.int .i64 2), .lit (.int .i64 4), .lit (.int .i64 8)]

/-- 'depotlaw24.EntryCuts': WHATEVER THE INPUT: true; the input reads as it did. -/
def entryCutsSpec : ChangeSpec := { name := "entryCuts", fn := fun _ => fun
  | [d1, d2, d3, d4, d5] => { results := [.lit (.bool true)], args := [d1, d2, d3, d4, d5] }
  | _ => none }
def entryCutsRow : OpenClaim := { program := "ytaniefdpjommnaadoor", sum := "4dffbef56f7c23036e0296c5d5f948a562ff43229d9d6c4962d07c3b03355932", func := "depot/depotlaw24.EntryCuts", spec := "entryCuts", named := ["depot/entry.classes"], apart := false, laid := [("depot/entry.classes", laid_depot_entry_classes)] }
def EntryCutsSaid : Prop := entryCutsRow.holds Tryd.pinned (OpenSpec.ofChange entryCutsSpec)

/-- ITS FALSE NEIGHBOUR: 'it returns false'. Refute it at one input. -/
def entryCutsWrong : ChangeSpec := { name := "entryCuts", fn := fun _ => fun
  | [d1, d2, d3, d4, d5] => { results := [.lit (.bool false)], args := [d1, d2, d3, d4, d5] }
  | _ => none }
def EntryCutsWrongFalsely : Prop := entryCutsRow.holds Tryd.pinned (OpenSpec.ofChange entryCutsWrong)

/-- 'depotlaw24.EntryJoins': WHATEVER THE INPUT: true; the input reads as it did. -/
def entryJoinsSpec : ChangeSpec := { name := "entryJoins", fn := fun _ => fun
  | [d] => { results := [.lit (.bool true)], args := [d] }
  | _ => none }
def entryJoinsRow : OpenClaim := { program := "ytaniefdpjommnaadoor", sum := "4dffbef56f7c23036e0296c5d5f948a562ff43229d9d6c4962d07c3b03355932", func := "depot/depotlaw24.EntryJoins", spec := "entryJoins", named := ["depot/entry.classes"], apart := false, laid := [("depot/entry.classes", laid_depot_entry_classes)] }
def EntryJoinsSaid : Prop := entryJoinsRow.holds Tryd.pinned (OpenSpec.ofChange entryJoinsSpec)

/-- ITS FALSE NEIGHBOUR: 'it returns false'. Refute it at one input. -/
def entryJoinsWrong : ChangeSpec := { name := "entryJoins", fn := fun _ => fun
  | [d] => { results := [.lit (.bool false)], args := [d] }
  | _ => none }
def EntryJoinsWrongFalsely : Prop := entryJoinsRow.holds Tryd.pinned (OpenSpec.ofChange entryJoinsWrong)

/-- 'depotlaw24.EntryBack': WHATEVER THE INPUT: true; the input reads as it did. -/
def entryBackSpec : ChangeSpec := { name := "entryBack", fn := fun _ => fun
  | [d1, d2, d3, d4] => { results := [.lit (.bool true)], args := [d1, d2, d3, d4] }
  | _ => none }
def entryBackRow : OpenClaim := { program := "ytaniefdpjommnaadoor", sum := "4dffbef56f7c23036e0296c5d5f948a562ff43229d9d6c4962d07c3b03355932", func := "depot/depotlaw24.EntryBack", spec := "entryBack", named := ["depot/entry.classes"], apart := false, laid := [("depot/entry.classes", laid_depot_entry_classes)] }
def EntryBackSaid : Prop := entryBackRow.holds Tryd.pinned (OpenSpec.ofChange entryBackSpec)

/-- ITS FALSE NEIGHBOUR: 'it returns false'. Refute it at one input. -/
def entryBackWrong : ChangeSpec := { name := "entryBack", fn := fun _ => fun
  | [d1, d2, d3, d4] => { results := [.lit (.bool false)], args := [d1, d2, d3, d4] }
  | _ => none }
def EntryBackWrongFalsely : Prop := entryBackRow.holds Tryd.pinned (OpenSpec.ofChange entryBackWrong)

/-- 'depotlaw24.EntryBurst': WHATEVER THE INPUT: true; the input reads as it did. -/
def entryBurstSpec : ChangeSpec := { name := "entryBurst", fn := fun _ => fun
  | [d1, d2, d3, d4] => { results := [.lit (.bool true)], args := [d1, d2, d3, d4] }
  | _ => none }
def entryBurstRow : OpenClaim := { program := "ytaniefdpjommnaadoor", sum := "4dffbef56f7c23036e0296c5d5f948a562ff43229d9d6c4962d07c3b03355932", func := "depot/depotlaw24.EntryBurst", spec := "entryBurst", named := ["depot/entry.classes"], apart := false, laid := [("depot/entry.classes", laid_depot_entry_classes)] }
def EntryBurstSaid : Prop := entryBurstRow.holds Tryd.pinned (OpenSpec.ofChange entryBurstSpec)

/-- ITS FALSE NEIGHBOUR: 'it returns false'. Refute it at one input. -/
def entryBurstWrong : ChangeSpec := { name := "entryBurst", fn := fun _ => fun
  | [d1, d2, d3, d4] => { results := [.lit (.bool false)], args := [d1, d2, d3, d4] }
  | _ => none }
def EntryBurstWrongFalsely : Prop := entryBurstRow.holds Tryd.pinned (OpenSpec.ofChange entryBurstWrong)

/- THE SECOND FORM. 'bulk': how many values and letters a reading holds, each counted each time it is reached (what is shared counts as often as it is met; a slice's spare places count too). A statement '..UptoSaid' is the law's where the arguments, and the package variables that the reading takes, are together of bulk at most 1048576: NARROWER than '..Said'. Prove '..Said' where nothing that the law and all that it calls make is longer than what came in: it says more and counts as full. Else prove '..UptoSaid'. A law counts once. -/
mutual
def uptoBulk {H : Type} : DataW H → Nat
  | .lit (.string bytes) => bytes.length + 1
  | .lit _ => 1
  | .nil => 1
  | .ptr d => uptoBulk d + 1
  | .slice elems spare => uptoBulkAll elems + uptoBulkAll spare + 1
  | .agg parts => uptoBulkAll parts + 1
  | .iface _ d => uptoBulk d + 1
  | .map entries => uptoBulkEntries entries + 1
  | .held _ => 1
def uptoBulkAll {H : Type} : List (DataW H) → Nat
  | [] => 0
  | d :: r => uptoBulk d + uptoBulkAll r
def uptoBulkEntries {H : Type} : List (Lit × DataW H) → Nat
  | [] => 0
  | x :: r => uptoBulkEntry x + uptoBulkEntries r
def uptoBulkEntry {H : Type} : Lit × DataW H → Nat
  | (.string bytes, d) => bytes.length + uptoBulk d + 1
  | (_, d) => uptoBulk d + 1
 end
def uptoSmall : (H : Type) → List (DataW H) → Bool := fun _ ds => decide (uptoBulkAll ds ≤ 1048576)
def OpenSpec.upto (s : _root_.Go.ChangeSpec) : _root_.Go.OpenSpec := { _root_.Go.OpenSpec.ofChange s with cond := some uptoSmall }

/-- 'depotlaw24.EntryCuts', WHERE WHAT IT READS IS OF BULK AT MOST 1048576: true; the input reads as it did. -/
def entryCutsUptoRow : OpenClaim := { program := "ytaniefdpjommnaadoor", sum := "4dffbef56f7c23036e0296c5d5f948a562ff43229d9d6c4962d07c3b03355932", func := "depot/depotlaw24.EntryCuts", spec := "entryCuts", named := ["depot/entry.classes"], apart := false, laid := [("depot/entry.classes", laid_depot_entry_classes)], narrowed := true }
def EntryCutsUptoSaid : Prop := entryCutsUptoRow.holds Tryd.pinned (OpenSpec.upto entryCutsSpec)

/-- 'depotlaw24.EntryJoins', WHERE WHAT IT READS IS OF BULK AT MOST 1048576: true; the input reads as it did. -/
def entryJoinsUptoRow : OpenClaim := { program := "ytaniefdpjommnaadoor", sum := "4dffbef56f7c23036e0296c5d5f948a562ff43229d9d6c4962d07c3b03355932", func := "depot/depotlaw24.EntryJoins", spec := "entryJoins", named := ["depot/entry.classes"], apart := false, laid := [("depot/entry.classes", laid_depot_entry_classes)], narrowed := true }
def EntryJoinsUptoSaid : Prop := entryJoinsUptoRow.holds Tryd.pinned (OpenSpec.upto entryJoinsSpec)

/-- 'depotlaw24.EntryBack', WHERE WHAT IT READS IS OF BULK AT MOST 1048576: true; the input reads as it did. -/
def entryBackUptoRow : OpenClaim := { program := "ytaniefdpjommnaadoor", sum := "4dffbef56f7c23036e0296c5d5f948a562ff43229d9d6c4962d07c3b03355932", func := "depot/depotlaw24.EntryBack", spec := "entryBack", named := ["depot/entry.classes"], apart := false, laid := [("depot/entry.classes", laid_depot_entry_classes)], narrowed := true }
def EntryBackUptoSaid : Prop := entryBackUptoRow.holds Tryd.pinned (OpenSpec.upto entryBackSpec)

/-- 'depotlaw24.EntryBurst', WHERE WHAT IT READS IS OF BULK AT MOST 1048576: true; the input reads as it did. -/
def entryBurstUptoRow : OpenClaim := { program := "ytaniefdpjommnaadoor", sum := "4dffbef56f7c23036e0296c5d5f948a562ff43229d9d6c4962d07c3b03355932", func := "depot/depotlaw24.EntryBurst", spec := "entryBurst", named := ["depot/entry.classes"], apart := false, laid := [("depot/entry.classes", laid_depot_entry_classes)], narrowed := true }
def EntryBurstUptoSaid : Prop := entryBurstUptoRow.holds Tryd.pinned (OpenSpec.upto entryBurstSpec)

end Rows
end Go.Proofs.YtaniefdpjommnaaDoor
