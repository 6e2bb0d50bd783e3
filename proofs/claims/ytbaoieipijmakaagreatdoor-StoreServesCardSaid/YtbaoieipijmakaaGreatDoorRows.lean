/-
  NARROWER THAN 'FOR EVERY INPUT', by the rows' own cells (each row's printed sentence says how): StoreServes: laid · StoreBytes: laid · StoreWear: laid · StoreNil: laid · StoreDoes: laid.
  DERIVED. THE GIVEN ROWS OF THIS SEAT. 5 by the template 'for every input the law returns true; each argument reads behind the call as it read before'; 0 by the template 'total and deterministic' (their statements: YtbaoieipijmakaaGreatDoorTotals.lean).
  GIVEN WITH THE SEED: the statements are not yours to turn. If you find one false, say at which input.
  Laid BY PROGRAM, IN A SANDBOX (cutbox-rows.mjs): the forced cells as the released guide's own fill.sh prints them over the translation 9b35b17354c8d5b7… (all of the seat's roots in one cut). By AI agents, Wed Nov 11 2026. No macro, syntax, notation, axiom, sorry.
-/
import Derived.Test.YtbaoieipijmakaaGreatDoorChecked
import GoSem.Claim
import GoSem.ClaimJoined
import GoSem.ClaimMapViews
import Derived.JoinedTies
import Derived.KernelRfl
namespace Go.Proofs.YtbaoieipijmakaaGreatDoor
/- THE CELL 'sum', in the pinned program and in every row, IS THE sha256 OF THE DUMP (.gsa) THAT YtbaoieipijmakaaGreatDoorProg.lean LOADS. Nothing in Lean hashes anything: it is a label: what it is worth is what the hold of that sum in a sandbox is worth. -/
noncomputable def Tryz.pinned : Pinned := { name := "ytbaoieipijmakaagreatdoor", sum := "9b35b17354c8d5b7e74b279d81993d3517f5baa0ba9aca253bbb0dc98a7849c0", checked := Tryz.checked }
namespace Rows
def none {H : Type} : Left H := { results := [], args := [] }

/- WHAT THE LISTED PACKAGE-LEVEL VARIABLES READ AS WHEN THE CALL BEGINS. Each datum BY PROGRAM (the guide's laid-datum.mjs) off the statement by which the dump's own 'gosem.cut.vars' lays the variable. In a bare row this is a premise. The card (YtbaoieipijmakaaGreatDoorCards.lean) ties it to the program's text. -/
def laid_depot_entry_classes {H : Type} : DataW H := .agg [.lit (.int .i64 1), .lit (.int .i64 2), .lit (.int .i64 4), .lit (.int .i64 8)]

/-- 'depotlaw31.StoreServes': WHATEVER THE INPUT: true; the input reads as it did. -/
def storeServesSpec : ChangeSpec := { name := "storeServes", fn := fun _ => fun
  | [d1, d2, d3, d4] => { results := [.lit (.bool true)], args := [d1, d2, d3, d4] }
  | _ => none }
def storeServesRow : OpenClaim := { program := "ytbaoieipijmakaagreatdoor", sum := "9b35b17354c8d5b7e74b279d81993d3517f5baa0ba9aca253bbb0dc98a7849c0", func := "depot/depotlaw31.StoreServes", spec := "storeServes", unfollowed := true, recurses := true, named := ["depot/entry.classes"], plainKeys := false, apart := false, laid := [("depot/entry.classes", laid_depot_entry_classes)] }
def StoreServesSaid : Prop := storeServesRow.holds Tryz.pinned (OpenSpec.ofChange storeServesSpec)

/-- ITS FALSE NEIGHBOUR: 'it returns false'. Refute it at one input. -/
def storeServesWrong : ChangeSpec := { name := "storeServes", fn := fun _ => fun
  | [d1, d2, d3, d4] => { results := [.lit (.bool false)], args := [d1, d2, d3, d4] }
  | _ => none }
def StoreServesWrongFalsely : Prop := storeServesRow.holds Tryz.pinned (OpenSpec.ofChange storeServesWrong)

/-- 'depotlaw31.StoreBytes': WHATEVER THE INPUT: true; the input reads as it did. -/
def storeBytesSpec : ChangeSpec := { name := "storeBytes", fn := fun _ => fun
  | [d1, d2] => { results := [.lit (.bool true)], args := [d1, d2] }
  | _ => none }
def storeBytesRow : OpenClaim := { program := "ytbaoieipijmakaagreatdoor", sum := "9b35b17354c8d5b7e74b279d81993d3517f5baa0ba9aca253bbb0dc98a7849c0", func := "depot/depotlaw31.StoreBytes", spec := "storeBytes", unfollowed := true, recurses := true, named := ["depot/entry.classes"], plainKeys := false, apart := false, laid := [("depot/entry.classes", laid_depot_entry_classes)] }
def StoreBytesSaid : Prop := storeBytesRow.holds Tryz.pinned (OpenSpec.ofChange storeBytesSpec)

/-- ITS FALSE NEIGHBOUR: 'it returns false'. Refute it at one input. -/
def storeBytesWrong : ChangeSpec := { name := "storeBytes", fn := fun _ => fun
  | [d1, d2] => { results := [.lit (.bool false)], args := [d1, d2] }
  | _ => none }
def StoreBytesWrongFalsely : Prop := storeBytesRow.holds Tryz.pinned (OpenSpec.ofChange storeBytesWrong)

/-- 'depotlaw31.StoreWear': WHATEVER THE INPUT: true; the input reads as it did. -/
def storeWearSpec : ChangeSpec := { name := "storeWear", fn := fun _ => fun
  | [d1, d2] => { results := [.lit (.bool true)], args := [d1, d2] }
  | _ => none }
def storeWearRow : OpenClaim := { program := "ytbaoieipijmakaagreatdoor", sum := "9b35b17354c8d5b7e74b279d81993d3517f5baa0ba9aca253bbb0dc98a7849c0", func := "depot/depotlaw31.StoreWear", spec := "storeWear", unfollowed := true, recurses := true, named := ["depot/entry.classes"], plainKeys := false, apart := false, laid := [("depot/entry.classes", laid_depot_entry_classes)] }
def StoreWearSaid : Prop := storeWearRow.holds Tryz.pinned (OpenSpec.ofChange storeWearSpec)

/-- ITS FALSE NEIGHBOUR: 'it returns false'. Refute it at one input. -/
def storeWearWrong : ChangeSpec := { name := "storeWear", fn := fun _ => fun
  | [d1, d2] => { results := [.lit (.bool false)], args := [d1, d2] }
  | _ => none }
def StoreWearWrongFalsely : Prop := storeWearRow.holds Tryz.pinned (OpenSpec.ofChange storeWearWrong)

/-- 'depotlaw31.StoreNil': WHATEVER THE INPUT: true; the input reads as it did. -/
def storeNilSpec : ChangeSpec := { name := "storeNil", fn := fun _ => fun
  | [d] => { results := [.lit (.bool true)], args := [d] }
  | _ => none }
def storeNilRow : OpenClaim := { program := "ytbaoieipijmakaagreatdoor", sum := "9b35b17354c8d5b7e74b279d81993d3517f5baa0ba9aca253bbb0dc98a7849c0", func := "depot/depotlaw31.StoreNil", spec := "storeNil", unfollowed := true, recurses := true, named := ["depot/entry.classes"], plainKeys := false, apart := false, laid := [("depot/entry.classes", laid_depot_entry_classes)] }
def StoreNilSaid : Prop := storeNilRow.holds Tryz.pinned (OpenSpec.ofChange storeNilSpec)

/-- ITS FALSE NEIGHBOUR: 'it returns false'. Refute it at one input. -/
def storeNilWrong : ChangeSpec := { name := "storeNil", fn := fun _ => fun
  | [d] => { results := [.lit (.bool false)], args := [d] }
  | _ => none }
def StoreNilWrongFalsely : Prop := storeNilRow.holds Tryz.pinned (OpenSpec.ofChange storeNilWrong)

/-- 'depotlaw31.StoreDoes': WHATEVER THE INPUT: true; the input reads as it did. -/
def storeDoesSpec : ChangeSpec := { name := "storeDoes", fn := fun _ => fun
  | [d1, d2] => { results := [.lit (.bool true)], args := [d1, d2] }
  | _ => none }
def storeDoesRow : OpenClaim := { program := "ytbaoieipijmakaagreatdoor", sum := "9b35b17354c8d5b7e74b279d81993d3517f5baa0ba9aca253bbb0dc98a7849c0", func := "depot/depotlaw31.StoreDoes", spec := "storeDoes", unfollowed := true, recurses := true, named := ["depot/entry.classes"], plainKeys := false, apart := false, laid := [("depot/entry.classes", laid_depot_entry_classes)] }
def StoreDoesSaid : Prop := storeDoesRow.holds Tryz.pinned (OpenSpec.ofChange storeDoesSpec)

/-- ITS FALSE NEIGHBOUR: 'it returns false'. Refute it at one input. -/
def storeDoesWrong : ChangeSpec := { name := "storeDoes", fn := fun _ => fun
  | [d1, d2] => { results := [.lit (.bool false)], args := [d1, d2] }
  | _ => none }
def StoreDoesWrongFalsely : Prop := storeDoesRow.holds Tryz.pinned (OpenSpec.ofChange storeDoesWrong)

/- THE SECOND FORM. 'bulk': how many values and letters a reading holds, each counted each time it is reached (what is shared counts as often as it is met; a slice's spare places count too). A statement '..UptoSaid' is the law's where the arguments, and the package variables that the reading takes, are together of bulk at most 1048576: NARROWER than '..Said'. Prove '..Said' where nothing that the law and all that it calls make is longer than what came in: it says more and counts as full. Else prove '..UptoSaid'. A law counts once. -/
mutual
def uptoBulk {H : Type} : DataW H → Nat
  | .lit (.string bytes) => bytes.length + 1
  | .lit _ => 1
  | .nil => 1
  | .ptr d => uptoBulk d + 1
  | .slice elems spare => uptoBulkAll elems + uptoBulkAll spare + 1
  | .agg parts => uptoBulkAll parts + 1
  | .iface _ d => uptoBulk d + 1
  | .map entries => uptoBulkEntries entries + 1
  | .held _ => 1
def uptoBulkAll {H : Type} : List (DataW H) → Nat
  | [] => 0
  | d :: r => uptoBulk d + uptoBulkAll r
def uptoBulkEntries {H : Type} : List (Lit × DataW H) → Nat
  | [] => 0
  | x :: r => uptoBulkEntry x + uptoBulkEntries r
def uptoBulkEntry {H : Type} : Lit × DataW H → Nat
  | (.string bytes, d) => bytes.length + uptoBulk d + 1
  | (_, d) => uptoBulk d + 1
 end
def uptoSmall : (H : Type) → List (DataW H) → Bool := fun _ ds => decide (uptoBulkAll ds ≤ 1048576)
def OpenSpec.upto (s : _root_.Go.ChangeSpec) : _root_.Go.OpenSpec := { _root_.Go.OpenSpec.ofChange s with cond := some uptoSmall }

/-- 'depotlaw31.StoreServes', WHERE WHAT IT READS IS OF BULK AT MOST 1048576: true; the input reads as it did. -/
def storeServesUptoRow : OpenClaim := { program := "ytbaoieipijmakaagreatdoor", sum := "9b35b17354c8d5b7e74b279d81993d3517f5baa0ba9aca253bbb0dc98a7849c0", func := "depot/depotlaw31.StoreServes", spec := "storeServes", unfollowed := true, recurses := true, named := ["depot/entry.classes"], plainKeys := false, apart := false, laid := [("depot/entry.classes", laid_depot_entry_classes)], narrowed := true }
def StoreServesUptoSaid : Prop := storeServesUptoRow.holds Tryz.pinned (OpenSpec.upto storeServesSpec)

/-- 'depotlaw31.StoreBytes', WHERE WHAT IT READS IS OF BULK AT MOST 1048576: true; the input reads as it did. -/
def storeBytesUptoRow : OpenClaim := { program := "ytbaoieipijmakaagreatdoor", sum := "9b35b17354c8d5b7e74b279d81993d3517f5baa0ba9aca253bbb0dc98a7849c0", func := "depot/depotlaw31.StoreBytes", spec := "storeBytes", unfollowed := true, recurses := true, named := ["depot/entry.classes"], plainKeys := false, apart := false, laid := [("depot/entry.classes", laid_depot_entry_classes)], narrowed := true }
def StoreBytesUptoSaid : Prop := storeBytesUptoRow.holds Tryz.pinned (OpenSpec.upto storeBytesSpec)

/-- 'depotlaw31.StoreWear', WHERE WHAT IT READS IS OF BULK AT MOST 1048576: true; the input reads as it did. -/
def storeWearUptoRow : OpenClaim := { program := "ytbaoieipijmakaagreatdoor", sum := "9b35b17354c8d5b7e74b279d81993d3517f5baa0ba9aca253bbb0dc98a7849c0", func := "depot/depotlaw31.StoreWear", spec := "storeWear", unfollowed := true, recurses := true, named := ["depot/entry.classes"], plainKeys := false, apart := false, laid := [("depot/entry.classes", laid_depot_entry_classes)], narrowed := true }
def StoreWearUptoSaid : Prop := storeWearUptoRow.holds Tryz.pinned (OpenSpec.upto storeWearSpec)

/-- 'depotlaw31.StoreNil', WHERE WHAT IT READS IS OF BULK AT MOST 1048576: true; the input reads as it did. -/
def storeNilUptoRow : OpenClaim := { program := "ytbaoieipijmakaagreatdoor", sum := "9b35b17354c8d5b7e74b279d81993d3517f5baa0ba9aca253bbb0dc98a7849c0", func := "depot/depotlaw31.StoreNil", spec := "storeNil", unfollowed := true, recurses := true, named := ["depot/entry.classes"], plainKeys := false, apart := false, laid := [("depot/entry.classes", laid_depot_entry_classes)], narrowed := true }
def StoreNilUptoSaid : Prop := storeNilUptoRow.holds Tryz.pinned (OpenSpec.upto storeNilSpec)

/-- 'depotlaw31.StoreDoes', WHERE WHAT IT READS IS OF BULK AT MOST 1048576: true; the input reads as it did. -/
def storeDoesUptoRow : OpenClaim := { program := "ytbaoieipijmakaagreatdoor", sum := "9b35b17354c8d5b7e74b279d81993d3517f5baa0ba9aca253bbb0dc98a7849c0", func := "depot/depotlaw31.StoreDoes", spec := "storeDoes", unfollowed := true, recurses := true, named := ["depot/entry.classes"], plainKeys := false, apart := false, laid := [("depot/entry.classes", laid_depot_entry_classes)], narrowed := true }
def StoreDoesUptoSaid : Prop := storeDoesUptoRow.holds Tryz.pinned (OpenSpec.upto storeDoesSpec)

end Rows
end Go.Proofs.YtbaoieipijmakaaGreatDoor
