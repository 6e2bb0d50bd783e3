/-
  No cell of these rows narrows 'for every input' (looked for: loops, veiled, ifaces, maps, wideKeys, modest, calm, conditions, laid).
  DERIVED. THE GIVEN ROWS OF THIS SEAT. 5 by the template 'for every input the law returns true; each argument reads behind the call as it read before'; 0 by the template 'total and deterministic' (their statements: YtlabcgnegbdlfaaTotals.lean).
  GIVEN WITH THE SEED: the statements are not yours to turn. If you find one false, say at which input.
  Laid BY PROGRAM, IN A SANDBOX (cutbox-rows.mjs): the forced cells as the released guide's own fill.sh prints them over the translation 08f589e26de86b22… (all of the seat's roots in one cut). By AI agents, Wed Nov 11 2026. No macro, syntax, notation, axiom, sorry.
-/
import Derived.Test.YtlabcgnegbdlfaaChecked
import GoSem.Claim
import GoSem.ClaimJoined
import GoSem.ClaimMapViews
import Derived.JoinedTies
import Derived.KernelRfl
namespace Go.Proofs.Ytlabcgnegbdlfaa
/- THE CELL 'sum', in the pinned program and in every row, IS THE sha256 OF THE DUMP (.gsa) THAT YtlabcgnegbdlfaaProg.lean LOADS. Nothing in Lean hashes anything: it is a label: what it is worth is what the hold of that sum in a sandbox is worth. -/
noncomputable def Try.pinned : Pinned := { name := "ytlabcgnegbdlfaa", sum := "08f589e26de86b22de12165e028386589654d296cd05d28d335cf8d44a8608c0", checked := Try.checked }
namespace Rows
def none {H : Type} : Left H := { results := [], args := [] }

/-- 'depotlaw25.RegionScans': WHATEVER THE INPUT: true; the input reads as it did. -/
def regionScansSpec : ChangeSpec := { name := "regionScans", fn := fun _ => fun
  | [d1, d2] => { results := [.lit (.bool true)], args := [d1, d2] }
  | _ => none }
def regionScansRow : OpenClaim := { program := "ytlabcgnegbdlfaa", sum := "08f589e26de86b22de12165e028386589654d296cd05d28d335cf8d44a8608c0", func := "depot/depotlaw25.RegionScans", spec := "regionScans", unfollowed := true, recurses := true, apart := false }
def RegionScansSaid : Prop := regionScansRow.holds Try.pinned (OpenSpec.ofChange regionScansSpec)

/-- ITS FALSE NEIGHBOUR: 'it returns false'. Refute it at one input. -/
def regionScansWrong : ChangeSpec := { name := "regionScans", fn := fun _ => fun
  | [d1, d2] => { results := [.lit (.bool false)], args := [d1, d2] }
  | _ => none }
def RegionScansWrongFalsely : Prop := regionScansRow.holds Try.pinned (OpenSpec.ofChange regionScansWrong)

/-- 'depotlaw25.RegionKills': WHATEVER THE INPUT: true; the input reads as it did. -/
def regionKillsSpec : ChangeSpec := { name := "regionKills", fn := fun _ => fun
  | [d1, d2] => { results := [.lit (.bool true)], args := [d1, d2] }
  | _ => none }
def regionKillsRow : OpenClaim := { program := "ytlabcgnegbdlfaa", sum := "08f589e26de86b22de12165e028386589654d296cd05d28d335cf8d44a8608c0", func := "depot/depotlaw25.RegionKills", spec := "regionKills", unfollowed := true, recurses := true, apart := false }
def RegionKillsSaid : Prop := regionKillsRow.holds Try.pinned (OpenSpec.ofChange regionKillsSpec)

/-- ITS FALSE NEIGHBOUR: 'it returns false'. Refute it at one input. -/
def regionKillsWrong : ChangeSpec := { name := "regionKills", fn := fun _ => fun
  | [d1, d2] => { results := [.lit (.bool false)], args := [d1, d2] }
  | _ => none }
def RegionKillsWrongFalsely : Prop := regionKillsRow.holds Try.pinned (OpenSpec.ofChange regionKillsWrong)

/-- 'depotlaw32.PlainDoes': WHATEVER THE INPUT: true; the input reads as it did. -/
def plainDoesSpec : ChangeSpec := { name := "plainDoes", fn := fun _ => fun
  | [d] => { results := [.lit (.bool true)], args := [d] }
  | _ => none }
def plainDoesRow : OpenClaim := { program := "ytlabcgnegbdlfaa", sum := "08f589e26de86b22de12165e028386589654d296cd05d28d335cf8d44a8608c0", func := "depot/depotlaw32.PlainDoes", spec := "plainDoes", recurses := true, apart := false }
def PlainDoesSaid : Prop := plainDoesRow.holds Try.pinned (OpenSpec.ofChange plainDoesSpec)

/-- ITS FALSE NEIGHBOUR: 'it returns false'. Refute it at one input. -/
def plainDoesWrong : ChangeSpec := { name := "plainDoes", fn := fun _ => fun
  | [d] => { results := [.lit (.bool false)], args := [d] }
  | _ => none }
def PlainDoesWrongFalsely : Prop := plainDoesRow.holds Try.pinned (OpenSpec.ofChange plainDoesWrong)

/-- 'depotlaw25.RegionTorn': WHATEVER THE INPUT: true; the input reads as it did. -/
def regionTornSpec : ChangeSpec := { name := "regionTorn", fn := fun _ => fun
  | [d1, d2, d3, d4] => { results := [.lit (.bool true)], args := [d1, d2, d3, d4] }
  | _ => none }
def regionTornRow : OpenClaim := { program := "ytlabcgnegbdlfaa", sum := "08f589e26de86b22de12165e028386589654d296cd05d28d335cf8d44a8608c0", func := "depot/depotlaw25.RegionTorn", spec := "regionTorn", unfollowed := true, recurses := true, apart := false }
def RegionTornSaid : Prop := regionTornRow.holds Try.pinned (OpenSpec.ofChange regionTornSpec)

/-- ITS FALSE NEIGHBOUR: 'it returns false'. Refute it at one input. -/
def regionTornWrong : ChangeSpec := { name := "regionTorn", fn := fun _ => fun
  | [d1, d2, d3, d4] => { results := [.lit (.bool false)], args := [d1, d2, d3, d4] }
  | _ => none }
def RegionTornWrongFalsely : Prop := regionTornRow.holds Try.pinned (OpenSpec.ofChange regionTornWrong)

/-- 'depotlaw25.RegionWrites': WHATEVER THE INPUT: true; the input reads as it did. -/
def regionWritesSpec : ChangeSpec := { name := "regionWrites", fn := fun _ => fun
  | [d] => { results := [.lit (.bool true)], args := [d] }
  | _ => none }
def regionWritesRow : OpenClaim := { program := "ytlabcgnegbdlfaa", sum := "08f589e26de86b22de12165e028386589654d296cd05d28d335cf8d44a8608c0", func := "depot/depotlaw25.RegionWrites", spec := "regionWrites", unfollowed := true, recurses := true, apart := false }
def RegionWritesSaid : Prop := regionWritesRow.holds Try.pinned (OpenSpec.ofChange regionWritesSpec)

/-- ITS FALSE NEIGHBOUR: 'it returns false'. Refute it at one input. -/
def regionWritesWrong : ChangeSpec := { name := "regionWrites", fn := fun _ => fun
  | [d] => { results := [.lit (.bool false)], args := [d] }
  | _ => none }
def RegionWritesWrongFalsely : Prop := regionWritesRow.holds Try.pinned (OpenSpec.ofChange regionWritesWrong)

/- THE SECOND FORM. 'bulk': how many values and letters a reading holds, each counted each time it is reached (what is shared counts as often as it is met; a slice's spare places count too). A statement '..UptoSaid' is the law's where the arguments, and the package variables that the reading takes, are together of bulk at most 1048576: NARROWER than '..Said'. Prove '..Said' where nothing that the law and all that it calls make is longer than what came in: it says more and counts as full. Else prove '..UptoSaid'. A law counts once. -/
mutual
def uptoBulk {H : Type} : DataW H → Nat
  | .lit (.string bytes) => bytes.length + 1
  | .lit _ => 1
  | .nil => 1
  | .ptr d => uptoBulk d + 1
  | .slice elems spare => uptoBulkAll elems + uptoBulkAll spare + 1
  | .agg parts => uptoBulkAll parts + 1
  | .iface _ d => uptoBulk d + 1
  | .map entries => uptoBulkEntries entries + 1
  | .held _ => 1
def uptoBulkAll {H : Type} : List (DataW H) → Nat
  | [] => 0
  | d :: r => uptoBulk d + uptoBulkAll r
def uptoBulkEntries {H : Type} : List (Lit × DataW H) → Nat
  | [] => 0
  | x :: r => uptoBulkEntry x + uptoBulkEntries r
def uptoBulkEntry {H : Type} : Lit × DataW H → Nat
  | (.string bytes, d) => bytes.length + uptoBulk d + 1
  | (_, d) => uptoBulk d + 1
 end
def uptoSmall : (H : Type) → List (DataW H) → Bool := fun _ ds => decide (uptoBulkAll ds ≤ 1048576)
def OpenSpec.upto (s : _root_.Go.ChangeSpec) : _root_.Go.OpenSpec := { _root_.Go.OpenSpec.ofChange s with cond := some uptoSmall }

/-- 'depotlaw25.RegionScans', WHERE WHAT IT READS IS OF BULK AT MOST 1048576: true; the input reads as it did. -/
def regionScansUptoRow : OpenClaim := { program := "ytlabcgnegbdlfaa", sum := "08f589e26de86b22de12165e028386589654d296cd05d28d335cf8d44a8608c0", func := "depot/depotlaw25.RegionScans", spec := "regionScans", unfollowed := true, recurses := true, apart := false, narrowed := true }
def RegionScansUptoSaid : Prop := regionScansUptoRow.holds Try.pinned (OpenSpec.upto regionScansSpec)

/-- 'depotlaw25.RegionKills', WHERE WHAT IT READS IS OF BULK AT MOST 1048576: true; the input reads as it did. -/
def regionKillsUptoRow : OpenClaim := { program := "ytlabcgnegbdlfaa", sum := "08f589e26de86b22de12165e028386589654d296cd05d28d335cf8d44a8608c0", func := "depot/depotlaw25.RegionKills", spec := "regionKills", unfollowed := true, recurses := true, apart := false, narrowed := true }
def RegionKillsUptoSaid : Prop := regionKillsUptoRow.holds Try.pinned (OpenSpec.upto regionKillsSpec)

/-- 'depotlaw32.PlainDoes', WHERE WHAT IT READS IS OF BULK AT MOST 1048576: true; the input reads as it did. -/
def plainDoesUptoRow : OpenClaim := { program := "ytlabcgnegbdlfaa", sum := "08f589e26de86b22de12165e028386589654d296cd05d28d335cf8d44a8608c0", func := "depot/depotlaw32.PlainDoes", spec := "plainDoes", recurses := true, apart := false, narrowed := true }
def PlainDoesUptoSaid : Prop := plainDoesUptoRow.holds Try.pinned (OpenSpec.upto plainDoesSpec)

/-- 'depotlaw25.RegionTorn', WHERE WHAT IT READS IS OF BULK AT MOST 1048576: true; the input reads as it did. -/
def regionTornUptoRow : OpenClaim := { program := "ytlabcgnegbdlfaa", sum := "08f589e26de86b22de12165e028386589654d296cd05d28d335cf8d44a8608c0", func := "depot/depotlaw25.RegionTorn", spec := "regionTorn", unfollowed := true, recurses := true, apart := false, narrowed := true }
def RegionTornUptoSaid : Prop := regionTornUptoRow.holds Try.pinned (OpenSpec.upto regionTornSpec)

/-- 'depotlaw25.RegionWrites', WHERE WHAT IT READS IS OF BULK AT MOST 1048576: true; the input reads as it did. -/
def regionWritesUptoRow : OpenClaim := { program := "ytlabcgnegbdlfaa", sum := "08f589e26de86b22de12165e028386589654d296cd05d28d335cf8d44a8608c0", func := "depot/depotlaw25.RegionWrites", spec := "regionWrites", unfollowed := true, recurses := true, apart := false, narrowed := true }
def RegionWritesUptoSaid : Prop := regionWritesUptoRow.holds Try.pinned (OpenSpec.upto regionWritesSpec)

end Rows
end Go.Proofs.Ytlabcgnegbdlfaa
