/-
  No cell of these rows narrows 'for every input' (looked for: loops, veiled, ifaces, maps, wideKeys, modest, calm, conditions, laid).
  DERIVED. THE GIVEN ROWS OF THIS SEAT. 12 by the template 'for every input the law returns true; each argument reads behind the call as it read before'; 0 by the template 'total and deterministic' (their statements: YtnhpojbjkfgeoaaTotals.lean).
  GIVEN WITH THE SEED: the statements are not yours to turn. If you find one false, say at which input.
  Laid BY PROGRAM, IN A SANDBOX (cutbox-rows.mjs): the forced cells as the released guide's own fill.sh prints them over the translation bd53d27ab9689db6… (all of the seat's roots in one cut). By AI agents, Wed Nov 11 2026. No macro, syntax, notation, axiom, sorry.
-/
import Derived.Test.YtnhpojbjkfgeoaaChecked
import GoSem.Claim
import GoSem.ClaimJoined
import GoSem.ClaimMapViews
import Derived.JoinedTies
import Derived.KernelRfl
namespace Go.Proofs.Ytnhpojbjkfgeoaa
/- THE CELL 'sum', in the pinned program and in every row, IS THE sha256 OF THE DUMP (.gsa) THAT YtnhpojbjkfgeoaaProg.lean LOADS. Nothing in Lean hashes anything: it is a label: what it is worth is what the hold of that sum in a sandbox is worth. -/
noncomputable def Try.pinned : Pinned := { name := "ytnhpojbjkfgeoaa", sum := "bd53d27ab9689db6a03d4c9e05ed3bdad707fb101fd14778f9f414e5cdf184d6", checked := Try.checked }
namespace Rows
def none {H : Type} : Left H := { results := [], args := [] }

/-- 'depotlaw04.CrcJoins': WHATEVER THE INPUT: true; the input reads as it did. -/
def crcJoinsSpec : ChangeSpec := { name := "crcJoins", fn := fun _ => fun
  | [d1, d2] => { results := [.lit (.bool true)], args := [d1, d2] }
  | _ => none }
def crcJoinsRow : OpenClaim := { program := "ytnhpojbjkfgeoaa", sum := "bd53d27ab9689db6a03d4c9e05ed3bdad707fb101fd14778f9f414e5cdf184d6", func := "depot/depotlaw04.CrcJoins", spec := "crcJoins", apart := false }
def CrcJoinsSaid : Prop := crcJoinsRow.holds Try.pinned (OpenSpec.ofChange crcJoinsSpec)

/-- ITS FALSE NEIGHBOUR: 'it returns false'. Refute it at one input. -/
def crcJoinsWrong : ChangeSpec := { name := "crcJoins", fn := fun _ => fun
  | [d1, d2] => { results := [.lit (.bool false)], args := [d1, d2] }
  | _ => none }
def CrcJoinsWrongFalsely : Prop := crcJoinsRow.holds Try.pinned (OpenSpec.ofChange crcJoinsWrong)

/-- 'depotlaw04.CrcThree': WHATEVER THE INPUT: true; the input reads as it did. -/
def crcThreeSpec : ChangeSpec := { name := "crcThree", fn := fun _ => fun
  | [d1, d2, d3] => { results := [.lit (.bool true)], args := [d1, d2, d3] }
  | _ => none }
def crcThreeRow : OpenClaim := { program := "ytnhpojbjkfgeoaa", sum := "bd53d27ab9689db6a03d4c9e05ed3bdad707fb101fd14778f9f414e5cdf184d6", func := "depot/depotlaw04.CrcThree", spec := "crcThree", apart := false }
def CrcThreeSaid : Prop := crcThreeRow.holds Try.pinned (OpenSpec.ofChange crcThreeSpec)

/-- ITS FALSE NEIGHBOUR: 'it returns false'. Refute it at one input. -/
def crcThreeWrong : ChangeSpec := { name := "crcThree", fn := fun _ => fun
  | [d1, d2, d3] => { results := [.lit (.bool false)], args := [d1, d2, d3] }
  | _ => none }
def CrcThreeWrongFalsely : Prop := crcThreeRow.holds Try.pinned (OpenSpec.ofChange crcThreeWrong)

/-- 'depotlaw04.CrcBurst': WHATEVER THE INPUT: true; the input reads as it did. -/
def crcBurstSpec : ChangeSpec := { name := "crcBurst", fn := fun _ => fun
  | [d1, d2, d3] => { results := [.lit (.bool true)], args := [d1, d2, d3] }
  | _ => none }
def crcBurstRow : OpenClaim := { program := "ytnhpojbjkfgeoaa", sum := "bd53d27ab9689db6a03d4c9e05ed3bdad707fb101fd14778f9f414e5cdf184d6", func := "depot/depotlaw04.CrcBurst", spec := "crcBurst", apart := false }
def CrcBurstSaid : Prop := crcBurstRow.holds Try.pinned (OpenSpec.ofChange crcBurstSpec)

/-- ITS FALSE NEIGHBOUR: 'it returns false'. Refute it at one input. -/
def crcBurstWrong : ChangeSpec := { name := "crcBurst", fn := fun _ => fun
  | [d1, d2, d3] => { results := [.lit (.bool false)], args := [d1, d2, d3] }
  | _ => none }
def CrcBurstWrongFalsely : Prop := crcBurstRow.holds Try.pinned (OpenSpec.ofChange crcBurstWrong)

/-- 'depotlaw04.CrcSums': WHATEVER THE INPUT: true; the input reads as it did. -/
def crcSumsSpec : ChangeSpec := { name := "crcSums", fn := fun _ => fun
  | [d1, d2, d3] => { results := [.lit (.bool true)], args := [d1, d2, d3] }
  | _ => none }
def crcSumsRow : OpenClaim := { program := "ytnhpojbjkfgeoaa", sum := "bd53d27ab9689db6a03d4c9e05ed3bdad707fb101fd14778f9f414e5cdf184d6", func := "depot/depotlaw04.CrcSums", spec := "crcSums", apart := false }
def CrcSumsSaid : Prop := crcSumsRow.holds Try.pinned (OpenSpec.ofChange crcSumsSpec)

/-- ITS FALSE NEIGHBOUR: 'it returns false'. Refute it at one input. -/
def crcSumsWrong : ChangeSpec := { name := "crcSums", fn := fun _ => fun
  | [d1, d2, d3] => { results := [.lit (.bool false)], args := [d1, d2, d3] }
  | _ => none }
def CrcSumsWrongFalsely : Prop := crcSumsRow.holds Try.pinned (OpenSpec.ofChange crcSumsWrong)

/-- 'depotlaw05.MixTells': WHATEVER THE INPUT: true; the input reads as it did. -/
def mixTellsSpec : ChangeSpec := { name := "mixTells", fn := fun _ => fun
  | [d1, d2, d3, d4, d5] => { results := [.lit (.bool true)], args := [d1, d2, d3, d4, d5] }
  | _ => none }
def mixTellsRow : OpenClaim := { program := "ytnhpojbjkfgeoaa", sum := "bd53d27ab9689db6a03d4c9e05ed3bdad707fb101fd14778f9f414e5cdf184d6", func := "depot/depotlaw05.MixTells", spec := "mixTells", apart := false }
def MixTellsSaid : Prop := mixTellsRow.holds Try.pinned (OpenSpec.ofChange mixTellsSpec)

/-- ITS FALSE NEIGHBOUR: 'it returns false'. Refute it at one input. -/
def mixTellsWrong : ChangeSpec := { name := "mixTells", fn := fun _ => fun
  | [d1, d2, d3, d4, d5] => { results := [.lit (.bool false)], args := [d1, d2, d3, d4, d5] }
  | _ => none }
def MixTellsWrongFalsely : Prop := mixTellsRow.holds Try.pinned (OpenSpec.ofChange mixTellsWrong)

/-- 'depotlaw05.MixBack': WHATEVER THE INPUT: true; the input reads as it did. -/
def mixBackSpec : ChangeSpec := { name := "mixBack", fn := fun _ => fun
  | [d1, d2] => { results := [.lit (.bool true)], args := [d1, d2] }
  | _ => none }
def mixBackRow : OpenClaim := { program := "ytnhpojbjkfgeoaa", sum := "bd53d27ab9689db6a03d4c9e05ed3bdad707fb101fd14778f9f414e5cdf184d6", func := "depot/depotlaw05.MixBack", spec := "mixBack", apart := false }
def MixBackSaid : Prop := mixBackRow.holds Try.pinned (OpenSpec.ofChange mixBackSpec)

/-- ITS FALSE NEIGHBOUR: 'it returns false'. Refute it at one input. -/
def mixBackWrong : ChangeSpec := { name := "mixBack", fn := fun _ => fun
  | [d1, d2] => { results := [.lit (.bool false)], args := [d1, d2] }
  | _ => none }
def MixBackWrongFalsely : Prop := mixBackRow.holds Try.pinned (OpenSpec.ofChange mixBackWrong)

/-- 'depotlaw05.MixSeeds': WHATEVER THE INPUT: true; the input reads as it did. -/
def mixSeedsSpec : ChangeSpec := { name := "mixSeeds", fn := fun _ => fun
  | [d1, d2, d3, d4] => { results := [.lit (.bool true)], args := [d1, d2, d3, d4] }
  | _ => none }
def mixSeedsRow : OpenClaim := { program := "ytnhpojbjkfgeoaa", sum := "bd53d27ab9689db6a03d4c9e05ed3bdad707fb101fd14778f9f414e5cdf184d6", func := "depot/depotlaw05.MixSeeds", spec := "mixSeeds", apart := false }
def MixSeedsSaid : Prop := mixSeedsRow.holds Try.pinned (OpenSpec.ofChange mixSeedsSpec)

/-- ITS FALSE NEIGHBOUR: 'it returns false'. Refute it at one input. -/
def mixSeedsWrong : ChangeSpec := { name := "mixSeeds", fn := fun _ => fun
  | [d1, d2, d3, d4] => { results := [.lit (.bool false)], args := [d1, d2, d3, d4] }
  | _ => none }
def MixSeedsWrongFalsely : Prop := mixSeedsRow.holds Try.pinned (OpenSpec.ofChange mixSeedsWrong)

/-- 'depotlaw22.BucketDoes': WHATEVER THE INPUT: true; the input reads as it did. -/
def bucketDoesSpec : ChangeSpec := { name := "bucketDoes", fn := fun _ => fun
  | [d1, d2, d3, d4, d5] => { results := [.lit (.bool true)], args := [d1, d2, d3, d4, d5] }
  | _ => none }
def bucketDoesRow : OpenClaim := { program := "ytnhpojbjkfgeoaa", sum := "bd53d27ab9689db6a03d4c9e05ed3bdad707fb101fd14778f9f414e5cdf184d6", func := "depot/depotlaw22.BucketDoes", spec := "bucketDoes", apart := false }
def BucketDoesSaid : Prop := bucketDoesRow.holds Try.pinned (OpenSpec.ofChange bucketDoesSpec)

/-- ITS FALSE NEIGHBOUR: 'it returns false'. Refute it at one input. -/
def bucketDoesWrong : ChangeSpec := { name := "bucketDoes", fn := fun _ => fun
  | [d1, d2, d3, d4, d5] => { results := [.lit (.bool false)], args := [d1, d2, d3, d4, d5] }
  | _ => none }
def BucketDoesWrongFalsely : Prop := bucketDoesRow.holds Try.pinned (OpenSpec.ofChange bucketDoesWrong)

/-- 'depotlaw22.BucketHolds': WHATEVER THE INPUT: true; the input reads as it did. -/
def bucketHoldsSpec : ChangeSpec := { name := "bucketHolds", fn := fun _ => fun
  | [d1, d2, d3] => { results := [.lit (.bool true)], args := [d1, d2, d3] }
  | _ => none }
def bucketHoldsRow : OpenClaim := { program := "ytnhpojbjkfgeoaa", sum := "bd53d27ab9689db6a03d4c9e05ed3bdad707fb101fd14778f9f414e5cdf184d6", func := "depot/depotlaw22.BucketHolds", spec := "bucketHolds", apart := false }
def BucketHoldsSaid : Prop := bucketHoldsRow.holds Try.pinned (OpenSpec.ofChange bucketHoldsSpec)

/-- ITS FALSE NEIGHBOUR: 'it returns false'. Refute it at one input. -/
def bucketHoldsWrong : ChangeSpec := { name := "bucketHolds", fn := fun _ => fun
  | [d1, d2, d3] => { results := [.lit (.bool false)], args := [d1, d2, d3] }
  | _ => none }
def BucketHoldsWrongFalsely : Prop := bucketHoldsRow.holds Try.pinned (OpenSpec.ofChange bucketHoldsWrong)

/-- 'depotlaw22.BucketTicks': WHATEVER THE INPUT: true; the input reads as it did. -/
def bucketTicksSpec : ChangeSpec := { name := "bucketTicks", fn := fun _ => fun
  | [d1, d2, d3, d4, d5] => { results := [.lit (.bool true)], args := [d1, d2, d3, d4, d5] }
  | _ => none }
def bucketTicksRow : OpenClaim := { program := "ytnhpojbjkfgeoaa", sum := "bd53d27ab9689db6a03d4c9e05ed3bdad707fb101fd14778f9f414e5cdf184d6", func := "depot/depotlaw22.BucketTicks", spec := "bucketTicks", apart := false }
def BucketTicksSaid : Prop := bucketTicksRow.holds Try.pinned (OpenSpec.ofChange bucketTicksSpec)

/-- ITS FALSE NEIGHBOUR: 'it returns false'. Refute it at one input. -/
def bucketTicksWrong : ChangeSpec := { name := "bucketTicks", fn := fun _ => fun
  | [d1, d2, d3, d4, d5] => { results := [.lit (.bool false)], args := [d1, d2, d3, d4, d5] }
  | _ => none }
def BucketTicksWrongFalsely : Prop := bucketTicksRow.holds Try.pinned (OpenSpec.ofChange bucketTicksWrong)

/-- 'depotlaw28.GhostDoes': WHATEVER THE INPUT: true; the input reads as it did. -/
def ghostDoesSpec : ChangeSpec := { name := "ghostDoes", fn := fun _ => fun
  | [d1, d2, d3] => { results := [.lit (.bool true)], args := [d1, d2, d3] }
  | _ => none }
def ghostDoesRow : OpenClaim := { program := "ytnhpojbjkfgeoaa", sum := "bd53d27ab9689db6a03d4c9e05ed3bdad707fb101fd14778f9f414e5cdf184d6", func := "depot/depotlaw28.GhostDoes", spec := "ghostDoes", apart := false }
def GhostDoesSaid : Prop := ghostDoesRow.holds Try.pinned (OpenSpec.ofChange ghostDoesSpec)

/-- ITS FALSE NEIGHBOUR: 'it returns false'. Refute it at one input. -/
def ghostDoesWrong : ChangeSpec := { name := "ghostDoes", fn := fun _ => fun
  | [d1, d2, d3] => { results := [.lit (.bool false)], args := [d1, d2, d3] }
  | _ => none }
def GhostDoesWrongFalsely : Prop := ghostDoesRow.holds Try.pinned (OpenSpec.ofChange ghostDoesWrong)

/-- 'depotlaw28.GhostStays': WHATEVER THE INPUT: true; the input reads as it did. -/
def ghostStaysSpec : ChangeSpec := { name := "ghostStays", fn := fun _ => fun
  | [d1, d2, d3, d4] => { results := [.lit (.bool true)], args := [d1, d2, d3, d4] }
  | _ => none }
def ghostStaysRow : OpenClaim := { program := "ytnhpojbjkfgeoaa", sum := "bd53d27ab9689db6a03d4c9e05ed3bdad707fb101fd14778f9f414e5cdf184d6", func := "depot/depotlaw28.GhostStays", spec := "ghostStays", apart := false }
def GhostStaysSaid : Prop := ghostStaysRow.holds Try.pinned (OpenSpec.ofChange ghostStaysSpec)

/-- ITS FALSE NEIGHBOUR: 'it returns false'. Refute it at one input. -/
def ghostStaysWrong : ChangeSpec := { name := "ghostStays", fn := fun _ => fun
  | [d1, d2, d3, d4] => { results := [.lit (.bool false)], args := [d1, d2, d3, d4] }
  | _ => none }
def GhostStaysWrongFalsely : Prop := ghostStaysRow.holds Try.pinned (OpenSpec.ofChange ghostStaysWrong)

/- THE SECOND FORM. 'bulk': how many values and letters a reading holds, each counted each time it is reached (what is shared counts as often as it is met; a slice's spare places count too). A statement '..UptoSaid' is the law's where the arguments, and the package variables that the reading takes, are together of bulk at most 1048576: NARROWER than '..Said'. Prove '..Said' where nothing that the law and all that it calls make is longer than what came in: it says more and counts as full. Else prove '..UptoSaid'. A law counts once. -/
mutual
def uptoBulk {H : Type} : DataW H → Nat
  | .lit (.string bytes) => bytes.length + 1
  | .lit _ => 1
  | .nil => 1
  | .ptr d => uptoBulk d + 1
  | .slice elems spare => uptoBulkAll elems + uptoBulkAll spare + 1
  | .agg parts => uptoBulkAll parts + 1
  | .iface _ d => uptoBulk d + 1
  | .map entries => uptoBulkEntries entries + 1
  | .held _ => 1
def uptoBulkAll {H : Type} : List (DataW H) → Nat
  | [] => 0
  | d :: r => uptoBulk d + uptoBulkAll r
def uptoBulkEntries {H : Type} : List (Lit × DataW H) → Nat
  | [] => 0
  | x :: r => uptoBulkEntry x + uptoBulkEntries r
def uptoBulkEntry {H : Type} : Lit × DataW H → Nat
  | (.string bytes, d) => bytes.length + uptoBulk d + 1
  | (_, d) => uptoBulk d + 1
 end
def uptoSmall : (H : Type) → List (DataW H) → Bool := fun _ ds => decide (uptoBulkAll ds ≤ 1048576)
def OpenSpec.upto (s : _root_.Go.ChangeSpec) : _root_.Go.OpenSpec := { _root_.Go.OpenSpec.ofChange s with cond := some uptoSmall }

/-- 'depotlaw04.CrcJoins', WHERE WHAT IT READS IS OF BULK AT MOST 1048576: true; the input reads as it did. -/
def crcJoinsUptoRow : OpenClaim := { program := "ytnhpojbjkfgeoaa", sum := "bd53d27ab9689db6a03d4c9e05ed3bdad707fb101fd14778f9f414e5cdf184d6", func := "depot/depotlaw04.CrcJoins", spec := "crcJoins", apart := false, narrowed := true }
def CrcJoinsUptoSaid : Prop := crcJoinsUptoRow.holds Try.pinned (OpenSpec.upto crcJoinsSpec)

/-- 'depotlaw04.CrcThree', WHERE WHAT IT READS IS OF BULK AT MOST 1048576: true; the input reads as it did. -/
def crcThreeUptoRow : OpenClaim := { program := "ytnhpojbjkfgeoaa", sum := "bd53d27ab9689db6a03d4c9e05ed3bdad707fb101fd14778f9f414e5cdf184d6", func := "depot/depotlaw04.CrcThree", spec := "crcThree", apart := false, narrowed := true }
def CrcThreeUptoSaid : Prop := crcThreeUptoRow.holds Try.pinned (OpenSpec.upto crcThreeSpec)

/-- 'depotlaw04.CrcBurst', WHERE WHAT IT READS IS OF BULK AT MOST 1048576: true; the input reads as it did. -/
def crcBurstUptoRow : OpenClaim := { program := "ytnhpojbjkfgeoaa", sum := "bd53d27ab9689db6a03d4c9e05ed3bdad707fb101fd14778f9f414e5cdf184d6", func := "depot/depotlaw04.CrcBurst", spec := "crcBurst", apart := false, narrowed := true }
def CrcBurstUptoSaid : Prop := crcBurstUptoRow.holds Try.pinned (OpenSpec.upto crcBurstSpec)

/-- 'depotlaw04.CrcSums', WHERE WHAT IT READS IS OF BULK AT MOST 1048576: true; the input reads as it did. -/
def crcSumsUptoRow : OpenClaim := { program := "ytnhpojbjkfgeoaa", sum := "bd53d27ab9689db6a03d4c9e05ed3bdad707fb101fd14778f9f414e5cdf184d6", func := "depot/depotlaw04.CrcSums", spec := "crcSums", apart := false, narrowed := true }
def CrcSumsUptoSaid : Prop := crcSumsUptoRow.holds Try.pinned (OpenSpec.upto crcSumsSpec)

/-- 'depotlaw05.MixTells', WHERE WHAT IT READS IS OF BULK AT MOST 1048576: true; the input reads as it did. -/
def mixTellsUptoRow : OpenClaim := { program := "ytnhpojbjkfgeoaa", sum := "bd53d27ab9689db6a03d4c9e05ed3bdad707fb101fd14778f9f414e5cdf184d6", func := "depot/depotlaw05.MixTells", spec := "mixTells", apart := false, narrowed := true }
def MixTellsUptoSaid : Prop := mixTellsUptoRow.holds Try.pinned (OpenSpec.upto mixTellsSpec)

/-- 'depotlaw05.MixBack', WHERE WHAT IT READS IS OF BULK AT MOST 1048576: true; the input reads as it did. -/
def mixBackUptoRow : OpenClaim := { program := "ytnhpojbjkfgeoaa", sum := "bd53d27ab9689db6a03d4c9e05ed3bdad707fb101fd14778f9f414e5cdf184d6", func := "depot/depotlaw05.MixBack", spec := "mixBack", apart := false, narrowed := true }
def MixBackUptoSaid : Prop := mixBackUptoRow.holds Try.pinned (OpenSpec.upto mixBackSpec)

/-- 'depotlaw05.MixSeeds', WHERE WHAT IT READS IS OF BULK AT MOST 1048576: true; the input reads as it did. -/
def mixSeedsUptoRow : OpenClaim := { program := "ytnhpojbjkfgeoaa", sum := "bd53d27ab9689db6a03d4c9e05ed3bdad707fb101fd14778f9f414e5cdf184d6", func := "depot/depotlaw05.MixSeeds", spec := "mixSeeds", apart := false, narrowed := true }
def MixSeedsUptoSaid : Prop := mixSeedsUptoRow.holds Try.pinned (OpenSpec.upto mixSeedsSpec)

/-- 'depotlaw22.BucketDoes', WHERE WHAT IT READS IS OF BULK AT MOST 1048576: true; the input reads as it did. -/
def bucketDoesUptoRow : OpenClaim := { program := "ytnhpojbjkfgeoaa", sum := "bd53d27ab9689db6a03d4c9e05ed3bdad707fb101fd14778f9f414e5cdf184d6", func := "depot/depotlaw22.BucketDoes", spec := "bucketDoes", apart := false, narrowed := true }
def BucketDoesUptoSaid : Prop := bucketDoesUptoRow.holds Try.pinned (OpenSpec.upto bucketDoesSpec)

/-- 'depotlaw22.BucketHolds', WHERE WHAT IT READS IS OF BULK AT MOST 1048576: true; the input reads as it did. -/
def bucketHoldsUptoRow : OpenClaim := { program := "ytnhpojbjkfgeoaa", sum := "bd53d27ab9689db6a03d4c9e05ed3bdad707fb101fd14778f9f414e5cdf184d6", func := "depot/depotlaw22.BucketHolds", spec := "bucketHolds", apart := false, narrowed := true }
def BucketHoldsUptoSaid : Prop := bucketHoldsUptoRow.holds Try.pinned (OpenSpec.upto bucketHoldsSpec)

/-- 'depotlaw22.BucketTicks', WHERE WHAT IT READS IS OF BULK AT MOST 1048576: true; the input reads as it did. -/
def bucketTicksUptoRow : OpenClaim := { program := "ytnhpojbjkfgeoaa", sum := "bd53d27ab9689db6a03d4c9e05ed3bdad707fb101fd14778f9f414e5cdf184d6", func := "depot/depotlaw22.BucketTicks", spec := "bucketTicks", apart := false, narrowed := true }
def BucketTicksUptoSaid : Prop := bucketTicksUptoRow.holds Try.pinned (OpenSpec.upto bucketTicksSpec)

/-- 'depotlaw28.GhostDoes', WHERE WHAT IT READS IS OF BULK AT MOST 1048576: true; the input reads as it did. -/
def ghostDoesUptoRow : OpenClaim := { program := "ytnhpojbjkfgeoaa", sum := "bd53d27ab9689db6a03d4c9e05ed3bdad707fb101fd14778f9f414e5cdf184d6", func := "depot/depotlaw28.GhostDoes", spec := "ghostDoes", apart := false, narrowed := true }
def GhostDoesUptoSaid : Prop := ghostDoesUptoRow.holds Try.pinned (OpenSpec.upto ghostDoesSpec)

/-- 'depotlaw28.GhostStays', WHERE WHAT IT READS IS OF BULK AT MOST 1048576: true; the input reads as it did. -/
def ghostStaysUptoRow : OpenClaim := { program := "ytnhpojbjkfgeoaa", sum := "bd53d27ab9689db6a03d4c9e05ed3bdad707fb101fd14778f9f414e5cdf184d6", func := "depot/depotlaw28.GhostStays", spec := "ghostStays", apart := false, narrowed := true }
def GhostStaysUptoSaid : Prop := ghostStaysUptoRow.holds Try.pinned (OpenSpec.upto ghostStaysSpec)

end Rows
end Go.Proofs.Ytnhpojbjkfgeoaa
