/-
  No cell of these rows narrows 'for every input' (looked for: loops, veiled, ifaces, maps, wideKeys, modest, calm, conditions, laid).
  DERIVED. THE GIVEN ROWS OF THIS SEAT. 8 by the template 'for every input the law returns true; each argument reads behind the call as it read before'; 0 by the template 'total and deterministic' (their statements: YtaniefdpjommnaaTotals.lean).
  GIVEN WITH THE SEED: the statements are not yours to turn. If you find one false, say at which input.
  Laid BY PROGRAM, IN A SANDBOX (cutbox-rows.mjs): the forced cells as the released guide's own fill.sh prints them over the translation 14f1445e233f3560… (all of the seat's roots in one cut). By AI agents, Wed Nov 11 2026. No macro, syntax, notation, axiom, sorry.
-/
import Derived.Test.YtaniefdpjommnaaChecked
import GoSem.Claim
import GoSem.ClaimJoined
import GoSem.ClaimMapViews
import Derived.JoinedTies
import Derived.KernelRfl
namespace Go.Proofs.Ytaniefdpjommnaa
/- THE CELL 'sum', in the pinned program and in every row, IS THE sha256 OF THE DUMP (.gsa) THAT YtaniefdpjommnaaProg.lean LOADS. Nothing in Lean hashes anything: it is a label: what it is worth is what the hold of that sum in a sandbox is worth. -/
noncomputable def Try.pinned : Pinned := { name := "ytaniefdpjommnaa", sum := "14f1445e233f356078940a2814f12ac37d718b30a4dd9dc754ebb0e83fa9505f", checked := Try.checked }
namespace Rows
def none {H : Type} : Left H := { results := [], args := [] }

/-- 'depotlaw23.PageImages': WHATEVER THE INPUT: true; the input reads as it did. -/
def pageImagesSpec : ChangeSpec := { name := "pageImages", fn := fun _ => fun
  | [d1, d2, d3] => { results := [.lit (.bool true)], args := [d1, d2, d3] }
  | _ => none }
def pageImagesRow : OpenClaim := { program := "ytaniefdpjommnaa", sum := "14f1445e233f356078940a2814f12ac37d718b30a4dd9dc754ebb0e83fa9505f", func := "depot/depotlaw23.PageImages", spec := "pageImages", apart := false }
def PageImagesSaid : Prop := pageImagesRow.holds Try.pinned (OpenSpec.ofChange pageImagesSpec)

/-- ITS FALSE NEIGHBOUR: 'it returns false'. Refute it at one input. -/
def pageImagesWrong : ChangeSpec := { name := "pageImages", fn := fun _ => fun
  | [d1, d2, d3] => { results := [.lit (.bool false)], args := [d1, d2, d3] }
  | _ => none }
def PageImagesWrongFalsely : Prop := pageImagesRow.holds Try.pinned (OpenSpec.ofChange pageImagesWrong)

/-- 'depotlaw23.PageParses': WHATEVER THE INPUT: true; the input reads as it did. -/
def pageParsesSpec : ChangeSpec := { name := "pageParses", fn := fun _ => fun
  | [d] => { results := [.lit (.bool true)], args := [d] }
  | _ => none }
def pageParsesRow : OpenClaim := { program := "ytaniefdpjommnaa", sum := "14f1445e233f356078940a2814f12ac37d718b30a4dd9dc754ebb0e83fa9505f", func := "depot/depotlaw23.PageParses", spec := "pageParses", apart := false }
def PageParsesSaid : Prop := pageParsesRow.holds Try.pinned (OpenSpec.ofChange pageParsesSpec)

/-- ITS FALSE NEIGHBOUR: 'it returns false'. Refute it at one input. -/
def pageParsesWrong : ChangeSpec := { name := "pageParses", fn := fun _ => fun
  | [d] => { results := [.lit (.bool false)], args := [d] }
  | _ => none }
def PageParsesWrongFalsely : Prop := pageParsesRow.holds Try.pinned (OpenSpec.ofChange pageParsesWrong)

/-- 'depotlaw23.PageBack': WHATEVER THE INPUT: true; the input reads as it did. -/
def pageBackSpec : ChangeSpec := { name := "pageBack", fn := fun _ => fun
  | [d1, d2, d3, d4] => { results := [.lit (.bool true)], args := [d1, d2, d3, d4] }
  | _ => none }
def pageBackRow : OpenClaim := { program := "ytaniefdpjommnaa", sum := "14f1445e233f356078940a2814f12ac37d718b30a4dd9dc754ebb0e83fa9505f", func := "depot/depotlaw23.PageBack", spec := "pageBack", apart := false }
def PageBackSaid : Prop := pageBackRow.holds Try.pinned (OpenSpec.ofChange pageBackSpec)

/-- ITS FALSE NEIGHBOUR: 'it returns false'. Refute it at one input. -/
def pageBackWrong : ChangeSpec := { name := "pageBack", fn := fun _ => fun
  | [d1, d2, d3, d4] => { results := [.lit (.bool false)], args := [d1, d2, d3, d4] }
  | _ => none }
def PageBackWrongFalsely : Prop := pageBackRow.holds Try.pinned (OpenSpec.ofChange pageBackWrong)

/-- 'depotlaw23.PageBurst': WHATEVER THE INPUT: true; the input reads as it did. -/
def pageBurstSpec : ChangeSpec := { name := "pageBurst", fn := fun _ => fun
  | [d1, d2, d3, d4, d5] => { results := [.lit (.bool true)], args := [d1, d2, d3, d4, d5] }
  | _ => none }
def pageBurstRow : OpenClaim := { program := "ytaniefdpjommnaa", sum := "14f1445e233f356078940a2814f12ac37d718b30a4dd9dc754ebb0e83fa9505f", func := "depot/depotlaw23.PageBurst", spec := "pageBurst", apart := false }
def PageBurstSaid : Prop := pageBurstRow.holds Try.pinned (OpenSpec.ofChange pageBurstSpec)

/-- ITS FALSE NEIGHBOUR: 'it returns false'. Refute it at one input. -/
def pageBurstWrong : ChangeSpec := { name := "pageBurst", fn := fun _ => fun
  | [d1, d2, d3, d4, d5] => { results := [.lit (.bool false)], args := [d1, d2, d3, d4, d5] }
  | _ => none }
def PageBurstWrongFalsely : Prop := pageBurstRow.holds Try.pinned (OpenSpec.ofChange pageBurstWrong)

/-- 'depotlaw21.FlashDoes': WHATEVER THE INPUT: true; the input reads as it did. -/
def flashDoesSpec : ChangeSpec := { name := "flashDoes", fn := fun _ => fun
  | [d1, d2] => { results := [.lit (.bool true)], args := [d1, d2] }
  | _ => none }
def flashDoesRow : OpenClaim := { program := "ytaniefdpjommnaa", sum := "14f1445e233f356078940a2814f12ac37d718b30a4dd9dc754ebb0e83fa9505f", func := "depot/depotlaw21.FlashDoes", spec := "flashDoes", apart := false }
def FlashDoesSaid : Prop := flashDoesRow.holds Try.pinned (OpenSpec.ofChange flashDoesSpec)

/-- ITS FALSE NEIGHBOUR: 'it returns false'. Refute it at one input. -/
def flashDoesWrong : ChangeSpec := { name := "flashDoes", fn := fun _ => fun
  | [d1, d2] => { results := [.lit (.bool false)], args := [d1, d2] }
  | _ => none }
def FlashDoesWrongFalsely : Prop := flashDoesRow.holds Try.pinned (OpenSpec.ofChange flashDoesWrong)

/-- 'depotlaw21.FlashNil': WHATEVER THE INPUT: true; the input reads as it did. -/
def flashNilSpec : ChangeSpec := { name := "flashNil", fn := fun _ => fun
  | [d] => { results := [.lit (.bool true)], args := [d] }
  | _ => none }
def flashNilRow : OpenClaim := { program := "ytaniefdpjommnaa", sum := "14f1445e233f356078940a2814f12ac37d718b30a4dd9dc754ebb0e83fa9505f", func := "depot/depotlaw21.FlashNil", spec := "flashNil", apart := false }
def FlashNilSaid : Prop := flashNilRow.holds Try.pinned (OpenSpec.ofChange flashNilSpec)

/-- ITS FALSE NEIGHBOUR: 'it returns false'. Refute it at one input. -/
def flashNilWrong : ChangeSpec := { name := "flashNil", fn := fun _ => fun
  | [d] => { results := [.lit (.bool false)], args := [d] }
  | _ => none }
def FlashNilWrongFalsely : Prop := flashNilRow.holds Try.pinned (OpenSpec.ofChange flashNilWrong)

/-- 'depotlaw21.FlashKeeps': WHATEVER THE INPUT: true; the input reads as it did. -/
def flashKeepsSpec : ChangeSpec := { name := "flashKeeps", fn := fun _ => fun
  | [d1, d2, d3] => { results := [.lit (.bool true)], args := [d1, d2, d3] }
  | _ => none }
def flashKeepsRow : OpenClaim := { program := "ytaniefdpjommnaa", sum := "14f1445e233f356078940a2814f12ac37d718b30a4dd9dc754ebb0e83fa9505f", func := "depot/depotlaw21.FlashKeeps", spec := "flashKeeps", apart := false }
def FlashKeepsSaid : Prop := flashKeepsRow.holds Try.pinned (OpenSpec.ofChange flashKeepsSpec)

/-- ITS FALSE NEIGHBOUR: 'it returns false'. Refute it at one input. -/
def flashKeepsWrong : ChangeSpec := { name := "flashKeeps", fn := fun _ => fun
  | [d1, d2, d3] => { results := [.lit (.bool false)], args := [d1, d2, d3] }
  | _ => none }
def FlashKeepsWrongFalsely : Prop := flashKeepsRow.holds Try.pinned (OpenSpec.ofChange flashKeepsWrong)

/-- 'depotlaw21.FlashTears': WHATEVER THE INPUT: true; the input reads as it did. -/
def flashTearsSpec : ChangeSpec := { name := "flashTears", fn := fun _ => fun
  | [d] => { results := [.lit (.bool true)], args := [d] }
  | _ => none }
def flashTearsRow : OpenClaim := { program := "ytaniefdpjommnaa", sum := "14f1445e233f356078940a2814f12ac37d718b30a4dd9dc754ebb0e83fa9505f", func := "depot/depotlaw21.FlashTears", spec := "flashTears", apart := false }
def FlashTearsSaid : Prop := flashTearsRow.holds Try.pinned (OpenSpec.ofChange flashTearsSpec)

/-- ITS FALSE NEIGHBOUR: 'it returns false'. Refute it at one input. -/
def flashTearsWrong : ChangeSpec := { name := "flashTears", fn := fun _ => fun
  | [d] => { results := [.lit (.bool false)], args := [d] }
  | _ => none }
def FlashTearsWrongFalsely : Prop := flashTearsRow.holds Try.pinned (OpenSpec.ofChange flashTearsWrong)

/- THE SECOND FORM. 'bulk': how many values and letters a reading holds, each counted each time it is reached (what is shared counts as often as it is met; a slice's spare places count too). A statement '..UptoSaid' is the law's where the arguments, and the package variables that the reading takes, are together of bulk at most 1048576: NARROWER than '..Said'. Prove '..Said' where nothing that the law and all that it calls make is longer than what came in: it says more and counts as full. Else prove '..UptoSaid'. A law counts once. -/
mutual
def uptoBulk {H : Type} : DataW H → Nat
  | .lit (.string bytes) => bytes.length + 1
  | .lit _ => 1
  | .nil => 1
  | .ptr d => uptoBulk d + 1
  | .slice elems spare => uptoBulkAll elems + uptoBulkAll spare + 1
  | .agg parts => uptoBulkAll parts + 1
  | .iface _ d => uptoBulk d + 1
  | .map entries => uptoBulkEntries entries + 1
  | .held _ => 1
def uptoBulkAll {H : Type} : List (DataW H) → Nat
  | [] => 0
  | d :: r => uptoBulk d + uptoBulkAll r
def uptoBulkEntries {H : Type} : List (Lit × DataW H) → Nat
  | [] => 0
  | x :: r => uptoBulkEntry x + uptoBulkEntries r
def uptoBulkEntry {H : Type} : Lit × DataW H → Nat
  | (.string bytes, d) => bytes.length + uptoBulk d + 1
  | (_, d) => uptoBulk d + 1
 end
def uptoSmall : (H : Type) → List (DataW H) → Bool := fun _ ds => decide (uptoBulkAll ds ≤ 1048576)
def OpenSpec.upto (s : _root_.Go.ChangeSpec) : _root_.Go.OpenSpec := { _root_.Go.OpenSpec.ofChange s with cond := some uptoSmall }

/-- 'depotlaw23.PageImages', WHERE WHAT IT READS IS OF BULK AT MOST 1048576: true; the input reads as it did. -/
def pageImagesUptoRow : OpenClaim := { program := "ytaniefdpjommnaa", sum := "14f1445e233f356078940a2814f12ac37d718b30a4dd9dc754ebb0e83fa9505f", func := "depot/depotlaw23.PageImages", spec := "pageImages", apart := false, narrowed := true }
def PageImagesUptoSaid : Prop := pageImagesUptoRow.holds Try.pinned (OpenSpec.upto pageImagesSpec)

/-- 'depotlaw23.PageParses', WHERE WHAT IT READS IS OF BULK AT MOST 1048576: true; the input reads as it did. -/
def pageParsesUptoRow : OpenClaim := { program := "ytaniefdpjommnaa", sum := "14f1445e233f356078940a2814f12ac37d718b30a4dd9dc754ebb0e83fa9505f", func := "depot/depotlaw23.PageParses", spec := "pageParses", apart := false, narrowed := true }
def PageParsesUptoSaid : Prop := pageParsesUptoRow.holds Try.pinned (OpenSpec.upto pageParsesSpec)

/-- 'depotlaw23.PageBack', WHERE WHAT IT READS IS OF BULK AT MOST 1048576: true; the input reads as it did. -/
def pageBackUptoRow : OpenClaim := { program := "ytaniefdpjommnaa", sum := "14f1445e233f356078940a2814f12ac37d718b30a4dd9dc754ebb0e83fa9505f", func := "depot/depotlaw23.PageBack", spec := "pageBack", apart := false, narrowed := true }
def PageBackUptoSaid : Prop := pageBackUptoRow.holds Try.pinned (OpenSpec.upto pageBackSpec)

/-- 'depotlaw23.PageBurst', WHERE WHAT IT READS IS OF BULK AT MOST 1048576: true; the input reads as it did. -/
def pageBurstUptoRow : OpenClaim := { program := "ytaniefdpjommnaa", sum := "14f1445e233f356078940a2814f12ac37d718b30a4dd9dc754ebb0e83fa9505f", func := "depot/depotlaw23.PageBurst", spec := "pageBurst", apart := false, narrowed := true }
def PageBurstUptoSaid : Prop := pageBurstUptoRow.holds Try.pinned (OpenSpec.upto pageBurstSpec)

/-- 'depotlaw21.FlashDoes', WHERE WHAT IT READS IS OF BULK AT MOST 1048576: true; the input reads as it did. -/
def flashDoesUptoRow : OpenClaim := { program := "ytaniefdpjommnaa", sum := "14f1445e233f356078940a2814f12ac37d718b30a4dd9dc754ebb0e83fa9505f", func := "depot/depotlaw21.FlashDoes", spec := "flashDoes", apart := false, narrowed := true }
def FlashDoesUptoSaid : Prop := flashDoesUptoRow.holds Try.pinned (OpenSpec.upto flashDoesSpec)

/-- 'depotlaw21.FlashNil', WHERE WHAT IT READS IS OF BULK AT MOST 1048576: true; the input reads as it did. -/
def flashNilUptoRow : OpenClaim := { program := "ytaniefdpjommnaa", sum := "14f1445e233f356078940a2814f12ac37d718b30a4dd9dc754ebb0e83fa9505f", func := "depot/depotlaw21.FlashNil", spec := "flashNil", apart := false, narrowed := true }
def FlashNilUptoSaid : Prop := flashNilUptoRow.holds Try.pinned (OpenSpec.upto flashNilSpec)

/-- 'depotlaw21.FlashKeeps', WHERE WHAT IT READS IS OF BULK AT MOST 1048576: true; the input reads as it did. -/
def flashKeepsUptoRow : OpenClaim := { program := "ytaniefdpjommnaa", sum := "14f1445e233f356078940a2814f12ac37d718b30a4dd9dc754ebb0e83fa9505f", func := "depot/depotlaw21.FlashKeeps", spec := "flashKeeps", apart := false, narrowed := true }
def FlashKeepsUptoSaid : Prop := flashKeepsUptoRow.holds Try.pinned (OpenSpec.upto flashKeepsSpec)

/-- 'depotlaw21.FlashTears', WHERE WHAT IT READS IS OF BULK AT MOST 1048576: true; the input reads as it did. -/
def flashTearsUptoRow : OpenClaim := { program := "ytaniefdpjommnaa", sum := "14f1445e233f356078940a2814f12ac37d718b30a4dd9dc754ebb0e83fa9505f", func := "depot/depotlaw21.FlashTears", spec := "flashTears", apart := false, narrowed := true }
def FlashTearsUptoSaid : Prop := flashTearsUptoRow.holds Try.pinned (OpenSpec.upto flashTearsSpec)

end Rows
end Go.Proofs.Ytaniefdpjommnaa
