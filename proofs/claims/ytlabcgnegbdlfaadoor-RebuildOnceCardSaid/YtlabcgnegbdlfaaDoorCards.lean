/-
  DERIVED. GIVEN WITH THE SEED: THE CARDS: each row of YtlabcgnegbdlfaaDoorRows.lean that lists a variable, with what it lists TIED to the program's text (the seventh form; the later family's looks); each row that meets fmt, with fmt's text TOLD by the authors' own Lean function (tested against real Go, not proved from fmt's source: count such statements apart). THE CARD IS WHAT COUNTS. Prove the row's statement (the work); the ties are given (YtlabcgnegbdlfaaDoorTie.lean); close each card by the builder's one call (the guide's Derived/Test/ToyasCard.lean, 'card_holds'). Laid BY PROGRAM, IN A SANDBOX (cutbox-door.mjs). By AI agents, Wed Nov 11 2026. No macro, syntax, notation, axiom, sorry.
-/
import Derived.Test.YtlabcgnegbdlfaaDoorRows
import GoSem.ClaimSeven
namespace Go.Proofs.YtlabcgnegbdlfaaDoor
namespace Rows

/-- THE TIED CARD OF 'depotlaw30.RebuildOnce'. -/
def rebuildOnceCard : Claim7 := { stood := { row := rebuildOnceRow, standIns := [], harness := (true, "3e293e6bcb93113737a43b7e1650127e9a72ae631b0122a40a37b3922de9c5dc"), looks := false }, kinds := [], alts := [], laidByText := true, laidKinds := [.data], laidTests := true, laidLooks := .later }
def RebuildOnceCardSaid : Prop := Claim7.holds Tryd.pinned (.plain (OpenSpec.ofChange rebuildOnceSpec)) rebuildOnceCard

/-- THE SECOND FORM's CARD OF 'depotlaw30.RebuildOnce'. -/
def rebuildOnceUptoCard : Claim7 := { stood := { row := rebuildOnceUptoRow, standIns := [], harness := (true, "3e293e6bcb93113737a43b7e1650127e9a72ae631b0122a40a37b3922de9c5dc"), looks := false }, kinds := [], alts := [], laidByText := true, laidKinds := [.data], laidTests := true, laidLooks := .later }
def RebuildOnceUptoCardSaid : Prop := Claim7.holds Tryd.pinned (.plain (OpenSpec.upto rebuildOnceSpec)) rebuildOnceUptoCard
end Rows
end Go.Proofs.YtlabcgnegbdlfaaDoor
