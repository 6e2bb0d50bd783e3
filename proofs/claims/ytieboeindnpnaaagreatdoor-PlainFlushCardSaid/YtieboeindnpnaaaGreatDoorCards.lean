/-
  DERIVED. GIVEN WITH THE SEED: THE CARDS: each row of YtieboeindnpnaaaGreatDoorRows.lean that lists a variable, with what it lists TIED to the program's text (the seventh form; the later family's looks); each row that meets fmt, with fmt's text TOLD by the authors' own Lean function (tested against real Go, not proved from fmt's source: count such statements apart). THE CARD IS WHAT COUNTS. Prove the row's statement (the work); the ties are given (YtieboeindnpnaaaGreatDoorTie.lean); close each card by the builder's one call (the guide's Derived/Test/ToyasCard.lean, 'card_holds'). Laid BY PROGRAM, IN A SANDBOX (cutbox-door.mjs). By AI agents, Wed Nov 11 2026. No macro, syntax, notation, axiom, sorry.
-/
import Derived.Test.YtieboeindnpnaaaGreatDoorRows
import GoSem.ClaimSeven
namespace Go.Proofs.YtieboeindnpnaaaGreatDoor
namespace Rows

/-- THE TIED CARD OF 'depotlaw32.PlainStore'. -/
def plainStoreCard : Claim7 := { stood := { row := plainStoreRow, standIns := [], harness := (true, "465cbac31507cc6e16c67f2aacfb214faec0b07b3927e4393c543c74a647c11a"), looks := false }, kinds := [], alts := [], laidByText := true, laidKinds := [.data], laidTests := true, laidLooks := .later }
def PlainStoreCardSaid : Prop := Claim7.holds Tryz.pinned (.plain (OpenSpec.ofChange plainStoreSpec)) plainStoreCard

/-- THE TIED CARD OF 'depotlaw32.PlainKept'. -/
def plainKeptCard : Claim7 := { stood := { row := plainKeptRow, standIns := [], harness := (true, "465cbac31507cc6e16c67f2aacfb214faec0b07b3927e4393c543c74a647c11a"), looks := false }, kinds := [], alts := [], laidByText := true, laidKinds := [.data], laidTests := true, laidLooks := .later }
def PlainKeptCardSaid : Prop := Claim7.holds Tryz.pinned (.plain (OpenSpec.ofChange plainKeptSpec)) plainKeptCard

/-- THE TIED CARD OF 'depotlaw32.PlainFlush'. -/
def plainFlushCard : Claim7 := { stood := { row := plainFlushRow, standIns := [], harness := (true, "465cbac31507cc6e16c67f2aacfb214faec0b07b3927e4393c543c74a647c11a"), looks := false }, kinds := [], alts := [], laidByText := true, laidKinds := [.data], laidTests := true, laidLooks := .later }
def PlainFlushCardSaid : Prop := Claim7.holds Tryz.pinned (.plain (OpenSpec.ofChange plainFlushSpec)) plainFlushCard

/-- THE SECOND FORM's CARD OF 'depotlaw32.PlainStore'. -/
def plainStoreUptoCard : Claim7 := { stood := { row := plainStoreUptoRow, standIns := [], harness := (true, "465cbac31507cc6e16c67f2aacfb214faec0b07b3927e4393c543c74a647c11a"), looks := false }, kinds := [], alts := [], laidByText := true, laidKinds := [.data], laidTests := true, laidLooks := .later }
def PlainStoreUptoCardSaid : Prop := Claim7.holds Tryz.pinned (.plain (OpenSpec.upto plainStoreSpec)) plainStoreUptoCard

/-- THE SECOND FORM's CARD OF 'depotlaw32.PlainKept'. -/
def plainKeptUptoCard : Claim7 := { stood := { row := plainKeptUptoRow, standIns := [], harness := (true, "465cbac31507cc6e16c67f2aacfb214faec0b07b3927e4393c543c74a647c11a"), looks := false }, kinds := [], alts := [], laidByText := true, laidKinds := [.data], laidTests := true, laidLooks := .later }
def PlainKeptUptoCardSaid : Prop := Claim7.holds Tryz.pinned (.plain (OpenSpec.upto plainKeptSpec)) plainKeptUptoCard

/-- THE SECOND FORM's CARD OF 'depotlaw32.PlainFlush'. -/
def plainFlushUptoCard : Claim7 := { stood := { row := plainFlushUptoRow, standIns := [], harness := (true, "465cbac31507cc6e16c67f2aacfb214faec0b07b3927e4393c543c74a647c11a"), looks := false }, kinds := [], alts := [], laidByText := true, laidKinds := [.data], laidTests := true, laidLooks := .later }
def PlainFlushUptoCardSaid : Prop := Claim7.holds Tryz.pinned (.plain (OpenSpec.upto plainFlushSpec)) plainFlushUptoCard
end Rows
end Go.Proofs.YtieboeindnpnaaaGreatDoor
