/-
  DERIVED. GIVEN WITH THE SEED: THE CARDS: each row of YtaniefdpjommnaaDoorRows.lean that lists a variable, with what it lists TIED to the program's text (the seventh form; the later family's looks); each row that meets fmt, with fmt's text TOLD by the authors' own Lean function (tested against real Go, not proved from fmt's source: count such statements apart). THE CARD IS WHAT COUNTS. Prove the row's statement (the work); the ties are given (YtaniefdpjommnaaDoorTie.lean); close each card by the builder's one call (the guide's Derived/Test/ToyasCard.lean, 'card_holds'). Laid BY PROGRAM, IN A SANDBOX (cutbox-door.mjs). By AI agents, Wed Nov 11 2026. No macro, syntax, notation, axiom, sorry.
-/
import Derived.Test.YtaniefdpjommnaaDoorRows
import GoSem.ClaimSeven
namespace Go.Proofs.YtaniefdpjommnaaDoor
namespace Rows

/-- THE TIED CARD OF 'depotlaw24.EntryCuts'. -/
def entryCutsCard : Claim7 := { stood := { row := entryCutsRow, standIns := [], harness := (true, "c2cb7fe84f2fd32e71a45ffbb4581f46f2008f2767de09309f0f1c6edcb897ef"), looks := false }, kinds := [], alts := [], laidByText := true, laidKinds := [.data], laidTests := true, laidLooks := .later }
def EntryCutsCardSaid : Prop := Claim7.holds Tryd.pinned (.plain (OpenSpec.ofChange entryCutsSpec)) entryCutsCard

/-- THE TIED CARD OF 'depotlaw24.EntryJoins'. -/
def entryJoinsCard : Claim7 := { stood := { row := entryJoinsRow, standIns := [], harness := (true, "c2cb7fe84f2fd32e71a45ffbb4581f46f2008f2767de09309f0f1c6edcb897ef"), looks := false }, kinds := [], alts := [], laidByText := true, laidKinds := [.data], laidTests := true, laidLooks := .later }
def EntryJoinsCardSaid : Prop := Claim7.holds Tryd.pinned (.plain (OpenSpec.ofChange entryJoinsSpec)) entryJoinsCard

/-- THE TIED CARD OF 'depotlaw24.EntryBack'. -/
def entryBackCard : Claim7 := { stood := { row := entryBackRow, standIns := [], harness := (true, "c2cb7fe84f2fd32e71a45ffbb4581f46f2008f2767de09309f0f1c6edcb897ef"), looks := false }, kinds := [], alts := [], laidByText := true, laidKinds := [.data], laidTests := true, laidLooks := .later }
def EntryBackCardSaid : Prop := Claim7.holds Tryd.pinned (.plain (OpenSpec.ofChange entryBackSpec)) entryBackCard

/-- THE TIED CARD OF 'depotlaw24.EntryBurst'. -/
def entryBurstCard : Claim7 := { stood := { row := entryBurstRow, standIns := [], harness := (true, "c2cb7fe84f2fd32e71a45ffbb4581f46f2008f2767de09309f0f1c6edcb897ef"), looks := false }, kinds := [], alts := [], laidByText := true, laidKinds := [.data], laidTests := true, laidLooks := .later }
def EntryBurstCardSaid : Prop := Claim7.holds Tryd.pinned (.plain (OpenSpec.ofChange entryBurstSpec)) entryBurstCard

/-- THE SECOND FORM's CARD OF 'depotlaw24.EntryCuts'. -/
def entryCutsUptoCard : Claim7 := { stood := { row := entryCutsUptoRow, standIns := [], harness := (true, "c2cb7fe84f2fd32e71a45ffbb4581f46f2008f2767de09309f0f1c6edcb897ef"), looks := false }, kinds := [], alts := [], laidByText := true, laidKinds := [.data], laidTests := true, laidLooks := .later }
def EntryCutsUptoCardSaid : Prop := Claim7.holds Tryd.pinned (.plain (OpenSpec.upto entryCutsSpec)) entryCutsUptoCard

/-- THE SECOND FORM's CARD OF 'depotlaw24.EntryJoins'. -/
def entryJoinsUptoCard : Claim7 := { stood := { row := entryJoinsUptoRow, standIns := [], harness := (true, "c2cb7fe84f2fd32e71a45ffbb4581f46f2008f2767de09309f0f1c6edcb897ef"), looks := false }, kinds := [], alts := [], laidByText := true, laidKinds := [.data], laidTests := true, laidLooks := .later }
def EntryJoinsUptoCardSaid : Prop := Claim7.holds Tryd.pinned (.plain (OpenSpec.upto entryJoinsSpec)) entryJoinsUptoCard

/-- THE SECOND FORM's CARD OF 'depotlaw24.EntryBack'. -/
def entryBackUptoCard : Claim7 := { stood := { row := entryBackUptoRow, standIns := [], harness := (true, "c2cb7fe84f2fd32e71a45ffbb4581f46f2008f2767de09309f0f1c6edcb897ef"), looks := false }, kinds := [], alts := [], laidByText := true, laidKinds := [.data], laidTests := true, laidLooks := .later }
def EntryBackUptoCardSaid : Prop := Claim7.holds Tryd.pinned (.plain (OpenSpec.upto entryBackSpec)) entryBackUptoCard

/-- THE SECOND FORM's CARD OF 'depotlaw24.EntryBurst'. -/
def entryBurstUptoCard : Claim7 := { stood := { row := entryBurstUptoRow, standIns := [], harness := (true, "c2cb7fe84f2fd32e71a45ffbb4581f46f2008f2767de09309f0f1c6edcb897ef"), looks := false }, kinds := [], alts := [], laidByText := true, laidKinds := [.data], laidTests := true, laidLooks := .later }
def EntryBurstUptoCardSaid : Prop := Claim7.holds Tryd.pinned (.plain (OpenSpec.upto entryBurstSpec)) entryBurstUptoCard
end Rows
end Go.Proofs.YtaniefdpjommnaaDoor
