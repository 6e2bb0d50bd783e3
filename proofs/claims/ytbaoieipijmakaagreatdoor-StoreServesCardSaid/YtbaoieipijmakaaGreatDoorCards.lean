/-
  DERIVED. GIVEN WITH THE SEED: THE CARDS: each row of YtbaoieipijmakaaGreatDoorRows.lean that lists a variable, with what it lists TIED to the program's text (the seventh form; the later family's looks); each row that meets fmt, with fmt's text TOLD by the authors' own Lean function (tested against real Go, not proved from fmt's source: count such statements apart). THE CARD IS WHAT COUNTS. Prove the row's statement (the work); the ties are given (YtbaoieipijmakaaGreatDoorTie.lean); close each card by the builder's one call (the guide's Derived/Test/ToyasCard.lean, 'card_holds'). Laid BY PROGRAM, IN A SANDBOX (cutbox-door.mjs). By AI agents, Wed Nov 11 2026. No macro, syntax, notation, axiom, sorry.
-/
import Derived.Test.YtbaoieipijmakaaGreatDoorRows
import GoSem.ClaimSeven
namespace Go.Proofs.YtbaoieipijmakaaGreatDoor
namespace Rows

/-- THE TIED CARD OF 'depotlaw31.StoreServes'. -/
def storeServesCard : Claim7 := { stood := { row := storeServesRow, standIns := [], harness := (true, "5214cc981437ea2b122cc0156729e285651246cc6bd3682cdb46b90aab79b23f"), looks := false }, kinds := [], alts := [], laidByText := true, laidKinds := [.data], laidTests := true, laidLooks := .later }
def StoreServesCardSaid : Prop := Claim7.holds Tryz.pinned (.plain (OpenSpec.ofChange storeServesSpec)) storeServesCard

/-- THE TIED CARD OF 'depotlaw31.StoreBytes'. -/
def storeBytesCard : Claim7 := { stood := { row := storeBytesRow, standIns := [], harness := (true, "5214cc981437ea2b122cc0156729e285651246cc6bd3682cdb46b90aab79b23f"), looks := false }, kinds := [], alts := [], laidByText := true, laidKinds := [.data], laidTests := true, laidLooks := .later }
def StoreBytesCardSaid : Prop := Claim7.holds Tryz.pinned (.plain (OpenSpec.ofChange storeBytesSpec)) storeBytesCard

/-- THE TIED CARD OF 'depotlaw31.StoreWear'. -/
def storeWearCard : Claim7 := { stood := { row := storeWearRow, standIns := [], harness := (true, "5214cc981437ea2b122cc0156729e285651246cc6bd3682cdb46b90aab79b23f"), looks := false }, kinds := [], alts := [], laidByText := true, laidKinds := [.data], laidTests := true, laidLooks := .later }
def StoreWearCardSaid : Prop := Claim7.holds Tryz.pinned (.plain (OpenSpec.ofChange storeWearSpec)) storeWearCard

/-- THE TIED CARD OF 'depotlaw31.StoreNil'. -/
def storeNilCard : Claim7 := { stood := { row := storeNilRow, standIns := [], harness := (true, "5214cc981437ea2b122cc0156729e285651246cc6bd3682cdb46b90aab79b23f"), looks := false }, kinds := [], alts := [], laidByText := true, laidKinds := [.data], laidTests := true, laidLooks := .later }
def StoreNilCardSaid : Prop := Claim7.holds Tryz.pinned (.plain (OpenSpec.ofChange storeNilSpec)) storeNilCard

/-- THE TIED CARD OF 'depotlaw31.StoreDoes'. -/
def storeDoesCard : Claim7 := { stood := { row := storeDoesRow, standIns := [], harness := (true, "5214cc981437ea2b122cc0156729e285651246cc6bd3682cdb46b90aab79b23f"), looks := false }, kinds := [], alts := [], laidByText := true, laidKinds := [.data], laidTests := true, laidLooks := .later }
def StoreDoesCardSaid : Prop := Claim7.holds Tryz.pinned (.plain (OpenSpec.ofChange storeDoesSpec)) storeDoesCard

/-- THE SECOND FORM's CARD OF 'depotlaw31.StoreServes'. -/
def storeServesUptoCard : Claim7 := { stood := { row := storeServesUptoRow, standIns := [], harness := (true, "5214cc981437ea2b122cc0156729e285651246cc6bd3682cdb46b90aab79b23f"), looks := false }, kinds := [], alts := [], laidByText := true, laidKinds := [.data], laidTests := true, laidLooks := .later }
def StoreServesUptoCardSaid : Prop := Claim7.holds Tryz.pinned (.plain (OpenSpec.upto storeServesSpec)) storeServesUptoCard

/-- THE SECOND FORM's CARD OF 'depotlaw31.StoreBytes'. -/
def storeBytesUptoCard : Claim7 := { stood := { row := storeBytesUptoRow, standIns := [], harness := (true, "5214cc981437ea2b122cc0156729e285651246cc6bd3682cdb46b90aab79b23f"), looks := false }, kinds := [], alts := [], laidByText := true, laidKinds := [.data], laidTests := true, laidLooks := .later }
def StoreBytesUptoCardSaid : Prop := Claim7.holds Tryz.pinned (.plain (OpenSpec.upto storeBytesSpec)) storeBytesUptoCard

/-- THE SECOND FORM's CARD OF 'depotlaw31.StoreWear'. -/
def storeWearUptoCard : Claim7 := { stood := { row := storeWearUptoRow, standIns := [], harness := (true, "5214cc981437ea2b122cc0156729e285651246cc6bd3682cdb46b90aab79b23f"), looks := false }, kinds := [], alts := [], laidByText := true, laidKinds := [.data], laidTests := true, laidLooks := .later }
def StoreWearUptoCardSaid : Prop := Claim7.holds Tryz.pinned (.plain (OpenSpec.upto storeWearSpec)) storeWearUptoCard

/-- THE SECOND FORM's CARD OF 'depotlaw31.StoreNil'. -/
def storeNilUptoCard : Claim7 := { stood := { row := storeNilUptoRow, standIns := [], harness := (true, "5214cc981437ea2b122cc0156729e285651246cc6bd3682cdb46b90aab79b23f"), looks := false }, kinds := [], alts := [], laidByText := true, laidKinds := [.data], laidTests := true, laidLooks := .later }
def StoreNilUptoCardSaid : Prop := Claim7.holds Tryz.pinned (.plain (OpenSpec.upto storeNilSpec)) storeNilUptoCard

/-- THE SECOND FORM's CARD OF 'depotlaw31.StoreDoes'. -/
def storeDoesUptoCard : Claim7 := { stood := { row := storeDoesUptoRow, standIns := [], harness := (true, "5214cc981437ea2b122cc0156729e285651246cc6bd3682cdb46b90aab79b23f"), looks := false }, kinds := [], alts := [], laidByText := true, laidKinds := [.data], laidTests := true, laidLooks := .later }
def StoreDoesUptoCardSaid : Prop := Claim7.holds Tryz.pinned (.plain (OpenSpec.upto storeDoesSpec)) storeDoesUptoCard
end Rows
end Go.Proofs.YtbaoieipijmakaaGreatDoor
