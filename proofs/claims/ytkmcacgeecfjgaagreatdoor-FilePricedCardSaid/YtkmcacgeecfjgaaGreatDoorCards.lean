/-
  DERIVED. GIVEN WITH THE SEED: THE CARDS: each row of YtkmcacgeecfjgaaGreatDoorRows.lean that lists a variable, with what it lists TIED to the program's text (the seventh form; the later family's looks); each row that meets fmt, with fmt's text TOLD by the authors' own Lean function (tested against real Go, not proved from fmt's source: count such statements apart). THE CARD IS WHAT COUNTS. Prove the row's statement (the work); the ties are given (YtkmcacgeecfjgaaGreatDoorTie.lean); close each card by the builder's one call (the guide's Derived/Test/ToyasCard.lean, 'card_holds'). Laid BY PROGRAM, IN A SANDBOX (cutbox-door.mjs). By AI agents, Wed Nov 11 2026. No macro, syntax, notation, axiom, sorry.
-/
import Derived.Test.YtkmcacgeecfjgaaGreatDoorRows
import GoSem.ClaimSeven
namespace Go.Proofs.YtkmcacgeecfjgaaGreatDoor
namespace Rows

/-- THE TIED CARD OF 'petershamlaw11.FilePriced'. -/
def filePricedCard : Claim7 := { stood := { row := filePricedRow, standIns := [], harness := (true, "0d02fc644d1f3c47388f89a3941efcf0ceca62e9549b00643bcd345befe9af1d"), looks := false }, kinds := [], alts := [], laidByText := true, laidKinds := [.data, .data, .data], laidTests := true, laidLooks := .later }
def FilePricedCardSaid : Prop := Claim7.holds Tryz.pinned (.plain (OpenSpec.ofChange filePricedSpec)) filePricedCard

/-- THE TIED CARD OF 'petershamlaw11.FileSmall'. -/
def fileSmallCard : Claim7 := { stood := { row := fileSmallRow, standIns := [], harness := (true, "0d02fc644d1f3c47388f89a3941efcf0ceca62e9549b00643bcd345befe9af1d"), looks := false }, kinds := [], alts := [], laidByText := true, laidKinds := [.data, .data, .data], laidTests := true, laidLooks := .later }
def FileSmallCardSaid : Prop := Claim7.holds Tryz.pinned (.plain (OpenSpec.ofChange fileSmallSpec)) fileSmallCard

/-- THE SECOND FORM's CARD OF 'petershamlaw11.FilePriced'. -/
def filePricedUptoCard : Claim7 := { stood := { row := filePricedUptoRow, standIns := [], harness := (true, "0d02fc644d1f3c47388f89a3941efcf0ceca62e9549b00643bcd345befe9af1d"), looks := false }, kinds := [], alts := [], laidByText := true, laidKinds := [.data, .data, .data], laidTests := true, laidLooks := .later }
def FilePricedUptoCardSaid : Prop := Claim7.holds Tryz.pinned (.plain (OpenSpec.upto filePricedSpec)) filePricedUptoCard

/-- THE SECOND FORM's CARD OF 'petershamlaw11.FileSmall'. -/
def fileSmallUptoCard : Claim7 := { stood := { row := fileSmallUptoRow, standIns := [], harness := (true, "0d02fc644d1f3c47388f89a3941efcf0ceca62e9549b00643bcd345befe9af1d"), looks := false }, kinds := [], alts := [], laidByText := true, laidKinds := [.data, .data, .data], laidTests := true, laidLooks := .later }
def FileSmallUptoCardSaid : Prop := Claim7.holds Tryz.pinned (.plain (OpenSpec.upto fileSmallSpec)) fileSmallUptoCard
end Rows
end Go.Proofs.YtkmcacgeecfjgaaGreatDoor
