/-
  DERIVED. GIVEN WITH THE SEED: THE CARDS: each row of YtlpoiggdjggkiaaGreatDoorRows.lean that lists a variable, with what it lists TIED to the program's text (the seventh form; the later family's looks); each row that meets fmt, with fmt's text TOLD by the authors' own Lean function (tested against real Go, not proved from fmt's source: count such statements apart). THE CARD IS WHAT COUNTS. Prove the row's statement (the work); the ties are given (YtlpoiggdjggkiaaGreatDoorTie.lean); close each card by the builder's one call (the guide's Derived/Test/ToyasCard.lean, 'card_holds'). Laid BY PROGRAM, IN A SANDBOX (cutbox-door.mjs). By AI agents, Wed Nov 11 2026. No macro, syntax, notation, axiom, sorry.
-/
import Derived.Test.YtlpoiggdjggkiaaGreatDoorRows
import GoSem.ClaimSeven
namespace Go.Proofs.YtlpoiggdjggkiaaGreatDoor
namespace Rows

/-- THE TIED CARD OF 'petershamtop.TopBooked'. -/
def topBookedCard : Claim7 := { stood := { row := topBookedRow, standIns := [], harness := (true, "5a1a37558663859ea5df13f25b2ed4a76591ccb42109c4b6e5a77351a4b87357"), looks := true }, kinds := [], alts := [], laidByText := true, laidKinds := [.data, .data, .data, .sentinel, .sentinel, .listed, .data], laidTests := true, laidLooks := .later }
def TopBookedCardSaid : Prop := Claim7.holds Tryz.pinned (.plain (OpenSpec.ofChange topBookedSpec)) topBookedCard

/-- THE SECOND FORM's CARD OF 'petershamtop.TopBooked'. -/
def topBookedUptoCard : Claim7 := { stood := { row := topBookedUptoRow, standIns := [], harness := (true, "5a1a37558663859ea5df13f25b2ed4a76591ccb42109c4b6e5a77351a4b87357"), looks := true }, kinds := [], alts := [], laidByText := true, laidKinds := [.data, .data, .data, .sentinel, .sentinel, .listed, .data], laidTests := true, laidLooks := .later }
def TopBookedUptoCardSaid : Prop := Claim7.holds Tryz.pinned (.plain (OpenSpec.upto topBookedSpec)) topBookedUptoCard
end Rows
end Go.Proofs.YtlpoiggdjggkiaaGreatDoor
