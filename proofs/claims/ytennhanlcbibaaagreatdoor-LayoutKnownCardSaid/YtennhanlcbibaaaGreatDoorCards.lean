/-
  DERIVED. GIVEN WITH THE SEED: THE CARDS: each row of YtennhanlcbibaaaGreatDoorRows.lean that lists a variable, with what it lists TIED to the program's text (the seventh form; the later family's looks); each row that meets fmt, with fmt's text TOLD by the authors' own Lean function (tested against real Go, not proved from fmt's source: count such statements apart). THE CARD IS WHAT COUNTS. Prove the row's statement (the work); the ties are given (YtennhanlcbibaaaGreatDoorTie.lean); close each card by the builder's one call (the guide's Derived/Test/ToyasCard.lean, 'card_holds'). Laid BY PROGRAM, IN A SANDBOX (cutbox-door.mjs). By AI agents, Wed Nov 11 2026. No macro, syntax, notation, axiom, sorry.
-/
import Derived.Test.YtennhanlcbibaaaGreatDoorRows
import GoSem.ClaimSeven
namespace Go.Proofs.YtennhanlcbibaaaGreatDoor
namespace Rows

/-- THE TIED CARD OF 'linkboylaw05.LayoutKnown'. -/
def layoutKnownCard : Claim7 := { stood := { row := layoutKnownRow, standIns := [], harness := (true, "82f098d0d1162cf69b9ebfaef0b286164fa37f9ecbe6bd5b4152ccb819290f87"), looks := true }, kinds := [], alts := [], laidByText := true, laidKinds := [.data, .data, .data, .data, .handle, .pinned], laidTests := true, laidLooks := .later }
def LayoutKnownCardSaid : Prop := Claim7.holds Tryz.pinned (.plain (OpenSpec.ofChange layoutKnownSpec)) layoutKnownCard

/-- THE SECOND FORM's CARD OF 'linkboylaw05.LayoutKnown'. -/
def layoutKnownUptoCard : Claim7 := { stood := { row := layoutKnownUptoRow, standIns := [], harness := (true, "82f098d0d1162cf69b9ebfaef0b286164fa37f9ecbe6bd5b4152ccb819290f87"), looks := true }, kinds := [], alts := [], laidByText := true, laidKinds := [.data, .data, .data, .data, .handle, .pinned], laidTests := true, laidLooks := .later }
def LayoutKnownUptoCardSaid : Prop := Claim7.holds Tryz.pinned (.plain (OpenSpec.upto layoutKnownSpec)) layoutKnownUptoCard
end Rows
end Go.Proofs.YtennhanlcbibaaaGreatDoor
