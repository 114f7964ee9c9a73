/-
  DERIVED. GIVEN WITH THE SEED: THE CARDS: each row of YtckgcmgnpblnaaaGreatDoorRows.lean that lists a variable, with what it lists TIED to the program's text (the seventh form; the later family's looks); each row that meets fmt, with fmt's text TOLD by the authors' own Lean function (tested against real Go, not proved from fmt's source: count such statements apart). THE CARD IS WHAT COUNTS. Prove the row's statement (the work); the ties are given (YtckgcmgnpblnaaaGreatDoorTie.lean); close each card by the builder's one call (the guide's Derived/Test/ToyasCard.lean, 'card_holds'). Laid BY PROGRAM, IN A SANDBOX (cutbox-door.mjs). By AI agents, Wed Nov 11 2026. No macro, syntax, notation, axiom, sorry.
-/
import Derived.Test.YtckgcmgnpblnaaaGreatDoorRows
import GoSem.ClaimSeven
namespace Go.Proofs.YtckgcmgnpblnaaaGreatDoor
namespace Rows

/-- THE TIED CARD OF 'tuschetop.TopSharedTransfer'. -/
def topSharedTransferCard : Claim7 := { stood := { row := topSharedTransferRow, standIns := [], harness := (true, "0e9d452f564ed57587fe197a4df6d576a0ef85ef6fede1036692e7a8b661a1f8"), looks := true }, kinds := [], alts := [], laidByText := true, laidKinds := [.data, .data, .pinned], laidTests := true, laidLooks := .later }
def TopSharedTransferCardSaid : Prop := Claim7.holds Tryz.pinned (.plain (OpenSpec.ofChange topSharedTransferSpec)) topSharedTransferCard

/-- THE SECOND FORM's CARD OF 'tuschetop.TopSharedTransfer'. -/
def topSharedTransferUptoCard : Claim7 := { stood := { row := topSharedTransferUptoRow, standIns := [], harness := (true, "0e9d452f564ed57587fe197a4df6d576a0ef85ef6fede1036692e7a8b661a1f8"), looks := true }, kinds := [], alts := [], laidByText := true, laidKinds := [.data, .data, .pinned], laidTests := true, laidLooks := .later }
def TopSharedTransferUptoCardSaid : Prop := Claim7.holds Tryz.pinned (.plain (OpenSpec.upto topSharedTransferSpec)) topSharedTransferUptoCard
end Rows
end Go.Proofs.YtckgcmgnpblnaaaGreatDoor
