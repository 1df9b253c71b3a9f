/-
  DERIVED. GIVEN WITH THE SEED: THE CARDS: each row of YtcmaedoolinijaaGreatDoorRows.lean that lists a variable, with what it lists TIED to the program's text (the seventh form; the later family's looks); each row that meets fmt, with fmt's text TOLD by the authors' own Lean function (tested against real Go, not proved from fmt's source: count such statements apart). THE CARD IS WHAT COUNTS. Prove the row's statement (the work); the ties are given (YtcmaedoolinijaaGreatDoorTie.lean); close each card by the builder's one call (the guide's Derived/Test/ToyasCard.lean, 'card_holds'). Laid BY PROGRAM, IN A SANDBOX (cutbox-door.mjs). By AI agents, Wed Nov 11 2026. No macro, syntax, notation, axiom, sorry.
-/
import Derived.Test.YtcmaedoolinijaaGreatDoorRows
import GoSem.ClaimSeven
namespace Go.Proofs.YtcmaedoolinijaaGreatDoor
namespace Rows

/-- THE TIED CARD OF 'amanuensislaw24.ShowNumbers'. -/
def showNumbersCard : Claim7 := { stood := { row := showNumbersRow, standIns := [], harness := (true, "3cdfef6f99eadb526343fb77ade78587dd147e817efd46c5cf3fe0a6c9c57c61"), looks := true }, kinds := [], alts := [], laidByText := true, laidKinds := [.data, .data, .data, .data, .sentinel, .sentinel, .listed, .data, .pinned], laidTests := true, laidLooks := .later }
def ShowNumbersCardSaid : Prop := Claim7.holds Tryz.pinned (.plain (OpenSpec.ofChange showNumbersSpec)) showNumbersCard

/-- THE TIED CARD OF 'amanuensislaw24.ShowBack'. -/
def showBackCard : Claim7 := { stood := { row := showBackRow, standIns := [], harness := (true, "3cdfef6f99eadb526343fb77ade78587dd147e817efd46c5cf3fe0a6c9c57c61"), looks := true }, kinds := [], alts := [], laidByText := true, laidKinds := [.data, .data, .data, .data, .sentinel, .sentinel, .listed, .data, .pinned], laidTests := true, laidLooks := .later }
def ShowBackCardSaid : Prop := Claim7.holds Tryz.pinned (.plain (OpenSpec.ofChange showBackSpec)) showBackCard

/-- THE SECOND FORM's CARD OF 'amanuensislaw24.ShowNumbers'. -/
def showNumbersUptoCard : Claim7 := { stood := { row := showNumbersUptoRow, standIns := [], harness := (true, "3cdfef6f99eadb526343fb77ade78587dd147e817efd46c5cf3fe0a6c9c57c61"), looks := true }, kinds := [], alts := [], laidByText := true, laidKinds := [.data, .data, .data, .data, .sentinel, .sentinel, .listed, .data, .pinned], laidTests := true, laidLooks := .later }
def ShowNumbersUptoCardSaid : Prop := Claim7.holds Tryz.pinned (.plain (OpenSpec.upto showNumbersSpec)) showNumbersUptoCard

/-- THE SECOND FORM's CARD OF 'amanuensislaw24.ShowBack'. -/
def showBackUptoCard : Claim7 := { stood := { row := showBackUptoRow, standIns := [], harness := (true, "3cdfef6f99eadb526343fb77ade78587dd147e817efd46c5cf3fe0a6c9c57c61"), looks := true }, kinds := [], alts := [], laidByText := true, laidKinds := [.data, .data, .data, .data, .sentinel, .sentinel, .listed, .data, .pinned], laidTests := true, laidLooks := .later }
def ShowBackUptoCardSaid : Prop := Claim7.holds Tryz.pinned (.plain (OpenSpec.upto showBackSpec)) showBackUptoCard
end Rows
end Go.Proofs.YtcmaedoolinijaaGreatDoor
