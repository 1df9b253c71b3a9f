/-
  DERIVED. GIVEN WITH THE SEED: THE CARDS: each row of YtjapijndljknnaaGreatDoorRows.lean that lists a variable, with what it lists TIED to the program's text (the seventh form; the later family's looks); each row that meets fmt, with fmt's text TOLD by the authors' own Lean function (tested against real Go, not proved from fmt's source: count such statements apart). THE CARD IS WHAT COUNTS. Prove the row's statement (the work); the ties are given (YtjapijndljknnaaGreatDoorTie.lean); close each card by the builder's one call (the guide's Derived/Test/ToyasCard.lean, 'card_holds'). Laid BY PROGRAM, IN A SANDBOX (cutbox-door.mjs). By AI agents, Wed Nov 11 2026. No macro, syntax, notation, axiom, sorry.
-/
import Derived.Test.YtjapijndljknnaaGreatDoorRows
import GoSem.ClaimSeven
namespace Go.Proofs.YtjapijndljknnaaGreatDoor
namespace Rows

/-- THE TIED CARD OF 'amanuensislaw05.SeglogPieces'. -/
def seglogPiecesCard : Claim7 := { stood := { row := seglogPiecesRow, standIns := [], harness := (true, "6433fc6e9f0f0cfeb25989682c5ffd0b6298c0b4bd985a712d2a3b3317b074e4"), looks := false }, kinds := [], alts := [], laidByText := true, laidKinds := [.data, .data, .data, .data, .pinned], laidTests := true, laidLooks := .later }
def SeglogPiecesCardSaid : Prop := Claim7.holds Tryz.pinned (.plain (OpenSpec.ofChange seglogPiecesSpec)) seglogPiecesCard

/-- THE TIED CARD OF 'amanuensislaw05.SeglogNumbers'. -/
def seglogNumbersCard : Claim7 := { stood := { row := seglogNumbersRow, standIns := [], harness := (true, "6433fc6e9f0f0cfeb25989682c5ffd0b6298c0b4bd985a712d2a3b3317b074e4"), looks := false }, kinds := [], alts := [], laidByText := true, laidKinds := [.data, .data, .data, .data, .pinned], laidTests := true, laidLooks := .later }
def SeglogNumbersCardSaid : Prop := Claim7.holds Tryz.pinned (.plain (OpenSpec.ofChange seglogNumbersSpec)) seglogNumbersCard

/-- THE TIED CARD OF 'amanuensislaw07.CompactTwice'. -/
def compactTwiceCard : Claim7 := { stood := { row := compactTwiceRow, standIns := [], harness := (true, "6433fc6e9f0f0cfeb25989682c5ffd0b6298c0b4bd985a712d2a3b3317b074e4"), looks := false }, kinds := [], alts := [], laidByText := true, laidKinds := [.data, .data, .data, .data, .pinned], laidTests := true, laidLooks := .later }
def CompactTwiceCardSaid : Prop := Claim7.holds Tryz.pinned (.plain (OpenSpec.ofChange compactTwiceSpec)) compactTwiceCard

/-- THE TIED CARD OF 'amanuensislaw07.CompactRoom'. -/
def compactRoomCard : Claim7 := { stood := { row := compactRoomRow, standIns := [], harness := (true, "6433fc6e9f0f0cfeb25989682c5ffd0b6298c0b4bd985a712d2a3b3317b074e4"), looks := false }, kinds := [], alts := [], laidByText := true, laidKinds := [.data, .data, .data, .data, .pinned], laidTests := true, laidLooks := .later }
def CompactRoomCardSaid : Prop := Claim7.holds Tryz.pinned (.plain (OpenSpec.ofChange compactRoomSpec)) compactRoomCard

/-- THE TIED CARD OF 'amanuensislaw07.CompactLess'. -/
def compactLessCard : Claim7 := { stood := { row := compactLessRow, standIns := [], harness := (true, "6433fc6e9f0f0cfeb25989682c5ffd0b6298c0b4bd985a712d2a3b3317b074e4"), looks := false }, kinds := [], alts := [], laidByText := true, laidKinds := [.data, .data, .data, .data, .pinned], laidTests := true, laidLooks := .later }
def CompactLessCardSaid : Prop := Claim7.holds Tryz.pinned (.plain (OpenSpec.ofChange compactLessSpec)) compactLessCard

/-- THE TIED CARD OF 'amanuensislaw07.CompactOpens'. -/
def compactOpensCard : Claim7 := { stood := { row := compactOpensRow, standIns := [], harness := (true, "6433fc6e9f0f0cfeb25989682c5ffd0b6298c0b4bd985a712d2a3b3317b074e4"), looks := false }, kinds := [], alts := [], laidByText := true, laidKinds := [.data, .data, .data, .data, .pinned], laidTests := true, laidLooks := .later }
def CompactOpensCardSaid : Prop := Claim7.holds Tryz.pinned (.plain (OpenSpec.ofChange compactOpensSpec)) compactOpensCard

/-- THE TIED CARD OF 'amanuensislaw07.CompactKeeps'. -/
def compactKeepsCard : Claim7 := { stood := { row := compactKeepsRow, standIns := [], harness := (true, "6433fc6e9f0f0cfeb25989682c5ffd0b6298c0b4bd985a712d2a3b3317b074e4"), looks := false }, kinds := [], alts := [], laidByText := true, laidKinds := [.data, .data, .data, .data, .pinned], laidTests := true, laidLooks := .later }
def CompactKeepsCardSaid : Prop := Claim7.holds Tryz.pinned (.plain (OpenSpec.ofChange compactKeepsSpec)) compactKeepsCard

/-- THE TIED CARD OF 'amanuensislaw07.CompactNumbers'. -/
def compactNumbersCard : Claim7 := { stood := { row := compactNumbersRow, standIns := [], harness := (true, "6433fc6e9f0f0cfeb25989682c5ffd0b6298c0b4bd985a712d2a3b3317b074e4"), looks := false }, kinds := [], alts := [], laidByText := true, laidKinds := [.data, .data, .data, .data, .pinned], laidTests := true, laidLooks := .later }
def CompactNumbersCardSaid : Prop := Claim7.holds Tryz.pinned (.plain (OpenSpec.ofChange compactNumbersSpec)) compactNumbersCard

/-- THE SECOND FORM's CARD OF 'amanuensislaw05.SeglogPieces'. -/
def seglogPiecesUptoCard : Claim7 := { stood := { row := seglogPiecesUptoRow, standIns := [], harness := (true, "6433fc6e9f0f0cfeb25989682c5ffd0b6298c0b4bd985a712d2a3b3317b074e4"), looks := false }, kinds := [], alts := [], laidByText := true, laidKinds := [.data, .data, .data, .data, .pinned], laidTests := true, laidLooks := .later }
def SeglogPiecesUptoCardSaid : Prop := Claim7.holds Tryz.pinned (.plain (OpenSpec.upto seglogPiecesSpec)) seglogPiecesUptoCard

/-- THE SECOND FORM's CARD OF 'amanuensislaw05.SeglogNumbers'. -/
def seglogNumbersUptoCard : Claim7 := { stood := { row := seglogNumbersUptoRow, standIns := [], harness := (true, "6433fc6e9f0f0cfeb25989682c5ffd0b6298c0b4bd985a712d2a3b3317b074e4"), looks := false }, kinds := [], alts := [], laidByText := true, laidKinds := [.data, .data, .data, .data, .pinned], laidTests := true, laidLooks := .later }
def SeglogNumbersUptoCardSaid : Prop := Claim7.holds Tryz.pinned (.plain (OpenSpec.upto seglogNumbersSpec)) seglogNumbersUptoCard

/-- THE SECOND FORM's CARD OF 'amanuensislaw07.CompactTwice'. -/
def compactTwiceUptoCard : Claim7 := { stood := { row := compactTwiceUptoRow, standIns := [], harness := (true, "6433fc6e9f0f0cfeb25989682c5ffd0b6298c0b4bd985a712d2a3b3317b074e4"), looks := false }, kinds := [], alts := [], laidByText := true, laidKinds := [.data, .data, .data, .data, .pinned], laidTests := true, laidLooks := .later }
def CompactTwiceUptoCardSaid : Prop := Claim7.holds Tryz.pinned (.plain (OpenSpec.upto compactTwiceSpec)) compactTwiceUptoCard

/-- THE SECOND FORM's CARD OF 'amanuensislaw07.CompactRoom'. -/
def compactRoomUptoCard : Claim7 := { stood := { row := compactRoomUptoRow, standIns := [], harness := (true, "6433fc6e9f0f0cfeb25989682c5ffd0b6298c0b4bd985a712d2a3b3317b074e4"), looks := false }, kinds := [], alts := [], laidByText := true, laidKinds := [.data, .data, .data, .data, .pinned], laidTests := true, laidLooks := .later }
def CompactRoomUptoCardSaid : Prop := Claim7.holds Tryz.pinned (.plain (OpenSpec.upto compactRoomSpec)) compactRoomUptoCard

/-- THE SECOND FORM's CARD OF 'amanuensislaw07.CompactLess'. -/
def compactLessUptoCard : Claim7 := { stood := { row := compactLessUptoRow, standIns := [], harness := (true, "6433fc6e9f0f0cfeb25989682c5ffd0b6298c0b4bd985a712d2a3b3317b074e4"), looks := false }, kinds := [], alts := [], laidByText := true, laidKinds := [.data, .data, .data, .data, .pinned], laidTests := true, laidLooks := .later }
def CompactLessUptoCardSaid : Prop := Claim7.holds Tryz.pinned (.plain (OpenSpec.upto compactLessSpec)) compactLessUptoCard

/-- THE SECOND FORM's CARD OF 'amanuensislaw07.CompactOpens'. -/
def compactOpensUptoCard : Claim7 := { stood := { row := compactOpensUptoRow, standIns := [], harness := (true, "6433fc6e9f0f0cfeb25989682c5ffd0b6298c0b4bd985a712d2a3b3317b074e4"), looks := false }, kinds := [], alts := [], laidByText := true, laidKinds := [.data, .data, .data, .data, .pinned], laidTests := true, laidLooks := .later }
def CompactOpensUptoCardSaid : Prop := Claim7.holds Tryz.pinned (.plain (OpenSpec.upto compactOpensSpec)) compactOpensUptoCard

/-- THE SECOND FORM's CARD OF 'amanuensislaw07.CompactKeeps'. -/
def compactKeepsUptoCard : Claim7 := { stood := { row := compactKeepsUptoRow, standIns := [], harness := (true, "6433fc6e9f0f0cfeb25989682c5ffd0b6298c0b4bd985a712d2a3b3317b074e4"), looks := false }, kinds := [], alts := [], laidByText := true, laidKinds := [.data, .data, .data, .data, .pinned], laidTests := true, laidLooks := .later }
def CompactKeepsUptoCardSaid : Prop := Claim7.holds Tryz.pinned (.plain (OpenSpec.upto compactKeepsSpec)) compactKeepsUptoCard

/-- THE SECOND FORM's CARD OF 'amanuensislaw07.CompactNumbers'. -/
def compactNumbersUptoCard : Claim7 := { stood := { row := compactNumbersUptoRow, standIns := [], harness := (true, "6433fc6e9f0f0cfeb25989682c5ffd0b6298c0b4bd985a712d2a3b3317b074e4"), looks := false }, kinds := [], alts := [], laidByText := true, laidKinds := [.data, .data, .data, .data, .pinned], laidTests := true, laidLooks := .later }
def CompactNumbersUptoCardSaid : Prop := Claim7.holds Tryz.pinned (.plain (OpenSpec.upto compactNumbersSpec)) compactNumbersUptoCard
end Rows
end Go.Proofs.YtjapijndljknnaaGreatDoor
