/-
  DERIVED. GIVEN WITH THE SEED: THE CARDS: each row of YtphgiobklbpdeaaGreatDoorRows.lean that lists a variable, with what it lists TIED to the program's text (the seventh form; the later family's looks); each row that meets fmt, with fmt's text TOLD by the authors' own Lean function (tested against real Go, not proved from fmt's source: count such statements apart). THE CARD IS WHAT COUNTS. Prove the row's statement (the work); the ties are given (YtphgiobklbpdeaaGreatDoorTie.lean); close each card by the builder's one call (the guide's Derived/Test/ToyasCard.lean, 'card_holds'). Laid BY PROGRAM, IN A SANDBOX (cutbox-door.mjs). By AI agents, Wed Nov 11 2026. No macro, syntax, notation, axiom, sorry.
-/
import Derived.Test.YtphgiobklbpdeaaGreatDoorRows
import GoSem.ClaimSeven
namespace Go.Proofs.YtphgiobklbpdeaaGreatDoor
namespace Rows

/-- THE TIED CARD OF 'amanuensislaw05.SeglogTells'. -/
def seglogTellsCard : Claim7 := { stood := { row := seglogTellsRow, standIns := [], harness := (true, "ae59929f117b2a08643b3dd47d4174a40befd8807d082f44f07e556e42643762"), looks := false }, kinds := [], alts := [], laidByText := true, laidKinds := [.data, .data, .data, .data, .pinned], laidTests := true, laidLooks := .later }
def SeglogTellsCardSaid : Prop := Claim7.holds Tryz.pinned (.plain (OpenSpec.ofChange seglogTellsSpec)) seglogTellsCard

/-- THE TIED CARD OF 'amanuensislaw05.SeglogPieces'. -/
def seglogPiecesCard : Claim7 := { stood := { row := seglogPiecesRow, standIns := [], harness := (true, "ae59929f117b2a08643b3dd47d4174a40befd8807d082f44f07e556e42643762"), looks := false }, kinds := [], alts := [], laidByText := true, laidKinds := [.data, .data, .data, .data, .pinned], laidTests := true, laidLooks := .later }
def SeglogPiecesCardSaid : Prop := Claim7.holds Tryz.pinned (.plain (OpenSpec.ofChange seglogPiecesSpec)) seglogPiecesCard

/-- THE TIED CARD OF 'amanuensislaw06.RecoverLess'. -/
def recoverLessCard : Claim7 := { stood := { row := recoverLessRow, standIns := [], harness := (true, "ae59929f117b2a08643b3dd47d4174a40befd8807d082f44f07e556e42643762"), looks := false }, kinds := [], alts := [], laidByText := true, laidKinds := [.data, .data, .data, .data, .pinned], laidTests := true, laidLooks := .later }
def RecoverLessCardSaid : Prop := Claim7.holds Tryz.pinned (.plain (OpenSpec.ofChange recoverLessSpec)) recoverLessCard

/-- THE TIED CARD OF 'amanuensislaw06.RecoverStrays'. -/
def recoverStraysCard : Claim7 := { stood := { row := recoverStraysRow, standIns := [], harness := (true, "ae59929f117b2a08643b3dd47d4174a40befd8807d082f44f07e556e42643762"), looks := false }, kinds := [], alts := [], laidByText := true, laidKinds := [.data, .data, .data, .data, .pinned], laidTests := true, laidLooks := .later }
def RecoverStraysCardSaid : Prop := Claim7.holds Tryz.pinned (.plain (OpenSpec.ofChange recoverStraysSpec)) recoverStraysCard

/-- THE TIED CARD OF 'amanuensislaw06.RecoverTwice'. -/
def recoverTwiceCard : Claim7 := { stood := { row := recoverTwiceRow, standIns := [], harness := (true, "ae59929f117b2a08643b3dd47d4174a40befd8807d082f44f07e556e42643762"), looks := false }, kinds := [], alts := [], laidByText := true, laidKinds := [.data, .data, .data, .data, .pinned], laidTests := true, laidLooks := .later }
def RecoverTwiceCardSaid : Prop := Claim7.holds Tryz.pinned (.plain (OpenSpec.ofChange recoverTwiceSpec)) recoverTwiceCard

/-- THE TIED CARD OF 'amanuensislaw06.RecoverSealed'. -/
def recoverSealedCard : Claim7 := { stood := { row := recoverSealedRow, standIns := [], harness := (true, "ae59929f117b2a08643b3dd47d4174a40befd8807d082f44f07e556e42643762"), looks := false }, kinds := [], alts := [], laidByText := true, laidKinds := [.data, .data, .data, .data, .pinned], laidTests := true, laidLooks := .later }
def RecoverSealedCardSaid : Prop := Claim7.holds Tryz.pinned (.plain (OpenSpec.ofChange recoverSealedSpec)) recoverSealedCard

/-- THE TIED CARD OF 'amanuensislaw07.CompactTwice'. -/
def compactTwiceCard : Claim7 := { stood := { row := compactTwiceRow, standIns := [], harness := (true, "ae59929f117b2a08643b3dd47d4174a40befd8807d082f44f07e556e42643762"), looks := false }, kinds := [], alts := [], laidByText := true, laidKinds := [.data, .data, .data, .data, .pinned], laidTests := true, laidLooks := .later }
def CompactTwiceCardSaid : Prop := Claim7.holds Tryz.pinned (.plain (OpenSpec.ofChange compactTwiceSpec)) compactTwiceCard

/-- THE TIED CARD OF 'amanuensislaw07.CompactRoom'. -/
def compactRoomCard : Claim7 := { stood := { row := compactRoomRow, standIns := [], harness := (true, "ae59929f117b2a08643b3dd47d4174a40befd8807d082f44f07e556e42643762"), looks := false }, kinds := [], alts := [], laidByText := true, laidKinds := [.data, .data, .data, .data, .pinned], laidTests := true, laidLooks := .later }
def CompactRoomCardSaid : Prop := Claim7.holds Tryz.pinned (.plain (OpenSpec.ofChange compactRoomSpec)) compactRoomCard

/-- THE TIED CARD OF 'amanuensislaw07.CompactLess'. -/
def compactLessCard : Claim7 := { stood := { row := compactLessRow, standIns := [], harness := (true, "ae59929f117b2a08643b3dd47d4174a40befd8807d082f44f07e556e42643762"), looks := false }, kinds := [], alts := [], laidByText := true, laidKinds := [.data, .data, .data, .data, .pinned], laidTests := true, laidLooks := .later }
def CompactLessCardSaid : Prop := Claim7.holds Tryz.pinned (.plain (OpenSpec.ofChange compactLessSpec)) compactLessCard

/-- THE TIED CARD OF 'amanuensislaw06.RecoverKeeps'. -/
def recoverKeepsCard : Claim7 := { stood := { row := recoverKeepsRow, standIns := [], harness := (true, "ae59929f117b2a08643b3dd47d4174a40befd8807d082f44f07e556e42643762"), looks := false }, kinds := [], alts := [], laidByText := true, laidKinds := [.data, .data, .data, .data, .pinned], laidTests := true, laidLooks := .later }
def RecoverKeepsCardSaid : Prop := Claim7.holds Tryz.pinned (.plain (OpenSpec.ofChange recoverKeepsSpec)) recoverKeepsCard

/-- THE TIED CARD OF 'amanuensislaw07.CompactOpens'. -/
def compactOpensCard : Claim7 := { stood := { row := compactOpensRow, standIns := [], harness := (true, "ae59929f117b2a08643b3dd47d4174a40befd8807d082f44f07e556e42643762"), looks := false }, kinds := [], alts := [], laidByText := true, laidKinds := [.data, .data, .data, .data, .pinned], laidTests := true, laidLooks := .later }
def CompactOpensCardSaid : Prop := Claim7.holds Tryz.pinned (.plain (OpenSpec.ofChange compactOpensSpec)) compactOpensCard

/-- THE TIED CARD OF 'amanuensislaw07.CompactKeeps'. -/
def compactKeepsCard : Claim7 := { stood := { row := compactKeepsRow, standIns := [], harness := (true, "ae59929f117b2a08643b3dd47d4174a40befd8807d082f44f07e556e42643762"), looks := false }, kinds := [], alts := [], laidByText := true, laidKinds := [.data, .data, .data, .data, .pinned], laidTests := true, laidLooks := .later }
def CompactKeepsCardSaid : Prop := Claim7.holds Tryz.pinned (.plain (OpenSpec.ofChange compactKeepsSpec)) compactKeepsCard

/-- THE SECOND FORM's CARD OF 'amanuensislaw05.SeglogTells'. -/
def seglogTellsUptoCard : Claim7 := { stood := { row := seglogTellsUptoRow, standIns := [], harness := (true, "ae59929f117b2a08643b3dd47d4174a40befd8807d082f44f07e556e42643762"), looks := false }, kinds := [], alts := [], laidByText := true, laidKinds := [.data, .data, .data, .data, .pinned], laidTests := true, laidLooks := .later }
def SeglogTellsUptoCardSaid : Prop := Claim7.holds Tryz.pinned (.plain (OpenSpec.upto seglogTellsSpec)) seglogTellsUptoCard

/-- THE SECOND FORM's CARD OF 'amanuensislaw05.SeglogPieces'. -/
def seglogPiecesUptoCard : Claim7 := { stood := { row := seglogPiecesUptoRow, standIns := [], harness := (true, "ae59929f117b2a08643b3dd47d4174a40befd8807d082f44f07e556e42643762"), looks := false }, kinds := [], alts := [], laidByText := true, laidKinds := [.data, .data, .data, .data, .pinned], laidTests := true, laidLooks := .later }
def SeglogPiecesUptoCardSaid : Prop := Claim7.holds Tryz.pinned (.plain (OpenSpec.upto seglogPiecesSpec)) seglogPiecesUptoCard

/-- THE SECOND FORM's CARD OF 'amanuensislaw06.RecoverLess'. -/
def recoverLessUptoCard : Claim7 := { stood := { row := recoverLessUptoRow, standIns := [], harness := (true, "ae59929f117b2a08643b3dd47d4174a40befd8807d082f44f07e556e42643762"), looks := false }, kinds := [], alts := [], laidByText := true, laidKinds := [.data, .data, .data, .data, .pinned], laidTests := true, laidLooks := .later }
def RecoverLessUptoCardSaid : Prop := Claim7.holds Tryz.pinned (.plain (OpenSpec.upto recoverLessSpec)) recoverLessUptoCard

/-- THE SECOND FORM's CARD OF 'amanuensislaw06.RecoverStrays'. -/
def recoverStraysUptoCard : Claim7 := { stood := { row := recoverStraysUptoRow, standIns := [], harness := (true, "ae59929f117b2a08643b3dd47d4174a40befd8807d082f44f07e556e42643762"), looks := false }, kinds := [], alts := [], laidByText := true, laidKinds := [.data, .data, .data, .data, .pinned], laidTests := true, laidLooks := .later }
def RecoverStraysUptoCardSaid : Prop := Claim7.holds Tryz.pinned (.plain (OpenSpec.upto recoverStraysSpec)) recoverStraysUptoCard

/-- THE SECOND FORM's CARD OF 'amanuensislaw06.RecoverTwice'. -/
def recoverTwiceUptoCard : Claim7 := { stood := { row := recoverTwiceUptoRow, standIns := [], harness := (true, "ae59929f117b2a08643b3dd47d4174a40befd8807d082f44f07e556e42643762"), looks := false }, kinds := [], alts := [], laidByText := true, laidKinds := [.data, .data, .data, .data, .pinned], laidTests := true, laidLooks := .later }
def RecoverTwiceUptoCardSaid : Prop := Claim7.holds Tryz.pinned (.plain (OpenSpec.upto recoverTwiceSpec)) recoverTwiceUptoCard

/-- THE SECOND FORM's CARD OF 'amanuensislaw06.RecoverSealed'. -/
def recoverSealedUptoCard : Claim7 := { stood := { row := recoverSealedUptoRow, standIns := [], harness := (true, "ae59929f117b2a08643b3dd47d4174a40befd8807d082f44f07e556e42643762"), looks := false }, kinds := [], alts := [], laidByText := true, laidKinds := [.data, .data, .data, .data, .pinned], laidTests := true, laidLooks := .later }
def RecoverSealedUptoCardSaid : Prop := Claim7.holds Tryz.pinned (.plain (OpenSpec.upto recoverSealedSpec)) recoverSealedUptoCard

/-- THE SECOND FORM's CARD OF 'amanuensislaw07.CompactTwice'. -/
def compactTwiceUptoCard : Claim7 := { stood := { row := compactTwiceUptoRow, standIns := [], harness := (true, "ae59929f117b2a08643b3dd47d4174a40befd8807d082f44f07e556e42643762"), looks := false }, kinds := [], alts := [], laidByText := true, laidKinds := [.data, .data, .data, .data, .pinned], laidTests := true, laidLooks := .later }
def CompactTwiceUptoCardSaid : Prop := Claim7.holds Tryz.pinned (.plain (OpenSpec.upto compactTwiceSpec)) compactTwiceUptoCard

/-- THE SECOND FORM's CARD OF 'amanuensislaw07.CompactRoom'. -/
def compactRoomUptoCard : Claim7 := { stood := { row := compactRoomUptoRow, standIns := [], harness := (true, "ae59929f117b2a08643b3dd47d4174a40befd8807d082f44f07e556e42643762"), looks := false }, kinds := [], alts := [], laidByText := true, laidKinds := [.data, .data, .data, .data, .pinned], laidTests := true, laidLooks := .later }
def CompactRoomUptoCardSaid : Prop := Claim7.holds Tryz.pinned (.plain (OpenSpec.upto compactRoomSpec)) compactRoomUptoCard

/-- THE SECOND FORM's CARD OF 'amanuensislaw07.CompactLess'. -/
def compactLessUptoCard : Claim7 := { stood := { row := compactLessUptoRow, standIns := [], harness := (true, "ae59929f117b2a08643b3dd47d4174a40befd8807d082f44f07e556e42643762"), looks := false }, kinds := [], alts := [], laidByText := true, laidKinds := [.data, .data, .data, .data, .pinned], laidTests := true, laidLooks := .later }
def CompactLessUptoCardSaid : Prop := Claim7.holds Tryz.pinned (.plain (OpenSpec.upto compactLessSpec)) compactLessUptoCard

/-- THE SECOND FORM's CARD OF 'amanuensislaw06.RecoverKeeps'. -/
def recoverKeepsUptoCard : Claim7 := { stood := { row := recoverKeepsUptoRow, standIns := [], harness := (true, "ae59929f117b2a08643b3dd47d4174a40befd8807d082f44f07e556e42643762"), looks := false }, kinds := [], alts := [], laidByText := true, laidKinds := [.data, .data, .data, .data, .pinned], laidTests := true, laidLooks := .later }
def RecoverKeepsUptoCardSaid : Prop := Claim7.holds Tryz.pinned (.plain (OpenSpec.upto recoverKeepsSpec)) recoverKeepsUptoCard

/-- THE SECOND FORM's CARD OF 'amanuensislaw07.CompactOpens'. -/
def compactOpensUptoCard : Claim7 := { stood := { row := compactOpensUptoRow, standIns := [], harness := (true, "ae59929f117b2a08643b3dd47d4174a40befd8807d082f44f07e556e42643762"), looks := false }, kinds := [], alts := [], laidByText := true, laidKinds := [.data, .data, .data, .data, .pinned], laidTests := true, laidLooks := .later }
def CompactOpensUptoCardSaid : Prop := Claim7.holds Tryz.pinned (.plain (OpenSpec.upto compactOpensSpec)) compactOpensUptoCard

/-- THE SECOND FORM's CARD OF 'amanuensislaw07.CompactKeeps'. -/
def compactKeepsUptoCard : Claim7 := { stood := { row := compactKeepsUptoRow, standIns := [], harness := (true, "ae59929f117b2a08643b3dd47d4174a40befd8807d082f44f07e556e42643762"), looks := false }, kinds := [], alts := [], laidByText := true, laidKinds := [.data, .data, .data, .data, .pinned], laidTests := true, laidLooks := .later }
def CompactKeepsUptoCardSaid : Prop := Claim7.holds Tryz.pinned (.plain (OpenSpec.upto compactKeepsSpec)) compactKeepsUptoCard
end Rows
end Go.Proofs.YtphgiobklbpdeaaGreatDoor
