/-
  DERIVED. GIVEN WITH THE SEED: THE CARDS: each row of YtoikjiojhlfgiaaGreatDoorRows.lean that lists a variable, with what it lists TIED to the program's text (the seventh form; the later family's looks); each row that meets fmt, with fmt's text TOLD by the authors' own Lean function (tested against real Go, not proved from fmt's source: count such statements apart). THE CARD IS WHAT COUNTS. Prove the row's statement (the work); the ties are given (YtoikjiojhlfgiaaGreatDoorTie.lean); close each card by the builder's one call (the guide's Derived/Test/ToyasCard.lean, 'card_holds'). Laid BY PROGRAM, IN A SANDBOX (cutbox-door.mjs). By AI agents, Wed Nov 11 2026. No macro, syntax, notation, axiom, sorry.
-/
import Derived.Test.YtoikjiojhlfgiaaGreatDoorRows
import GoSem.ClaimSeven
namespace Go.Proofs.YtoikjiojhlfgiaaGreatDoor
namespace Rows

/-- THE TIED CARD OF 'amanuensislaw05.SeglogAcked'. -/
def seglogAckedCard : Claim7 := { stood := { row := seglogAckedRow, standIns := [], harness := (true, "825a473bbf0f007b3ac71cb28bd652951bcddbe955076d9ded1323e7294276fc"), looks := false }, kinds := [], alts := [], laidByText := true, laidKinds := [.data, .data, .data, .data, .pinned], laidTests := true, laidLooks := .later }
def SeglogAckedCardSaid : Prop := Claim7.holds Tryz.pinned (.plain (OpenSpec.ofChange seglogAckedSpec)) seglogAckedCard

/-- THE TIED CARD OF 'amanuensislaw05.SeglogSizes'. -/
def seglogSizesCard : Claim7 := { stood := { row := seglogSizesRow, standIns := [], harness := (true, "825a473bbf0f007b3ac71cb28bd652951bcddbe955076d9ded1323e7294276fc"), looks := false }, kinds := [], alts := [], laidByText := true, laidKinds := [.data, .data, .data, .data, .pinned], laidTests := true, laidLooks := .later }
def SeglogSizesCardSaid : Prop := Claim7.holds Tryz.pinned (.plain (OpenSpec.ofChange seglogSizesSpec)) seglogSizesCard

/-- THE TIED CARD OF 'amanuensislaw05.SeglogEnded'. -/
def seglogEndedCard : Claim7 := { stood := { row := seglogEndedRow, standIns := [], harness := (true, "825a473bbf0f007b3ac71cb28bd652951bcddbe955076d9ded1323e7294276fc"), looks := false }, kinds := [], alts := [], laidByText := true, laidKinds := [.data, .data, .data, .data, .pinned], laidTests := true, laidLooks := .later }
def SeglogEndedCardSaid : Prop := Claim7.holds Tryz.pinned (.plain (OpenSpec.ofChange seglogEndedSpec)) seglogEndedCard

/-- THE TIED CARD OF 'amanuensislaw05.SeglogNone'. -/
def seglogNoneCard : Claim7 := { stood := { row := seglogNoneRow, standIns := [], harness := (true, "825a473bbf0f007b3ac71cb28bd652951bcddbe955076d9ded1323e7294276fc"), looks := false }, kinds := [], alts := [], laidByText := true, laidKinds := [.data, .data, .data, .data, .pinned], laidTests := true, laidLooks := .later }
def SeglogNoneCardSaid : Prop := Claim7.holds Tryz.pinned (.plain (OpenSpec.ofChange seglogNoneSpec)) seglogNoneCard

/-- THE TIED CARD OF 'amanuensislaw05.SeglogPlays'. -/
def seglogPlaysCard : Claim7 := { stood := { row := seglogPlaysRow, standIns := [], harness := (true, "825a473bbf0f007b3ac71cb28bd652951bcddbe955076d9ded1323e7294276fc"), looks := false }, kinds := [], alts := [], laidByText := true, laidKinds := [.data, .data, .data, .data, .pinned], laidTests := true, laidLooks := .later }
def SeglogPlaysCardSaid : Prop := Claim7.holds Tryz.pinned (.plain (OpenSpec.ofChange seglogPlaysSpec)) seglogPlaysCard

/-- THE TIED CARD OF 'amanuensislaw05.SeglogTells'. -/
def seglogTellsCard : Claim7 := { stood := { row := seglogTellsRow, standIns := [], harness := (true, "825a473bbf0f007b3ac71cb28bd652951bcddbe955076d9ded1323e7294276fc"), looks := false }, kinds := [], alts := [], laidByText := true, laidKinds := [.data, .data, .data, .data, .pinned], laidTests := true, laidLooks := .later }
def SeglogTellsCardSaid : Prop := Claim7.holds Tryz.pinned (.plain (OpenSpec.ofChange seglogTellsSpec)) seglogTellsCard

/-- THE TIED CARD OF 'amanuensislaw05.SeglogPieces'. -/
def seglogPiecesCard : Claim7 := { stood := { row := seglogPiecesRow, standIns := [], harness := (true, "825a473bbf0f007b3ac71cb28bd652951bcddbe955076d9ded1323e7294276fc"), looks := false }, kinds := [], alts := [], laidByText := true, laidKinds := [.data, .data, .data, .data, .pinned], laidTests := true, laidLooks := .later }
def SeglogPiecesCardSaid : Prop := Claim7.holds Tryz.pinned (.plain (OpenSpec.ofChange seglogPiecesSpec)) seglogPiecesCard

/-- THE TIED CARD OF 'amanuensislaw05.SeglogCuts'. -/
def seglogCutsCard : Claim7 := { stood := { row := seglogCutsRow, standIns := [], harness := (true, "825a473bbf0f007b3ac71cb28bd652951bcddbe955076d9ded1323e7294276fc"), looks := false }, kinds := [], alts := [], laidByText := true, laidKinds := [.data, .data, .data, .data, .pinned], laidTests := true, laidLooks := .later }
def SeglogCutsCardSaid : Prop := Claim7.holds Tryz.pinned (.plain (OpenSpec.ofChange seglogCutsSpec)) seglogCutsCard

/-- THE TIED CARD OF 'amanuensislaw05.SeglogKeeps'. -/
def seglogKeepsCard : Claim7 := { stood := { row := seglogKeepsRow, standIns := [], harness := (true, "825a473bbf0f007b3ac71cb28bd652951bcddbe955076d9ded1323e7294276fc"), looks := false }, kinds := [], alts := [], laidByText := true, laidKinds := [.data, .data, .data, .data, .pinned], laidTests := true, laidLooks := .later }
def SeglogKeepsCardSaid : Prop := Claim7.holds Tryz.pinned (.plain (OpenSpec.ofChange seglogKeepsSpec)) seglogKeepsCard

/-- THE TIED CARD OF 'amanuensislaw05.SeglogNumbers'. -/
def seglogNumbersCard : Claim7 := { stood := { row := seglogNumbersRow, standIns := [], harness := (true, "825a473bbf0f007b3ac71cb28bd652951bcddbe955076d9ded1323e7294276fc"), looks := false }, kinds := [], alts := [], laidByText := true, laidKinds := [.data, .data, .data, .data, .pinned], laidTests := true, laidLooks := .later }
def SeglogNumbersCardSaid : Prop := Claim7.holds Tryz.pinned (.plain (OpenSpec.ofChange seglogNumbersSpec)) seglogNumbersCard

/-- THE SECOND FORM's CARD OF 'amanuensislaw05.SeglogAcked'. -/
def seglogAckedUptoCard : Claim7 := { stood := { row := seglogAckedUptoRow, standIns := [], harness := (true, "825a473bbf0f007b3ac71cb28bd652951bcddbe955076d9ded1323e7294276fc"), looks := false }, kinds := [], alts := [], laidByText := true, laidKinds := [.data, .data, .data, .data, .pinned], laidTests := true, laidLooks := .later }
def SeglogAckedUptoCardSaid : Prop := Claim7.holds Tryz.pinned (.plain (OpenSpec.upto seglogAckedSpec)) seglogAckedUptoCard

/-- THE SECOND FORM's CARD OF 'amanuensislaw05.SeglogSizes'. -/
def seglogSizesUptoCard : Claim7 := { stood := { row := seglogSizesUptoRow, standIns := [], harness := (true, "825a473bbf0f007b3ac71cb28bd652951bcddbe955076d9ded1323e7294276fc"), looks := false }, kinds := [], alts := [], laidByText := true, laidKinds := [.data, .data, .data, .data, .pinned], laidTests := true, laidLooks := .later }
def SeglogSizesUptoCardSaid : Prop := Claim7.holds Tryz.pinned (.plain (OpenSpec.upto seglogSizesSpec)) seglogSizesUptoCard

/-- THE SECOND FORM's CARD OF 'amanuensislaw05.SeglogEnded'. -/
def seglogEndedUptoCard : Claim7 := { stood := { row := seglogEndedUptoRow, standIns := [], harness := (true, "825a473bbf0f007b3ac71cb28bd652951bcddbe955076d9ded1323e7294276fc"), looks := false }, kinds := [], alts := [], laidByText := true, laidKinds := [.data, .data, .data, .data, .pinned], laidTests := true, laidLooks := .later }
def SeglogEndedUptoCardSaid : Prop := Claim7.holds Tryz.pinned (.plain (OpenSpec.upto seglogEndedSpec)) seglogEndedUptoCard

/-- THE SECOND FORM's CARD OF 'amanuensislaw05.SeglogNone'. -/
def seglogNoneUptoCard : Claim7 := { stood := { row := seglogNoneUptoRow, standIns := [], harness := (true, "825a473bbf0f007b3ac71cb28bd652951bcddbe955076d9ded1323e7294276fc"), looks := false }, kinds := [], alts := [], laidByText := true, laidKinds := [.data, .data, .data, .data, .pinned], laidTests := true, laidLooks := .later }
def SeglogNoneUptoCardSaid : Prop := Claim7.holds Tryz.pinned (.plain (OpenSpec.upto seglogNoneSpec)) seglogNoneUptoCard

/-- THE SECOND FORM's CARD OF 'amanuensislaw05.SeglogPlays'. -/
def seglogPlaysUptoCard : Claim7 := { stood := { row := seglogPlaysUptoRow, standIns := [], harness := (true, "825a473bbf0f007b3ac71cb28bd652951bcddbe955076d9ded1323e7294276fc"), looks := false }, kinds := [], alts := [], laidByText := true, laidKinds := [.data, .data, .data, .data, .pinned], laidTests := true, laidLooks := .later }
def SeglogPlaysUptoCardSaid : Prop := Claim7.holds Tryz.pinned (.plain (OpenSpec.upto seglogPlaysSpec)) seglogPlaysUptoCard

/-- THE SECOND FORM's CARD OF 'amanuensislaw05.SeglogTells'. -/
def seglogTellsUptoCard : Claim7 := { stood := { row := seglogTellsUptoRow, standIns := [], harness := (true, "825a473bbf0f007b3ac71cb28bd652951bcddbe955076d9ded1323e7294276fc"), looks := false }, kinds := [], alts := [], laidByText := true, laidKinds := [.data, .data, .data, .data, .pinned], laidTests := true, laidLooks := .later }
def SeglogTellsUptoCardSaid : Prop := Claim7.holds Tryz.pinned (.plain (OpenSpec.upto seglogTellsSpec)) seglogTellsUptoCard

/-- THE SECOND FORM's CARD OF 'amanuensislaw05.SeglogPieces'. -/
def seglogPiecesUptoCard : Claim7 := { stood := { row := seglogPiecesUptoRow, standIns := [], harness := (true, "825a473bbf0f007b3ac71cb28bd652951bcddbe955076d9ded1323e7294276fc"), looks := false }, kinds := [], alts := [], laidByText := true, laidKinds := [.data, .data, .data, .data, .pinned], laidTests := true, laidLooks := .later }
def SeglogPiecesUptoCardSaid : Prop := Claim7.holds Tryz.pinned (.plain (OpenSpec.upto seglogPiecesSpec)) seglogPiecesUptoCard

/-- THE SECOND FORM's CARD OF 'amanuensislaw05.SeglogCuts'. -/
def seglogCutsUptoCard : Claim7 := { stood := { row := seglogCutsUptoRow, standIns := [], harness := (true, "825a473bbf0f007b3ac71cb28bd652951bcddbe955076d9ded1323e7294276fc"), looks := false }, kinds := [], alts := [], laidByText := true, laidKinds := [.data, .data, .data, .data, .pinned], laidTests := true, laidLooks := .later }
def SeglogCutsUptoCardSaid : Prop := Claim7.holds Tryz.pinned (.plain (OpenSpec.upto seglogCutsSpec)) seglogCutsUptoCard

/-- THE SECOND FORM's CARD OF 'amanuensislaw05.SeglogKeeps'. -/
def seglogKeepsUptoCard : Claim7 := { stood := { row := seglogKeepsUptoRow, standIns := [], harness := (true, "825a473bbf0f007b3ac71cb28bd652951bcddbe955076d9ded1323e7294276fc"), looks := false }, kinds := [], alts := [], laidByText := true, laidKinds := [.data, .data, .data, .data, .pinned], laidTests := true, laidLooks := .later }
def SeglogKeepsUptoCardSaid : Prop := Claim7.holds Tryz.pinned (.plain (OpenSpec.upto seglogKeepsSpec)) seglogKeepsUptoCard

/-- THE SECOND FORM's CARD OF 'amanuensislaw05.SeglogNumbers'. -/
def seglogNumbersUptoCard : Claim7 := { stood := { row := seglogNumbersUptoRow, standIns := [], harness := (true, "825a473bbf0f007b3ac71cb28bd652951bcddbe955076d9ded1323e7294276fc"), looks := false }, kinds := [], alts := [], laidByText := true, laidKinds := [.data, .data, .data, .data, .pinned], laidTests := true, laidLooks := .later }
def SeglogNumbersUptoCardSaid : Prop := Claim7.holds Tryz.pinned (.plain (OpenSpec.upto seglogNumbersSpec)) seglogNumbersUptoCard
end Rows
end Go.Proofs.YtoikjiojhlfgiaaGreatDoor
