/-
  DERIVED. GIVEN WITH THE SEED: THE CARDS: each row of YtkbenkldfehhlaaGreatDoorRows.lean that lists a variable, with what it lists TIED to the program's text (the seventh form; the later family's looks); each row that meets fmt, with fmt's text TOLD by the authors' own Lean function (tested against real Go, not proved from fmt's source: count such statements apart). THE CARD IS WHAT COUNTS. Prove the row's statement (the work); the ties are given (YtkbenkldfehhlaaGreatDoorTie.lean); close each card by the builder's one call (the guide's Derived/Test/ToyasCard.lean, 'card_holds'). Laid BY PROGRAM, IN A SANDBOX (cutbox-door.mjs). By AI agents, Wed Nov 11 2026. No macro, syntax, notation, axiom, sorry.
-/
import Derived.Test.YtkbenkldfehhlaaGreatDoorRows
import GoSem.ClaimSeven
namespace Go.Proofs.YtkbenkldfehhlaaGreatDoor
namespace Rows

/-- THE TIED CARD OF 'amanuensislaw06.RecoverTells'. -/
def recoverTellsCard : Claim7 := { stood := { row := recoverTellsRow, standIns := [], harness := (true, "d5d5d3fa9c6ef60ce37347ca5cf7618118109a480757fddf3d68154d35e84dcf"), looks := false }, kinds := [], alts := [], laidByText := true, laidKinds := [.data, .data, .data, .data, .pinned], laidTests := true, laidLooks := .later }
def RecoverTellsCardSaid : Prop := Claim7.holds Tryz.pinned (.plain (OpenSpec.ofChange recoverTellsSpec)) recoverTellsCard

/-- THE TIED CARD OF 'amanuensislaw05.SeglogPlays'. -/
def seglogPlaysCard : Claim7 := { stood := { row := seglogPlaysRow, standIns := [], harness := (true, "d5d5d3fa9c6ef60ce37347ca5cf7618118109a480757fddf3d68154d35e84dcf"), looks := false }, kinds := [], alts := [], laidByText := true, laidKinds := [.data, .data, .data, .data, .pinned], laidTests := true, laidLooks := .later }
def SeglogPlaysCardSaid : Prop := Claim7.holds Tryz.pinned (.plain (OpenSpec.ofChange seglogPlaysSpec)) seglogPlaysCard

/-- THE SECOND FORM's CARD OF 'amanuensislaw06.RecoverTells'. -/
def recoverTellsUptoCard : Claim7 := { stood := { row := recoverTellsUptoRow, standIns := [], harness := (true, "d5d5d3fa9c6ef60ce37347ca5cf7618118109a480757fddf3d68154d35e84dcf"), looks := false }, kinds := [], alts := [], laidByText := true, laidKinds := [.data, .data, .data, .data, .pinned], laidTests := true, laidLooks := .later }
def RecoverTellsUptoCardSaid : Prop := Claim7.holds Tryz.pinned (.plain (OpenSpec.upto recoverTellsSpec)) recoverTellsUptoCard

/-- THE SECOND FORM's CARD OF 'amanuensislaw05.SeglogPlays'. -/
def seglogPlaysUptoCard : Claim7 := { stood := { row := seglogPlaysUptoRow, standIns := [], harness := (true, "d5d5d3fa9c6ef60ce37347ca5cf7618118109a480757fddf3d68154d35e84dcf"), looks := false }, kinds := [], alts := [], laidByText := true, laidKinds := [.data, .data, .data, .data, .pinned], laidTests := true, laidLooks := .later }
def SeglogPlaysUptoCardSaid : Prop := Claim7.holds Tryz.pinned (.plain (OpenSpec.upto seglogPlaysSpec)) seglogPlaysUptoCard
end Rows
end Go.Proofs.YtkbenkldfehhlaaGreatDoor
