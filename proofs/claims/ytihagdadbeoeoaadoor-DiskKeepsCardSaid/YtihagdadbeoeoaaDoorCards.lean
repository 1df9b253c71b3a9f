/-
  DERIVED. GIVEN WITH THE SEED: THE CARDS: each row of YtihagdadbeoeoaaDoorRows.lean that lists a variable, with what it lists TIED to the program's text (the seventh form; the later family's looks); each row that meets fmt, with fmt's text TOLD by the authors' own Lean function (tested against real Go, not proved from fmt's source: count such statements apart). THE CARD IS WHAT COUNTS. Prove the row's statement (the work); the ties are given (YtihagdadbeoeoaaDoorTie.lean); close each card by the builder's one call (the guide's Derived/Test/ToyasCard.lean, 'card_holds'). Laid BY PROGRAM, IN A SANDBOX (cutbox-door.mjs). By AI agents, Wed Nov 11 2026. No macro, syntax, notation, axiom, sorry.
-/
import Derived.Test.YtihagdadbeoeoaaDoorRows
import GoSem.ClaimSeven
namespace Go.Proofs.YtihagdadbeoeoaaDoor
namespace Rows

/-- THE TIED CARD OF 'amanuensislaw02.DiskKeeps'. -/
def diskKeepsCard : Claim7 := { stood := { row := diskKeepsRow, standIns := [], harness := (true, "6364430141c45e73b882006147c5e4aac96fea5ab3113492b53105bc61e165dd"), looks := false }, kinds := [], alts := [], laidByText := true, laidKinds := [.data, .pinned], laidTests := true, laidLooks := .later }
def DiskKeepsCardSaid : Prop := Claim7.holds Tryd.pinned (.plain (OpenSpec.ofChange diskKeepsSpec)) diskKeepsCard

/-- THE TIED CARD OF 'amanuensislaw02.DiskJoin'. -/
def diskJoinCard : Claim7 := { stood := { row := diskJoinRow, standIns := [], harness := (true, "6364430141c45e73b882006147c5e4aac96fea5ab3113492b53105bc61e165dd"), looks := false }, kinds := [], alts := [], laidByText := true, laidKinds := [.data, .pinned], laidTests := true, laidLooks := .later }
def DiskJoinCardSaid : Prop := Claim7.holds Tryd.pinned (.plain (OpenSpec.ofChange diskJoinSpec)) diskJoinCard

/-- THE TIED CARD OF 'amanuensislaw02.DiskRename'. -/
def diskRenameCard : Claim7 := { stood := { row := diskRenameRow, standIns := [], harness := (true, "6364430141c45e73b882006147c5e4aac96fea5ab3113492b53105bc61e165dd"), looks := false }, kinds := [], alts := [], laidByText := true, laidKinds := [.data, .pinned], laidTests := true, laidLooks := .later }
def DiskRenameCardSaid : Prop := Claim7.holds Tryd.pinned (.plain (OpenSpec.ofChange diskRenameSpec)) diskRenameCard

/-- THE TIED CARD OF 'amanuensislaw02.DiskPlays'. -/
def diskPlaysCard : Claim7 := { stood := { row := diskPlaysRow, standIns := [], harness := (true, "6364430141c45e73b882006147c5e4aac96fea5ab3113492b53105bc61e165dd"), looks := false }, kinds := [], alts := [], laidByText := true, laidKinds := [.data, .pinned], laidTests := true, laidLooks := .later }
def DiskPlaysCardSaid : Prop := Claim7.holds Tryd.pinned (.plain (OpenSpec.ofChange diskPlaysSpec)) diskPlaysCard

/-- THE TIED CARD OF 'amanuensislaw02.DiskNone'. -/
def diskNoneCard : Claim7 := { stood := { row := diskNoneRow, standIns := [], harness := (true, "6364430141c45e73b882006147c5e4aac96fea5ab3113492b53105bc61e165dd"), looks := false }, kinds := [], alts := [], laidByText := true, laidKinds := [.data, .pinned], laidTests := true, laidLooks := .later }
def DiskNoneCardSaid : Prop := Claim7.holds Tryd.pinned (.plain (OpenSpec.ofChange diskNoneSpec)) diskNoneCard

/-- THE TIED CARD OF 'amanuensislaw02.DiskApart'. -/
def diskApartCard : Claim7 := { stood := { row := diskApartRow, standIns := [], harness := (true, "6364430141c45e73b882006147c5e4aac96fea5ab3113492b53105bc61e165dd"), looks := false }, kinds := [], alts := [], laidByText := true, laidKinds := [.data, .pinned], laidTests := true, laidLooks := .later }
def DiskApartCardSaid : Prop := Claim7.holds Tryd.pinned (.plain (OpenSpec.ofChange diskApartSpec)) diskApartCard

/-- THE TIED CARD OF 'amanuensislaw02.DiskTwice'. -/
def diskTwiceCard : Claim7 := { stood := { row := diskTwiceRow, standIns := [], harness := (true, "6364430141c45e73b882006147c5e4aac96fea5ab3113492b53105bc61e165dd"), looks := false }, kinds := [], alts := [], laidByText := true, laidKinds := [.data, .pinned], laidTests := true, laidLooks := .later }
def DiskTwiceCardSaid : Prop := Claim7.holds Tryd.pinned (.plain (OpenSpec.ofChange diskTwiceSpec)) diskTwiceCard

/-- THE TIED CARD OF 'amanuensislaw02.DiskMore'. -/
def diskMoreCard : Claim7 := { stood := { row := diskMoreRow, standIns := [], harness := (true, "6364430141c45e73b882006147c5e4aac96fea5ab3113492b53105bc61e165dd"), looks := false }, kinds := [], alts := [], laidByText := true, laidKinds := [.data, .pinned], laidTests := true, laidLooks := .later }
def DiskMoreCardSaid : Prop := Claim7.holds Tryd.pinned (.plain (OpenSpec.ofChange diskMoreSpec)) diskMoreCard

/-- THE TIED CARD OF 'amanuensislaw02.DiskRefused'. -/
def diskRefusedCard : Claim7 := { stood := { row := diskRefusedRow, standIns := [], harness := (true, "6364430141c45e73b882006147c5e4aac96fea5ab3113492b53105bc61e165dd"), looks := false }, kinds := [], alts := [], laidByText := true, laidKinds := [.data, .pinned], laidTests := true, laidLooks := .later }
def DiskRefusedCardSaid : Prop := Claim7.holds Tryd.pinned (.plain (OpenSpec.ofChange diskRefusedSpec)) diskRefusedCard

/-- THE TIED CARD OF 'amanuensislaw02.DiskNumbers'. -/
def diskNumbersCard : Claim7 := { stood := { row := diskNumbersRow, standIns := [], harness := (true, "6364430141c45e73b882006147c5e4aac96fea5ab3113492b53105bc61e165dd"), looks := false }, kinds := [], alts := [], laidByText := true, laidKinds := [.data, .pinned], laidTests := true, laidLooks := .later }
def DiskNumbersCardSaid : Prop := Claim7.holds Tryd.pinned (.plain (OpenSpec.ofChange diskNumbersSpec)) diskNumbersCard

/-- THE SECOND FORM's CARD OF 'amanuensislaw02.DiskKeeps'. -/
def diskKeepsUptoCard : Claim7 := { stood := { row := diskKeepsUptoRow, standIns := [], harness := (true, "6364430141c45e73b882006147c5e4aac96fea5ab3113492b53105bc61e165dd"), looks := false }, kinds := [], alts := [], laidByText := true, laidKinds := [.data, .pinned], laidTests := true, laidLooks := .later }
def DiskKeepsUptoCardSaid : Prop := Claim7.holds Tryd.pinned (.plain (OpenSpec.upto diskKeepsSpec)) diskKeepsUptoCard

/-- THE SECOND FORM's CARD OF 'amanuensislaw02.DiskJoin'. -/
def diskJoinUptoCard : Claim7 := { stood := { row := diskJoinUptoRow, standIns := [], harness := (true, "6364430141c45e73b882006147c5e4aac96fea5ab3113492b53105bc61e165dd"), looks := false }, kinds := [], alts := [], laidByText := true, laidKinds := [.data, .pinned], laidTests := true, laidLooks := .later }
def DiskJoinUptoCardSaid : Prop := Claim7.holds Tryd.pinned (.plain (OpenSpec.upto diskJoinSpec)) diskJoinUptoCard

/-- THE SECOND FORM's CARD OF 'amanuensislaw02.DiskRename'. -/
def diskRenameUptoCard : Claim7 := { stood := { row := diskRenameUptoRow, standIns := [], harness := (true, "6364430141c45e73b882006147c5e4aac96fea5ab3113492b53105bc61e165dd"), looks := false }, kinds := [], alts := [], laidByText := true, laidKinds := [.data, .pinned], laidTests := true, laidLooks := .later }
def DiskRenameUptoCardSaid : Prop := Claim7.holds Tryd.pinned (.plain (OpenSpec.upto diskRenameSpec)) diskRenameUptoCard

/-- THE SECOND FORM's CARD OF 'amanuensislaw02.DiskPlays'. -/
def diskPlaysUptoCard : Claim7 := { stood := { row := diskPlaysUptoRow, standIns := [], harness := (true, "6364430141c45e73b882006147c5e4aac96fea5ab3113492b53105bc61e165dd"), looks := false }, kinds := [], alts := [], laidByText := true, laidKinds := [.data, .pinned], laidTests := true, laidLooks := .later }
def DiskPlaysUptoCardSaid : Prop := Claim7.holds Tryd.pinned (.plain (OpenSpec.upto diskPlaysSpec)) diskPlaysUptoCard

/-- THE SECOND FORM's CARD OF 'amanuensislaw02.DiskNone'. -/
def diskNoneUptoCard : Claim7 := { stood := { row := diskNoneUptoRow, standIns := [], harness := (true, "6364430141c45e73b882006147c5e4aac96fea5ab3113492b53105bc61e165dd"), looks := false }, kinds := [], alts := [], laidByText := true, laidKinds := [.data, .pinned], laidTests := true, laidLooks := .later }
def DiskNoneUptoCardSaid : Prop := Claim7.holds Tryd.pinned (.plain (OpenSpec.upto diskNoneSpec)) diskNoneUptoCard

/-- THE SECOND FORM's CARD OF 'amanuensislaw02.DiskApart'. -/
def diskApartUptoCard : Claim7 := { stood := { row := diskApartUptoRow, standIns := [], harness := (true, "6364430141c45e73b882006147c5e4aac96fea5ab3113492b53105bc61e165dd"), looks := false }, kinds := [], alts := [], laidByText := true, laidKinds := [.data, .pinned], laidTests := true, laidLooks := .later }
def DiskApartUptoCardSaid : Prop := Claim7.holds Tryd.pinned (.plain (OpenSpec.upto diskApartSpec)) diskApartUptoCard

/-- THE SECOND FORM's CARD OF 'amanuensislaw02.DiskTwice'. -/
def diskTwiceUptoCard : Claim7 := { stood := { row := diskTwiceUptoRow, standIns := [], harness := (true, "6364430141c45e73b882006147c5e4aac96fea5ab3113492b53105bc61e165dd"), looks := false }, kinds := [], alts := [], laidByText := true, laidKinds := [.data, .pinned], laidTests := true, laidLooks := .later }
def DiskTwiceUptoCardSaid : Prop := Claim7.holds Tryd.pinned (.plain (OpenSpec.upto diskTwiceSpec)) diskTwiceUptoCard

/-- THE SECOND FORM's CARD OF 'amanuensislaw02.DiskMore'. -/
def diskMoreUptoCard : Claim7 := { stood := { row := diskMoreUptoRow, standIns := [], harness := (true, "6364430141c45e73b882006147c5e4aac96fea5ab3113492b53105bc61e165dd"), looks := false }, kinds := [], alts := [], laidByText := true, laidKinds := [.data, .pinned], laidTests := true, laidLooks := .later }
def DiskMoreUptoCardSaid : Prop := Claim7.holds Tryd.pinned (.plain (OpenSpec.upto diskMoreSpec)) diskMoreUptoCard

/-- THE SECOND FORM's CARD OF 'amanuensislaw02.DiskRefused'. -/
def diskRefusedUptoCard : Claim7 := { stood := { row := diskRefusedUptoRow, standIns := [], harness := (true, "6364430141c45e73b882006147c5e4aac96fea5ab3113492b53105bc61e165dd"), looks := false }, kinds := [], alts := [], laidByText := true, laidKinds := [.data, .pinned], laidTests := true, laidLooks := .later }
def DiskRefusedUptoCardSaid : Prop := Claim7.holds Tryd.pinned (.plain (OpenSpec.upto diskRefusedSpec)) diskRefusedUptoCard

/-- THE SECOND FORM's CARD OF 'amanuensislaw02.DiskNumbers'. -/
def diskNumbersUptoCard : Claim7 := { stood := { row := diskNumbersUptoRow, standIns := [], harness := (true, "6364430141c45e73b882006147c5e4aac96fea5ab3113492b53105bc61e165dd"), looks := false }, kinds := [], alts := [], laidByText := true, laidKinds := [.data, .pinned], laidTests := true, laidLooks := .later }
def DiskNumbersUptoCardSaid : Prop := Claim7.holds Tryd.pinned (.plain (OpenSpec.upto diskNumbersSpec)) diskNumbersUptoCard
end Rows
end Go.Proofs.YtihagdadbeoeoaaDoor
