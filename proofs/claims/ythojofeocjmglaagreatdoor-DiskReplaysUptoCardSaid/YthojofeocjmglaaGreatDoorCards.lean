/-
  DERIVED. GIVEN WITH THE SEED: THE CARDS: each row of YthojofeocjmglaaGreatDoorRows.lean that lists a variable, with what it lists TIED to the program's text (the seventh form; the later family's looks); each row that meets fmt, with fmt's text TOLD by the authors' own Lean function (tested against real Go, not proved from fmt's source: count such statements apart). THE CARD IS WHAT COUNTS. Prove the row's statement (the work); the ties are given (YthojofeocjmglaaGreatDoorTie.lean); close each card by the builder's one call (the guide's Derived/Test/ToyasCard.lean, 'card_holds'). Laid BY PROGRAM, IN A SANDBOX (cutbox-door.mjs). By AI agents, Wed Nov 11 2026. No macro, syntax, notation, axiom, sorry.
-/
import Derived.Test.YthojofeocjmglaaGreatDoorRows
import GoSem.ClaimSeven
namespace Go.Proofs.YthojofeocjmglaaGreatDoor
namespace Rows

/-- THE TIED CARD OF 'selvagelaw21.DiskReplays'. -/
def diskReplaysCard : Claim7 := { stood := { row := diskReplaysRow, standIns := [], harness := (true, "4fb286194c13e4dcaa4840a0d8ddad5c6af653099e34903ac778eafedcf5ee79"), looks := true }, kinds := [], alts := [], laidByText := true, laidKinds := [.data, .pinned], laidTests := true, laidLooks := .later }
def DiskReplaysCardSaid : Prop := Claim7.holds Tryz.pinned (.plain (OpenSpec.ofChange diskReplaysSpec)) diskReplaysCard

/-- THE TIED CARD OF 'selvagelaw21.DiskCrash'. -/
def diskCrashCard : Claim7 := { stood := { row := diskCrashRow, standIns := [], harness := (true, "4fb286194c13e4dcaa4840a0d8ddad5c6af653099e34903ac778eafedcf5ee79"), looks := true }, kinds := [], alts := [], laidByText := true, laidKinds := [.data, .handle, .pinned], laidTests := true, laidLooks := .later }
def DiskCrashCardSaid : Prop := Claim7.holds Tryz.pinned (.plain (OpenSpec.ofChange diskCrashSpec)) diskCrashCard

/-- THE TIED CARD OF 'selvagelaw21.DiskFails'. -/
def diskFailsCard : Claim7 := { stood := { row := diskFailsRow, standIns := [], harness := (true, "4fb286194c13e4dcaa4840a0d8ddad5c6af653099e34903ac778eafedcf5ee79"), looks := true }, kinds := [], alts := [], laidByText := true, laidKinds := [.data, .handle, .pinned], laidTests := true, laidLooks := .later }
def DiskFailsCardSaid : Prop := Claim7.holds Tryz.pinned (.plain (OpenSpec.ofChange diskFailsSpec)) diskFailsCard

/-- THE TIED CARD OF 'selvagelaw21.DiskActs'. -/
def diskActsCard : Claim7 := { stood := { row := diskActsRow, standIns := [], harness := (true, "4fb286194c13e4dcaa4840a0d8ddad5c6af653099e34903ac778eafedcf5ee79"), looks := true }, kinds := [], alts := [], laidByText := true, laidKinds := [.data, .handle, .pinned], laidTests := true, laidLooks := .later }
def DiskActsCardSaid : Prop := Claim7.holds Tryz.pinned (.plain (OpenSpec.ofChange diskActsSpec)) diskActsCard

/-- THE TIED CARD OF 'selvagelaw21.DiskClones'. -/
def diskClonesCard : Claim7 := { stood := { row := diskClonesRow, standIns := [], harness := (true, "4fb286194c13e4dcaa4840a0d8ddad5c6af653099e34903ac778eafedcf5ee79"), looks := true }, kinds := [], alts := [], laidByText := true, laidKinds := [.data, .handle, .pinned], laidTests := true, laidLooks := .later }
def DiskClonesCardSaid : Prop := Claim7.holds Tryz.pinned (.plain (OpenSpec.ofChange diskClonesSpec)) diskClonesCard

/-- THE TIED CARD OF 'selvagelaw21.DiskLogs'. -/
def diskLogsCard : Claim7 := { stood := { row := diskLogsRow, standIns := [], harness := (true, "4fb286194c13e4dcaa4840a0d8ddad5c6af653099e34903ac778eafedcf5ee79"), looks := true }, kinds := [], alts := [], laidByText := true, laidKinds := [.data, .handle, .pinned], laidTests := true, laidLooks := .later }
def DiskLogsCardSaid : Prop := Claim7.holds Tryz.pinned (.plain (OpenSpec.ofChange diskLogsSpec)) diskLogsCard

/-- THE SECOND FORM's CARD OF 'selvagelaw21.DiskReplays'. -/
def diskReplaysUptoCard : Claim7 := { stood := { row := diskReplaysUptoRow, standIns := [], harness := (true, "4fb286194c13e4dcaa4840a0d8ddad5c6af653099e34903ac778eafedcf5ee79"), looks := true }, kinds := [], alts := [], laidByText := true, laidKinds := [.data, .pinned], laidTests := true, laidLooks := .later }
def DiskReplaysUptoCardSaid : Prop := Claim7.holds Tryz.pinned (.plain (OpenSpec.upto diskReplaysSpec)) diskReplaysUptoCard

/-- THE SECOND FORM's CARD OF 'selvagelaw21.DiskCrash'. -/
def diskCrashUptoCard : Claim7 := { stood := { row := diskCrashUptoRow, standIns := [], harness := (true, "4fb286194c13e4dcaa4840a0d8ddad5c6af653099e34903ac778eafedcf5ee79"), looks := true }, kinds := [], alts := [], laidByText := true, laidKinds := [.data, .handle, .pinned], laidTests := true, laidLooks := .later }
def DiskCrashUptoCardSaid : Prop := Claim7.holds Tryz.pinned (.plain (OpenSpec.upto diskCrashSpec)) diskCrashUptoCard

/-- THE SECOND FORM's CARD OF 'selvagelaw21.DiskFails'. -/
def diskFailsUptoCard : Claim7 := { stood := { row := diskFailsUptoRow, standIns := [], harness := (true, "4fb286194c13e4dcaa4840a0d8ddad5c6af653099e34903ac778eafedcf5ee79"), looks := true }, kinds := [], alts := [], laidByText := true, laidKinds := [.data, .handle, .pinned], laidTests := true, laidLooks := .later }
def DiskFailsUptoCardSaid : Prop := Claim7.holds Tryz.pinned (.plain (OpenSpec.upto diskFailsSpec)) diskFailsUptoCard

/-- THE SECOND FORM's CARD OF 'selvagelaw21.DiskActs'. -/
def diskActsUptoCard : Claim7 := { stood := { row := diskActsUptoRow, standIns := [], harness := (true, "4fb286194c13e4dcaa4840a0d8ddad5c6af653099e34903ac778eafedcf5ee79"), looks := true }, kinds := [], alts := [], laidByText := true, laidKinds := [.data, .handle, .pinned], laidTests := true, laidLooks := .later }
def DiskActsUptoCardSaid : Prop := Claim7.holds Tryz.pinned (.plain (OpenSpec.upto diskActsSpec)) diskActsUptoCard

/-- THE SECOND FORM's CARD OF 'selvagelaw21.DiskClones'. -/
def diskClonesUptoCard : Claim7 := { stood := { row := diskClonesUptoRow, standIns := [], harness := (true, "4fb286194c13e4dcaa4840a0d8ddad5c6af653099e34903ac778eafedcf5ee79"), looks := true }, kinds := [], alts := [], laidByText := true, laidKinds := [.data, .handle, .pinned], laidTests := true, laidLooks := .later }
def DiskClonesUptoCardSaid : Prop := Claim7.holds Tryz.pinned (.plain (OpenSpec.upto diskClonesSpec)) diskClonesUptoCard

/-- THE SECOND FORM's CARD OF 'selvagelaw21.DiskLogs'. -/
def diskLogsUptoCard : Claim7 := { stood := { row := diskLogsUptoRow, standIns := [], harness := (true, "4fb286194c13e4dcaa4840a0d8ddad5c6af653099e34903ac778eafedcf5ee79"), looks := true }, kinds := [], alts := [], laidByText := true, laidKinds := [.data, .handle, .pinned], laidTests := true, laidLooks := .later }
def DiskLogsUptoCardSaid : Prop := Claim7.holds Tryz.pinned (.plain (OpenSpec.upto diskLogsSpec)) diskLogsUptoCard
end Rows
end Go.Proofs.YthojofeocjmglaaGreatDoor
