/-
  DERIVED. GIVEN WITH THE SEED: THE CARDS: each row of YtiijbecklkccfaaGreatDoorRows.lean that lists a variable, with what it lists TIED to the program's text (the seventh form; the later family's looks); each row that meets fmt, with fmt's text TOLD by the authors' own Lean function (tested against real Go, not proved from fmt's source: count such statements apart). THE CARD IS WHAT COUNTS. Prove the row's statement (the work); the ties are given (YtiijbecklkccfaaGreatDoorTie.lean); close each card by the builder's one call (the guide's Derived/Test/ToyasCard.lean, 'card_holds'). Laid BY PROGRAM, IN A SANDBOX (cutbox-door.mjs). By AI agents, Wed Nov 11 2026. No macro, syntax, notation, axiom, sorry.
-/
import Derived.Test.YtiijbecklkccfaaGreatDoorRows
import GoSem.ClaimSeven
namespace Go.Proofs.YtiijbecklkccfaaGreatDoor
namespace Rows

/-- THE TIED CARD OF 'selvagelaw20.InodeKeeps'. -/
def inodeKeepsCard : Claim7 := { stood := { row := inodeKeepsRow, standIns := [], harness := (true, "434d95dd3be24c48ba6321b0776853c95f49e18151149cf9124a5140ad4c5126"), looks := true }, kinds := [], alts := [], laidByText := true, laidKinds := [.data, .handle, .pinned], laidTests := true, laidLooks := .later }
def InodeKeepsCardSaid : Prop := Claim7.holds Tryz.pinned (.plain (OpenSpec.ofChange inodeKeepsSpec)) inodeKeepsCard

/-- THE TIED CARD OF 'selvagelaw20.InodeAnew'. -/
def inodeAnewCard : Claim7 := { stood := { row := inodeAnewRow, standIns := [], harness := (true, "434d95dd3be24c48ba6321b0776853c95f49e18151149cf9124a5140ad4c5126"), looks := true }, kinds := [], alts := [], laidByText := true, laidKinds := [.data, .handle, .pinned], laidTests := true, laidLooks := .later }
def InodeAnewCardSaid : Prop := Claim7.holds Tryz.pinned (.plain (OpenSpec.ofChange inodeAnewSpec)) inodeAnewCard

/-- THE TIED CARD OF 'selvagelaw20.InodeOwn'. -/
def inodeOwnCard : Claim7 := { stood := { row := inodeOwnRow, standIns := [], harness := (true, "434d95dd3be24c48ba6321b0776853c95f49e18151149cf9124a5140ad4c5126"), looks := true }, kinds := [], alts := [], laidByText := true, laidKinds := [.data, .handle, .pinned], laidTests := true, laidLooks := .later }
def InodeOwnCardSaid : Prop := Claim7.holds Tryz.pinned (.plain (OpenSpec.ofChange inodeOwnSpec)) inodeOwnCard

/-- THE TIED CARD OF 'selvagelaw20.InodePlays'. -/
def inodePlaysCard : Claim7 := { stood := { row := inodePlaysRow, standIns := [], harness := (true, "434d95dd3be24c48ba6321b0776853c95f49e18151149cf9124a5140ad4c5126"), looks := true }, kinds := [], alts := [], laidByText := true, laidKinds := [.data, .handle, .pinned], laidTests := true, laidLooks := .later }
def InodePlaysCardSaid : Prop := Claim7.holds Tryz.pinned (.plain (OpenSpec.ofChange inodePlaysSpec)) inodePlaysCard

/-- THE TIED CARD OF 'selvagelaw20.InodeApart'. -/
def inodeApartCard : Claim7 := { stood := { row := inodeApartRow, standIns := [], harness := (true, "434d95dd3be24c48ba6321b0776853c95f49e18151149cf9124a5140ad4c5126"), looks := true }, kinds := [], alts := [], laidByText := true, laidKinds := [.data, .handle, .pinned], laidTests := true, laidLooks := .later }
def InodeApartCardSaid : Prop := Claim7.holds Tryz.pinned (.plain (OpenSpec.ofChange inodeApartSpec)) inodeApartCard

/-- THE TIED CARD OF 'selvagelaw20.InodeBack'. -/
def inodeBackCard : Claim7 := { stood := { row := inodeBackRow, standIns := [], harness := (true, "434d95dd3be24c48ba6321b0776853c95f49e18151149cf9124a5140ad4c5126"), looks := true }, kinds := [], alts := [], laidByText := true, laidKinds := [.data, .handle, .pinned], laidTests := true, laidLooks := .later }
def InodeBackCardSaid : Prop := Claim7.holds Tryz.pinned (.plain (OpenSpec.ofChange inodeBackSpec)) inodeBackCard

/-- THE SECOND FORM's CARD OF 'selvagelaw20.InodeKeeps'. -/
def inodeKeepsUptoCard : Claim7 := { stood := { row := inodeKeepsUptoRow, standIns := [], harness := (true, "434d95dd3be24c48ba6321b0776853c95f49e18151149cf9124a5140ad4c5126"), looks := true }, kinds := [], alts := [], laidByText := true, laidKinds := [.data, .handle, .pinned], laidTests := true, laidLooks := .later }
def InodeKeepsUptoCardSaid : Prop := Claim7.holds Tryz.pinned (.plain (OpenSpec.upto inodeKeepsSpec)) inodeKeepsUptoCard

/-- THE SECOND FORM's CARD OF 'selvagelaw20.InodeAnew'. -/
def inodeAnewUptoCard : Claim7 := { stood := { row := inodeAnewUptoRow, standIns := [], harness := (true, "434d95dd3be24c48ba6321b0776853c95f49e18151149cf9124a5140ad4c5126"), looks := true }, kinds := [], alts := [], laidByText := true, laidKinds := [.data, .handle, .pinned], laidTests := true, laidLooks := .later }
def InodeAnewUptoCardSaid : Prop := Claim7.holds Tryz.pinned (.plain (OpenSpec.upto inodeAnewSpec)) inodeAnewUptoCard

/-- THE SECOND FORM's CARD OF 'selvagelaw20.InodeOwn'. -/
def inodeOwnUptoCard : Claim7 := { stood := { row := inodeOwnUptoRow, standIns := [], harness := (true, "434d95dd3be24c48ba6321b0776853c95f49e18151149cf9124a5140ad4c5126"), looks := true }, kinds := [], alts := [], laidByText := true, laidKinds := [.data, .handle, .pinned], laidTests := true, laidLooks := .later }
def InodeOwnUptoCardSaid : Prop := Claim7.holds Tryz.pinned (.plain (OpenSpec.upto inodeOwnSpec)) inodeOwnUptoCard

/-- THE SECOND FORM's CARD OF 'selvagelaw20.InodePlays'. -/
def inodePlaysUptoCard : Claim7 := { stood := { row := inodePlaysUptoRow, standIns := [], harness := (true, "434d95dd3be24c48ba6321b0776853c95f49e18151149cf9124a5140ad4c5126"), looks := true }, kinds := [], alts := [], laidByText := true, laidKinds := [.data, .handle, .pinned], laidTests := true, laidLooks := .later }
def InodePlaysUptoCardSaid : Prop := Claim7.holds Tryz.pinned (.plain (OpenSpec.upto inodePlaysSpec)) inodePlaysUptoCard

/-- THE SECOND FORM's CARD OF 'selvagelaw20.InodeApart'. -/
def inodeApartUptoCard : Claim7 := { stood := { row := inodeApartUptoRow, standIns := [], harness := (true, "434d95dd3be24c48ba6321b0776853c95f49e18151149cf9124a5140ad4c5126"), looks := true }, kinds := [], alts := [], laidByText := true, laidKinds := [.data, .handle, .pinned], laidTests := true, laidLooks := .later }
def InodeApartUptoCardSaid : Prop := Claim7.holds Tryz.pinned (.plain (OpenSpec.upto inodeApartSpec)) inodeApartUptoCard

/-- THE SECOND FORM's CARD OF 'selvagelaw20.InodeBack'. -/
def inodeBackUptoCard : Claim7 := { stood := { row := inodeBackUptoRow, standIns := [], harness := (true, "434d95dd3be24c48ba6321b0776853c95f49e18151149cf9124a5140ad4c5126"), looks := true }, kinds := [], alts := [], laidByText := true, laidKinds := [.data, .handle, .pinned], laidTests := true, laidLooks := .later }
def InodeBackUptoCardSaid : Prop := Claim7.holds Tryz.pinned (.plain (OpenSpec.upto inodeBackSpec)) inodeBackUptoCard
end Rows
end Go.Proofs.YtiijbecklkccfaaGreatDoor
