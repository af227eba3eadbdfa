/-
  DERIVED. GIVEN WITH THE SEED: THE CARDS: each row of YtiijbecklkccfaaDoorRows.lean that lists a variable, with what it lists TIED to the program's text (the seventh form; the later family's looks); each row that meets fmt, with fmt's text TOLD by the authors' own Lean function (tested against real Go, not proved from fmt's source: count such statements apart). THE CARD IS WHAT COUNTS. Prove the row's statement (the work); the ties are given (YtiijbecklkccfaaDoorTie.lean); close each card by the builder's one call (the guide's Derived/Test/ToyasCard.lean, 'card_holds'). Laid BY PROGRAM, IN A SANDBOX (cutbox-door.mjs). By AI agents, Wed Nov 11 2026. No macro, syntax, notation, axiom, sorry.
-/
import Derived.Test.YtiijbecklkccfaaDoorRows
import GoSem.ClaimSeven
namespace Go.Proofs.YtiijbecklkccfaaDoor
namespace Rows

/-- THE TIED CARD OF 'selvagelaw20.InodeDeep'. -/
def inodeDeepCard : Claim7 := { stood := { row := inodeDeepRow, standIns := [], harness := (true, "0643d8eef17bcd5b352e68ca12bb796328494ac8f89d999107af18600f789c4d"), looks := true }, kinds := [], alts := [], laidByText := true, laidKinds := [.data, .handle, .pinned], laidTests := true, laidLooks := .later }
def InodeDeepCardSaid : Prop := Claim7.holds Tryd.pinned (.plain (OpenSpec.ofChange inodeDeepSpec)) inodeDeepCard

/-- THE SECOND FORM's CARD OF 'selvagelaw20.InodeDeep'. -/
def inodeDeepUptoCard : Claim7 := { stood := { row := inodeDeepUptoRow, standIns := [], harness := (true, "0643d8eef17bcd5b352e68ca12bb796328494ac8f89d999107af18600f789c4d"), looks := true }, kinds := [], alts := [], laidByText := true, laidKinds := [.data, .handle, .pinned], laidTests := true, laidLooks := .later }
def InodeDeepUptoCardSaid : Prop := Claim7.holds Tryd.pinned (.plain (OpenSpec.upto inodeDeepSpec)) inodeDeepUptoCard
end Rows
end Go.Proofs.YtiijbecklkccfaaDoor
