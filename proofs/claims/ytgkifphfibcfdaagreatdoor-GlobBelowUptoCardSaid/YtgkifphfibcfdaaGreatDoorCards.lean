/-
  DERIVED. GIVEN WITH THE SEED: THE CARDS: each row of YtgkifphfibcfdaaGreatDoorRows.lean that lists a variable, with what it lists TIED to the program's text (the seventh form; the later family's looks); each row that meets fmt, with fmt's text TOLD by the authors' own Lean function (tested against real Go, not proved from fmt's source: count such statements apart). THE CARD IS WHAT COUNTS. Prove the row's statement (the work); the ties are given (YtgkifphfibcfdaaGreatDoorTie.lean); close each card by the builder's one call (the guide's Derived/Test/ToyasCard.lean, 'card_holds'). Laid BY PROGRAM, IN A SANDBOX (cutbox-door.mjs). By AI agents, Wed Nov 11 2026. No macro, syntax, notation, axiom, sorry.
-/
import Derived.Test.YtgkifphfibcfdaaGreatDoorRows
import GoSem.ClaimSeven
namespace Go.Proofs.YtgkifphfibcfdaaGreatDoor
namespace Rows

/-- THE TIED CARD OF 'selvagelaw04.GlobMeans'. -/
def globMeansCard : Claim7 := { stood := { row := globMeansRow, standIns := [], harness := (true, "12fdc178baa4609f259d1f48ee0ae738cc22092ffbed2e099759eef72ecc45fb"), looks := true }, kinds := [], alts := [], laidByText := true, laidKinds := [.handle], laidTests := true, laidLooks := .later }
def GlobMeansCardSaid : Prop := Claim7.holds Tryz.pinned (.plain (OpenSpec.ofChange globMeansSpec)) globMeansCard

/-- THE TIED CARD OF 'selvagelaw04.GlobBytes'. -/
def globBytesCard : Claim7 := { stood := { row := globBytesRow, standIns := [], harness := (true, "12fdc178baa4609f259d1f48ee0ae738cc22092ffbed2e099759eef72ecc45fb"), looks := true }, kinds := [], alts := [], laidByText := true, laidKinds := [.handle], laidTests := true, laidLooks := .later }
def GlobBytesCardSaid : Prop := Claim7.holds Tryz.pinned (.plain (OpenSpec.ofChange globBytesSpec)) globBytesCard

/-- THE TIED CARD OF 'selvagelaw04.GlobEscapes'. -/
def globEscapesCard : Claim7 := { stood := { row := globEscapesRow, standIns := [], harness := (true, "12fdc178baa4609f259d1f48ee0ae738cc22092ffbed2e099759eef72ecc45fb"), looks := true }, kinds := [], alts := [], laidByText := true, laidKinds := [.handle], laidTests := true, laidLooks := .later }
def GlobEscapesCardSaid : Prop := Claim7.holds Tryz.pinned (.plain (OpenSpec.ofChange globEscapesSpec)) globEscapesCard

/-- THE TIED CARD OF 'selvagelaw04.GlobJoins'. -/
def globJoinsCard : Claim7 := { stood := { row := globJoinsRow, standIns := [], harness := (true, "12fdc178baa4609f259d1f48ee0ae738cc22092ffbed2e099759eef72ecc45fb"), looks := true }, kinds := [], alts := [], laidByText := true, laidKinds := [.handle], laidTests := true, laidLooks := .later }
def GlobJoinsCardSaid : Prop := Claim7.holds Tryz.pinned (.plain (OpenSpec.ofChange globJoinsSpec)) globJoinsCard

/-- THE TIED CARD OF 'selvagelaw04.GlobEither'. -/
def globEitherCard : Claim7 := { stood := { row := globEitherRow, standIns := [], harness := (true, "12fdc178baa4609f259d1f48ee0ae738cc22092ffbed2e099759eef72ecc45fb"), looks := true }, kinds := [], alts := [], laidByText := true, laidKinds := [.handle], laidTests := true, laidLooks := .later }
def GlobEitherCardSaid : Prop := Claim7.holds Tryz.pinned (.plain (OpenSpec.ofChange globEitherSpec)) globEitherCard

/-- THE TIED CARD OF 'selvagelaw04.GlobLong'. -/
def globLongCard : Claim7 := { stood := { row := globLongRow, standIns := [], harness := (true, "12fdc178baa4609f259d1f48ee0ae738cc22092ffbed2e099759eef72ecc45fb"), looks := true }, kinds := [], alts := [], laidByText := true, laidKinds := [.handle], laidTests := true, laidLooks := .later }
def GlobLongCardSaid : Prop := Claim7.holds Tryz.pinned (.plain (OpenSpec.ofChange globLongSpec)) globLongCard

/-- THE TIED CARD OF 'selvagelaw04.GlobAny'. -/
def globAnyCard : Claim7 := { stood := { row := globAnyRow, standIns := [], harness := (true, "12fdc178baa4609f259d1f48ee0ae738cc22092ffbed2e099759eef72ecc45fb"), looks := true }, kinds := [], alts := [], laidByText := true, laidKinds := [.handle], laidTests := true, laidLooks := .later }
def GlobAnyCardSaid : Prop := Claim7.holds Tryz.pinned (.plain (OpenSpec.ofChange globAnySpec)) globAnyCard

/-- THE TIED CARD OF 'selvagelaw04.GlobRules'. -/
def globRulesCard : Claim7 := { stood := { row := globRulesRow, standIns := [], harness := (true, "12fdc178baa4609f259d1f48ee0ae738cc22092ffbed2e099759eef72ecc45fb"), looks := true }, kinds := [], alts := [], laidByText := true, laidKinds := [.data, .handle, .pinned], laidTests := true, laidLooks := .later }
def GlobRulesCardSaid : Prop := Claim7.holds Tryz.pinned (.plain (OpenSpec.ofChange globRulesSpec)) globRulesCard

/-- THE TIED CARD OF 'selvagelaw04.GlobBelow'. -/
def globBelowCard : Claim7 := { stood := { row := globBelowRow, standIns := [], harness := (true, "12fdc178baa4609f259d1f48ee0ae738cc22092ffbed2e099759eef72ecc45fb"), looks := true }, kinds := [], alts := [], laidByText := true, laidKinds := [.data, .handle, .pinned], laidTests := true, laidLooks := .later }
def GlobBelowCardSaid : Prop := Claim7.holds Tryz.pinned (.plain (OpenSpec.ofChange globBelowSpec)) globBelowCard

/-- THE SECOND FORM's CARD OF 'selvagelaw04.GlobMeans'. -/
def globMeansUptoCard : Claim7 := { stood := { row := globMeansUptoRow, standIns := [], harness := (true, "12fdc178baa4609f259d1f48ee0ae738cc22092ffbed2e099759eef72ecc45fb"), looks := true }, kinds := [], alts := [], laidByText := true, laidKinds := [.handle], laidTests := true, laidLooks := .later }
def GlobMeansUptoCardSaid : Prop := Claim7.holds Tryz.pinned (.plain (OpenSpec.upto globMeansSpec)) globMeansUptoCard

/-- THE SECOND FORM's CARD OF 'selvagelaw04.GlobBytes'. -/
def globBytesUptoCard : Claim7 := { stood := { row := globBytesUptoRow, standIns := [], harness := (true, "12fdc178baa4609f259d1f48ee0ae738cc22092ffbed2e099759eef72ecc45fb"), looks := true }, kinds := [], alts := [], laidByText := true, laidKinds := [.handle], laidTests := true, laidLooks := .later }
def GlobBytesUptoCardSaid : Prop := Claim7.holds Tryz.pinned (.plain (OpenSpec.upto globBytesSpec)) globBytesUptoCard

/-- THE SECOND FORM's CARD OF 'selvagelaw04.GlobEscapes'. -/
def globEscapesUptoCard : Claim7 := { stood := { row := globEscapesUptoRow, standIns := [], harness := (true, "12fdc178baa4609f259d1f48ee0ae738cc22092ffbed2e099759eef72ecc45fb"), looks := true }, kinds := [], alts := [], laidByText := true, laidKinds := [.handle], laidTests := true, laidLooks := .later }
def GlobEscapesUptoCardSaid : Prop := Claim7.holds Tryz.pinned (.plain (OpenSpec.upto globEscapesSpec)) globEscapesUptoCard

/-- THE SECOND FORM's CARD OF 'selvagelaw04.GlobJoins'. -/
def globJoinsUptoCard : Claim7 := { stood := { row := globJoinsUptoRow, standIns := [], harness := (true, "12fdc178baa4609f259d1f48ee0ae738cc22092ffbed2e099759eef72ecc45fb"), looks := true }, kinds := [], alts := [], laidByText := true, laidKinds := [.handle], laidTests := true, laidLooks := .later }
def GlobJoinsUptoCardSaid : Prop := Claim7.holds Tryz.pinned (.plain (OpenSpec.upto globJoinsSpec)) globJoinsUptoCard

/-- THE SECOND FORM's CARD OF 'selvagelaw04.GlobEither'. -/
def globEitherUptoCard : Claim7 := { stood := { row := globEitherUptoRow, standIns := [], harness := (true, "12fdc178baa4609f259d1f48ee0ae738cc22092ffbed2e099759eef72ecc45fb"), looks := true }, kinds := [], alts := [], laidByText := true, laidKinds := [.handle], laidTests := true, laidLooks := .later }
def GlobEitherUptoCardSaid : Prop := Claim7.holds Tryz.pinned (.plain (OpenSpec.upto globEitherSpec)) globEitherUptoCard

/-- THE SECOND FORM's CARD OF 'selvagelaw04.GlobLong'. -/
def globLongUptoCard : Claim7 := { stood := { row := globLongUptoRow, standIns := [], harness := (true, "12fdc178baa4609f259d1f48ee0ae738cc22092ffbed2e099759eef72ecc45fb"), looks := true }, kinds := [], alts := [], laidByText := true, laidKinds := [.handle], laidTests := true, laidLooks := .later }
def GlobLongUptoCardSaid : Prop := Claim7.holds Tryz.pinned (.plain (OpenSpec.upto globLongSpec)) globLongUptoCard

/-- THE SECOND FORM's CARD OF 'selvagelaw04.GlobAny'. -/
def globAnyUptoCard : Claim7 := { stood := { row := globAnyUptoRow, standIns := [], harness := (true, "12fdc178baa4609f259d1f48ee0ae738cc22092ffbed2e099759eef72ecc45fb"), looks := true }, kinds := [], alts := [], laidByText := true, laidKinds := [.handle], laidTests := true, laidLooks := .later }
def GlobAnyUptoCardSaid : Prop := Claim7.holds Tryz.pinned (.plain (OpenSpec.upto globAnySpec)) globAnyUptoCard

/-- THE SECOND FORM's CARD OF 'selvagelaw04.GlobRules'. -/
def globRulesUptoCard : Claim7 := { stood := { row := globRulesUptoRow, standIns := [], harness := (true, "12fdc178baa4609f259d1f48ee0ae738cc22092ffbed2e099759eef72ecc45fb"), looks := true }, kinds := [], alts := [], laidByText := true, laidKinds := [.data, .handle, .pinned], laidTests := true, laidLooks := .later }
def GlobRulesUptoCardSaid : Prop := Claim7.holds Tryz.pinned (.plain (OpenSpec.upto globRulesSpec)) globRulesUptoCard

/-- THE SECOND FORM's CARD OF 'selvagelaw04.GlobBelow'. -/
def globBelowUptoCard : Claim7 := { stood := { row := globBelowUptoRow, standIns := [], harness := (true, "12fdc178baa4609f259d1f48ee0ae738cc22092ffbed2e099759eef72ecc45fb"), looks := true }, kinds := [], alts := [], laidByText := true, laidKinds := [.data, .handle, .pinned], laidTests := true, laidLooks := .later }
def GlobBelowUptoCardSaid : Prop := Claim7.holds Tryz.pinned (.plain (OpenSpec.upto globBelowSpec)) globBelowUptoCard
end Rows
end Go.Proofs.YtgkifphfibcfdaaGreatDoor
