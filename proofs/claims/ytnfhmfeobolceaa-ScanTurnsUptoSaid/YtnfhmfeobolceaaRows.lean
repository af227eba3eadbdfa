/-
  No cell of these rows narrows 'for every input' (looked for: loops, veiled, ifaces, maps, wideKeys, modest, calm, conditions, laid).
  DERIVED. THE GIVEN ROWS OF THIS SEAT. 6 by the template 'for every input the law returns true; each argument reads behind the call as it read before'; 0 by the template 'total and deterministic' (their statements: YtnfhmfeobolceaaTotals.lean).
  GIVEN WITH THE SEED: the statements are not yours to turn. If you find one false, say at which input.
  Laid BY PROGRAM, IN A SANDBOX (cutbox-rows.mjs): the forced cells as the released guide's own fill.sh prints them over the translation e393727e7b3945cc… (all of the seat's roots in one cut). By AI agents, Wed Nov 11 2026. No macro, syntax, notation, axiom, sorry.
-/
import Derived.Test.YtnfhmfeobolceaaChecked
import GoSem.Claim
import GoSem.ClaimJoined
import GoSem.ClaimMapViews
import Derived.JoinedTies
import Derived.KernelRfl
namespace Go.Proofs.Ytnfhmfeobolceaa
/- THE CELL 'sum', in the pinned program and in every row, IS THE sha256 OF THE DUMP (.gsa) THAT YtnfhmfeobolceaaProg.lean LOADS. Nothing in Lean hashes anything: it is a label: what it is worth is what the hold of that sum in a sandbox is worth. -/
noncomputable def Try.pinned : Pinned := { name := "ytnfhmfeobolceaa", sum := "e393727e7b3945cc3c65574cf8d4dda42608ccdd69b7e203b57c1f976a32114b", checked := Try.checked }
namespace Rows
def none {H : Type} : Left H := { results := [], args := [] }

/-- 'selvagelaw19.ScanFirsts': WHATEVER THE INPUT: true; the input reads as it did. -/
def scanFirstsSpec : ChangeSpec := { name := "scanFirsts", fn := fun _ => fun
  | [d1, d2] => { results := [.lit (.bool true)], args := [d1, d2] }
  | _ => none }
def scanFirstsRow : OpenClaim := { program := "ytnfhmfeobolceaa", sum := "e393727e7b3945cc3c65574cf8d4dda42608ccdd69b7e203b57c1f976a32114b", func := "selvage/selvagelaw19.ScanFirsts", spec := "scanFirsts", apart := false }
def ScanFirstsSaid : Prop := scanFirstsRow.holds Try.pinned (OpenSpec.ofChange scanFirstsSpec)

/-- ITS FALSE NEIGHBOUR: 'it returns false'. Refute it at one input. -/
def scanFirstsWrong : ChangeSpec := { name := "scanFirsts", fn := fun _ => fun
  | [d1, d2] => { results := [.lit (.bool false)], args := [d1, d2] }
  | _ => none }
def ScanFirstsWrongFalsely : Prop := scanFirstsRow.holds Try.pinned (OpenSpec.ofChange scanFirstsWrong)

/-- 'selvagelaw19.ScanAlls': WHATEVER THE INPUT: true; the input reads as it did. -/
def scanAllsSpec : ChangeSpec := { name := "scanAlls", fn := fun _ => fun
  | [d1, d2, d3] => { results := [.lit (.bool true)], args := [d1, d2, d3] }
  | _ => none }
def scanAllsRow : OpenClaim := { program := "ytnfhmfeobolceaa", sum := "e393727e7b3945cc3c65574cf8d4dda42608ccdd69b7e203b57c1f976a32114b", func := "selvage/selvagelaw19.ScanAlls", spec := "scanAlls", apart := false }
def ScanAllsSaid : Prop := scanAllsRow.holds Try.pinned (OpenSpec.ofChange scanAllsSpec)

/-- ITS FALSE NEIGHBOUR: 'it returns false'. Refute it at one input. -/
def scanAllsWrong : ChangeSpec := { name := "scanAlls", fn := fun _ => fun
  | [d1, d2, d3] => { results := [.lit (.bool false)], args := [d1, d2, d3] }
  | _ => none }
def ScanAllsWrongFalsely : Prop := scanAllsRow.holds Try.pinned (OpenSpec.ofChange scanAllsWrong)

/-- 'selvagelaw19.ScanShows': WHATEVER THE INPUT: true; the input reads as it did. -/
def scanShowsSpec : ChangeSpec := { name := "scanShows", fn := fun _ => fun
  | [d] => { results := [.lit (.bool true)], args := [d] }
  | _ => none }
def scanShowsRow : OpenClaim := { program := "ytnfhmfeobolceaa", sum := "e393727e7b3945cc3c65574cf8d4dda42608ccdd69b7e203b57c1f976a32114b", func := "selvage/selvagelaw19.ScanShows", spec := "scanShows", apart := false }
def ScanShowsSaid : Prop := scanShowsRow.holds Try.pinned (OpenSpec.ofChange scanShowsSpec)

/-- ITS FALSE NEIGHBOUR: 'it returns false'. Refute it at one input. -/
def scanShowsWrong : ChangeSpec := { name := "scanShows", fn := fun _ => fun
  | [d] => { results := [.lit (.bool false)], args := [d] }
  | _ => none }
def ScanShowsWrongFalsely : Prop := scanShowsRow.holds Try.pinned (OpenSpec.ofChange scanShowsWrong)

/-- 'selvagelaw19.ScanTurns': WHATEVER THE INPUT: true; the input reads as it did. -/
def scanTurnsSpec : ChangeSpec := { name := "scanTurns", fn := fun _ => fun
  | [d1, d2] => { results := [.lit (.bool true)], args := [d1, d2] }
  | _ => none }
def scanTurnsRow : OpenClaim := { program := "ytnfhmfeobolceaa", sum := "e393727e7b3945cc3c65574cf8d4dda42608ccdd69b7e203b57c1f976a32114b", func := "selvage/selvagelaw19.ScanTurns", spec := "scanTurns", apart := false }
def ScanTurnsSaid : Prop := scanTurnsRow.holds Try.pinned (OpenSpec.ofChange scanTurnsSpec)

/-- ITS FALSE NEIGHBOUR: 'it returns false'. Refute it at one input. -/
def scanTurnsWrong : ChangeSpec := { name := "scanTurns", fn := fun _ => fun
  | [d1, d2] => { results := [.lit (.bool false)], args := [d1, d2] }
  | _ => none }
def ScanTurnsWrongFalsely : Prop := scanTurnsRow.holds Try.pinned (OpenSpec.ofChange scanTurnsWrong)

/-- 'selvagelaw19.ScanOwn': WHATEVER THE INPUT: true; the input reads as it did. -/
def scanOwnSpec : ChangeSpec := { name := "scanOwn", fn := fun _ => fun
  | [d1, d2] => { results := [.lit (.bool true)], args := [d1, d2] }
  | _ => none }
def scanOwnRow : OpenClaim := { program := "ytnfhmfeobolceaa", sum := "e393727e7b3945cc3c65574cf8d4dda42608ccdd69b7e203b57c1f976a32114b", func := "selvage/selvagelaw19.ScanOwn", spec := "scanOwn", apart := false }
def ScanOwnSaid : Prop := scanOwnRow.holds Try.pinned (OpenSpec.ofChange scanOwnSpec)

/-- ITS FALSE NEIGHBOUR: 'it returns false'. Refute it at one input. -/
def scanOwnWrong : ChangeSpec := { name := "scanOwn", fn := fun _ => fun
  | [d1, d2] => { results := [.lit (.bool false)], args := [d1, d2] }
  | _ => none }
def ScanOwnWrongFalsely : Prop := scanOwnRow.holds Try.pinned (OpenSpec.ofChange scanOwnWrong)

/-- 'selvagelaw19.ScanRuns': WHATEVER THE INPUT: true; the input reads as it did. -/
def scanRunsSpec : ChangeSpec := { name := "scanRuns", fn := fun _ => fun
  | [d1, d2, d3] => { results := [.lit (.bool true)], args := [d1, d2, d3] }
  | _ => none }
def scanRunsRow : OpenClaim := { program := "ytnfhmfeobolceaa", sum := "e393727e7b3945cc3c65574cf8d4dda42608ccdd69b7e203b57c1f976a32114b", func := "selvage/selvagelaw19.ScanRuns", spec := "scanRuns", apart := false }
def ScanRunsSaid : Prop := scanRunsRow.holds Try.pinned (OpenSpec.ofChange scanRunsSpec)

/-- ITS FALSE NEIGHBOUR: 'it returns false'. Refute it at one input. -/
def scanRunsWrong : ChangeSpec := { name := "scanRuns", fn := fun _ => fun
  | [d1, d2, d3] => { results := [.lit (.bool false)], args := [d1, d2, d3] }
  | _ => none }
def ScanRunsWrongFalsely : Prop := scanRunsRow.holds Try.pinned (OpenSpec.ofChange scanRunsWrong)

/- THE SECOND FORM. 'bulk': how many values and letters a reading holds, each counted each time it is reached (what is shared counts as often as it is met; a slice's spare places count too). A statement '..UptoSaid' is the law's where the arguments, and the package variables that the reading takes, are together of bulk at most 1048576: NARROWER than '..Said'. Prove '..Said' where nothing that the law and all that it calls make is longer than what came in: it says more and counts as full. Else prove '..UptoSaid'. A law counts once. -/
mutual
def uptoBulk {H : Type} : DataW H → Nat
  | .lit (.string bytes) => bytes.length + 1
  | .lit _ => 1
  | .nil => 1
  | .ptr d => uptoBulk d + 1
  | .slice elems spare => uptoBulkAll elems + uptoBulkAll spare + 1
  | .agg parts => uptoBulkAll parts + 1
  | .iface _ d => uptoBulk d + 1
  | .map entries => uptoBulkEntries entries + 1
  | .held _ => 1
def uptoBulkAll {H : Type} : List (DataW H) → Nat
  | [] => 0
  | d :: r => uptoBulk d + uptoBulkAll r
def uptoBulkEntries {H : Type} : List (Lit × DataW H) → Nat
  | [] => 0
  | x :: r => uptoBulkEntry x + uptoBulkEntries r
def uptoBulkEntry {H : Type} : Lit × DataW H → Nat
  | (.string bytes, d) => bytes.length + uptoBulk d + 1
  | (_, d) => uptoBulk d + 1
 end
def uptoSmall : (H : Type) → List (DataW H) → Bool := fun _ ds => decide (uptoBulkAll ds ≤ 1048576)
def OpenSpec.upto (s : _root_.Go.ChangeSpec) : _root_.Go.OpenSpec := { _root_.Go.OpenSpec.ofChange s with cond := some uptoSmall }

/-- 'selvagelaw19.ScanFirsts', WHERE WHAT IT READS IS OF BULK AT MOST 1048576: true; the input reads as it did. -/
def scanFirstsUptoRow : OpenClaim := { program := "ytnfhmfeobolceaa", sum := "e393727e7b3945cc3c65574cf8d4dda42608ccdd69b7e203b57c1f976a32114b", func := "selvage/selvagelaw19.ScanFirsts", spec := "scanFirsts", apart := false, narrowed := true }
def ScanFirstsUptoSaid : Prop := scanFirstsUptoRow.holds Try.pinned (OpenSpec.upto scanFirstsSpec)

/-- 'selvagelaw19.ScanAlls', WHERE WHAT IT READS IS OF BULK AT MOST 1048576: true; the input reads as it did. -/
def scanAllsUptoRow : OpenClaim := { program := "ytnfhmfeobolceaa", sum := "e393727e7b3945cc3c65574cf8d4dda42608ccdd69b7e203b57c1f976a32114b", func := "selvage/selvagelaw19.ScanAlls", spec := "scanAlls", apart := false, narrowed := true }
def ScanAllsUptoSaid : Prop := scanAllsUptoRow.holds Try.pinned (OpenSpec.upto scanAllsSpec)

/-- 'selvagelaw19.ScanShows', WHERE WHAT IT READS IS OF BULK AT MOST 1048576: true; the input reads as it did. -/
def scanShowsUptoRow : OpenClaim := { program := "ytnfhmfeobolceaa", sum := "e393727e7b3945cc3c65574cf8d4dda42608ccdd69b7e203b57c1f976a32114b", func := "selvage/selvagelaw19.ScanShows", spec := "scanShows", apart := false, narrowed := true }
def ScanShowsUptoSaid : Prop := scanShowsUptoRow.holds Try.pinned (OpenSpec.upto scanShowsSpec)

/-- 'selvagelaw19.ScanTurns', WHERE WHAT IT READS IS OF BULK AT MOST 1048576: true; the input reads as it did. -/
def scanTurnsUptoRow : OpenClaim := { program := "ytnfhmfeobolceaa", sum := "e393727e7b3945cc3c65574cf8d4dda42608ccdd69b7e203b57c1f976a32114b", func := "selvage/selvagelaw19.ScanTurns", spec := "scanTurns", apart := false, narrowed := true }
def ScanTurnsUptoSaid : Prop := scanTurnsUptoRow.holds Try.pinned (OpenSpec.upto scanTurnsSpec)

/-- 'selvagelaw19.ScanOwn', WHERE WHAT IT READS IS OF BULK AT MOST 1048576: true; the input reads as it did. -/
def scanOwnUptoRow : OpenClaim := { program := "ytnfhmfeobolceaa", sum := "e393727e7b3945cc3c65574cf8d4dda42608ccdd69b7e203b57c1f976a32114b", func := "selvage/selvagelaw19.ScanOwn", spec := "scanOwn", apart := false, narrowed := true }
def ScanOwnUptoSaid : Prop := scanOwnUptoRow.holds Try.pinned (OpenSpec.upto scanOwnSpec)

/-- 'selvagelaw19.ScanRuns', WHERE WHAT IT READS IS OF BULK AT MOST 1048576: true; the input reads as it did. -/
def scanRunsUptoRow : OpenClaim := { program := "ytnfhmfeobolceaa", sum := "e393727e7b3945cc3c65574cf8d4dda42608ccdd69b7e203b57c1f976a32114b", func := "selvage/selvagelaw19.ScanRuns", spec := "scanRuns", apart := false, narrowed := true }
def ScanRunsUptoSaid : Prop := scanRunsUptoRow.holds Try.pinned (OpenSpec.upto scanRunsSpec)

end Rows
end Go.Proofs.Ytnfhmfeobolceaa
