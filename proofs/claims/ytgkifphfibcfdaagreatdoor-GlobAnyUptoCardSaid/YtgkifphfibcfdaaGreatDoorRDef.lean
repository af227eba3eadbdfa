/- What the reference's Compile leaves. -/
import Derived.Test.YtgkifphfibcfdaaGreatDoorMean
namespace Go.Proofs.YtgkifphfibcfdaaGreatDoor.G
open Go.RowKit Go.Proofs.YtgkifphfibcfdaaGreatDoor.B
set_option linter.unusedVariables false
/-- What the reference's Compile leaves. -/
def RCompPost (w : World) (R : Option (List PartV)) (e : Ending) (w' : World) : Prop :=
  Chg [] w w' ∧ match R with
  | some L => ∃ A c, e = .returned (.tuple #[.slice A L.length c, .int .i64 0]) ∧ PartsAt w' A L ∧ L.length ≤ 1048576
  | none => e = .returned (.tuple #[.slice none 0 0, .int .i64 40])
end Go.Proofs.YtgkifphfibcfdaaGreatDoor.G
