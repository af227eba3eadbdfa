/- The table of classes that classes() lays: names and functions. -/
import Derived.Test.YtgkifphfibcfdaaGreatDoorBase
import Derived.Test.YtgkifphfibcfdaaGreatDoorProg
import Derived.Laws.EntriesVeiled
namespace Go.Proofs.YtgkifphfibcfdaaGreatDoor.G
open Go.RowKit Go.Proofs.YtgkifphfibcfdaaGreatDoor.B
set_option linter.unusedVariables false

def clsCells : Array Value := #[.string ⟨#[97, 108, 112, 104, 97]⟩, .func (.func 91) #[] #[], .string ⟨#[100, 105, 103, 105, 116]⟩, .func (.func 94) #[] #[], .string ⟨#[97, 108, 110, 117, 109]⟩, .func (.func 95) #[] #[],
  .string ⟨#[117, 112, 112, 101, 114]⟩, .func (.func 92) #[] #[], .string ⟨#[108, 111, 119, 101, 114]⟩, .func (.func 93) #[] #[], .string ⟨#[120, 100, 105, 103, 105, 116]⟩, .func (.func 96) #[] #[],
  .string ⟨#[115, 112, 97, 99, 101]⟩, .func (.func 97) #[] #[], .string ⟨#[98, 108, 97, 110, 107]⟩, .func (.func 98) #[] #[], .string ⟨#[112, 117, 110, 99, 116]⟩, .func (.func 99) #[] #[],
  .string ⟨#[112, 114, 105, 110, 116]⟩, .func (.func 101) #[] #[], .string ⟨#[103, 114, 97, 112, 104]⟩, .func (.func 100) #[] #[], .string ⟨#[99, 110, 116, 114, 108]⟩, .func (.func 102) #[] #[]]
set_option maxHeartbeats 1000000 in
theorem classes_calls (w : World) : Calls Tryz.prog 80 #[] w fun e w' => e = .returned (.slice (some ⟨w.heap.size, 0, none⟩) 12 12) ∧ w' = w.alloc (.cells clsCells 170) := by
  go_enter Tryz.func80, Tryz.ntmps80
  go_wp2
  go_ret
  exact ⟨rfl, rfl⟩
end Go.Proofs.YtgkifphfibcfdaaGreatDoor.G
