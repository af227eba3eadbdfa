/- A set behind its bracket: the contract of (*reader).set over setF. -/
import Derived.Test.YtgkifphfibcfdaaGreatDoorSetA
import Derived.Test.YtgkifphfibcfdaaGreatDoorSetB
import Derived.Test.YtgkifphfibcfdaaGreatDoorSetC
import Derived.Test.YtgkifphfibcfdaaGreatDoorCompSpec
namespace Go.Proofs.YtgkifphfibcfdaaGreatDoor.G
open Go.RowKit Go.Proofs.YtgkifphfibcfdaaGreatDoor.B
set_option linter.unusedVariables false
/-- What set leaves. -/
def SetEnd (b : Nat) (s : ByteArray) (w : World) (r : Option (Nat × (Nat → Bool))) (e : Ending) (w' : World) : Prop :=
  match r with
  | some (j, U) => e = .returned (.tuple #[.agg (cellsOf false U), .bool true]) ∧ Chg [b] w w' ∧ RdAt w' b s j
  | none => ∃ U, e = .returned (.tuple #[.agg (cellsOf false U), .bool false]) ∧ Chg [b] w w'
theorem set_calls (b : Nat) (s : ByteArray) (i : Nat) (w : World) (hb : RdAt w b s i) (hi : i ≤ s.size) (hs : s.size ≤ 1048576) :
    Calls Tryz.prog 27 #[.pointer (some ⟨b, 0, none⟩)] w fun e w' => SetEnd b s w (setF s i) e w' := by
  have conv : ∀ (n : Bool) (r : Option (Nat × (Nat → Bool))) e w', SetPost b s n w r e w' → SetEnd b s w (match r with | some (j, U) => some (j + 1, flipB n U) | none => none) e w' := by
    intro n r e w' h
    cases r with
    | none => exact h
    | some r => exact h
  unfold setF
  cases h1 : startsAt s i ⟨#[33]⟩ with
  | true =>
    have hn : notAt s i = true := by unfold notAt; rw [h1]; rfl
    rw [hn, if_pos rfl]
    exact (set_a b s i w hb hi hs h1 _ rfl).mono (fun e w' h => conv _ _ _ _ h)
  | false =>
    cases h2 : startsAt s i ⟨#[94]⟩ with
    | true =>
      have hn : notAt s i = true := by unfold notAt; rw [h1, h2]; rfl
      rw [hn, if_pos rfl]
      exact (set_b b s i w hb hi hs h1 h2 _ rfl).mono (fun e w' h => conv _ _ _ _ h)
    | false =>
      have hn : notAt s i = false := by unfold notAt; rw [h1, h2]; rfl
      rw [hn, if_neg (by decide)]
      exact (set_c b s i w hb hi hs h1 h2 _ rfl).mono (fun e w' h => conv _ _ _ _ h)
end Go.Proofs.YtgkifphfibcfdaaGreatDoor.G
