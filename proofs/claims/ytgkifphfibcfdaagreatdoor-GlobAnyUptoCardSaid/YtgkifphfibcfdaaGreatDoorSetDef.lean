/- A set behind its bracket: as a plain function. Printed by set.py. -/
import Derived.Test.YtgkifphfibcfdaaGreatDoorItemSpec
import Derived.Deep.LoopGhost
import Derived.Test.YtgkifphfibcfdaaGreatDoorBase2
namespace Go.Proofs.YtgkifphfibcfdaaGreatDoor.G
open Go.RowKit Go.Proofs.YtgkifphfibcfdaaGreatDoor.B
set_option linter.unusedVariables false
/-- The items of a set, up to its end: where that is, what is taken; none: it is no set. -/
def setLoop (s : ByteArray) : Nat → Nat → (Nat → Bool) → Bool → Option (Nat × (Nat → Bool))
  | 0, _, _, _ => none
  | f + 1, i, T, first => if (first || !startsAt s i ⟨#[93]⟩) = true then (if s.size ≤ i then none else match itemF s i T with | some (j, U) => setLoop s f j U false | none => none) else some (i, T)
def notAt (s : ByteArray) (i : Nat) : Bool := startsAt s i ⟨#[33]⟩ || startsAt s i ⟨#[94]⟩
/-- All bytes but those. -/
def flipB (n : Bool) (U : Nat → Bool) : Nat → Bool := fun t => U t != n
/-- What set leaves. -/
def SetPost (b : Nat) (s : ByteArray) (n : Bool) (w : World) (r : Option (Nat × (Nat → Bool))) (e : Ending) (w' : World) : Prop :=
  match r with
  | some (j, U) => e = .returned (.tuple #[.agg (cellsOf false (flipB n U)), .bool true]) ∧ Chg [b] w w' ∧ RdAt w' b s (j + 1)
  | none => ∃ U, e = .returned (.tuple #[.agg (cellsOf false U), .bool false]) ∧ Chg [b] w w'
theorem setLoop_end {s : ByteArray} {f i : Nat} {T : Nat → Bool} {first : Bool} {r : Option (Nat × (Nat → Bool))} (h : setLoop s (f + 1) i T first = r) (hc : (first || !startsAt s i ⟨#[93]⟩) = false) : r = some (i, T) := by
  simp only [setLoop] at h
  rw [hc] at h
  exact h.symm
theorem setLoop_over {s : ByteArray} {f i : Nat} {T : Nat → Bool} {first : Bool} {r : Option (Nat × (Nat → Bool))} (h : setLoop s (f + 1) i T first = r) (hc : (first || !startsAt s i ⟨#[93]⟩) = true) (hi : s.size ≤ i) : r = none := by
  simp only [setLoop] at h
  rw [if_pos hc, if_pos hi] at h
  exact h.symm
theorem setLoop_bad {s : ByteArray} {f i : Nat} {T : Nat → Bool} {first : Bool} {r : Option (Nat × (Nat → Bool))} (h : setLoop s (f + 1) i T first = r) (hc : (first || !startsAt s i ⟨#[93]⟩) = true) (hi : ¬ s.size ≤ i) (hn : itemF s i T = none) : r = none := by
  simp only [setLoop] at h
  rw [if_pos hc, if_neg hi, hn] at h
  exact h.symm
theorem setLoop_go {s : ByteArray} {f i : Nat} {T : Nat → Bool} {first : Bool} {r : Option (Nat × (Nat → Bool))} {j : Nat} {U : Nat → Bool} (h : setLoop s (f + 1) i T first = r) (hc : (first || !startsAt s i ⟨#[93]⟩) = true) (hi : ¬ s.size ≤ i) (hn : itemF s i T = some (j, U)) : setLoop s f j U false = r := by
  simp only [setLoop] at h
  rw [if_pos hc, if_neg hi, hn] at h
  exact h
end Go.Proofs.YtgkifphfibcfdaaGreatDoor.G
