/- An item of a set as one plain function, and the contract of (*reader).item over it. -/
import Derived.Test.YtgkifphfibcfdaaGreatDoorItem
namespace Go.Proofs.YtgkifphfibcfdaaGreatDoor.G
open Go.RowKit Go.Proofs.YtgkifphfibcfdaaGreatDoor.B
set_option linter.unusedVariables false
/-- The first of n classes, from k on, that begins there. -/
def classNo (s : ByteArray) (i : Nat) : Nat → Nat → Option Nat
  | _, 0 => none
  | k, n + 1 => if startsAt s i (cpat k) = true then some k else classNo s i (k + 1) n
theorem classNo_some {s : ByteArray} {i r : Nat} : ∀ {n k : Nat}, classNo s i k n = some r → k ≤ r ∧ r < k + n ∧ startsAt s i (cpat r) = true ∧ ∀ j, k ≤ j → j < r → startsAt s i (cpat j) = false := by
  intro n
  induction n with
  | zero => intro k h; simp [classNo] at h
  | succ n ih =>
    intro k h
    simp only [classNo] at h
    by_cases hk : startsAt s i (cpat k) = true
    · rw [if_pos hk] at h
      obtain rfl := Option.some.inj h
      exact ⟨Nat.le_refl _, by omega, hk, fun j h1 h2 => by omega⟩
    · rw [if_neg hk] at h
      obtain ⟨a1, a2, a3, a4⟩ := ih h
      refine ⟨by omega, by omega, a3, fun j h1 h2 => ?_⟩
      by_cases hj : j = k
      · subst hj; simpa using hk
      · exact a4 j (by omega) h2
theorem classNo_none {s : ByteArray} {i : Nat} : ∀ {n k : Nat}, classNo s i k n = none → ∀ j, k ≤ j → j < k + n → startsAt s i (cpat j) = false := by
  intro n
  induction n with
  | zero => intro k _ j h1 h2; omega
  | succ n ih =>
    intro k h j h1 h2
    simp only [classNo] at h
    by_cases hk : startsAt s i (cpat k) = true
    · rw [if_pos hk] at h; simp at h
    · rw [if_neg hk] at h
      by_cases hj : j = k
      · subst hj; simpa using hk
      · exact ih h j (by omega) (by omega)
def isRange (s : ByteArray) (q : Nat) : Bool := startsAt s q ⟨#[45]⟩ && decide (q + 1 < s.size) && decide (bn s (q + 1) ≠ 93) && !startsAt s (q + 1) ⟨#[91, 58]⟩
/-- An item: where the text goes on, what is taken then; none: it is no item. -/
def itemF (s : ByteArray) (i : Nat) (T : Nat → Bool) : Option (Nat × (Nat → Bool)) :=
  if startsAt s i ⟨#[91, 58]⟩ = true then
    match classNo s i 0 12 with
    | some k => some (i + (cpat k).size, fun j => T j || (decide (j < 128) && chas k j))
    | none => none
  else if bytePlace s i < s.size then
    if isRange s (bytePlace s i + 1) = true then
      if bytePlace s (bytePlace s i + 1 + 1) < s.size then some (bytePlace s (bytePlace s i + 1 + 1) + 1, addRange T (bn s (bytePlace s i)) (bn s (bytePlace s (bytePlace s i + 1 + 1))))
      else none
    else some (bytePlace s i + 1, addRange T (bn s (bytePlace s i)) (bn s (bytePlace s i)))
  else none
theorem le_bytePlace (s : ByteArray) (i : Nat) : i ≤ bytePlace s i := by unfold bytePlace; split <;> omega
theorem startsAt_fits {s p : ByteArray} {i : Nat} (hi : i ≤ s.size) (h : startsAt s i p = true) : i + p.size ≤ s.size := by
  unfold startsAt startsB at h
  simp only [Bool.and_eq_true, decide_eq_true_eq, ByteArray.size_extract] at h
  omega
theorem itemF_next {s : ByteArray} {i : Nat} {T : Nat → Bool} {i' : Nat} {T' : Nat → Bool} (hi : i ≤ s.size) (h : itemF s i T = some (i', T')) : i < i' ∧ i' ≤ s.size := by
  unfold itemF at h
  split at h
  · split at h
    · rename_i k hk
      simp only [Option.some.injEq, Prod.mk.injEq] at h
      have := classNo_some hk
      have h2 := startsAt_fits hi this.2.2.1
      have h3 := cpat_len k
      omega
    · simp at h
  · split at h
    · rename_i h1
      have hp := le_bytePlace s i
      split at h
      · split at h
        · simp only [Option.some.injEq, Prod.mk.injEq] at h
          have := le_bytePlace s (bytePlace s i + 1 + 1)
          omega
        · simp at h
      · simp only [Option.some.injEq, Prod.mk.injEq] at h
        omega
    · simp at h
/-- What item does. -/
def ItemPost (b c : Nat) (s : ByteArray) (a : Bool) (w : World) (r : Option (Nat × (Nat → Bool))) (e : Ending) (w' : World) : Prop :=
  match r with
  | some (i', T') => e = .returned (.bool true) ∧ Chg [b, c] w w' ∧ RdAt w' b s i' ∧ PartAt w' c a T'
  | none => e = .returned (.bool false) ∧ Chg [b, c] w w' ∧ ∃ U, PartAt w' c a U
theorem item_calls (b c : Nat) (s : ByteArray) (i : Nat) (a : Bool) (T : Nat → Bool) (w : World) (hb : RdAt w b s i) (hc : PartAt w c a T) (hne : b ≠ c) (hi : i ≤ s.size) (hs : s.size ≤ 1048576) :
    Calls Tryz.prog 46 #[.pointer (some ⟨b, 0, none⟩), .pointer (some ⟨c, 0, none⟩)] w fun e w' => ItemPost b c s a w (itemF s i T) e w' := by
  unfold itemF
  cases h0 : startsAt s i ⟨#[91, 58]⟩ with
  | true =>
    rw [if_pos rfl]
    cases hk : classNo s i 0 12 with
    | some k =>
      obtain ⟨_, h2, h3, h4⟩ := classNo_some hk
      exact item_class_yes b c s i a T k w hb hc hne hi hs h0 (by omega) h3 (fun j hj => h4 j (Nat.zero_le _) hj)
    | none =>
      refine (item_class_no b c s i w hb hi hs h0 (fun j hj => classNo_none hk j (Nat.zero_le _) (by omega))).mono ?_
      rintro e w' ⟨he, h⟩
      exact ⟨he, h.mono (by simp), T, h.heap hc (by simp)⟩
  | false =>
    rw [if_neg (by decide)]
    by_cases hin : bytePlace s i < s.size
    · rw [if_pos hin]
      by_cases hr : isRange s (bytePlace s i + 1) = true
      · rw [if_pos hr]
        simp only [isRange, Bool.and_eq_true, decide_eq_true_eq, Bool.not_eq_true'] at hr
        obtain ⟨⟨⟨g1, g2⟩, g3⟩, g4⟩ := hr
        by_cases hin2 : bytePlace s (bytePlace s i + 1 + 1) < s.size
        · rw [if_pos hin2]
          exact item_range b c s i a T w hb hc hne hi hs h0 hin g1 g2 g3 g4 hin2
        · rw [if_neg hin2]
          refine (item_range_end b c s i a T w hb hc hne hi hs h0 hin g1 g2 g3 g4 (by omega)).mono ?_
          rintro e w' ⟨he, h⟩
          exact ⟨he, h.mono (by simp), T, h.heap hc (by simp; exact fun e => hne e.symm)⟩
      · rw [if_neg hr]
        cases g1 : startsAt s (bytePlace s i + 1) ⟨#[45]⟩ with
        | false => exact item_one_a b c s i a T w hb hc hne hi hs h0 hin g1
        | true =>
          by_cases g2 : bytePlace s i + 1 + 1 < s.size
          · by_cases g3 : bn s (bytePlace s i + 1 + 1) = 93
            · exact item_one_c b c s i a T w hb hc hne hi hs h0 hin g1 g2 g3
            · cases g4 : startsAt s (bytePlace s i + 1 + 1) ⟨#[91, 58]⟩ with
              | true => exact item_one_d b c s i a T w hb hc hne hi hs h0 hin g1 g2 g3 g4
              | false => exact absurd (show isRange s (bytePlace s i + 1) = true by simp [isRange, g1, g2, g3, g4]) hr
          · exact item_one_b b c s i a T w hb hc hne hi hs h0 hin g1 (by omega)
    · rw [if_neg hin]
      refine (item_end b c s i w hb hi hs h0 (by omega)).mono ?_
      rintro e w' ⟨he, h⟩
      exact ⟨he, h.mono (by simp), T, h.heap hc (by simp; exact fun e => hne e.symm)⟩
end Go.Proofs.YtgkifphfibcfdaaGreatDoor.G
