/- Compile as one plain function with rounds; the row of parts that is being made. -/
import Derived.Test.YtgkifphfibcfdaaGreatDoorMatch
import Derived.Test.YtgkifphfibcfdaaGreatDoorSetDef
namespace Go.Proofs.YtgkifphfibcfdaaGreatDoor.G
open Go.RowKit Go.Proofs.YtgkifphfibcfdaaGreatDoor.B
set_option linter.unusedVariables false
/-- The cells of parts, one behind the other. -/
def flat (L : List PartV) : List Value := L.flatMap fun x => (cellsOf x.1 x.2).toList
theorem flat_nil : flat [] = [] := rfl
theorem flat_snoc (L : List PartV) (x : PartV) : flat (L ++ [x]) = flat L ++ (cellsOf x.1 x.2).toList := by simp [flat, List.flatMap_append]
theorem flat_length (L : List PartV) : (flat L).length = L.length * 257 := by
  induction L with
  | nil => rfl
  | cons x r ih =>
    have h : flat (x :: r) = (cellsOf x.1 x.2).toList ++ flat r := by simp [flat]
    rw [h, List.length_append, ih, Array.length_toList, cellsOf_size, List.length_cons]
    omega
theorem flat_get (L : List PartV) : ∀ (p : Nat) (h : p < L.length) (j : Nat), j < 257 → (flat L)[p * 257 + j]? = (cellsOf (L[p]'h).1 (L[p]'h).2)[j]? := by
  induction L with
  | nil => intro p h; simp at h
  | cons x r ih =>
    intro p h j hj
    have e : flat (x :: r) = (cellsOf x.1 x.2).toList ++ flat r := by simp [flat]
    have hl : (cellsOf x.1 x.2).toList.length = 257 := by rw [Array.length_toList, cellsOf_size]
    rw [e]
    cases p with
    | zero =>
      rw [List.getElem?_append_left (by rw [hl]; omega)]
      simp
    | succ p =>
      rw [List.getElem?_append_right (by rw [hl]; omega), hl]
      have := ih p (by simpa using h) j hj
      rw [show (p + 1) * 257 + j - 257 = p * 257 + j from by omega, this]
      simp
/-- An owned row of parts is a row of parts. -/
theorem partsAt_of_own {w : World} {base : Nat} {v : Value} {L : List PartV} (h : w.ownsRow base 66 257 v L.length (flat L)) : ∃ A c, v = .slice A L.length c ∧ PartsAt w A L := by
  obtain ⟨h1, h2⟩ := h
  rcases h2 with ⟨rfl, h0⟩ | ⟨g, cap, cur, rfl, hb, hg, hn, hc, hsz, ht⟩
  · exact ⟨none, 0, by rw [h0], fun p hp => by omega⟩
  · refine ⟨_, cap, rfl, fun p hp => ⟨g, rfl, fun j hj => ?_⟩⟩
    rw [cell_of_heap hg, ← flat_get L p hp j hj, ← ht]
    have hlt : p * 257 + j < L.length * 257 := by
      have : (p + 1) * 257 ≤ L.length * 257 := Nat.mul_le_mul_right _ hp
      omega
    rw [List.getElem?_take_of_lt hlt]
    simp
def noneT : Nat → Bool := fun _ => false
/-- A set behind its bracket: where the text goes on, what is taken; none: it is none. -/
def setF (s : ByteArray) (i : Nat) : Option (Nat × (Nat → Bool)) :=
  match setLoop s (s.size + 2) (if notAt s i = true then i + 1 else i) (fun _ => false) true with
  | some (j, U) => some (j + 1, flipB (notAt s i) U)
  | none => none
/-- Compile's rounds: no answer yet; no pattern; the parts. -/
def crun (s : ByteArray) : Nat → Nat → List PartV → Option (Option (List PartV))
  | 0, _, _ => none
  | k + 1, i, L =>
    if i < s.size then
      if bn s i = 42 then crun s k (i + 1) (L ++ [((true, noneT) : PartV)])
      else if bn s i = 63 then crun s k (i + 1) (L ++ [((false, fun _ => true) : PartV)])
      else if bn s i = 91 then
        match setF s (i + 1) with
        | some (j, U) => crun s k j (L ++ [((false, U) : PartV)])
        | none => some none
      else if bytePlace s i < s.size then crun s k (bytePlace s i + 1) (L ++ [((false, upd noneT (bn s (bytePlace s i)) true) : PartV)])
      else some none
    else some (some L)
end Go.Proofs.YtgkifphfibcfdaaGreatDoor.G
