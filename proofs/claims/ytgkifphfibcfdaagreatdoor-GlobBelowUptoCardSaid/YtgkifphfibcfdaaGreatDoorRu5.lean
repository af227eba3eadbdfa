/- Merged out of these texts: ItemSpec, SetDef, CompSpec, Local, RSmall, RNamed. -/
import Derived.Test.YtgkifphfibcfdaaGreatDoorRuItem
import Derived.Deep.LoopGhost
import Derived.Test.YtgkifphfibcfdaaGreatDoorRu1
import Derived.Test.YtgkifphfibcfdaaGreatDoorRu3
import Derived.Test.YtgkifphfibcfdaaGreatDoorRu4
/- An item of a set as one plain function, and the contract of (*reader).item over it. -/
namespace Go.Proofs.YtgkifphfibcfdaaGreatDoor.G
open Go.RowKit Go.Proofs.YtgkifphfibcfdaaGreatDoor.B
set_option linter.unusedVariables false
/-- The first of n classes, from k on, that begins there. -/
def classNo (s : ByteArray) (i : Nat) : Nat → Nat → Option Nat
  | _, 0 => none
  | k, n + 1 => if startsAt s i (cpat k) = true then some k else classNo s i (k + 1) n
theorem classNo_some {s : ByteArray} {i r : Nat} : ∀ {n k : Nat}, classNo s i k n = some r → k ≤ r ∧ r < k + n ∧ startsAt s i (cpat r) = true ∧ ∀ j, k ≤ j → j < r → startsAt s i (cpat j) = false := by
  intro n
  induction n with
  | zero => intro k h; simp [classNo] at h
  | succ n ih =>
    intro k h
    simp only [classNo] at h
    by_cases hk : startsAt s i (cpat k) = true
    · rw [if_pos hk] at h
      obtain rfl := Option.some.inj h
      exact ⟨Nat.le_refl _, by omega, hk, fun j h1 h2 => by omega⟩
    · rw [if_neg hk] at h
      obtain ⟨a1, a2, a3, a4⟩ := ih h
      refine ⟨by omega, by omega, a3, fun j h1 h2 => ?_⟩
      by_cases hj : j = k
      · subst hj; simpa using hk
      · exact a4 j (by omega) h2
theorem classNo_none {s : ByteArray} {i : Nat} : ∀ {n k : Nat}, classNo s i k n = none → ∀ j, k ≤ j → j < k + n → startsAt s i (cpat j) = false := by
  intro n
  induction n with
  | zero => intro k _ j h1 h2; omega
  | succ n ih =>
    intro k h j h1 h2
    simp only [classNo] at h
    by_cases hk : startsAt s i (cpat k) = true
    · rw [if_pos hk] at h; simp at h
    · rw [if_neg hk] at h
      by_cases hj : j = k
      · subst hj; simpa using hk
      · exact ih h j (by omega) (by omega)
def isRange (s : ByteArray) (q : Nat) : Bool := startsAt s q ⟨#[45]⟩ && decide (q + 1 < s.size) && decide (bn s (q + 1) ≠ 93) && !startsAt s (q + 1) ⟨#[91, 58]⟩
/-- An item: where the text goes on, what is taken then; none: it is no item. -/
def itemF (s : ByteArray) (i : Nat) (T : Nat → Bool) : Option (Nat × (Nat → Bool)) :=
  if startsAt s i ⟨#[91, 58]⟩ = true then
    match classNo s i 0 12 with
    | some k => some (i + (cpat k).size, fun j => T j || (decide (j < 128) && chas k j))
    | none => none
  else if bytePlace s i < s.size then
    if isRange s (bytePlace s i + 1) = true then
      if bytePlace s (bytePlace s i + 1 + 1) < s.size then some (bytePlace s (bytePlace s i + 1 + 1) + 1, addRange T (bn s (bytePlace s i)) (bn s (bytePlace s (bytePlace s i + 1 + 1))))
      else none
    else some (bytePlace s i + 1, addRange T (bn s (bytePlace s i)) (bn s (bytePlace s i)))
  else none
theorem le_bytePlace (s : ByteArray) (i : Nat) : i ≤ bytePlace s i := by unfold bytePlace; split <;> omega
theorem startsAt_fits {s p : ByteArray} {i : Nat} (hi : i ≤ s.size) (h : startsAt s i p = true) : i + p.size ≤ s.size := by
  unfold startsAt startsB at h
  simp only [Bool.and_eq_true, decide_eq_true_eq, ByteArray.size_extract] at h
  omega
theorem itemF_next {s : ByteArray} {i : Nat} {T : Nat → Bool} {i' : Nat} {T' : Nat → Bool} (hi : i ≤ s.size) (h : itemF s i T = some (i', T')) : i < i' ∧ i' ≤ s.size := by
  unfold itemF at h
  split at h
  · split at h
    · rename_i k hk
      simp only [Option.some.injEq, Prod.mk.injEq] at h
      have := classNo_some hk
      have h2 := startsAt_fits hi this.2.2.1
      have h3 := cpat_len k
      omega
    · simp at h
  · split at h
    · rename_i h1
      have hp := le_bytePlace s i
      split at h
      · split at h
        · simp only [Option.some.injEq, Prod.mk.injEq] at h
          have := le_bytePlace s (bytePlace s i + 1 + 1)
          omega
        · simp at h
      · simp only [Option.some.injEq, Prod.mk.injEq] at h
        omega
    · simp at h
/-- What item does. -/
def ItemPost (b c : Nat) (s : ByteArray) (a : Bool) (w : World) (r : Option (Nat × (Nat → Bool))) (e : Ending) (w' : World) : Prop :=
  match r with
  | some (i', T') => e = .returned (.bool true) ∧ Chg [b, c] w w' ∧ RdAt w' b s i' ∧ PartAt w' c a T'
  | none => e = .returned (.bool false) ∧ Chg [b, c] w w' ∧ ∃ U, PartAt w' c a U
theorem item_calls (b c : Nat) (s : ByteArray) (i : Nat) (a : Bool) (T : Nat → Bool) (w : World) (hb : RdAt w b s i) (hc : PartAt w c a T) (hne : b ≠ c) (hi : i ≤ s.size) (hs : s.size ≤ 1048576) :
    Calls Tryz.prog 46 #[.pointer (some ⟨b, 0, none⟩), .pointer (some ⟨c, 0, none⟩)] w fun e w' => ItemPost b c s a w (itemF s i T) e w' := by
  unfold itemF
  cases h0 : startsAt s i ⟨#[91, 58]⟩ with
  | true =>
    rw [if_pos rfl]
    cases hk : classNo s i 0 12 with
    | some k =>
      obtain ⟨_, h2, h3, h4⟩ := classNo_some hk
      exact item_class_yes b c s i a T k w hb hc hne hi hs h0 (by omega) h3 (fun j hj => h4 j (Nat.zero_le _) hj)
    | none =>
      refine (item_class_no b c s i w hb hi hs h0 (fun j hj => classNo_none hk j (Nat.zero_le _) (by omega))).mono ?_
      rintro e w' ⟨he, h⟩
      exact ⟨he, h.mono (by simp), T, h.heap hc (by simp)⟩
  | false =>
    rw [if_neg (by decide)]
    by_cases hin : bytePlace s i < s.size
    · rw [if_pos hin]
      by_cases hr : isRange s (bytePlace s i + 1) = true
      · rw [if_pos hr]
        simp only [isRange, Bool.and_eq_true, decide_eq_true_eq, Bool.not_eq_true'] at hr
        obtain ⟨⟨⟨g1, g2⟩, g3⟩, g4⟩ := hr
        by_cases hin2 : bytePlace s (bytePlace s i + 1 + 1) < s.size
        · rw [if_pos hin2]
          exact item_range b c s i a T w hb hc hne hi hs h0 hin g1 g2 g3 g4 hin2
        · rw [if_neg hin2]
          refine (item_range_end b c s i a T w hb hc hne hi hs h0 hin g1 g2 g3 g4 (by omega)).mono ?_
          rintro e w' ⟨he, h⟩
          exact ⟨he, h.mono (by simp), T, h.heap hc (by simp; exact fun e => hne e.symm)⟩
      · rw [if_neg hr]
        cases g1 : startsAt s (bytePlace s i + 1) ⟨#[45]⟩ with
        | false => exact item_one_a b c s i a T w hb hc hne hi hs h0 hin g1
        | true =>
          by_cases g2 : bytePlace s i + 1 + 1 < s.size
          · by_cases g3 : bn s (bytePlace s i + 1 + 1) = 93
            · exact item_one_c b c s i a T w hb hc hne hi hs h0 hin g1 g2 g3
            · cases g4 : startsAt s (bytePlace s i + 1 + 1) ⟨#[91, 58]⟩ with
              | true => exact item_one_d b c s i a T w hb hc hne hi hs h0 hin g1 g2 g3 g4
              | false => exact absurd (show isRange s (bytePlace s i + 1) = true by simp [isRange, g1, g2, g3, g4]) hr
          · exact item_one_b b c s i a T w hb hc hne hi hs h0 hin g1 (by omega)
    · rw [if_neg hin]
      refine (item_end b c s i w hb hi hs h0 (by omega)).mono ?_
      rintro e w' ⟨he, h⟩
      exact ⟨he, h.mono (by simp), T, h.heap hc (by simp; exact fun e => hne e.symm)⟩
end Go.Proofs.YtgkifphfibcfdaaGreatDoor.G
/- A set behind its bracket: as a plain function. Printed by set.py. -/
namespace Go.Proofs.YtgkifphfibcfdaaGreatDoor.G
open Go.RowKit Go.Proofs.YtgkifphfibcfdaaGreatDoor.B
set_option linter.unusedVariables false
/-- The items of a set, up to its end: where that is, what is taken; none: it is no set. -/
def setLoop (s : ByteArray) : Nat → Nat → (Nat → Bool) → Bool → Option (Nat × (Nat → Bool))
  | 0, _, _, _ => none
  | f + 1, i, T, first => if (first || !startsAt s i ⟨#[93]⟩) = true then (if s.size ≤ i then none else match itemF s i T with | some (j, U) => setLoop s f j U false | none => none) else some (i, T)
def notAt (s : ByteArray) (i : Nat) : Bool := startsAt s i ⟨#[33]⟩ || startsAt s i ⟨#[94]⟩
/-- All bytes but those. -/
def flipB (n : Bool) (U : Nat → Bool) : Nat → Bool := fun t => U t != n
/-- What set leaves. -/
def SetPost (b : Nat) (s : ByteArray) (n : Bool) (w : World) (r : Option (Nat × (Nat → Bool))) (e : Ending) (w' : World) : Prop :=
  match r with
  | some (j, U) => e = .returned (.tuple #[.agg (cellsOf false (flipB n U)), .bool true]) ∧ Chg [b] w w' ∧ RdAt w' b s (j + 1)
  | none => ∃ U, e = .returned (.tuple #[.agg (cellsOf false U), .bool false]) ∧ Chg [b] w w'
theorem setLoop_end {s : ByteArray} {f i : Nat} {T : Nat → Bool} {first : Bool} {r : Option (Nat × (Nat → Bool))} (h : setLoop s (f + 1) i T first = r) (hc : (first || !startsAt s i ⟨#[93]⟩) = false) : r = some (i, T) := by
  simp only [setLoop] at h
  rw [hc] at h
  exact h.symm
theorem setLoop_over {s : ByteArray} {f i : Nat} {T : Nat → Bool} {first : Bool} {r : Option (Nat × (Nat → Bool))} (h : setLoop s (f + 1) i T first = r) (hc : (first || !startsAt s i ⟨#[93]⟩) = true) (hi : s.size ≤ i) : r = none := by
  simp only [setLoop] at h
  rw [if_pos hc, if_pos hi] at h
  exact h.symm
theorem setLoop_bad {s : ByteArray} {f i : Nat} {T : Nat → Bool} {first : Bool} {r : Option (Nat × (Nat → Bool))} (h : setLoop s (f + 1) i T first = r) (hc : (first || !startsAt s i ⟨#[93]⟩) = true) (hi : ¬ s.size ≤ i) (hn : itemF s i T = none) : r = none := by
  simp only [setLoop] at h
  rw [if_pos hc, if_neg hi, hn] at h
  exact h.symm
theorem setLoop_go {s : ByteArray} {f i : Nat} {T : Nat → Bool} {first : Bool} {r : Option (Nat × (Nat → Bool))} {j : Nat} {U : Nat → Bool} (h : setLoop s (f + 1) i T first = r) (hc : (first || !startsAt s i ⟨#[93]⟩) = true) (hi : ¬ s.size ≤ i) (hn : itemF s i T = some (j, U)) : setLoop s f j U false = r := by
  simp only [setLoop] at h
  rw [if_pos hc, if_neg hi, hn] at h
  exact h
end Go.Proofs.YtgkifphfibcfdaaGreatDoor.G
/- Compile as one plain function with rounds; the row of parts that is being made. -/
namespace Go.Proofs.YtgkifphfibcfdaaGreatDoor.G
open Go.RowKit Go.Proofs.YtgkifphfibcfdaaGreatDoor.B
set_option linter.unusedVariables false
/-- The cells of parts, one behind the other. -/
def flat (L : List PartV) : List Value := L.flatMap fun x => (cellsOf x.1 x.2).toList
theorem flat_nil : flat [] = [] := rfl
theorem flat_snoc (L : List PartV) (x : PartV) : flat (L ++ [x]) = flat L ++ (cellsOf x.1 x.2).toList := by simp [flat, List.flatMap_append]
theorem flat_length (L : List PartV) : (flat L).length = L.length * 257 := by
  induction L with
  | nil => rfl
  | cons x r ih =>
    have h : flat (x :: r) = (cellsOf x.1 x.2).toList ++ flat r := by simp [flat]
    rw [h, List.length_append, ih, Array.length_toList, cellsOf_size, List.length_cons]
    omega
theorem flat_get (L : List PartV) : ∀ (p : Nat) (h : p < L.length) (j : Nat), j < 257 → (flat L)[p * 257 + j]? = (cellsOf (L[p]'h).1 (L[p]'h).2)[j]? := by
  induction L with
  | nil => intro p h; simp at h
  | cons x r ih =>
    intro p h j hj
    have e : flat (x :: r) = (cellsOf x.1 x.2).toList ++ flat r := by simp [flat]
    have hl : (cellsOf x.1 x.2).toList.length = 257 := by rw [Array.length_toList, cellsOf_size]
    rw [e]
    cases p with
    | zero =>
      rw [List.getElem?_append_left (by rw [hl]; omega)]
      simp
    | succ p =>
      rw [List.getElem?_append_right (by rw [hl]; omega), hl]
      have := ih p (by simpa using h) j hj
      rw [show (p + 1) * 257 + j - 257 = p * 257 + j from by omega, this]
      simp
/-- An owned row of parts is a row of parts. -/
theorem partsAt_of_own {w : World} {base : Nat} {v : Value} {L : List PartV} (h : w.ownsRow base 66 257 v L.length (flat L)) : ∃ A c, v = .slice A L.length c ∧ PartsAt w A L := by
  obtain ⟨h1, h2⟩ := h
  rcases h2 with ⟨rfl, h0⟩ | ⟨g, cap, cur, rfl, hb, hg, hn, hc, hsz, ht⟩
  · exact ⟨none, 0, by rw [h0], fun p hp => by omega⟩
  · refine ⟨_, cap, rfl, fun p hp => ⟨g, rfl, fun j hj => ?_⟩⟩
    rw [cell_of_heap hg, ← flat_get L p hp j hj, ← ht]
    have hlt : p * 257 + j < L.length * 257 := by
      have : (p + 1) * 257 ≤ L.length * 257 := Nat.mul_le_mul_right _ hp
      omega
    rw [List.getElem?_take_of_lt hlt]
    simp
def noneT : Nat → Bool := fun _ => false
/-- A set behind its bracket: where the text goes on, what is taken; none: it is none. -/
def setF (s : ByteArray) (i : Nat) : Option (Nat × (Nat → Bool)) :=
  match setLoop s (s.size + 2) (if notAt s i = true then i + 1 else i) (fun _ => false) true with
  | some (j, U) => some (j + 1, flipB (notAt s i) U)
  | none => none
/-- Compile's rounds: no answer yet; no pattern; the parts. -/
def crun (s : ByteArray) : Nat → Nat → List PartV → Option (Option (List PartV))
  | 0, _, _ => none
  | k + 1, i, L =>
    if i < s.size then
      if bn s i = 42 then crun s k (i + 1) (L ++ [((true, noneT) : PartV)])
      else if bn s i = 63 then crun s k (i + 1) (L ++ [((false, fun _ => true) : PartV)])
      else if bn s i = 91 then
        match setF s (i + 1) with
        | some (j, U) => crun s k j (L ++ [((false, U) : PartV)])
        | none => some none
      else if bytePlace s i < s.size then crun s k (bytePlace s i + 1) (L ++ [((false, upd noneT (bn s (bytePlace s i)) true) : PartV)])
      else some none
    else some (some L)
end Go.Proofs.YtgkifphfibcfdaaGreatDoor.G
/- Compile as a plain function: a pattern's beginning is read alike in a longer text; behind it the rest is read as by itself. -/
namespace Go.Proofs.YtgkifphfibcfdaaGreatDoor.G
open Go.RowKit Go.Proofs.YtgkifphfibcfdaaGreatDoor.B
set_option linter.unusedVariables false
theorem bn_in {s : ByteArray} {j : Nat} (h : j < s.size) : bn s j = (s.data.toList[j]'(by simpa using h)).toNat := by
  unfold bn
  rw [dif_pos h]
  rfl
theorem startsAt_iff {s p : ByteArray} {i : Nat} (hp : 0 < p.size) : startsAt s i p = true ↔ i + p.size ≤ s.size ∧ ∀ t, t < p.size → bn s (i + t) = bn p t := by
  unfold startsAt startsB
  rw [Bool.and_eq_true, decide_eq_true_eq, ByteArray.size_extract, beq_iff_eq, ByteArray.toList_eq, ByteArray.toList_eq]
  have e : ((s.extract i s.size).extract 0 p.size).data.toList = (s.data.toList.drop i).take p.size := by
    apply List.ext_getElem?
    intro n
    simp only [ByteArray.data_extract, Array.toList_extract, List.extract_eq_take_drop, List.getElem?_take, List.getElem?_drop, Nat.zero_add]
    have h2 : s.data.toList.length = s.size := by simp
    by_cases h1 : n < p.size
    · by_cases h3 : i + n < s.size
      · simp [h1, show n < s.size - i by omega]
      · simp only [h1, if_true]
        rw [List.getElem?_eq_none (by omega)]
        simp
    · simp [h1]
  rw [e]
  have hl : p.data.toList.length = p.size := by simp
  have hls : s.data.toList.length = s.size := by simp
  constructor
  · rintro ⟨h1, h2⟩
    refine ⟨by omega, fun t ht => ?_⟩
    rw [bn_in (show i + t < s.size by omega), bn_in ht]
    have h3 : ((s.data.toList.drop i).take p.size)[t]? = p.data.toList[t]? := by rw [h2]
    rw [List.getElem?_take_of_lt ht, List.getElem?_drop, List.getElem?_eq_getElem (by rw [hls]; omega), List.getElem?_eq_getElem (by rw [hl]; exact ht)] at h3
    exact congrArg UInt8.toNat (Option.some.inj h3)
  · rintro ⟨h1, h2⟩
    refine ⟨by omega, ?_⟩
    apply List.ext_getElem
    · rw [List.length_take, List.length_drop, hl, hls]; omega
    · intro t g1 g2
      rw [hl] at g2
      have := h2 t g2
      rw [bn_in (show i + t < s.size by omega), bn_in g2] at this
      rw [List.getElem_take, List.getElem_drop]
      exact UInt8.toNat_inj.1 this
/-- P is a beginning of S. -/
structure Pre (P S : ByteArray) : Prop where
  le : P.size ≤ S.size
  at_ : ∀ j, j < P.size → bn S j = bn P j
/-- S goes on behind d bytes as Q. -/
structure Suf (d : Nat) (Q S : ByteArray) : Prop where
  size : S.size = d + Q.size
  at_ : ∀ j, j < Q.size → bn S (d + j) = bn Q j
theorem pre_append (P Q : ByteArray) : Pre P (P ++ Q) := by
  refine ⟨by rw [ByteArray.size_append]; omega, fun j hj => ?_⟩
  rw [bn_in (show j < (P ++ Q).size by rw [ByteArray.size_append]; omega), bn_in hj]
  congr 1
  have h : (P ++ Q).data.toList = P.data.toList ++ Q.data.toList := by simp
  have h2 : (P ++ Q).data.toList[j]? = P.data.toList[j]? := by rw [h, List.getElem?_append_left (by simpa using hj)]
  rw [List.getElem?_eq_getElem (by simp; omega), List.getElem?_eq_getElem (by simpa using hj)] at h2
  exact Option.some.inj h2
theorem suf_append (P Q : ByteArray) : Suf P.size Q (P ++ Q) := by
  refine ⟨by rw [ByteArray.size_append], fun j hj => ?_⟩
  rw [bn_in (show P.size + j < (P ++ Q).size by rw [ByteArray.size_append]; omega), bn_in hj]
  congr 1
  have h : (P ++ Q).data.toList = P.data.toList ++ Q.data.toList := by simp
  have hl : P.data.toList.length = P.size := by simp
  have h2 : (P ++ Q).data.toList[P.size + j]? = Q.data.toList[j]? := by
    rw [h, List.getElem?_append_right (by rw [hl]; omega), hl]
    congr 1
    omega
  rw [List.getElem?_eq_getElem (by simp; omega), List.getElem?_eq_getElem (by simpa using hj)] at h2
  exact Option.some.inj h2
theorem Pre.trans {P S T : ByteArray} (h : Pre P S) (k : Pre S T) : Pre P T := ⟨Nat.le_trans h.le k.le, fun j hj => (k.at_ j (Nat.lt_of_lt_of_le hj h.le)).trans (h.at_ j hj)⟩
theorem Pre.starts {P S : ByteArray} (h : Pre P S) {i : Nat} {p : ByteArray} (hp : 0 < p.size) (hi : i + p.size ≤ P.size) : startsAt S i p = startsAt P i p := by
  apply Bool.eq_iff_iff.2
  rw [startsAt_iff hp, startsAt_iff hp]
  have := h.le
  constructor
  · rintro ⟨a, b⟩; exact ⟨hi, fun t ht => by rw [← b t ht, h.at_ _ (by omega)]⟩
  · rintro ⟨a, b⟩; exact ⟨by omega, fun t ht => by rw [← b t ht, h.at_ _ (by omega)]⟩
theorem Suf.starts {d : Nat} {Q S : ByteArray} (h : Suf d Q S) {i : Nat} {p : ByteArray} (hp : 0 < p.size) : startsAt S (d + i) p = startsAt Q i p := by
  apply Bool.eq_iff_iff.2
  rw [startsAt_iff hp, startsAt_iff hp]
  have := h.size
  constructor
  · rintro ⟨a, b⟩; exact ⟨by omega, fun t ht => by rw [← b t ht, Nat.add_assoc, h.at_ _ (by omega)]⟩
  · rintro ⟨a, b⟩; exact ⟨by omega, fun t ht => by rw [← b t ht, Nat.add_assoc, h.at_ _ (by omega)]⟩
theorem Pre.place {P S : ByteArray} (h : Pre P S) {i : Nat} (hi : i < P.size) : bytePlace S i = bytePlace P i := by
  unfold bytePlace
  rw [h.starts (p := ⟨#[92]⟩) (by decide) (show i + 1 ≤ P.size from hi)]
theorem Suf.place {d : Nat} {Q S : ByteArray} (h : Suf d Q S) (i : Nat) : bytePlace S (d + i) = d + bytePlace Q i := by
  unfold bytePlace
  rw [h.starts (p := ⟨#[92]⟩) (by decide)]
  split <;> omega
theorem cpat_pos (k : Nat) : 0 < (cpat k).size := by rw [cpat_len]; omega
theorem cpat_apart : ((List.range 12).all fun j => (List.range 12).all fun k => j == k || (List.range 12).any fun t => decide (t < (cpat j).size) && decide (t < (cpat k).size) && (bn (cpat j) t != bn (cpat k) t)) = true := by kernel_rfl
theorem cpat_one {s : ByteArray} {i j k : Nat} (hj : j < 12) (hk : k < 12) (h1 : startsAt s i (cpat j) = true) (h2 : startsAt s i (cpat k) = true) : j = k := by
  have h := cpat_apart
  rw [List.all_eq_true] at h
  have h3 := h j (by simpa using hj)
  rw [List.all_eq_true] at h3
  have h4 := h3 k (by simpa using hk)
  simp only [Bool.or_eq_true, beq_iff_eq, List.any_eq_true, Bool.and_eq_true, decide_eq_true_eq, bne_iff_ne, ne_eq] at h4
  rcases h4 with h4 | ⟨t, _, ⟨g1, g2⟩, g3⟩
  · exact h4
  · exact absurd (((startsAt_iff (cpat_pos j)).1 h1).2 t g1 ▸ ((startsAt_iff (cpat_pos k)).1 h2).2 t g2 ▸ rfl) g3
theorem classNo_of {s : ByteArray} {i k : Nat} (hk : k < 12) (h : startsAt s i (cpat k) = true) : classNo s i 0 12 = some k := by
  cases hc : classNo s i 0 12 with
  | none => rw [classNo_none hc k (Nat.zero_le _) (by omega)] at h; cases h
  | some r =>
    obtain ⟨_, h2, h3, _⟩ := classNo_some hc
    rw [cpat_one (by omega) hk h3 h]
theorem two_pos : (0 : Nat) < (⟨#[91, 58]⟩ : ByteArray).size := by decide
theorem one_bn {s : ByteArray} {i : Nat} {c : UInt8} : startsAt s i ⟨#[c]⟩ = true ↔ i < s.size ∧ bn s i = c.toNat := by
  rw [startsAt_iff (show 0 < (⟨#[c]⟩ : ByteArray).size from Nat.zero_lt_one)]
  constructor
  · rintro ⟨h1, h2⟩
    exact ⟨h1, h2 0 Nat.zero_lt_one⟩
  · rintro ⟨h1, h2⟩
    refine ⟨h1, fun t ht => ?_⟩
    have h0 : t < 1 := ht
    obtain rfl : t = 0 := by omega
    exact h2
theorem Pre.range {P S : ByteArray} (h : Pre P S) {q : Nat} (hq : q < P.size) (hc : q + 1 < P.size ∨ bn P q ≠ 45) (hr : isRange P q = true → q + 3 ≤ P.size) : isRange S q = isRange P q := by
  have hle := h.le
  unfold isRange
  rw [h.starts (p := ⟨#[45]⟩) (by decide) (show q + 1 ≤ P.size from hq)]
  cases h0 : startsAt P q ⟨#[45]⟩ with
  | false => rfl
  | true =>
    have h1 := (one_bn.1 h0).2
    have h2 : q + 1 < P.size := by
      rcases hc with hc | hc
      · exact hc
      · exact absurd h1 hc
    have d1 : decide (q + 1 < S.size) = true := decide_eq_true (by omega)
    have d2 : decide (q + 1 < P.size) = true := decide_eq_true h2
    rw [d1, d2, h.at_ _ h2]
    by_cases h93 : bn P (q + 1) = 93
    · simp [h93]
    · by_cases h3 : q + 3 ≤ P.size
      · rw [h.starts two_pos (show q + 1 + 2 ≤ P.size from h3)]
      · exfalso
        apply h3
        apply hr
        unfold isRange
        rw [h0, d2]
        have : startsAt P (q + 1) ⟨#[91, 58]⟩ = false := by
          apply Bool.eq_false_iff.2
          intro hh
          have := ((startsAt_iff two_pos).1 hh).1
          have e2 : (⟨#[91, 58]⟩ : ByteArray).size = 2 := rfl
          omega
        rw [this]
        simp [h93]
theorem Pre.item {P S : ByteArray} (h : Pre P S) {i : Nat} {T : Nat → Bool} {i' : Nat} {T' : Nat → Bool} (hi : i ≤ P.size) (hit : itemF P i T = some (i', T')) (hlt : i' < P.size) (hc : i' + 1 < P.size ∨ bn P i' = 93) : itemF S i T = some (i', T') := by
  have hle := h.le
  have hnx := itemF_next hi hit
  have e2 : (⟨#[91, 58]⟩ : ByteArray).size = 2 := rfl
  unfold itemF at hit ⊢
  rw [h.starts two_pos (show i + 2 ≤ P.size by omega)]
  split at hit
  · rename_i h0
    rw [if_pos h0]
    split at hit
    · rename_i k hk
      obtain ⟨_, h2, h3, _⟩ := classNo_some hk
      have hf := ((startsAt_iff (cpat_pos k)).1 h3).1
      rw [classNo_of (k := k) (by omega) (by rw [h.starts (cpat_pos k) hf]; exact h3)]
      exact hit
    · cases hit
  · rename_i h0
    rw [if_neg h0]
    split at hit
    · rename_i h1
      have hp := le_bytePlace P i
      rw [h.place (show i < P.size by omega)]
      rw [if_pos (show bytePlace P i < S.size by omega)]
      split at hit
      · rename_i hr
        split at hit
        · rename_i h5
          have hp2 := le_bytePlace P (bytePlace P i + 1 + 1)
          simp only [Option.some.injEq, Prod.mk.injEq] at hit
          obtain ⟨hi', hT⟩ := hit
          have hq : bytePlace P i + 1 < P.size := by omega
          rw [h.range hq (.inl (by omega)) (fun _ => by omega), if_pos hr, h.place (show bytePlace P i + 1 + 1 < P.size by omega), if_pos (by omega), h.at_ _ h1, h.at_ _ h5, hi', hT]
        · cases hit
      · rename_i hr
        simp only [Option.some.injEq, Prod.mk.injEq] at hit
        obtain ⟨hi', hT⟩ := hit
        rw [h.range (by omega) (by
          rcases hc with hc | hc
          · left; omega
          · right; rw [hi', hc]; decide) (fun hh => absurd hh hr), if_neg hr, h.at_ _ h1, hi', hT]
    · cases hit
theorem setLoop_some {P : ByteArray} : ∀ {f i : Nat} {T : Nat → Bool} {first : Bool} {j : Nat} {U : Nat → Bool}, setLoop P f i T first = some (j, U) → i ≤ P.size → i ≤ j ∧ j < P.size ∧ bn P j = 93
  | 0, _, _, _, _, _, h, _ => by cases h
  | f + 1, i, T, first, j, U, h, hi => by
    cases hc : (first || !startsAt P i ⟨#[93]⟩) with
    | false =>
      have := setLoop_end h hc
      simp only [Option.some.injEq, Prod.mk.injEq] at this
      obtain ⟨rfl, rfl⟩ := this
      simp only [Bool.or_eq_false_iff, Bool.not_eq_false'] at hc
      have := one_bn.1 hc.2
      exact ⟨Nat.le_refl _, this.1, this.2⟩
    | true =>
      by_cases hlt : P.size ≤ i
      · cases setLoop_over h hc hlt
      · cases hn : itemF P i T with
        | none => cases setLoop_bad h hc hlt hn
        | some r =>
          obtain ⟨i', T'⟩ := r
          have hnx := itemF_next hi hn
          have := setLoop_some (setLoop_go h hc hlt hn) hnx.2
          exact ⟨by omega, this.2⟩
theorem Pre.loop {P S : ByteArray} (h : Pre P S) : ∀ {f i : Nat} {T : Nat → Bool} {first : Bool} {j : Nat} {U : Nat → Bool}, setLoop P f i T first = some (j, U) → i ≤ P.size → setLoop S f i T first = some (j, U)
  | 0, _, _, _, _, _, hl, _ => by cases hl
  | f + 1, i, T, first, j, U, hl, hi => by
    have hle := h.le
    have hend := setLoop_some hl hi
    have hs : startsAt S i ⟨#[93]⟩ = startsAt P i ⟨#[93]⟩ := h.starts (p := ⟨#[93]⟩) (by decide) (show i + 1 ≤ P.size by omega)
    cases hc : (first || !startsAt P i ⟨#[93]⟩) with
    | false =>
      have := setLoop_end hl hc
      simp only [setLoop]
      rw [hs, hc, this]
      simp
    | true =>
      by_cases hlt : P.size ≤ i
      · cases setLoop_over hl hc hlt
      · cases hn : itemF P i T with
        | none => cases setLoop_bad hl hc hlt hn
        | some r =>
          obtain ⟨i', T'⟩ := r
          have hnx := itemF_next hi hn
          have hl2 := setLoop_go hl hc hlt hn
          have h3 := setLoop_some hl2 hnx.2
          simp only [setLoop]
          rw [hs, if_pos hc, if_neg (by omega), h.item hi hn (by omega) (by
            by_cases hh : i' + 1 < P.size
            · exact .inl hh
            · right
              have : j = i' := by omega
              rw [← this]; exact h3.2.2)]
          exact h.loop hl2 hnx.2
theorem setLoop_more {S : ByteArray} : ∀ {f i : Nat} {T : Nat → Bool} {first : Bool} {j : Nat} {U : Nat → Bool} (d : Nat), setLoop S f i T first = some (j, U) → setLoop S (f + d) i T first = some (j, U)
  | 0, _, _, _, _, _, _, h => by cases h
  | f + 1, i, T, first, j, U, d, h => by
    have e : f + 1 + d = (f + d) + 1 := by omega
    rw [e]
    cases hc : (first || !startsAt S i ⟨#[93]⟩) with
    | false =>
      have := setLoop_end h hc
      simp only [setLoop]
      rw [hc, this]
      simp
    | true =>
      by_cases hlt : S.size ≤ i
      · cases setLoop_over h hc hlt
      · cases hn : itemF S i T with
        | none => cases setLoop_bad h hc hlt hn
        | some r =>
          obtain ⟨i', T'⟩ := r
          simp only [setLoop]
          rw [if_pos hc, if_neg hlt, hn]
          exact setLoop_more d (setLoop_go h hc hlt hn)
theorem Pre.not {P S : ByteArray} (h : Pre P S) {i : Nat} (hi : i < P.size) : notAt S i = notAt P i := by
  unfold notAt
  rw [h.starts (p := ⟨#[33]⟩) (by decide) (show i + 1 ≤ P.size from hi), h.starts (p := ⟨#[94]⟩) (by decide) (show i + 1 ≤ P.size from hi)]
theorem notAt_in {s : ByteArray} {i : Nat} (h : notAt s i = true) : i < s.size := by
  unfold notAt at h
  rw [Bool.or_eq_true] at h
  rcases h with h | h <;> exact startsAt_in h
theorem setF_some {s : ByteArray} {i j : Nat} {U : Nat → Bool} (h : setF s i = some (j, U)) (hi : i ≤ s.size) : i < j ∧ j ≤ s.size ∧ i < s.size := by
  unfold setF at h
  split at h
  · rename_i j' U' hl
    simp only [Option.some.injEq, Prod.mk.injEq] at h
    have hh : (if notAt s i = true then i + 1 else i) ≤ s.size ∧ i ≤ (if notAt s i = true then i + 1 else i) := by
      split
      · rename_i hn; have := notAt_in hn; omega
      · omega
    have := setLoop_some hl hh.1
    omega
  · cases h
theorem Pre.set {P S : ByteArray} (h : Pre P S) {i j : Nat} {U : Nat → Bool} (hs : setF P i = some (j, U)) (hi : i ≤ P.size) : setF S i = some (j, U) := by
  have hb := setF_some hs hi
  have hle := h.le
  unfold setF at hs ⊢
  rw [h.not hb.2.2]
  split at hs
  · rename_i j' U' hl
    have hh : (if notAt P i = true then i + 1 else i) ≤ P.size := by
      split
      · omega
      · omega
    have h2 := setLoop_more (S.size - P.size) (h.loop hl hh)
    have e : P.size + 2 + (S.size - P.size) = S.size + 2 := by omega
    rw [e] at h2
    rw [h2]
    exact hs
  · cases hs
/-- A pattern is read alike in a longer text. -/
theorem Pre.run {P S : ByteArray} (h : Pre P S) {L' : List PartV} {k2 : Nat} {R : Option (List PartV)} (h2 : crun S k2 P.size L' = some R) : ∀ (k i : Nat) (L : List PartV), i ≤ P.size → crun P k i L = some (some L') → ∃ k3, crun S k3 i L = some R
  | 0, _, _, _, hr => by cases hr
  | k + 1, i, L, hi, hr => by
    have hle := h.le
    simp only [crun] at hr
    by_cases hlt : i < P.size
    · rw [if_pos hlt] at hr
      have hb := h.at_ i hlt
      have hi2 : i < S.size := by omega
      by_cases h42 : bn P i = 42
      · rw [if_pos h42] at hr
        obtain ⟨k3, h3⟩ := h.run h2 k (i + 1) _ hlt hr
        exact ⟨k3 + 1, by simp only [crun]; rw [if_pos hi2, hb, if_pos h42, h3]⟩
      · rw [if_neg h42] at hr
        by_cases h63 : bn P i = 63
        · rw [if_pos h63] at hr
          obtain ⟨k3, h3⟩ := h.run h2 k (i + 1) _ hlt hr
          exact ⟨k3 + 1, by simp only [crun]; rw [if_pos hi2, hb, if_neg h42, if_pos h63, h3]⟩
        · rw [if_neg h63] at hr
          by_cases h91 : bn P i = 91
          · rw [if_pos h91] at hr
            split at hr
            · rename_i j U hs
              have hj := setF_some hs hlt
              obtain ⟨k3, h3⟩ := h.run h2 k j _ hj.2.1 hr
              exact ⟨k3 + 1, by simp only [crun]; rw [if_pos hi2, hb, if_neg h42, if_neg h63, if_pos h91, h.set hs hlt]; exact h3⟩
            · cases hr
          · rw [if_neg h91] at hr
            split at hr
            · rename_i hp
              obtain ⟨k3, h3⟩ := h.run h2 k _ _ hp hr
              exact ⟨k3 + 1, by simp only [crun]; rw [if_pos hi2, hb, if_neg h42, if_neg h63, if_neg h91, h.place hlt, if_pos (by omega), h.at_ _ hp, h3]⟩
            · cases hr
    · rw [if_neg hlt] at hr
      obtain rfl : i = P.size := by omega
      obtain rfl := Option.some.inj (Option.some.inj hr)
      exact ⟨k2, h2⟩
theorem Suf.cls {d : Nat} {Q S : ByteArray} (h : Suf d Q S) (i : Nat) : ∀ (n k : Nat), classNo S (d + i) k n = classNo Q i k n
  | 0, _ => rfl
  | n + 1, k => by
    simp only [classNo]
    rw [h.starts (cpat_pos k), h.cls i n (k + 1)]
theorem Suf.lt {d : Nat} {Q S : ByteArray} (h : Suf d Q S) (i : Nat) : d + i < S.size ↔ i < Q.size := by have := h.size; omega
theorem Suf.range {d : Nat} {Q S : ByteArray} (h : Suf d Q S) (q : Nat) : isRange S (d + q) = isRange Q q := by
  have h1 : d + q + 1 = d + (q + 1) := by omega
  have e : decide (d + (q + 1) < S.size) = decide (q + 1 < Q.size) := decide_eq_decide.2 (h.lt _)
  unfold isRange
  rw [h1, h.starts (p := ⟨#[45]⟩) (by decide), h.starts two_pos, e]
  by_cases hq : q + 1 < Q.size
  · rw [h.at_ _ hq]
  · simp [hq]
theorem Suf.item {d : Nat} {Q S : ByteArray} (h : Suf d Q S) {i : Nat} {T : Nat → Bool} {i' : Nat} {T' : Nat → Bool} (hit : itemF Q i T = some (i', T')) : itemF S (d + i) T = some (d + i', T') := by
  unfold itemF at hit ⊢
  rw [h.starts two_pos, h.cls, h.place]
  split at hit
  · rename_i h0
    rw [if_pos h0]
    split at hit
    · rename_i k hk
      simp only [Option.some.injEq, Prod.mk.injEq] at hit ⊢
      exact ⟨by omega, hit.2⟩
    · cases hit
  · rename_i h0
    rw [if_neg h0]
    split at hit
    · rename_i h1
      have a1 : d + bytePlace Q i + 1 = d + (bytePlace Q i + 1) := by omega
      have a2 : d + (bytePlace Q i + 1) + 1 = d + (bytePlace Q i + 1 + 1) := by omega
      rw [if_pos ((h.lt _).2 h1), a1, a2, h.range, h.place, h.at_ _ h1]
      split at hit
      · rename_i hr
        rw [if_pos hr]
        split at hit
        · rename_i h5
          rw [if_pos ((h.lt _).2 h5), h.at_ _ h5]
          simp only [Option.some.injEq, Prod.mk.injEq] at hit ⊢
          exact ⟨by omega, hit.2⟩
        · cases hit
      · rename_i hr
        rw [if_neg hr]
        simp only [Option.some.injEq, Prod.mk.injEq] at hit ⊢
        exact ⟨by omega, hit.2⟩
    · cases hit
theorem Suf.loop {d : Nat} {Q S : ByteArray} (h : Suf d Q S) : ∀ {f i : Nat} {T : Nat → Bool} {first : Bool} {j : Nat} {U : Nat → Bool}, setLoop Q f i T first = some (j, U) → setLoop S f (d + i) T first = some (d + j, U)
  | 0, _, _, _, _, _, hl => by cases hl
  | f + 1, i, T, first, j, U, hl => by
    have hs : startsAt S (d + i) ⟨#[93]⟩ = startsAt Q i ⟨#[93]⟩ := h.starts (p := ⟨#[93]⟩) (by decide)
    have hz := h.size
    cases hc : (first || !startsAt Q i ⟨#[93]⟩) with
    | false =>
      have := setLoop_end hl hc
      simp only [Option.some.injEq, Prod.mk.injEq] at this
      simp only [setLoop]
      rw [hs, hc, this.1, this.2]
      simp
    | true =>
      by_cases hlt : Q.size ≤ i
      · cases setLoop_over hl hc hlt
      · cases hn : itemF Q i T with
        | none => cases setLoop_bad hl hc hlt hn
        | some r =>
          obtain ⟨i', T'⟩ := r
          simp only [setLoop]
          rw [hs, if_pos hc, if_neg (by omega), h.item hn]
          exact h.loop (setLoop_go hl hc hlt hn)
theorem Suf.not {d : Nat} {Q S : ByteArray} (h : Suf d Q S) (i : Nat) : notAt S (d + i) = notAt Q i := by
  unfold notAt
  rw [h.starts (p := ⟨#[33]⟩) (by decide), h.starts (p := ⟨#[94]⟩) (by decide)]
theorem Suf.set {d : Nat} {Q S : ByteArray} (h : Suf d Q S) {i j : Nat} {U : Nat → Bool} (hs : setF Q i = some (j, U)) : setF S (d + i) = some (d + j, U) := by
  have hz := h.size
  unfold setF at hs ⊢
  rw [h.not]
  split at hs
  · rename_i j' U' hl
    have h2 := setLoop_more d (h.loop hl)
    have e : Q.size + 2 + d = S.size + 2 := by omega
    have e2 : (if notAt Q i = true then d + i + 1 else d + i) = d + (if notAt Q i = true then i + 1 else i) := by split <;> omega
    rw [e] at h2
    rw [e2, h2]
    simp only [Option.some.injEq, Prod.mk.injEq] at hs ⊢
    exact ⟨by omega, hs.2⟩
  · cases hs
/-- Behind a beginning the rest is read as by itself. -/
theorem Suf.run {d : Nat} {Q S : ByteArray} (h : Suf d Q S) (A : List PartV) : ∀ (k i : Nat) (L L' : List PartV), crun Q k i L = some (some L') → crun S k (d + i) (A ++ L) = some (some (A ++ L'))
  | 0, _, _, _, hr => by cases hr
  | k + 1, i, L, L', hr => by
    simp only [crun] at hr ⊢
    by_cases hlt : i < Q.size
    · rw [if_pos hlt] at hr
      have hb := h.at_ i hlt
      rw [if_pos ((h.lt _).2 hlt), hb, h.place]
      have a1 : d + i + 1 = d + (i + 1) := by omega
      by_cases h42 : bn Q i = 42
      · rw [if_pos h42] at hr ⊢
        rw [a1, List.append_assoc]
        exact h.run A k _ _ _ hr
      · rw [if_neg h42] at hr ⊢
        by_cases h63 : bn Q i = 63
        · rw [if_pos h63] at hr ⊢
          rw [a1, List.append_assoc]
          exact h.run A k _ _ _ hr
        · rw [if_neg h63] at hr ⊢
          by_cases h91 : bn Q i = 91
          · rw [if_pos h91] at hr ⊢
            split at hr
            · rename_i j U hs
              rw [a1, h.set hs]
              simp only
              rw [List.append_assoc]
              exact h.run A k _ _ _ hr
            · cases hr
          · rw [if_neg h91] at hr ⊢
            split at hr
            · rename_i hp
              rw [if_pos ((h.lt _).2 hp), h.at_ _ hp]
              have a2 : d + bytePlace Q i + 1 = d + (bytePlace Q i + 1) := by omega
              rw [a2, List.append_assoc]
              exact h.run A k _ _ _ hr
            · cases hr
    · rw [if_neg hlt] at hr
      rw [if_neg (fun hh => hlt ((h.lt _).1 hh))]
      obtain rfl := Option.some.inj (Option.some.inj hr)
      rfl
theorem crun_more {s : ByteArray} : ∀ {k i : Nat} {L : List PartV} {R : Option (List PartV)} (d : Nat), crun s k i L = some R → crun s (k + d) i L = some R
  | 0, _, _, _, _, h => by cases h
  | k + 1, i, L, R, d, h => by
    have e : k + 1 + d = (k + d) + 1 := by omega
    rw [e]
    simp only [crun] at h ⊢
    split at h
    · rename_i h1
      rw [if_pos h1]
      split at h
      · rename_i h2
        rw [if_pos h2]; exact crun_more d h
      · rename_i h2
        rw [if_neg h2]
        split at h
        · rename_i h3
          rw [if_pos h3]; exact crun_more d h
        · rename_i h3
          rw [if_neg h3]
          split at h
          · rename_i h4
            rw [if_pos h4]
            split at h
            · rename_i hs
              exact crun_more d h
            · rename_i hs
              exact h
          · rename_i h4
            rw [if_neg h4]
            split at h
            · rename_i h5
              rw [if_pos h5]; exact crun_more d h
            · rename_i h5
              rw [if_neg h5]; exact h
    · rename_i h1
      rw [if_neg h1]; exact h
theorem crun_same {s : ByteArray} {k k' i : Nat} {L : List PartV} {R R' : Option (List PartV)} (h : crun s k i L = some R) (h' : crun s k' i L = some R') : R = R' := by
  have a := crun_more k' h
  have b := crun_more k h'
  rw [Nat.add_comm] at b
  rw [a] at b
  exact Option.some.inj b
/-- Compile's rounds end. -/
theorem crun_ends (s : ByteArray) : ∀ (k i : Nat) (L : List PartV), i ≤ s.size → s.size < k + i → ∃ R, crun s k i L = some R
  | 0, i, L, h1, h2 => by omega
  | k + 1, i, L, h1, h2 => by
    simp only [crun]
    by_cases hlt : i < s.size
    · rw [if_pos hlt]
      split
      · exact crun_ends s k _ _ hlt (by omega)
      · split
        · exact crun_ends s k _ _ hlt (by omega)
        · split
          · split
            · rename_i j U hs
              have := setF_some hs hlt
              exact crun_ends s k _ _ this.2.1 (by omega)
            · exact ⟨_, rfl⟩
          · split
            · rename_i hp
              have := le_bytePlace s i
              exact crun_ends s k _ _ hp (by omega)
            · exact ⟨_, rfl⟩
    · rw [if_neg hlt]; exact ⟨_, rfl⟩
/-- What a text means: parts, or none. -/
def parts (s : ByteArray) : Option (List PartV) := (crun s (s.size + 1) 0 []).getD none
theorem crun_parts (s : ByteArray) : crun s (s.size + 1) 0 [] = some (parts s) := by
  obtain ⟨R, hR⟩ := crun_ends s (s.size + 1) 0 [] (Nat.zero_le _) (by omega)
  unfold parts
  rw [hR]
  rfl
theorem parts_of {s : ByteArray} {k : Nat} {R : Option (List PartV)} (h : crun s k 0 [] = some R) : parts s = R := crun_same (crun_parts s) h
/-- Patterns one behind the other. -/
theorem parts_append {P Q : ByteArray} {A B : List PartV} (hP : parts P = some A) (hQ : parts Q = some B) : parts (P ++ Q) = some (A ++ B) := by
  have h1 := crun_parts P
  have h2 := crun_parts Q
  rw [hP] at h1
  rw [hQ] at h2
  have h3 := (suf_append P Q).run A _ _ _ _ h2
  rw [List.append_nil, Nat.add_zero] at h3
  obtain ⟨k3, h4⟩ := (pre_append P Q).run h3 _ _ _ (Nat.zero_le _) h1
  exact parts_of h4
theorem parts_star : parts ⟨#[42]⟩ = some [((true, noneT) : PartV)] := parts_of (k := 2) rfl
end Go.Proofs.YtgkifphfibcfdaaGreatDoor.G
/- The reference's begins, lone, one. -/
namespace Go.Proofs.YtgkifphfibcfdaaGreatDoor.G
open Go.RowKit Go.Proofs.YtgkifphfibcfdaaGreatDoor.B
set_option linter.unusedVariables false
theorem begins_iff {s : ByteArray} {i : Nat} : startsAt s i ⟨#[91, 58]⟩ = true ↔ i + 2 ≤ s.size ∧ bn s i = 91 ∧ bn s (i + 1) = 58 := by
  rw [startsAt_iff two_pos]
  have e2 : (⟨#[91, 58]⟩ : ByteArray).size = 2 := rfl
  constructor
  · rintro ⟨h1, h2⟩
    exact ⟨h1, h2 0 (by omega), h2 1 (by omega)⟩
  · rintro ⟨h1, h2, h3⟩
    refine ⟨h1, fun t ht => ?_⟩
    match t, ht with
    | 0, _ => exact h2
    | 1, _ => exact h3
    | t + 2, ht => exact absurd ht (by omega)
set_option maxHeartbeats 2000000 in
theorem begins_calls (s : ByteArray) (i : Nat) (w : World) (hi : i ≤ s.size) (hs : s.size ≤ 1048576) :
    Calls Tryz.prog 47 #[.string s, .int .i64 (i : Int)] w fun e w' => e = .returned (.bool (startsAt s i ⟨#[91, 58]⟩)) ∧ w' = w := by
  by_cases h1 : i + 1 < s.size
  · have h0 : i < s.size := by omega
    have b0 : bn s i = s[i].toNat := by unfold bn; rw [dif_pos h0]
    have b1 : bn s (i + 1) = s[i + 1].toNat := by unfold bn; rw [dif_pos h1]
    by_cases h91 : bn s i = 91
    · by_cases h58 : bn s (i + 1) = 58
      · have HV := Asd.mk (begins_iff.2 ⟨by omega, h91, h58⟩)
        have t1 : (((s[i].toNat : Nat) : Int) == 91) = true := by rw [← b0, h91]; rfl
        have t2 : (((s[i + 1].toNat : Nat) : Int) == 58) = true := by rw [← b1, h58]; rfl
        clear b0 b1 h91 h58
        go_enter Tryz.func47, Tryz.ntmps47
        go_wp2
        go_ret
        exact ⟨by rw [HV.out]; rfl, rfl⟩
      · have HV := Asd.mk (Bool.eq_false_iff.2 (fun h => h58 (begins_iff.1 h).2.2))
        have t1 : (((s[i].toNat : Nat) : Int) == 91) = true := by rw [← b0, h91]; rfl
        have t2 : (((s[i + 1].toNat : Nat) : Int) == 58) = false := by rw [← b1]; simp; omega
        clear b0 b1 h91 h58
        go_enter Tryz.func47, Tryz.ntmps47
        go_wp2
        go_ret
        exact ⟨by rw [HV.out]; rfl, rfl⟩
    · have HV := Asd.mk (Bool.eq_false_iff.2 (fun h => h91 (begins_iff.1 h).2.1))
      have t1 : (((s[i].toNat : Nat) : Int) == 91) = false := by rw [← b0]; simp; omega
      clear b0 b1 h91
      go_enter Tryz.func47, Tryz.ntmps47
      go_wp2
      go_ret
      exact ⟨by rw [HV.out]; rfl, rfl⟩
  · have HV := Asd.mk (show startsAt s i ⟨#[91, 58]⟩ = false from Bool.eq_false_iff.2 (fun h => h1 (by have := (begins_iff.1 h).1; omega)))
    go_enter Tryz.func47, Tryz.ntmps47
    go_wp2
    go_ret
    exact ⟨by rw [HV.out]; rfl, rfl⟩
theorem bytePlace_no {s : ByteArray} {i : Nat} (h : bn s i ≠ 92) : bytePlace s i = i := by
  unfold bytePlace
  rw [if_neg (fun h2 => h (one_bn.1 h2).2)]
theorem bytePlace_yes {s : ByteArray} {i : Nat} (hi : i < s.size) (h : bn s i = 92) : bytePlace s i = i + 1 := by
  unfold bytePlace
  rw [if_pos (one_bn.2 ⟨hi, by rw [h]; rfl⟩)]
/-- lone: the byte at a place of a set, how long it is; none: the pattern ends. -/
theorem lone_yes (s : ByteArray) (i : Nat) (w : World) (hs : s.size ≤ 1048576) (hin : bytePlace s i < s.size) :
    Calls Tryz.prog 50 #[.string s, .int .i64 (i : Int)] w fun e w' => e = .returned (.tuple #[.int .u8 (bn s (bytePlace s i) : Int), .int .i64 ((bytePlace s i + 1 - i : Nat) : Int)]) ∧ w' = w := by
  have hi : i < s.size := by have := le_bytePlace s i; omega
  have b0 : bn s i = s[i].toNat := by unfold bn; rw [dif_pos hi]
  by_cases h92 : bn s i = 92
  · rw [bytePlace_yes hi h92] at hin ⊢
    have b1 : bn s (i + 1) = s[i + 1].toNat := by unfold bn; rw [dif_pos hin]
    have t1 : (((s[i].toNat : Nat) : Int) != 92) = false := by rw [← b0, h92]; rfl
    have e : i + 1 + 1 - i = 2 := by omega
    rw [e]
    have HB := Asd.mk b1
    clear b0 b1 h92
    go_enter Tryz.func50, Tryz.ntmps50
    go_wp2
    go_ret2
    exact ⟨by rw [HB.out]; rfl, rfl⟩
  · rw [bytePlace_no h92] at hin ⊢
    have t1 : (((s[i].toNat : Nat) : Int) != 92) = true := by rw [← b0]; simp; omega
    have e : i + 1 - i = 1 := by omega
    rw [e]
    have HB := Asd.mk b0
    clear b0 h92
    go_enter Tryz.func50, Tryz.ntmps50
    go_wp2
    go_ret2
    exact ⟨by rw [HB.out]; rfl, rfl⟩
theorem lone_no (s : ByteArray) (i : Nat) (w : World) (hi : i ≤ s.size) (hs : s.size ≤ 1048576) (hin : ¬ bytePlace s i < s.size) :
    Calls Tryz.prog 50 #[.string s, .int .i64 (i : Int)] w fun e w' => e = .returned (.tuple #[.int .u8 0, .int .i64 0]) ∧ w' = w := by
  by_cases hlt : i < s.size
  · have b0 : bn s i = s[i].toNat := by unfold bn; rw [dif_pos hlt]
    by_cases h92 : bn s i = 92
    · rw [bytePlace_yes hlt h92] at hin
      have t1 : (((s[i].toNat : Nat) : Int) != 92) = false := by rw [← b0, h92]; rfl
      clear b0 h92
      go_enter Tryz.func50, Tryz.ntmps50
      go_wp2
      go_ret2
      exact ⟨rfl, rfl⟩
    · rw [bytePlace_no h92] at hin
      exact absurd hlt hin
  · clear hin
    go_enter Tryz.func50, Tryz.ntmps50
    go_wp2
    go_ret2
    exact ⟨rfl, rfl⟩
end Go.Proofs.YtgkifphfibcfdaaGreatDoor.G
/- The reference's named: the class at the beginning of a text. -/
namespace Go.Proofs.YtgkifphfibcfdaaGreatDoor.G
open Go.RowKit Go.Proofs.YtgkifphfibcfdaaGreatDoor.B
set_option linter.unusedVariables false
theorem rclass_calls (k : Nat) (hk : k < 12) (c : Int) (w : World) (h0 : 0 ≤ c) (h1 : c ≤ 255) : Calls Tryz.prog 49 #[.string (cname k), .int .i64 c] w fun e w' => e = .returned (.tuple #[.bool (chas k c), .bool true]) ∧ w' = w :=
  twelve (p := fun k => Calls Tryz.prog 49 #[.string (cname k), .int .i64 c] w fun e w' => e = .returned (.tuple #[.bool (chas k c), .bool true]) ∧ w' = w) k hk (ralpha_calls c w h0 h1) (rdigit_calls c w h0 h1) (ralnum_calls c w h0 h1) (rupper_calls c w h0 h1) (rlower_calls c w h0 h1) (rxdigit_calls c w h0 h1) (rspace_calls c w h0 h1) (rblank_calls c w h0 h1) (rpunct_calls c w h0 h1) (rprint_calls c w h0 h1) (rgraph_calls c w h0 h1) (rcntrl_calls c w h0 h1)
set_option maxHeartbeats 2000000 in
theorem rclass_no (name : ByteArray) (w : World) (h : ∀ k, k < 12 → (name.toList == (cname k).toList) = false) : Calls Tryz.prog 49 #[.string name, .int .i64 0] w fun e w' => e = .returned (.tuple #[.bool false, .bool false]) ∧ w' = w := by
  have e0 : (name.toList == [97, 108, 112, 104, 97]) = false := by have := h 0 (by omega); rwa [show (cname 0).toList = [97, 108, 112, 104, 97] from by kernel_rfl] at this
  have e1 : (name.toList == [100, 105, 103, 105, 116]) = false := by have := h 1 (by omega); rwa [show (cname 1).toList = [100, 105, 103, 105, 116] from by kernel_rfl] at this
  have e2 : (name.toList == [97, 108, 110, 117, 109]) = false := by have := h 2 (by omega); rwa [show (cname 2).toList = [97, 108, 110, 117, 109] from by kernel_rfl] at this
  have e3 : (name.toList == [117, 112, 112, 101, 114]) = false := by have := h 3 (by omega); rwa [show (cname 3).toList = [117, 112, 112, 101, 114] from by kernel_rfl] at this
  have e4 : (name.toList == [108, 111, 119, 101, 114]) = false := by have := h 4 (by omega); rwa [show (cname 4).toList = [108, 111, 119, 101, 114] from by kernel_rfl] at this
  have e5 : (name.toList == [120, 100, 105, 103, 105, 116]) = false := by have := h 5 (by omega); rwa [show (cname 5).toList = [120, 100, 105, 103, 105, 116] from by kernel_rfl] at this
  have e6 : (name.toList == [115, 112, 97, 99, 101]) = false := by have := h 6 (by omega); rwa [show (cname 6).toList = [115, 112, 97, 99, 101] from by kernel_rfl] at this
  have e7 : (name.toList == [98, 108, 97, 110, 107]) = false := by have := h 7 (by omega); rwa [show (cname 7).toList = [98, 108, 97, 110, 107] from by kernel_rfl] at this
  have e8 : (name.toList == [112, 117, 110, 99, 116]) = false := by have := h 8 (by omega); rwa [show (cname 8).toList = [112, 117, 110, 99, 116] from by kernel_rfl] at this
  have e9 : (name.toList == [112, 114, 105, 110, 116]) = false := by have := h 9 (by omega); rwa [show (cname 9).toList = [112, 114, 105, 110, 116] from by kernel_rfl] at this
  have e10 : (name.toList == [103, 114, 97, 112, 104]) = false := by have := h 10 (by omega); rwa [show (cname 10).toList = [103, 114, 97, 112, 104] from by kernel_rfl] at this
  have e11 : (name.toList == [99, 110, 116, 114, 108]) = false := by have := h 11 (by omega); rwa [show (cname 11).toList = [99, 110, 116, 114, 108] from by kernel_rfl] at this
  clear h
  go_enter Tryz.func49, Tryz.ntmps49
  go_wp2
  go_ret2
  exact ⟨rfl, rfl⟩
/-- How a class is written, byte for byte. -/
theorem cpat_spelt : ((List.range 12).all fun k => bn (cpat k) 0 == 91 && bn (cpat k) 1 == 58 && bn (cpat k) (2 + (cname k).size) == 58 && bn (cpat k) (3 + (cname k).size) == 93 &&
    (List.range (cname k).size).all fun t => bn (cpat k) (2 + t) == bn (cname k) t && decide (97 ≤ bn (cname k) t) && decide (bn (cname k) t ≤ 122)) = true := by kernel_rfl
theorem cpat_bytes {k : Nat} (hk : k < 12) : bn (cpat k) 0 = 91 ∧ bn (cpat k) 1 = 58 ∧ bn (cpat k) (2 + (cname k).size) = 58 ∧ bn (cpat k) (3 + (cname k).size) = 93 ∧
    ∀ t, t < (cname k).size → bn (cpat k) (2 + t) = bn (cname k) t ∧ 97 ≤ bn (cname k) t ∧ bn (cname k) t ≤ 122 := by
  have h := cpat_spelt
  rw [List.all_eq_true] at h
  have h2 := h k (by simpa using hk)
  simp only [Bool.and_eq_true, beq_iff_eq, List.all_eq_true, List.mem_range, decide_eq_true_eq] at h2
  exact ⟨h2.1.1.1.1, h2.1.1.1.2, h2.1.1.2, h2.1.2, fun t ht => ⟨(h2.2 t ht).1.1, (h2.2 t ht).1.2, (h2.2 t ht).2⟩⟩
theorem name_iff {s p : ByteArray} {i : Nat} (hi : 2 ≤ i) (hs : i ≤ s.size) : ((s.extract 2 i).toList == p.toList) = true ↔ i = 2 + p.size ∧ ∀ t, t < p.size → bn s (2 + t) = bn p t := by
  rw [beq_iff_eq, ByteArray.toList_eq, ByteArray.toList_eq]
  have hls : s.data.toList.length = s.size := by simp
  have hl : p.data.toList.length = p.size := by simp
  have e : (s.extract 2 i).data.toList = (s.data.toList.drop 2).take (i - 2) := by
    simp only [ByteArray.data_extract, Array.toList_extract, List.extract_eq_take_drop]
  rw [e]
  constructor
  · intro h
    have hlen := congrArg List.length h
    rw [List.length_take, List.length_drop, hl, hls] at hlen
    refine ⟨by omega, fun t ht => ?_⟩
    rw [bn_in (show 2 + t < s.size by omega), bn_in ht]
    have h3 : ((s.data.toList.drop 2).take (i - 2))[t]? = p.data.toList[t]? := by rw [h]
    rw [List.getElem?_take_of_lt (by omega), List.getElem?_drop, List.getElem?_eq_getElem (by rw [hls]; omega), List.getElem?_eq_getElem (by rw [hl]; exact ht)] at h3
    exact congrArg UInt8.toNat (Option.some.inj h3)
  · rintro ⟨h1, h2⟩
    apply List.ext_getElem
    · rw [List.length_take, List.length_drop, hl, hls]; omega
    · intro t g1 g2
      rw [hl] at g2
      have := h2 t g2
      rw [bn_in (show 2 + t < s.size by omega), bn_in g2] at this
      rw [List.getElem_take, List.getElem_drop]
      exact UInt8.toNat_inj.1 this
theorem eq_of_toList {a b : ByteArray} (h : (a.toList == b.toList) = true) : a = b := by
  rw [beq_iff_eq, ByteArray.toList_eq, ByteArray.toList_eq] at h
  exact ByteArray.ext (Array.toList_inj.1 h)
/-- No class begins there. -/
theorem classNo_no {s : ByteArray} (h : ∀ k, k < 12 → startsAt s 0 (cpat k) ≠ true) : classNo s 0 0 12 = none := by
  cases hc : classNo s 0 0 12 with
  | none => rfl
  | some r =>
    obtain ⟨_, h2, h3, _⟩ := classNo_some hc
    exact absurd h3 (h r (by omega))
/-- named: the class at the beginning of a text, and how long all of it is. -/
def namedF (s : ByteArray) : ByteArray × Nat := match classNo s 0 0 12 with | some k => (cname k, (cpat k).size) | none => (⟨#[]⟩, 0)
theorem namedF_no {s : ByteArray} (h : ∀ k, k < 12 → startsAt s 0 (cpat k) ≠ true) : namedF s = (⟨#[]⟩, 0) := by
  unfold namedF
  rw [classNo_no h]
theorem namedF_of {s : ByteArray} {k : Nat} (hk : k < 12) (h : startsAt s 0 (cpat k) = true) : namedF s = (cname k, (cpat k).size) := by
  unfold namedF
  rw [classNo_of hk h]
/-- Where a class stands, its end stands behind lower letters. -/
theorem class_end {s : ByteArray} {k : Nat} (hk : k < 12) (h : startsAt s 0 (cpat k) = true) : 3 + (cname k).size < s.size ∧ bn s (2 + (cname k).size) = 58 ∧ bn s (3 + (cname k).size) = 93 ∧ ∀ t, t < (cname k).size → bn s (2 + t) = bn (cname k) t ∧ 97 ≤ bn s (2 + t) ∧ bn s (2 + t) ≤ 122 := by
  obtain ⟨h1, h2⟩ := (startsAt_iff (cpat_pos k)).1 h
  obtain ⟨c0, c1, c2, c3, c4⟩ := cpat_bytes hk
  have hl := cpat_len k
  refine ⟨by omega, ?_, ?_, fun t ht => ?_⟩
  · have := h2 (2 + (cname k).size) (by omega); rw [Nat.zero_add] at this; omega
  · have := h2 (3 + (cname k).size) (by omega); rw [Nat.zero_add] at this; omega
  · have := h2 (2 + t) (by omega); rw [Nat.zero_add] at this
    have := c4 t ht
    omega
set_option maxRecDepth 100000 in
set_option maxHeartbeats 4000000 in
theorem named_calls (s : ByteArray) (w : World) (hs : s.size ≤ 1048576) (hb : startsAt s 0 ⟨#[91, 58]⟩ = true) :
    Calls Tryz.prog 48 #[.string s] w fun e w' => e = .returned (.tuple #[.string (namedF s).1, .int .i64 ((namedF s).2 : Int)]) ∧ w' = w := by
  have hz : 2 ≤ s.size := by have := (begins_iff.1 hb).1; omega
  have HB := Asd.mk hb
  clear hb
  go_enter Tryz.func48, Tryz.ntmps48
  go_wp2
  go_loopg [4] (s.size - 1) (fun gk v4 wr => w = wr ∧ ∃ i : Nat, 2 ≤ i ∧ i ≤ s.size ∧ gk = s.size + 1 - i ∧ v4 = .int .i64 (i : Int) ∧ Asd (∀ j, 2 ≤ j → j < i → 97 ≤ bn s j ∧ bn s j ≤ 122))
  case atStart => exact ⟨rfl, 2, by omega, hz, by omega, rfl, ⟨fun j h1 h2 => by omega⟩⟩
  case round =>
    obtain ⟨rfl, i, hi2, his, rfl, rfl, HL⟩ := hrel
    -- a class would end at i, or before, or behind
    have key : ∀ k, k < 12 → startsAt s 0 (cpat k) = true → i ≤ 2 + (cname k).size ∧ (i < 2 + (cname k).size → 97 ≤ bn s i ∧ bn s i ≤ 122) := by
      intro k hk h
      obtain ⟨a1, a2, a3, a4⟩ := class_end hk h
      refine ⟨?_, fun hlt => ?_⟩
      · apply Classical.byContradiction
        intro hn
        have := HL.out (2 + (cname k).size) (by omega) (by omega)
        omega
      · have := a4 (i - 2) (by omega)
        rw [show 2 + (i - 2) = i by omega] at this
        omega
    have KEY := Asd.mk key
    clear key
    by_cases h1 : i + 1 < s.size
    · have h0 : i < s.size := by omega
      have b0 : bn s i = s[i].toNat := by unfold bn; rw [dif_pos h0]
      have b1 : bn s (i + 1) = s[i + 1].toNat := by unfold bn; rw [dif_pos h1]
      by_cases h58 : bn s i = 58
      · have t1 : (((s[i].toNat : Nat) : Int) == 58) = true := by rw [← b0, h58]; rfl
        by_cases h93 : bn s (i + 1) = 93
        · have t2 : (((s[i + 1].toNat : Nat) : Int) == 93) = true := by rw [← b1, h93]; rfl
          by_cases hkn : ∃ k, k < 12 ∧ ((s.extract 2 i).toList == (cname k).toList) = true
          · obtain ⟨k, hk, hn⟩ := hkn
            obtain ⟨g1, g2⟩ := (name_iff hi2 (by omega)).1 hn
            have hst : startsAt s 0 (cpat k) = true := by
              rw [startsAt_iff (cpat_pos k)]
              obtain ⟨c0, c1, c2, c3, c4⟩ := cpat_bytes hk
              have hl := cpat_len k
              have hbg := begins_iff.1 HB.out
              refine ⟨by omega, fun t ht => ?_⟩
              rw [Nat.zero_add]
              rcases (show t = 0 ∨ t = 1 ∨ (2 ≤ t ∧ t < 2 + (cname k).size) ∨ t = 2 + (cname k).size ∨ t = 3 + (cname k).size by omega) with rfl | rfl | ⟨x1, x2⟩ | rfl | rfl
              · rw [hbg.2.1, c0]
              · rw [show (1 : Nat) = 0 + 1 from rfl, hbg.2.2, c1]
              · have := g2 (t - 2) (by omega)
                rw [show 2 + (t - 2) = t by omega] at this
                rw [this, ← (c4 (t - 2) (by omega)).1, show 2 + (t - 2) = t by omega]
              · rw [c2, ← g1, h58]
              · rw [c3, show 3 + (cname k).size = i + 1 by omega, h93]
            have hnF := namedF_of hk hst
            have hne : s.extract 2 i = cname k := eq_of_toList hn
            have hl := cpat_len k
            have HNF := Asd.mk hnF
            have HNE := Asd.mk hne
            have HG1 := Asd.mk g1
            have j1 : (2 : Int) ≤ (i : Int) := by omega
            have j2 : (i : Int) ≤ (s.size : Int) := by omega
            clear hnF hne hst hn g1 g2 b0 b1 h58 h93
            go_wp2_with fail
            have hRC := rclass_calls k hk 0 w (by omega) (by omega)
            rw [← HNE.out] at hRC
            refine hRC.mono ?_
            clear hRC
            rintro e w1 ⟨rfl, rfl⟩
            go_wp2
            go_ret2
            have hg1 := HG1.out
            have hnE := HNE.out
            refine ⟨?_, rfl⟩
            rw [HNF.out]
            simp only
            rw [← hnE, hl, show ((2 + (cname k).size + 2 : Nat) : Int) = (i : Int) + 2 by omega]
            rfl
          · have hno : ∀ k, k < 12 → ((s.extract 2 i).toList == (cname k).toList) = false := fun k hk => Bool.eq_false_iff.2 (fun h => hkn ⟨k, hk, h⟩)
            have hnF : namedF s = (⟨#[]⟩, 0) := namedF_no (fun k hk h => by
              obtain ⟨k1, k2⟩ := KEY.out k hk h
              obtain ⟨a1, a2, a3, a4⟩ := class_end hk h
              by_cases hlt : i < 2 + (cname k).size
              · have := k2 hlt; omega
              · exact hkn ⟨k, hk, (name_iff hi2 (by omega)).2 ⟨by omega, fun t ht => (a4 t ht).1⟩⟩)
            have HNF := Asd.mk hnF
            have HNO := Asd.mk hno
            have j1 : (2 : Int) ≤ (i : Int) := by omega
            have j2 : (i : Int) ≤ (s.size : Int) := by omega
            clear hnF hno hkn b0 b1 h58 h93
            go_wp2_with fail
            refine (rclass_no _ w HNO.out).mono ?_
            rintro e w1 ⟨rfl, rfl⟩
            go_wp2
            go_ret2
            exact ⟨by rw [HNF.out]; rfl, rfl⟩
        · have t2 : (((s[i + 1].toNat : Nat) : Int) == 93) = false := by rw [← b1]; simp; omega
          have t3 : decide (((s[i].toNat : Nat) : Int) < 97) = true := decide_eq_true (by rw [← b0, h58]; decide)
          have hnF : namedF s = (⟨#[]⟩, 0) := namedF_no (fun k hk h => by
            obtain ⟨k1, k2⟩ := KEY.out k hk h
            obtain ⟨a1, a2, a3, a4⟩ := class_end hk h
            by_cases hlt : i < 2 + (cname k).size
            · have := k2 hlt; omega
            · apply h93
              rw [show i + 1 = 3 + (cname k).size by omega]; exact a3)
          have HNF := Asd.mk hnF
          clear hnF b0 b1 h58 h93
          go_wp2
          go_ret2
          exact ⟨by rw [HNF.out]; rfl, rfl⟩
      · have t1 : (((s[i].toNat : Nat) : Int) == 58) = false := by rw [← b0]; simp; omega
        by_cases hlo : 97 ≤ bn s i ∧ bn s i ≤ 122
        · have t3 : decide (((s[i].toNat : Nat) : Int) < 97) = false := decide_eq_false (by rw [← b0]; omega)
          have t4 : decide (122 < ((s[i].toNat : Nat) : Int)) = false := decide_eq_false (by rw [← b0]; omega)
          have hL2 : ∀ j, 2 ≤ j → j < i + 1 → 97 ≤ bn s j ∧ bn s j ≤ 122 := fun j x1 x2 => by
            by_cases hj : j = i
            · rw [hj]; exact hlo
            · exact HL.out j x1 (by omega)
          have HL2 := Asd.mk hL2
          clear hL2 hlo b0 b1 h58
          go_wp2
          go_roundg (s.size + 1 - (i + 1))
          case rel => exact ⟨rfl, i + 1, by omega, by omega, by omega, rfl, HL2⟩
          case measure => omega
        · have hnF : namedF s = (⟨#[]⟩, 0) := namedF_no (fun k hk h => by
            obtain ⟨k1, k2⟩ := KEY.out k hk h
            obtain ⟨a1, a2, a3, a4⟩ := class_end hk h
            by_cases hlt : i < 2 + (cname k).size
            · exact hlo (k2 hlt)
            · apply h58
              rw [show i = 2 + (cname k).size by omega]; exact a2)
          have HNF := Asd.mk hnF
          clear hnF h58
          by_cases hlow : bn s i < 97
          · have t3 : decide (((s[i].toNat : Nat) : Int) < 97) = true := decide_eq_true (by rw [← b0]; omega)
            clear b0 b1 hlo hlow
            go_wp2
            go_ret2
            exact ⟨by rw [HNF.out]; rfl, rfl⟩
          · have t3 : decide (((s[i].toNat : Nat) : Int) < 97) = false := decide_eq_false (by rw [← b0]; omega)
            have t4 : decide (122 < ((s[i].toNat : Nat) : Int)) = true := decide_eq_true (by rw [← b0]; omega)
            clear b0 b1 hlo hlow
            go_wp2
            go_ret2
            exact ⟨by rw [HNF.out]; rfl, rfl⟩
    · have hnF : namedF s = (⟨#[]⟩, 0) := namedF_no (fun k hk h => by
        obtain ⟨k1, k2⟩ := KEY.out k hk h
        obtain ⟨a1, a2, a3, a4⟩ := class_end hk h
        omega)
      have HNF := Asd.mk hnF
      clear hnF
      go_wp2
      go_ret2
      exact ⟨by rw [HNF.out]; rfl, rfl⟩
end Go.Proofs.YtgkifphfibcfdaaGreatDoor.G
