/- What a row of parts means, on lists; Match's rounds answer it. -/
import Derived.Test.YtgkifphfibcfdaaGreatDoorMatch
namespace Go.Proofs.YtgkifphfibcfdaaGreatDoor.G
open Go.RowKit Go.Proofs.YtgkifphfibcfdaaGreatDoor.B
set_option linter.unusedVariables false
/-- A text as a list of numbers. -/
def bl (s : ByteArray) : List Nat := (List.range s.size).map (bn s)
theorem bl_length (s : ByteArray) : (bl s).length = s.size := by simp [bl]
theorem bl_drop {s : ByteArray} {i : Nat} (h : i < s.size) : (bl s).drop i = bn s i :: (bl s).drop (i + 1) := by
  rw [List.drop_eq_getElem_cons (by rw [bl_length]; exact h)]
  simp [bl]
theorem bl_drop_end {s : ByteArray} {i : Nat} (h : s.size ≤ i) : (bl s).drop i = [] := List.drop_eq_nil_of_le (by rw [bl_length]; exact h)
def anyTail (f : List Nat → Bool) : List Nat → Bool
  | [] => f []
  | c :: r => f (c :: r) || anyTail f r
/-- Parts mean a list of bytes. -/
def mt : List PartV → List Nat → Bool
  | [], s => s.isEmpty
  | x :: L, s => if x.1 = true then anyTail (mt L) s else match s with | [] => false | c :: r => x.2 c && mt L r
theorem anyTail_iff (f : List Nat → Bool) : ∀ s : List Nat, anyTail f s = true ↔ ∃ j, j ≤ s.length ∧ f (s.drop j) = true
  | [] => by simp [anyTail]
  | c :: r => by
    simp only [anyTail, Bool.or_eq_true, anyTail_iff f r]
    constructor
    · rintro (h | ⟨j, h1, h2⟩)
      · exact ⟨0, by simp, h⟩
      · exact ⟨j + 1, by simpa using h1, h2⟩
    · rintro ⟨j, h1, h2⟩
      cases j with
      | zero => exact .inl h2
      | succ j => exact .inr ⟨j, by simpa using h1, h2⟩
theorem mt_star {x : PartV} (L : List PartV) (s : List Nat) (h : x.1 = true) : mt (x :: L) s = true ↔ ∃ j, j ≤ s.length ∧ mt L (s.drop j) = true := by
  simp only [mt]
  rw [if_pos h, anyTail_iff]
theorem mt_one_nil {x : PartV} (L : List PartV) (h : x.1 = false) : mt (x :: L) [] = false := by simp [mt, h]
theorem mt_one {x : PartV} (L : List PartV) (c : Nat) (r : List Nat) (h : x.1 = false) : mt (x :: L) (c :: r) = (x.2 c && mt L r) := by simp [mt, h]
/-- Parts one behind the other mean lists one behind the other. -/
theorem mt_append (B : List PartV) : ∀ (A : List PartV) (s : List Nat), mt (A ++ B) s = true ↔ ∃ j, j ≤ s.length ∧ mt A (s.take j) = true ∧ mt B (s.drop j) = true
  | [], s => by
    constructor
    · intro h
      exact ⟨0, by simp, by simp [mt], by simpa using h⟩
    · rintro ⟨j, h1, h2, h3⟩
      have : j = 0 := by
        simp only [mt, List.isEmpty_iff, List.take_eq_nil_iff] at h2
        rcases h2 with h2 | h2
        · exact h2
        · subst h2; simpa using h1
      subst this
      simpa using h3
  | x :: A, s => by
    cases hx : x.1 with
    | true =>
      rw [List.cons_append, mt_star _ _ hx]
      constructor
      · rintro ⟨i, h1, h2⟩
        obtain ⟨j, h3, h4, h5⟩ := (mt_append B A _).1 h2
        rw [List.length_drop] at h3
        refine ⟨i + j, by omega, (mt_star _ _ hx).2 ⟨i, ?_, ?_⟩, ?_⟩
        · rw [List.length_take]; omega
        · rw [List.drop_take]
          have : i + j - i = j := by omega
          rw [this]; exact h4
        · rw [List.drop_drop] at h5; exact h5
      · rintro ⟨m, h1, h2, h3⟩
        obtain ⟨i, h4, h5⟩ := (mt_star _ _ hx).1 h2
        rw [List.length_take] at h4
        refine ⟨i, by omega, (mt_append B A _).2 ⟨m - i, ?_, ?_, ?_⟩⟩
        · rw [List.length_drop]; omega
        · rw [List.drop_take] at h5; exact h5
        · rw [List.drop_drop]
          have : i + (m - i) = m := by omega
          rw [this]; exact h3
    | false =>
      cases s with
      | nil =>
        rw [List.cons_append, mt_one_nil _ hx]
        constructor
        · intro h; cases h
        · rintro ⟨j, h1, h2, h3⟩
          rw [List.take_nil, mt_one_nil _ hx] at h2
          cases h2
      | cons c r =>
        rw [List.cons_append, mt_one _ _ _ hx, Bool.and_eq_true, mt_append B A r]
        constructor
        · rintro ⟨h0, j, h1, h2, h3⟩
          exact ⟨j + 1, by simpa using h1, by rw [List.take_succ_cons, mt_one _ _ _ hx, h0, h2]; rfl, h3⟩
        · rintro ⟨j, h1, h2, h3⟩
          cases j with
          | zero => rw [List.take_zero, mt_one_nil _ hx] at h2; cases h2
          | succ j =>
            rw [List.take_succ_cons, mt_one _ _ _ hx, Bool.and_eq_true] at h2
            exact ⟨h2.1, j, by simpa using h1, h2.2, h3⟩
/-- The parts from p on mean the bytes from i on. -/
def mean (L : List PartV) (s : ByteArray) (p i : Nat) : Bool := mt (L.drop p) ((bl s).drop i)
theorem mean_end (L : List PartV) (s : ByteArray) {p i : Nat} (hp : L.length ≤ p) : mean L s p i = decide (s.size ≤ i) := by
  unfold mean
  rw [List.drop_eq_nil_of_le hp]
  by_cases h : s.size ≤ i
  · rw [bl_drop_end h]; simp [mt, h]
  · rw [bl_drop (by omega)]; simp [mt, h]
theorem drop_part {L : List PartV} {p : Nat} (h : p < L.length) : L.drop p = L[p] :: L.drop (p + 1) := List.drop_eq_getElem_cons h
theorem mean_star {L : List PartV} {s : ByteArray} {p i : Nat} (hi : i ≤ s.size) (ha : anyAt L p = true) : mean L s p i = true ↔ ∃ j, i ≤ j ∧ j ≤ s.size ∧ mean L s (p + 1) j = true := by
  by_cases hp : p < L.length
  · rw [anyAt_in hp] at ha
    unfold mean
    rw [drop_part hp, mt_star _ _ ha]
    rw [List.length_drop, bl_length]
    constructor
    · rintro ⟨j, h1, h2⟩
      rw [List.drop_drop] at h2
      exact ⟨i + j, by omega, by omega, h2⟩
    · rintro ⟨j, h1, h2, h3⟩
      refine ⟨j - i, by omega, ?_⟩
      rw [List.drop_drop]
      have : i + (j - i) = j := by omega
      rw [this]; exact h3
  · rw [anyAt_out hp] at ha; cases ha
theorem mean_one {L : List PartV} {s : ByteArray} {p i : Nat} (hi : i < s.size) (ha : anyAt L p = false) : mean L s p i = (takesAt L p (bn s i) && mean L s (p + 1) (i + 1)) := by
  by_cases hp : p < L.length
  · rw [anyAt_in hp] at ha
    rw [takesAt_in hp]
    unfold mean
    rw [drop_part hp, bl_drop hi, mt_one _ _ _ ha]
  · rw [takesAt_out hp, mean_end _ _ (by omega)]
    simp; omega
theorem mean_one_end {L : List PartV} {s : ByteArray} {p i : Nat} (hp : p < L.length) (hi : s.size ≤ i) (ha : anyAt L p = false) : mean L s p i = false := by
  rw [anyAt_in hp] at ha
  unfold mean
  rw [drop_part hp, bl_drop_end hi, mt_one_nil _ ha]
theorem mtail_mean (L : List PartV) (s : ByteArray) : ∀ (m p : Nat), L.length - p = m → p ≤ L.length → ∃ k, mtail L k p = some (mean L s p s.size) := by
  intro m
  induction m with
  | zero =>
    intro p h1 h2
    have hp : p = L.length := by omega
    subst hp
    refine ⟨1, ?_⟩
    simp only [mtail]
    rw [anyAt_out (by omega), mean_end _ _ (Nat.le_refl _)]
    simp
  | succ m ih =>
    intro p h1 h2
    cases ha : anyAt L p with
    | true =>
      obtain ⟨k, hk⟩ := ih (p + 1) (by omega) (by omega)
      refine ⟨k + 1, ?_⟩
      simp only [mtail]
      rw [if_pos ha, hk]
      congr 1
      apply Bool.eq_iff_iff.2
      rw [mean_star (Nat.le_refl _) ha]
      constructor
      · intro h; exact ⟨_, Nat.le_refl _, Nat.le_refl _, h⟩
      · rintro ⟨j, h3, h4, h5⟩
        obtain rfl : j = s.size := by omega
        exact h5
    | false =>
      refine ⟨1, ?_⟩
      simp only [mtail]
      rw [ha, mean_one_end (by omega) (Nat.le_refl _) ha]
      simp
      omega
/-- Parts without a star take a byte each. -/
theorem mean_seg {L : List PartV} {s : ByteArray} : ∀ (d st j : Nat), st + d ≤ L.length → j ≤ s.size → (∀ q, st ≤ q → q < st + d → anyAt L q = false) → mean L s st j = true → j + d ≤ s.size ∧ mean L s (st + d) (j + d) = true := by
  intro d
  induction d with
  | zero => intro st j _ hj _ h; exact ⟨hj, h⟩
  | succ d ih =>
    intro st j h1 hj hq h
    have ha := hq st (Nat.le_refl _) (by omega)
    by_cases hlt : j < s.size
    · rw [mean_one hlt ha, Bool.and_eq_true] at h
      have := ih (st + 1) (j + 1) (by omega) (by omega) (fun q a b => hq q (by omega) (by omega)) h.2
      refine ⟨by omega, ?_⟩
      have e1 : st + 1 + d = st + (d + 1) := by omega
      have e2 : j + 1 + d = j + (d + 1) := by omega
      rw [e1, e2] at this
      exact this.2
    · rw [mean_one_end (by omega) (by omega) ha] at h; cases h
/-- Match's rounds answer what the parts mean. -/
theorem mrun_mean (L : List PartV) (s : ByteArray) (R : Bool) (st f p i : Nat) (h1 : st ≤ p) (h2 : p ≤ L.length) (h3 : f ≤ i) (h4 : i ≤ s.size) (h5 : st = 0 → mean L s p i = R)
    (h6 : 0 < st → p - st = i - f ∧ (∀ q, st ≤ q → q < p → anyAt L q = false) ∧ mean L s st f = mean L s p i ∧ (R = true ↔ ∃ j, f ≤ j ∧ j ≤ s.size ∧ mean L s st j = true)) : ∃ k, mrun L s k st f p i = some R := by
  by_cases hi : i < s.size
  · cases ha : anyAt L p with
    | true =>
      have hp : p < L.length := by
        apply Classical.byContradiction
        intro h
        rw [anyAt_out h] at ha; cases ha
      have hR : R = true ↔ ∃ j, i ≤ j ∧ j ≤ s.size ∧ mean L s (p + 1) j = true := by
        rw [← mean_star h4 ha]
        rcases Nat.eq_zero_or_pos st with h0 | h0
        · rw [h5 h0]
        · obtain ⟨g1, g2, g3, g4⟩ := h6 h0
          rw [g4]
          constructor
          · rintro ⟨j, a1, a2, a3⟩
            obtain ⟨b1, b2⟩ := mean_seg (p - st) st j (by omega) a2 (fun q c1 c2 => g2 q c1 (by omega)) a3
            have e : st + (p - st) = p := Nat.add_sub_cancel' h1
            rw [e] at b2
            obtain ⟨j', c1, c2, c3⟩ := (mean_star b1 ha).1 b2
            exact (mean_star h4 ha).2 ⟨j', by omega, c2, c3⟩
          · intro h
            exact ⟨f, Nat.le_refl _, by omega, by rw [g3]; exact h⟩
      obtain ⟨k, hk⟩ := mrun_mean L s R (p + 1) i (p + 1) i (Nat.le_refl _) (by omega) (Nat.le_refl _) h4 (fun h => by omega)
        (fun _ => ⟨by omega, fun q a b => by omega, rfl, hR⟩)
      refine ⟨k + 1, ?_⟩
      simp only [mrun]
      rw [if_pos hi, if_pos ha]
      exact hk
    | false =>
      cases ht : takesAt L p (bn s i) with
      | true =>
        have hp : p < L.length := by
          apply Classical.byContradiction
          intro h
          rw [takesAt_out h] at ht; cases ht
        have hm := mean_one hi ha
        rw [ht, Bool.true_and] at hm
        obtain ⟨k, hk⟩ := mrun_mean L s R st f (p + 1) (i + 1) (by omega) (by omega) (by omega) (by omega) (fun h => by rw [← hm]; exact h5 h)
          (fun h => by
            obtain ⟨g1, g2, g3, g4⟩ := h6 h
            refine ⟨by clear g4 g2 g3 h5 h6; omega, fun q a b => ?_, by rw [g3, hm], g4⟩
            by_cases hq : q = p
            · rw [hq]; exact ha
            · exact g2 q a (by omega))
        refine ⟨k + 1, ?_⟩
        simp only [mrun]
        rw [if_pos hi, if_neg (by rw [ha]; simp), if_pos ht]
        exact hk
      | false =>
        have hm := mean_one hi ha
        rw [ht, Bool.false_and] at hm
        by_cases h0 : 0 < st
        · obtain ⟨g1, g2, g3, g4⟩ := h6 h0
          obtain ⟨k, hk⟩ := mrun_mean L s R st (f + 1) st (f + 1) (Nat.le_refl _) (by omega) (Nat.le_refl _) (by omega) (fun h => by omega)
            (fun _ => ⟨by omega, fun q a b => by omega, rfl, by
              rw [g4]
              constructor
              · rintro ⟨j, a1, a2, a3⟩
                refine ⟨j, ?_, a2, a3⟩
                rcases Nat.eq_or_lt_of_le a1 with he | hl
                · subst he
                  rw [g3, hm] at a3; cases a3
                · exact hl
              · rintro ⟨j, a1, a2, a3⟩
                exact ⟨j, by omega, a2, a3⟩⟩)
          refine ⟨k + 1, ?_⟩
          simp only [mrun]
          rw [if_pos hi, if_neg (by rw [ha]; simp), if_neg (by rw [ht]; simp), if_pos h0]
          exact hk
        · refine ⟨1, ?_⟩
          simp only [mrun]
          rw [if_pos hi, if_neg (by rw [ha]; simp), if_neg (by rw [ht]; simp), if_neg h0, ← h5 (by omega), hm]
  · obtain rfl : i = s.size := by omega
    obtain ⟨k, hk⟩ := mtail_mean L s _ p rfl h2
    refine ⟨k + 1, ?_⟩
    simp only [mrun]
    rw [if_neg hi, hk]
    congr 1
    rcases Nat.eq_zero_or_pos st with h0 | h0
    · exact h5 h0
    · obtain ⟨g1, g2, g3, g4⟩ := h6 h0
      apply Bool.eq_iff_iff.2
      rw [g4]
      constructor
      · intro h
        exact ⟨f, Nat.le_refl _, h3, by rw [g3]; exact h⟩
      · rintro ⟨j, a1, a2, a3⟩
        obtain ⟨b1, b2⟩ := mean_seg (p - st) st j (by omega) a2 (fun q c1 c2 => g2 q c1 (by omega)) a3
        obtain rfl : j = f := by omega
        rw [← g3]; exact a3
  termination_by (L.length + 1 - st, s.size + 1 - f, s.size + 1 - i)
  decreasing_by
    all_goals (first | (apply Prod.Lex.left; omega) | (apply Prod.Lex.right; apply Prod.Lex.left; omega) | (apply Prod.Lex.right; apply Prod.Lex.right; omega))
/-- Match's answer, with some fuel. -/
theorem mrun_start (L : List PartV) (s : ByteArray) : ∃ k, mrun L s k 0 0 0 0 = some (mt L (bl s)) :=
  mrun_mean L s _ 0 0 0 0 (Nat.le_refl _) (by omega) (Nat.le_refl _) (by omega) (fun _ => rfl) (fun h => by omega)
/-- A prefix of the parts and one more, on beginnings of a list. -/
theorem mt_snoc_star {x : PartV} (L : List PartV) (s : List Nat) (h : x.1 = true) : mt (L ++ [x]) s = true ↔ ∃ j, j ≤ s.length ∧ mt L (s.take j) = true := by
  rw [mt_append]
  constructor
  · rintro ⟨j, h1, h2, h3⟩; exact ⟨j, h1, h2⟩
  · rintro ⟨j, h1, h2⟩
    exact ⟨j, h1, h2, (mt_star _ _ h).2 ⟨(s.drop j).length, Nat.le_refl _, by simp only [mt, List.isEmpty_iff]; exact List.drop_eq_nil_of_le (Nat.le_refl _)⟩⟩
theorem mt_snoc_one {x : PartV} (L : List PartV) (s : List Nat) (c : Nat) (h : x.1 = false) : mt (L ++ [x]) (s ++ [c]) = (mt L s && x.2 c) := by
  apply Bool.eq_iff_iff.2
  rw [mt_append, Bool.and_eq_true]
  have h1 : ∀ r : List Nat, mt [x] r = true ↔ ∃ b, r = [b] ∧ x.2 b = true := by
    intro r
    cases r with
    | nil => rw [mt_one_nil _ h]; simp
    | cons b r =>
      rw [mt_one _ _ _ h, Bool.and_eq_true]
      simp only [mt, List.isEmpty_iff, List.cons.injEq]
      constructor
      · rintro ⟨a1, a2⟩; exact ⟨b, ⟨rfl, a2⟩, a1⟩
      · rintro ⟨b', ⟨rfl, a2⟩, a1⟩; exact ⟨a1, a2⟩
  constructor
  · rintro ⟨j, h2, h3, h4⟩
    obtain ⟨b, hb, hx⟩ := (h1 _).1 h4
    have hl := congrArg List.length hb
    simp only [List.length_drop, List.length_append, List.length_cons, List.length_nil] at hl h2
    obtain rfl : j = s.length := by omega
    rw [List.take_left'  rfl] at h3
    rw [List.drop_left' rfl] at hb
    simp only [List.cons.injEq, and_true] at hb
    subst hb
    exact ⟨h3, hx⟩
  · rintro ⟨h2, h3⟩
    exact ⟨s.length, by simp, by rw [List.take_left' rfl]; exact h2, by rw [List.drop_left' rfl]; exact (h1 _).2 ⟨c, rfl, h3⟩⟩
theorem mt_snoc_one_nil {x : PartV} (L : List PartV) (h : x.1 = false) : mt (L ++ [x]) [] = false := by
  apply Bool.eq_false_iff.2
  intro hm
  obtain ⟨j, h1, h2, h3⟩ := (mt_append _ _ _).1 hm
  rw [List.drop_nil, mt_one_nil _ h] at h3
  cases h3
end Go.Proofs.YtgkifphfibcfdaaGreatDoor.G
