/- Compile as a plain function: a pattern's beginning is read alike in a longer text; behind it the rest is read as by itself. -/
import Derived.Test.YtgkifphfibcfdaaGreatDoorCompSpec
namespace Go.Proofs.YtgkifphfibcfdaaGreatDoor.G
open Go.RowKit Go.Proofs.YtgkifphfibcfdaaGreatDoor.B
set_option linter.unusedVariables false
theorem bn_in {s : ByteArray} {j : Nat} (h : j < s.size) : bn s j = (s.data.toList[j]'(by simpa using h)).toNat := by
  unfold bn
  rw [dif_pos h]
  rfl
theorem startsAt_iff {s p : ByteArray} {i : Nat} (hp : 0 < p.size) : startsAt s i p = true ↔ i + p.size ≤ s.size ∧ ∀ t, t < p.size → bn s (i + t) = bn p t := by
  unfold startsAt startsB
  rw [Bool.and_eq_true, decide_eq_true_eq, ByteArray.size_extract, beq_iff_eq, ByteArray.toList_eq, ByteArray.toList_eq]
  have e : ((s.extract i s.size).extract 0 p.size).data.toList = (s.data.toList.drop i).take p.size := by
    apply List.ext_getElem?
    intro n
    simp only [ByteArray.data_extract, Array.toList_extract, List.extract_eq_take_drop, List.getElem?_take, List.getElem?_drop, Nat.zero_add]
    have h2 : s.data.toList.length = s.size := by simp
    by_cases h1 : n < p.size
    · by_cases h3 : i + n < s.size
      · simp [h1, show n < s.size - i by omega]
      · simp only [h1, if_true]
        rw [List.getElem?_eq_none (by omega)]
        simp
    · simp [h1]
  rw [e]
  have hl : p.data.toList.length = p.size := by simp
  have hls : s.data.toList.length = s.size := by simp
  constructor
  · rintro ⟨h1, h2⟩
    refine ⟨by omega, fun t ht => ?_⟩
    rw [bn_in (show i + t < s.size by omega), bn_in ht]
    have h3 : ((s.data.toList.drop i).take p.size)[t]? = p.data.toList[t]? := by rw [h2]
    rw [List.getElem?_take_of_lt ht, List.getElem?_drop, List.getElem?_eq_getElem (by rw [hls]; omega), List.getElem?_eq_getElem (by rw [hl]; exact ht)] at h3
    exact congrArg UInt8.toNat (Option.some.inj h3)
  · rintro ⟨h1, h2⟩
    refine ⟨by omega, ?_⟩
    apply List.ext_getElem
    · rw [List.length_take, List.length_drop, hl, hls]; omega
    · intro t g1 g2
      rw [hl] at g2
      have := h2 t g2
      rw [bn_in (show i + t < s.size by omega), bn_in g2] at this
      rw [List.getElem_take, List.getElem_drop]
      exact UInt8.toNat_inj.1 this
/-- P is a beginning of S. -/
structure Pre (P S : ByteArray) : Prop where
  le : P.size ≤ S.size
  at_ : ∀ j, j < P.size → bn S j = bn P j
/-- S goes on behind d bytes as Q. -/
structure Suf (d : Nat) (Q S : ByteArray) : Prop where
  size : S.size = d + Q.size
  at_ : ∀ j, j < Q.size → bn S (d + j) = bn Q j
theorem pre_append (P Q : ByteArray) : Pre P (P ++ Q) := by
  refine ⟨by rw [ByteArray.size_append]; omega, fun j hj => ?_⟩
  rw [bn_in (show j < (P ++ Q).size by rw [ByteArray.size_append]; omega), bn_in hj]
  congr 1
  have h : (P ++ Q).data.toList = P.data.toList ++ Q.data.toList := by simp
  have h2 : (P ++ Q).data.toList[j]? = P.data.toList[j]? := by rw [h, List.getElem?_append_left (by simpa using hj)]
  rw [List.getElem?_eq_getElem (by simp; omega), List.getElem?_eq_getElem (by simpa using hj)] at h2
  exact Option.some.inj h2
theorem suf_append (P Q : ByteArray) : Suf P.size Q (P ++ Q) := by
  refine ⟨by rw [ByteArray.size_append], fun j hj => ?_⟩
  rw [bn_in (show P.size + j < (P ++ Q).size by rw [ByteArray.size_append]; omega), bn_in hj]
  congr 1
  have h : (P ++ Q).data.toList = P.data.toList ++ Q.data.toList := by simp
  have hl : P.data.toList.length = P.size := by simp
  have h2 : (P ++ Q).data.toList[P.size + j]? = Q.data.toList[j]? := by
    rw [h, List.getElem?_append_right (by rw [hl]; omega), hl]
    congr 1
    omega
  rw [List.getElem?_eq_getElem (by simp; omega), List.getElem?_eq_getElem (by simpa using hj)] at h2
  exact Option.some.inj h2
theorem Pre.trans {P S T : ByteArray} (h : Pre P S) (k : Pre S T) : Pre P T := ⟨Nat.le_trans h.le k.le, fun j hj => (k.at_ j (Nat.lt_of_lt_of_le hj h.le)).trans (h.at_ j hj)⟩
theorem Pre.starts {P S : ByteArray} (h : Pre P S) {i : Nat} {p : ByteArray} (hp : 0 < p.size) (hi : i + p.size ≤ P.size) : startsAt S i p = startsAt P i p := by
  apply Bool.eq_iff_iff.2
  rw [startsAt_iff hp, startsAt_iff hp]
  have := h.le
  constructor
  · rintro ⟨a, b⟩; exact ⟨hi, fun t ht => by rw [← b t ht, h.at_ _ (by omega)]⟩
  · rintro ⟨a, b⟩; exact ⟨by omega, fun t ht => by rw [← b t ht, h.at_ _ (by omega)]⟩
theorem Suf.starts {d : Nat} {Q S : ByteArray} (h : Suf d Q S) {i : Nat} {p : ByteArray} (hp : 0 < p.size) : startsAt S (d + i) p = startsAt Q i p := by
  apply Bool.eq_iff_iff.2
  rw [startsAt_iff hp, startsAt_iff hp]
  have := h.size
  constructor
  · rintro ⟨a, b⟩; exact ⟨by omega, fun t ht => by rw [← b t ht, Nat.add_assoc, h.at_ _ (by omega)]⟩
  · rintro ⟨a, b⟩; exact ⟨by omega, fun t ht => by rw [← b t ht, Nat.add_assoc, h.at_ _ (by omega)]⟩
theorem Pre.place {P S : ByteArray} (h : Pre P S) {i : Nat} (hi : i < P.size) : bytePlace S i = bytePlace P i := by
  unfold bytePlace
  rw [h.starts (p := ⟨#[92]⟩) (by decide) (show i + 1 ≤ P.size from hi)]
theorem Suf.place {d : Nat} {Q S : ByteArray} (h : Suf d Q S) (i : Nat) : bytePlace S (d + i) = d + bytePlace Q i := by
  unfold bytePlace
  rw [h.starts (p := ⟨#[92]⟩) (by decide)]
  split <;> omega
theorem cpat_pos (k : Nat) : 0 < (cpat k).size := by rw [cpat_len]; omega
theorem cpat_apart : ((List.range 12).all fun j => (List.range 12).all fun k => j == k || (List.range 12).any fun t => decide (t < (cpat j).size) && decide (t < (cpat k).size) && (bn (cpat j) t != bn (cpat k) t)) = true := by kernel_rfl
theorem cpat_one {s : ByteArray} {i j k : Nat} (hj : j < 12) (hk : k < 12) (h1 : startsAt s i (cpat j) = true) (h2 : startsAt s i (cpat k) = true) : j = k := by
  have h := cpat_apart
  rw [List.all_eq_true] at h
  have h3 := h j (by simpa using hj)
  rw [List.all_eq_true] at h3
  have h4 := h3 k (by simpa using hk)
  simp only [Bool.or_eq_true, beq_iff_eq, List.any_eq_true, Bool.and_eq_true, decide_eq_true_eq, bne_iff_ne, ne_eq] at h4
  rcases h4 with h4 | ⟨t, _, ⟨g1, g2⟩, g3⟩
  · exact h4
  · exact absurd (((startsAt_iff (cpat_pos j)).1 h1).2 t g1 ▸ ((startsAt_iff (cpat_pos k)).1 h2).2 t g2 ▸ rfl) g3
theorem classNo_of {s : ByteArray} {i k : Nat} (hk : k < 12) (h : startsAt s i (cpat k) = true) : classNo s i 0 12 = some k := by
  cases hc : classNo s i 0 12 with
  | none => rw [classNo_none hc k (Nat.zero_le _) (by omega)] at h; cases h
  | some r =>
    obtain ⟨_, h2, h3, _⟩ := classNo_some hc
    rw [cpat_one (by omega) hk h3 h]
theorem two_pos : (0 : Nat) < (⟨#[91, 58]⟩ : ByteArray).size := by decide
theorem one_bn {s : ByteArray} {i : Nat} {c : UInt8} : startsAt s i ⟨#[c]⟩ = true ↔ i < s.size ∧ bn s i = c.toNat := by
  rw [startsAt_iff (show 0 < (⟨#[c]⟩ : ByteArray).size from Nat.zero_lt_one)]
  constructor
  · rintro ⟨h1, h2⟩
    exact ⟨h1, h2 0 Nat.zero_lt_one⟩
  · rintro ⟨h1, h2⟩
    refine ⟨h1, fun t ht => ?_⟩
    have h0 : t < 1 := ht
    obtain rfl : t = 0 := by omega
    exact h2
theorem Pre.range {P S : ByteArray} (h : Pre P S) {q : Nat} (hq : q < P.size) (hc : q + 1 < P.size ∨ bn P q ≠ 45) (hr : isRange P q = true → q + 3 ≤ P.size) : isRange S q = isRange P q := by
  have hle := h.le
  unfold isRange
  rw [h.starts (p := ⟨#[45]⟩) (by decide) (show q + 1 ≤ P.size from hq)]
  cases h0 : startsAt P q ⟨#[45]⟩ with
  | false => rfl
  | true =>
    have h1 := (one_bn.1 h0).2
    have h2 : q + 1 < P.size := by
      rcases hc with hc | hc
      · exact hc
      · exact absurd h1 hc
    have d1 : decide (q + 1 < S.size) = true := decide_eq_true (by omega)
    have d2 : decide (q + 1 < P.size) = true := decide_eq_true h2
    rw [d1, d2, h.at_ _ h2]
    by_cases h93 : bn P (q + 1) = 93
    · simp [h93]
    · by_cases h3 : q + 3 ≤ P.size
      · rw [h.starts two_pos (show q + 1 + 2 ≤ P.size from h3)]
      · exfalso
        apply h3
        apply hr
        unfold isRange
        rw [h0, d2]
        have : startsAt P (q + 1) ⟨#[91, 58]⟩ = false := by
          apply Bool.eq_false_iff.2
          intro hh
          have := ((startsAt_iff two_pos).1 hh).1
          have e2 : (⟨#[91, 58]⟩ : ByteArray).size = 2 := rfl
          omega
        rw [this]
        simp [h93]
theorem Pre.item {P S : ByteArray} (h : Pre P S) {i : Nat} {T : Nat → Bool} {i' : Nat} {T' : Nat → Bool} (hi : i ≤ P.size) (hit : itemF P i T = some (i', T')) (hlt : i' < P.size) (hc : i' + 1 < P.size ∨ bn P i' = 93) : itemF S i T = some (i', T') := by
  have hle := h.le
  have hnx := itemF_next hi hit
  have e2 : (⟨#[91, 58]⟩ : ByteArray).size = 2 := rfl
  unfold itemF at hit ⊢
  rw [h.starts two_pos (show i + 2 ≤ P.size by omega)]
  split at hit
  · rename_i h0
    rw [if_pos h0]
    split at hit
    · rename_i k hk
      obtain ⟨_, h2, h3, _⟩ := classNo_some hk
      have hf := ((startsAt_iff (cpat_pos k)).1 h3).1
      rw [classNo_of (k := k) (by omega) (by rw [h.starts (cpat_pos k) hf]; exact h3)]
      exact hit
    · cases hit
  · rename_i h0
    rw [if_neg h0]
    split at hit
    · rename_i h1
      have hp := le_bytePlace P i
      rw [h.place (show i < P.size by omega)]
      rw [if_pos (show bytePlace P i < S.size by omega)]
      split at hit
      · rename_i hr
        split at hit
        · rename_i h5
          have hp2 := le_bytePlace P (bytePlace P i + 1 + 1)
          simp only [Option.some.injEq, Prod.mk.injEq] at hit
          obtain ⟨hi', hT⟩ := hit
          have hq : bytePlace P i + 1 < P.size := by omega
          rw [h.range hq (.inl (by omega)) (fun _ => by omega), if_pos hr, h.place (show bytePlace P i + 1 + 1 < P.size by omega), if_pos (by omega), h.at_ _ h1, h.at_ _ h5, hi', hT]
        · cases hit
      · rename_i hr
        simp only [Option.some.injEq, Prod.mk.injEq] at hit
        obtain ⟨hi', hT⟩ := hit
        rw [h.range (by omega) (by
          rcases hc with hc | hc
          · left; omega
          · right; rw [hi', hc]; decide) (fun hh => absurd hh hr), if_neg hr, h.at_ _ h1, hi', hT]
    · cases hit
theorem setLoop_some {P : ByteArray} : ∀ {f i : Nat} {T : Nat → Bool} {first : Bool} {j : Nat} {U : Nat → Bool}, setLoop P f i T first = some (j, U) → i ≤ P.size → i ≤ j ∧ j < P.size ∧ bn P j = 93
  | 0, _, _, _, _, _, h, _ => by cases h
  | f + 1, i, T, first, j, U, h, hi => by
    cases hc : (first || !startsAt P i ⟨#[93]⟩) with
    | false =>
      have := setLoop_end h hc
      simp only [Option.some.injEq, Prod.mk.injEq] at this
      obtain ⟨rfl, rfl⟩ := this
      simp only [Bool.or_eq_false_iff, Bool.not_eq_false'] at hc
      have := one_bn.1 hc.2
      exact ⟨Nat.le_refl _, this.1, this.2⟩
    | true =>
      by_cases hlt : P.size ≤ i
      · cases setLoop_over h hc hlt
      · cases hn : itemF P i T with
        | none => cases setLoop_bad h hc hlt hn
        | some r =>
          obtain ⟨i', T'⟩ := r
          have hnx := itemF_next hi hn
          have := setLoop_some (setLoop_go h hc hlt hn) hnx.2
          exact ⟨by omega, this.2⟩
theorem Pre.loop {P S : ByteArray} (h : Pre P S) : ∀ {f i : Nat} {T : Nat → Bool} {first : Bool} {j : Nat} {U : Nat → Bool}, setLoop P f i T first = some (j, U) → i ≤ P.size → setLoop S f i T first = some (j, U)
  | 0, _, _, _, _, _, hl, _ => by cases hl
  | f + 1, i, T, first, j, U, hl, hi => by
    have hle := h.le
    have hend := setLoop_some hl hi
    have hs : startsAt S i ⟨#[93]⟩ = startsAt P i ⟨#[93]⟩ := h.starts (p := ⟨#[93]⟩) (by decide) (show i + 1 ≤ P.size by omega)
    cases hc : (first || !startsAt P i ⟨#[93]⟩) with
    | false =>
      have := setLoop_end hl hc
      simp only [setLoop]
      rw [hs, hc, this]
      simp
    | true =>
      by_cases hlt : P.size ≤ i
      · cases setLoop_over hl hc hlt
      · cases hn : itemF P i T with
        | none => cases setLoop_bad hl hc hlt hn
        | some r =>
          obtain ⟨i', T'⟩ := r
          have hnx := itemF_next hi hn
          have hl2 := setLoop_go hl hc hlt hn
          have h3 := setLoop_some hl2 hnx.2
          simp only [setLoop]
          rw [hs, if_pos hc, if_neg (by omega), h.item hi hn (by omega) (by
            by_cases hh : i' + 1 < P.size
            · exact .inl hh
            · right
              have : j = i' := by omega
              rw [← this]; exact h3.2.2)]
          exact h.loop hl2 hnx.2
theorem setLoop_more {S : ByteArray} : ∀ {f i : Nat} {T : Nat → Bool} {first : Bool} {j : Nat} {U : Nat → Bool} (d : Nat), setLoop S f i T first = some (j, U) → setLoop S (f + d) i T first = some (j, U)
  | 0, _, _, _, _, _, _, h => by cases h
  | f + 1, i, T, first, j, U, d, h => by
    have e : f + 1 + d = (f + d) + 1 := by omega
    rw [e]
    cases hc : (first || !startsAt S i ⟨#[93]⟩) with
    | false =>
      have := setLoop_end h hc
      simp only [setLoop]
      rw [hc, this]
      simp
    | true =>
      by_cases hlt : S.size ≤ i
      · cases setLoop_over h hc hlt
      · cases hn : itemF S i T with
        | none => cases setLoop_bad h hc hlt hn
        | some r =>
          obtain ⟨i', T'⟩ := r
          simp only [setLoop]
          rw [if_pos hc, if_neg hlt, hn]
          exact setLoop_more d (setLoop_go h hc hlt hn)
theorem Pre.not {P S : ByteArray} (h : Pre P S) {i : Nat} (hi : i < P.size) : notAt S i = notAt P i := by
  unfold notAt
  rw [h.starts (p := ⟨#[33]⟩) (by decide) (show i + 1 ≤ P.size from hi), h.starts (p := ⟨#[94]⟩) (by decide) (show i + 1 ≤ P.size from hi)]
theorem notAt_in {s : ByteArray} {i : Nat} (h : notAt s i = true) : i < s.size := by
  unfold notAt at h
  rw [Bool.or_eq_true] at h
  rcases h with h | h <;> exact startsAt_in h
theorem setF_some {s : ByteArray} {i j : Nat} {U : Nat → Bool} (h : setF s i = some (j, U)) (hi : i ≤ s.size) : i < j ∧ j ≤ s.size ∧ i < s.size := by
  unfold setF at h
  split at h
  · rename_i j' U' hl
    simp only [Option.some.injEq, Prod.mk.injEq] at h
    have hh : (if notAt s i = true then i + 1 else i) ≤ s.size ∧ i ≤ (if notAt s i = true then i + 1 else i) := by
      split
      · rename_i hn; have := notAt_in hn; omega
      · omega
    have := setLoop_some hl hh.1
    omega
  · cases h
theorem Pre.set {P S : ByteArray} (h : Pre P S) {i j : Nat} {U : Nat → Bool} (hs : setF P i = some (j, U)) (hi : i ≤ P.size) : setF S i = some (j, U) := by
  have hb := setF_some hs hi
  have hle := h.le
  unfold setF at hs ⊢
  rw [h.not hb.2.2]
  split at hs
  · rename_i j' U' hl
    have hh : (if notAt P i = true then i + 1 else i) ≤ P.size := by
      split
      · omega
      · omega
    have h2 := setLoop_more (S.size - P.size) (h.loop hl hh)
    have e : P.size + 2 + (S.size - P.size) = S.size + 2 := by omega
    rw [e] at h2
    rw [h2]
    exact hs
  · cases hs
/-- A pattern is read alike in a longer text. -/
theorem Pre.run {P S : ByteArray} (h : Pre P S) {L' : List PartV} {k2 : Nat} {R : Option (List PartV)} (h2 : crun S k2 P.size L' = some R) : ∀ (k i : Nat) (L : List PartV), i ≤ P.size → crun P k i L = some (some L') → ∃ k3, crun S k3 i L = some R
  | 0, _, _, _, hr => by cases hr
  | k + 1, i, L, hi, hr => by
    have hle := h.le
    simp only [crun] at hr
    by_cases hlt : i < P.size
    · rw [if_pos hlt] at hr
      have hb := h.at_ i hlt
      have hi2 : i < S.size := by omega
      by_cases h42 : bn P i = 42
      · rw [if_pos h42] at hr
        obtain ⟨k3, h3⟩ := h.run h2 k (i + 1) _ hlt hr
        exact ⟨k3 + 1, by simp only [crun]; rw [if_pos hi2, hb, if_pos h42, h3]⟩
      · rw [if_neg h42] at hr
        by_cases h63 : bn P i = 63
        · rw [if_pos h63] at hr
          obtain ⟨k3, h3⟩ := h.run h2 k (i + 1) _ hlt hr
          exact ⟨k3 + 1, by simp only [crun]; rw [if_pos hi2, hb, if_neg h42, if_pos h63, h3]⟩
        · rw [if_neg h63] at hr
          by_cases h91 : bn P i = 91
          · rw [if_pos h91] at hr
            split at hr
            · rename_i j U hs
              have hj := setF_some hs hlt
              obtain ⟨k3, h3⟩ := h.run h2 k j _ hj.2.1 hr
              exact ⟨k3 + 1, by simp only [crun]; rw [if_pos hi2, hb, if_neg h42, if_neg h63, if_pos h91, h.set hs hlt]; exact h3⟩
            · cases hr
          · rw [if_neg h91] at hr
            split at hr
            · rename_i hp
              obtain ⟨k3, h3⟩ := h.run h2 k _ _ hp hr
              exact ⟨k3 + 1, by simp only [crun]; rw [if_pos hi2, hb, if_neg h42, if_neg h63, if_neg h91, h.place hlt, if_pos (by omega), h.at_ _ hp, h3]⟩
            · cases hr
    · rw [if_neg hlt] at hr
      obtain rfl : i = P.size := by omega
      obtain rfl := Option.some.inj (Option.some.inj hr)
      exact ⟨k2, h2⟩
theorem Suf.cls {d : Nat} {Q S : ByteArray} (h : Suf d Q S) (i : Nat) : ∀ (n k : Nat), classNo S (d + i) k n = classNo Q i k n
  | 0, _ => rfl
  | n + 1, k => by
    simp only [classNo]
    rw [h.starts (cpat_pos k), h.cls i n (k + 1)]
theorem Suf.lt {d : Nat} {Q S : ByteArray} (h : Suf d Q S) (i : Nat) : d + i < S.size ↔ i < Q.size := by have := h.size; omega
theorem Suf.range {d : Nat} {Q S : ByteArray} (h : Suf d Q S) (q : Nat) : isRange S (d + q) = isRange Q q := by
  have h1 : d + q + 1 = d + (q + 1) := by omega
  have e : decide (d + (q + 1) < S.size) = decide (q + 1 < Q.size) := decide_eq_decide.2 (h.lt _)
  unfold isRange
  rw [h1, h.starts (p := ⟨#[45]⟩) (by decide), h.starts two_pos, e]
  by_cases hq : q + 1 < Q.size
  · rw [h.at_ _ hq]
  · simp [hq]
theorem Suf.item {d : Nat} {Q S : ByteArray} (h : Suf d Q S) {i : Nat} {T : Nat → Bool} {i' : Nat} {T' : Nat → Bool} (hit : itemF Q i T = some (i', T')) : itemF S (d + i) T = some (d + i', T') := by
  unfold itemF at hit ⊢
  rw [h.starts two_pos, h.cls, h.place]
  split at hit
  · rename_i h0
    rw [if_pos h0]
    split at hit
    · rename_i k hk
      simp only [Option.some.injEq, Prod.mk.injEq] at hit ⊢
      exact ⟨by omega, hit.2⟩
    · cases hit
  · rename_i h0
    rw [if_neg h0]
    split at hit
    · rename_i h1
      have a1 : d + bytePlace Q i + 1 = d + (bytePlace Q i + 1) := by omega
      have a2 : d + (bytePlace Q i + 1) + 1 = d + (bytePlace Q i + 1 + 1) := by omega
      rw [if_pos ((h.lt _).2 h1), a1, a2, h.range, h.place, h.at_ _ h1]
      split at hit
      · rename_i hr
        rw [if_pos hr]
        split at hit
        · rename_i h5
          rw [if_pos ((h.lt _).2 h5), h.at_ _ h5]
          simp only [Option.some.injEq, Prod.mk.injEq] at hit ⊢
          exact ⟨by omega, hit.2⟩
        · cases hit
      · rename_i hr
        rw [if_neg hr]
        simp only [Option.some.injEq, Prod.mk.injEq] at hit ⊢
        exact ⟨by omega, hit.2⟩
    · cases hit
theorem Suf.loop {d : Nat} {Q S : ByteArray} (h : Suf d Q S) : ∀ {f i : Nat} {T : Nat → Bool} {first : Bool} {j : Nat} {U : Nat → Bool}, setLoop Q f i T first = some (j, U) → setLoop S f (d + i) T first = some (d + j, U)
  | 0, _, _, _, _, _, hl => by cases hl
  | f + 1, i, T, first, j, U, hl => by
    have hs : startsAt S (d + i) ⟨#[93]⟩ = startsAt Q i ⟨#[93]⟩ := h.starts (p := ⟨#[93]⟩) (by decide)
    have hz := h.size
    cases hc : (first || !startsAt Q i ⟨#[93]⟩) with
    | false =>
      have := setLoop_end hl hc
      simp only [Option.some.injEq, Prod.mk.injEq] at this
      simp only [setLoop]
      rw [hs, hc, this.1, this.2]
      simp
    | true =>
      by_cases hlt : Q.size ≤ i
      · cases setLoop_over hl hc hlt
      · cases hn : itemF Q i T with
        | none => cases setLoop_bad hl hc hlt hn
        | some r =>
          obtain ⟨i', T'⟩ := r
          simp only [setLoop]
          rw [hs, if_pos hc, if_neg (by omega), h.item hn]
          exact h.loop (setLoop_go hl hc hlt hn)
theorem Suf.not {d : Nat} {Q S : ByteArray} (h : Suf d Q S) (i : Nat) : notAt S (d + i) = notAt Q i := by
  unfold notAt
  rw [h.starts (p := ⟨#[33]⟩) (by decide), h.starts (p := ⟨#[94]⟩) (by decide)]
theorem Suf.set {d : Nat} {Q S : ByteArray} (h : Suf d Q S) {i j : Nat} {U : Nat → Bool} (hs : setF Q i = some (j, U)) : setF S (d + i) = some (d + j, U) := by
  have hz := h.size
  unfold setF at hs ⊢
  rw [h.not]
  split at hs
  · rename_i j' U' hl
    have h2 := setLoop_more d (h.loop hl)
    have e : Q.size + 2 + d = S.size + 2 := by omega
    have e2 : (if notAt Q i = true then d + i + 1 else d + i) = d + (if notAt Q i = true then i + 1 else i) := by split <;> omega
    rw [e] at h2
    rw [e2, h2]
    simp only [Option.some.injEq, Prod.mk.injEq] at hs ⊢
    exact ⟨by omega, hs.2⟩
  · cases hs
/-- Behind a beginning the rest is read as by itself. -/
theorem Suf.run {d : Nat} {Q S : ByteArray} (h : Suf d Q S) (A : List PartV) : ∀ (k i : Nat) (L L' : List PartV), crun Q k i L = some (some L') → crun S k (d + i) (A ++ L) = some (some (A ++ L'))
  | 0, _, _, _, hr => by cases hr
  | k + 1, i, L, L', hr => by
    simp only [crun] at hr ⊢
    by_cases hlt : i < Q.size
    · rw [if_pos hlt] at hr
      have hb := h.at_ i hlt
      rw [if_pos ((h.lt _).2 hlt), hb, h.place]
      have a1 : d + i + 1 = d + (i + 1) := by omega
      by_cases h42 : bn Q i = 42
      · rw [if_pos h42] at hr ⊢
        rw [a1, List.append_assoc]
        exact h.run A k _ _ _ hr
      · rw [if_neg h42] at hr ⊢
        by_cases h63 : bn Q i = 63
        · rw [if_pos h63] at hr ⊢
          rw [a1, List.append_assoc]
          exact h.run A k _ _ _ hr
        · rw [if_neg h63] at hr ⊢
          by_cases h91 : bn Q i = 91
          · rw [if_pos h91] at hr ⊢
            split at hr
            · rename_i j U hs
              rw [a1, h.set hs]
              simp only
              rw [List.append_assoc]
              exact h.run A k _ _ _ hr
            · cases hr
          · rw [if_neg h91] at hr ⊢
            split at hr
            · rename_i hp
              rw [if_pos ((h.lt _).2 hp), h.at_ _ hp]
              have a2 : d + bytePlace Q i + 1 = d + (bytePlace Q i + 1) := by omega
              rw [a2, List.append_assoc]
              exact h.run A k _ _ _ hr
            · cases hr
    · rw [if_neg hlt] at hr
      rw [if_neg (fun hh => hlt ((h.lt _).1 hh))]
      obtain rfl := Option.some.inj (Option.some.inj hr)
      rfl
theorem crun_more {s : ByteArray} : ∀ {k i : Nat} {L : List PartV} {R : Option (List PartV)} (d : Nat), crun s k i L = some R → crun s (k + d) i L = some R
  | 0, _, _, _, _, h => by cases h
  | k + 1, i, L, R, d, h => by
    have e : k + 1 + d = (k + d) + 1 := by omega
    rw [e]
    simp only [crun] at h ⊢
    split at h
    · rename_i h1
      rw [if_pos h1]
      split at h
      · rename_i h2
        rw [if_pos h2]; exact crun_more d h
      · rename_i h2
        rw [if_neg h2]
        split at h
        · rename_i h3
          rw [if_pos h3]; exact crun_more d h
        · rename_i h3
          rw [if_neg h3]
          split at h
          · rename_i h4
            rw [if_pos h4]
            split at h
            · rename_i hs
              exact crun_more d h
            · rename_i hs
              exact h
          · rename_i h4
            rw [if_neg h4]
            split at h
            · rename_i h5
              rw [if_pos h5]; exact crun_more d h
            · rename_i h5
              rw [if_neg h5]; exact h
    · rename_i h1
      rw [if_neg h1]; exact h
theorem crun_same {s : ByteArray} {k k' i : Nat} {L : List PartV} {R R' : Option (List PartV)} (h : crun s k i L = some R) (h' : crun s k' i L = some R') : R = R' := by
  have a := crun_more k' h
  have b := crun_more k h'
  rw [Nat.add_comm] at b
  rw [a] at b
  exact Option.some.inj b
/-- Compile's rounds end. -/
theorem crun_ends (s : ByteArray) : ∀ (k i : Nat) (L : List PartV), i ≤ s.size → s.size < k + i → ∃ R, crun s k i L = some R
  | 0, i, L, h1, h2 => by omega
  | k + 1, i, L, h1, h2 => by
    simp only [crun]
    by_cases hlt : i < s.size
    · rw [if_pos hlt]
      split
      · exact crun_ends s k _ _ hlt (by omega)
      · split
        · exact crun_ends s k _ _ hlt (by omega)
        · split
          · split
            · rename_i j U hs
              have := setF_some hs hlt
              exact crun_ends s k _ _ this.2.1 (by omega)
            · exact ⟨_, rfl⟩
          · split
            · rename_i hp
              have := le_bytePlace s i
              exact crun_ends s k _ _ hp (by omega)
            · exact ⟨_, rfl⟩
    · rw [if_neg hlt]; exact ⟨_, rfl⟩
/-- What a text means: parts, or none. -/
def parts (s : ByteArray) : Option (List PartV) := (crun s (s.size + 1) 0 []).getD none
theorem crun_parts (s : ByteArray) : crun s (s.size + 1) 0 [] = some (parts s) := by
  obtain ⟨R, hR⟩ := crun_ends s (s.size + 1) 0 [] (Nat.zero_le _) (by omega)
  unfold parts
  rw [hR]
  rfl
theorem parts_of {s : ByteArray} {k : Nat} {R : Option (List PartV)} (h : crun s k 0 [] = some R) : parts s = R := crun_same (crun_parts s) h
/-- Patterns one behind the other. -/
theorem parts_append {P Q : ByteArray} {A B : List PartV} (hP : parts P = some A) (hQ : parts Q = some B) : parts (P ++ Q) = some (A ++ B) := by
  have h1 := crun_parts P
  have h2 := crun_parts Q
  rw [hP] at h1
  rw [hQ] at h2
  have h3 := (suf_append P Q).run A _ _ _ _ h2
  rw [List.append_nil, Nat.add_zero] at h3
  obtain ⟨k3, h4⟩ := (pre_append P Q).run h3 _ _ _ (Nat.zero_le _) h1
  exact parts_of h4
theorem parts_star : parts ⟨#[42]⟩ = some [((true, noneT) : PartV)] := parts_of (k := 2) rfl
end Go.Proofs.YtgkifphfibcfdaaGreatDoor.G
