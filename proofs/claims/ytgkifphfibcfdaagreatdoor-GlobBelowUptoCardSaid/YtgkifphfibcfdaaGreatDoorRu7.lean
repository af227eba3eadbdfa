/- Merged out of these texts: SplL, SplLib, PTrim, PWords, RDef, FitsDef, MeansDP, Names. -/
import Derived.Test.YtgkifphfibcfdaaGreatDoorRu6
import Derived.Lib.SplitLaws
import Derived.Lib.CountLaws
import Derived.Lib.IndexLaws
import Derived.Test.YtgkifphfibcfdaaGreatDoorRu2
import Derived.Test.YtgkifphfibcfdaaGreatDoorRu3
import Derived.Test.YtgkifphfibcfdaaGreatDoorRu5
import Derived.Lib.DecodeN
import Derived.Lib.FieldsP
/- A text's pieces, on lists of bytes; the library's Split, Contains at one byte. -/
namespace Go.Proofs.YtgkifphfibcfdaaGreatDoor.G
open Go.RowKit Go.Proofs.YtgkifphfibcfdaaGreatDoor.B
set_option linter.unusedVariables false
def glue (x : List UInt8) : List (List UInt8) → List (List UInt8)
  | p :: r => (x ++ p) :: r
  | [] => [x]
def spL (c : UInt8) : List UInt8 → List (List UInt8)
  | [] => [[]]
  | b :: l => if b = c then [] :: spL c l else glue [b] (spL c l)
theorem glue_nil (l : List (List UInt8)) (h : l ≠ []) : glue [] l = l := by
  cases l with
  | nil => exact absurd rfl h
  | cons p r => rfl
theorem glue_glue (x y : List UInt8) (l : List (List UInt8)) : glue x (glue y l) = glue (x ++ y) l := by
  cases l <;> simp [glue]
theorem spL_ne (c : UInt8) : ∀ l, spL c l ≠ []
  | [] => by simp [spL]
  | b :: l => by
    simp only [spL]
    split
    · simp
    · cases spL c l <;> simp [glue]
theorem toList_extract (s : ByteArray) (a b : Nat) : (s.extract a b).data.toList = (s.data.toList.drop a).take (b - a) := by
  simp only [ByteArray.data_extract, Array.toList_extract, List.extract_eq_take_drop]
theorem bn_get {s : ByteArray} {i : Nat} (h : i < s.size) : ∃ b : UInt8, s.data.toList[i]? = some b ∧ b.toNat = bn s i := ⟨s.data.toList[i]'(by simpa using h), List.getElem?_eq_getElem _, (bn_in h).symm⟩
theorem pieces_list (c : UInt8) (s : ByteArray) : ∀ k f i, f ≤ i → i + k = s.size → (pieces c.toNat s k f i).map (·.data.toList) = glue ((s.data.toList.drop f).take (i - f)) (spL c (s.data.toList.drop i))
  | 0, f, i, hf, hi => by
    have hl : s.data.toList.length = s.size := by simp
    simp only [pieces, List.map_cons, List.map_nil, toList_extract]
    rw [List.drop_eq_nil_of_le (by omega : s.data.toList.length ≤ i)]
    simp [spL, glue]
  | k + 1, f, i, hf, hi => by
    have hl : s.data.toList.length = s.size := by simp
    have hlt : i < s.size := by omega
    obtain ⟨b, hb, hbn⟩ := bn_get hlt
    have hd : s.data.toList.drop i = b :: s.data.toList.drop (i + 1) := by
      rw [List.drop_eq_getElem_cons (by omega)]
      rw [List.getElem?_eq_getElem (by omega)] at hb
      rw [Option.some.inj hb]
    have htk : (s.data.toList.drop f).take (i + 1 - f) = (s.data.toList.drop f).take (i - f) ++ [b] := by
      rw [show i + 1 - f = (i - f) + 1 by omega, List.take_add_one]
      congr 1
      rw [List.getElem?_drop, show f + (i - f) = i by omega, hb]
      rfl
    simp only [pieces]
    rw [hd]
    by_cases hc : bn s i = c.toNat
    · rw [if_pos hc]
      have hbc : b = c := UInt8.toNat_inj.1 (by rw [hbn, hc])
      rw [List.map_cons, toList_extract, pieces_list c s k (i + 1) (i + 1) (Nat.le_refl _) (by omega)]
      simp only [spL]
      rw [if_pos hbc, Nat.sub_self, List.take_zero, glue_nil _ (spL_ne _ _)]
      simp [glue]
    · rw [if_neg hc]
      have hbc : ¬ b = c := fun e => hc (by rw [← hbn, e])
      rw [pieces_list c s k f (i + 1) (by omega) (by omega), htk]
      simp only [spL]
      rw [if_neg hbc, glue_glue]
theorem spl_list (c : UInt8) (s : ByteArray) : (spl c.toNat s).map (·.data.toList) = spL c s.data.toList := by
  unfold spl
  rw [pieces_list c s s.size 0 0 (Nat.le_refl _) (by omega)]
  simp only [List.drop_zero, Nat.sub_self, List.take_zero]
  exact glue_nil _ (spL_ne _ _)
theorem spL_no {c : UInt8} : ∀ {l : List UInt8}, c ∉ l → spL c l = [l]
  | [], _ => rfl
  | b :: l, h => by
    simp only [List.mem_cons, not_or] at h
    simp only [spL]
    rw [if_neg (fun e => h.1 e.symm), spL_no h.2]
    rfl
theorem spL_cut {c : UInt8} : ∀ {a b : List UInt8}, c ∉ a → spL c (a ++ c :: b) = a :: spL c b
  | [], b, _ => by simp [spL]
  | x :: a, b, h => by
    simp only [List.mem_cons, not_or] at h
    simp only [List.cons_append, spL]
    rw [if_neg (fun e => h.1 e.symm), spL_cut h.2]
    rfl
theorem spL_len (c : UInt8) : ∀ l : List UInt8, 1 < (spL c l).length ↔ c ∈ l
  | [] => by simp [spL]
  | b :: l => by
    simp only [spL]
    have hne := spL_ne c l
    by_cases hb : b = c
    · rw [if_pos hb]
      subst hb
      have : 0 < (spL b l).length := List.length_pos_iff.2 hne
      simp
      omega
    · rw [if_neg hb]
      have ih := spL_len c l
      have hg : (glue [b] (spL c l)).length = (spL c l).length := by
        cases hs : spL c l with
        | nil => exact absurd hs hne
        | cons p r => rfl
      rw [hg, ih]
      simp
      exact fun e => absurd e.symm hb
theorem bytes_of_lists {A B : List ByteArray} (h : A.map (·.data.toList) = B.map (·.data.toList)) : A = B := by
  have hinj : ∀ x y : ByteArray, x.data.toList = y.data.toList → x = y := fun x y h => ByteArray.ext (Array.toList_inj.1 h)
  induction A generalizing B with
  | nil => cases B with | nil => rfl | cons b r => simp at h
  | cons a r ih =>
    cases B with
    | nil => simp at h
    | cons b q =>
      simp only [List.map_cons, List.cons.injEq] at h
      rw [hinj _ _ h.1, ih h.2]
end Go.Proofs.YtgkifphfibcfdaaGreatDoor.G
/- The library's Split, Contains, prefixes and suffixes at one byte, as this text's own words. -/
namespace Go.Proofs.YtgkifphfibcfdaaGreatDoor.G
open Go.RowKit Go.Proofs.YtgkifphfibcfdaaGreatDoor.B
set_option linter.unusedVariables false
theorem sep_list (c : UInt8) : (⟨#[c]⟩ : ByteArray).data.toList = [c] := rfl
theorem countB_one (s : ByteArray) (c : UInt8) : Lib.countB s ⟨#[c]⟩ = s.data.toList.count c := by
  unfold Lib.countB
  rw [sep_list, Lib.count_one]
theorem indexB_one (s : ByteArray) (c : UInt8) : Lib.indexB s ⟨#[c]⟩ = Lib.indexByte s.data.toList c := by
  unfold Lib.indexB
  rw [sep_list, Lib.index_one]
theorem split_spl (c : UInt8) : ∀ (n : Nat) (s : ByteArray), s.data.toList.count c = n → (Lib.splitB ⟨#[c]⟩ 0 n s).map (·.data.toList) = spL c s.data.toList
  | 0, s, h => by
    rw [List.count_eq_zero] at h
    rw [spL_no h]
    rfl
  | n + 1, s, h => by
    have hl : s.data.toList.length = s.size := by simp
    have hcB := countB_one s c
    have hmem : c ∈ s.data.toList := List.count_pos_iff.1 (by omega)
    have hge := Lib.indexByte_ge s.data.toList c
    have hne : Lib.indexByte s.data.toList c ≠ -1 := fun e => by
      obtain ⟨k, hk⟩ := List.getElem?_of_mem hmem
      exact Lib.indexByte_none e k hk
    obtain ⟨i, hi⟩ : ∃ i : Nat, Lib.indexByte s.data.toList c = i := ⟨(Lib.indexByte s.data.toList c).toNat, by omega⟩
    obtain ⟨h1, h2⟩ := Lib.indexByte_some hi
    have hlt : i < s.data.toList.length := (List.getElem?_eq_some_iff.1 h1).1
    have hb := indexB_one s c
    rw [hi] at hb
    have hsplit : s.data.toList = s.data.toList.take i ++ c :: s.data.toList.drop (i + 1) := by
      rw [List.getElem?_eq_getElem hlt] at h1
      conv => lhs; rw [← List.take_append_drop i s.data.toList, List.drop_eq_getElem_cons hlt, Option.some.inj h1]
    have hno : c ∉ s.data.toList.take i := fun hm => by
      obtain ⟨k, hk⟩ := List.getElem?_of_mem hm
      have hki : k < i := by
        have := (List.getElem?_eq_some_iff.1 hk).1
        rw [List.length_take] at this
        omega
      rw [List.getElem?_take_of_lt hki] at hk
      exact h2 k hki hk
    have hz : (⟨#[c]⟩ : ByteArray).size = 1 := rfl
    have hcount : (s.extract (i + 1) s.size).data.toList.count c = n := by
      have := Lib.countB_hit s ⟨#[c]⟩ i (by rw [hz]; omega) hb
      rw [hcB, hz, countB_one] at this
      omega
    unfold Lib.splitB
    rw [hb, if_neg (by simp), List.map_cons, hz, Int.toNat_natCast, split_spl c n _ hcount, Nat.add_zero, toList_extract, toList_extract]
    have ht2 : (s.data.toList.drop (i + 1)).take (s.size - (i + 1)) = s.data.toList.drop (i + 1) := List.take_of_length_le (by rw [List.length_drop]; omega)
    rw [Nat.sub_zero, List.drop_zero, ht2]
    conv => rhs; rw [hsplit]
    rw [spL_cut hno]
theorem split_eq (c : UInt8) (s : ByteArray) : Lib.splitB ⟨#[c]⟩ 0 (Lib.countB s ⟨#[c]⟩) s = spl c.toNat s := by
  refine bytes_of_lists ?_
  rw [spl_list, split_spl c _ s (countB_one s c).symm]
theorem count_spl (c : UInt8) (s : ByteArray) : Lib.countB s ⟨#[c]⟩ + 1 = (spl c.toNat s).length := by
  rw [← split_eq c s, Lib.splitB_all ⟨#[c]⟩ (show 1 ≤ (⟨#[c]⟩ : ByteArray).size from Nat.le_refl 1) 0 _ s rfl]
theorem contains_rooted (s : ByteArray) : decide (0 ≤ Lib.indexByte s.data.toList 47) = rootedF s := by
  unfold rootedF
  have h1 := spL_len 47 s.data.toList
  rw [← spl_list, List.length_map] at h1
  refine decide_eq_decide.2 ?_
  show _ ↔ 1 < (spl (47 : UInt8).toNat s).length
  rw [h1]
  have hge := Lib.indexByte_ge s.data.toList 47
  constructor
  · intro h
    obtain ⟨i, hi⟩ : ∃ i : Nat, Lib.indexByte s.data.toList 47 = i := ⟨(Lib.indexByte s.data.toList 47).toNat, by omega⟩
    exact List.mem_of_getElem? (Lib.indexByte_some hi).1
  · intro hm
    rcases Int.lt_or_le (Lib.indexByte s.data.toList 47) 0 with h | h
    · obtain ⟨k, hk⟩ := List.getElem?_of_mem hm
      exact absurd hk (Lib.indexByte_none (by omega) k)
    · exact h
end Go.Proofs.YtgkifphfibcfdaaGreatDoor.G
/- The program's trimmed: the walk; suffixes and prefixes of one byte. -/
namespace Go.Proofs.YtgkifphfibcfdaaGreatDoor.G
open Go.RowKit Go.Proofs.YtgkifphfibcfdaaGreatDoor.B
set_option linter.unusedVariables false
theorem last_byte {s : ByteArray} {n : Nat} (hn : s.size = n + 1) : ∃ b : UInt8, s.data.toList = s.data.toList.take n ++ [b] ∧ b.toNat = bn s n := by
  have hl : s.data.toList.length = s.size := by simp
  obtain ⟨b, hb, hbn⟩ := bn_get (s := s) (i := n) (by omega)
  refine ⟨b, ?_, hbn⟩
  rw [List.getElem?_eq_getElem (by omega)] at hb
  conv => lhs; rw [← List.take_append_drop n s.data.toList, List.drop_eq_getElem_cons (by omega), Option.some.inj hb, List.drop_eq_nil_of_le (by omega)]
theorem suf_one {s : ByteArray} {n : Nat} (hn : s.size = n + 1) (c : UInt8) : Lib.hasSuffix s.data.toList [c] = decide (bn s n = c.toNat) := by
  obtain ⟨b, hb, hbn⟩ := last_byte hn
  unfold Lib.hasSuffix
  rw [Bool.eq_iff_iff, List.isSuffixOf_iff_suffix, decide_eq_true_eq, ← hbn]
  constructor
  · rintro ⟨t, ht⟩
    rw [hb] at ht
    have := (List.append_inj' ht rfl).2
    simp only [List.cons.injEq, and_true] at this
    rw [this]
  · intro h
    refine ⟨s.data.toList.take n, ?_⟩
    rw [← UInt8.toNat_inj.1 h, ← hb]
theorem suf_none {s : ByteArray} (hn : ¬ 0 < s.size) (c : UInt8) : Lib.hasSuffix s.data.toList [c] = false := by
  rw [empty_bytes hn]
  rfl
theorem suf_two {s : ByteArray} {m : Nat} (hn : s.size = m + 1 + 1) (c d : UInt8) : Lib.hasSuffix s.data.toList [c, d] = (decide (bn s m = c.toNat) && decide (bn s (m + 1) = d.toNat)) := by
  have hl : s.data.toList.length = s.size := by simp
  obtain ⟨b, hb, hbn⟩ := last_byte hn
  obtain ⟨a, ha, han⟩ := bn_get (s := s) (i := m) (by omega)
  have h2 : s.data.toList.take (m + 1) = s.data.toList.take m ++ [a] := by
    rw [List.take_add_one, ha]; rfl
  rw [h2, List.append_assoc] at hb
  unfold Lib.hasSuffix
  rw [Bool.eq_iff_iff, List.isSuffixOf_iff_suffix, Bool.and_eq_true, decide_eq_true_eq, decide_eq_true_eq, ← hbn, ← han]
  constructor
  · rintro ⟨t, ht⟩
    rw [hb] at ht
    have := (List.append_inj' ht rfl).2
    simp only [List.cons_append, List.nil_append, List.cons.injEq, and_true] at this
    exact ⟨by rw [this.1], by rw [this.2]⟩
  · rintro ⟨h1, h3⟩
    refine ⟨s.data.toList.take m, ?_⟩
    rw [← UInt8.toNat_inj.1 h1, ← UInt8.toNat_inj.1 h3]
    exact hb.symm
theorem suf_two_short {s : ByteArray} (hn : s.size < 2) (c d : UInt8) : Lib.hasSuffix s.data.toList [c, d] = false := by
  apply Bool.eq_false_iff.2
  intro h
  unfold Lib.hasSuffix at h
  rw [List.isSuffixOf_iff_suffix] at h
  have := h.length_le
  have hl : s.data.toList.length = s.size := by simp
  simp only [List.length_cons, List.length_nil] at this
  omega
theorem size_le {s : ByteArray} (h : s.size ≤ 1048576) : s.size ≤ 9223372036854775807 := by omega
set_option maxRecDepth 100000 in
set_option maxHeartbeats 8000000 in
theorem trimmed_calls (s : ByteArray) (w : World) (hs : s.size ≤ 1048576) :
    Calls Tryz.prog 35 #[.string s] w fun e w' => e = .returned (.string (trimS s)) ∧ w' = w := by
  go_enter Tryz.func35, Tryz.ntmps35
  go_wp2
  go_loopg [0] (s.size + 1) (fun gk v0 wr => w = wr ∧ ∃ S : ByteArray, v0 = .string S ∧ S.size ≤ s.size ∧ gk = S.size + 1 ∧ Asd (trimS S = trimS s))
  case atStart => exact ⟨rfl, s, rfl, by omega, rfl, ⟨rfl⟩⟩
  case round =>
    obtain ⟨rfl, S, rfl, hS, rfl, HT⟩ := hrel
    have hc1 := fun W : World => Tryz.strings_HasSuffix S ⟨#[32]⟩ W (by omega)
    have hc2 := fun W : World => Tryz.strings_HasSuffix S ⟨#[92, 32]⟩ W (by omega)
    rw [show (⟨#[32]⟩ : ByteArray).data.toList = [32] from rfl] at hc1
    rw [show (⟨#[92, 32]⟩ : ByteArray).data.toList = [92, 32] from rfl] at hc2
    by_cases hgo : 0 < S.size ∧ bn S (S.size - 1) = 32 ∧ (S.size < 2 ∨ bn S (S.size - 2) ≠ 92)
    · obtain ⟨hz, h32, h92⟩ := hgo
      obtain ⟨n, hn⟩ : ∃ n, S.size = n + 1 := ⟨S.size - 1, by omega⟩
      rw [suf_one hn 32, decide_eq_true (by rw [hn] at h32; exact h32)] at hc1
      have hf2 : Lib.hasSuffix S.data.toList [92, 32] = false := by
        cases n with
        | zero => exact suf_two_short (by omega) _ _
        | succ m =>
          rw [suf_two hn 92 32]
          have : bn S m ≠ 92 := by
            rcases h92 with h | h
            · omega
            · rw [hn, show m + 1 + 1 - 2 = m by omega] at h; exact h
          rw [decide_eq_false (show ¬ bn S m = (92 : UInt8).toNat from this)]
          rfl
      rw [hf2] at hc2
      have hT := HT.out
      rw [trimS_go hz h32 h92] at hT
      obtain ⟨p, hp⟩ : ∃ p, S.extract 0 (S.size - 1) = p := ⟨_, rfl⟩
      rw [hp] at hT
      have HT2 := Asd.mk hT
      have hp2 : S.extract 0 n = p := by rw [← hp, hn]; rfl
      have hpz : p.size = n := by rw [← hp2, ByteArray.size_extract]; omega
      have HC1 := Asd.mk hc1
      have HC2 := Asd.mk hc2
      have k1 : (n : Int) ≤ (S.size : Int) := by omega
      clear hT HT hc1 hc2 h32 h92 hf2 hp
      go_wp2_with fail
      refine (HC1.out w).mono ?_
      rintro e w1 ⟨rfl, hw1⟩
      subst hw1
      go_wp2_with fail
      refine (HC2.out w1).mono ?_
      rintro e w2 ⟨rfl, hw2⟩
      subst hw2
      clear HC1 HC2
      by_cases hn0 : 0 < n
      · go_wp2
        go_roundg (n + 1)
        case rel => exact ⟨rfl, p, by rw [← hp2], by omega, by omega, HT2⟩
        case measure => omega
      · obtain rfl : n = 0 := by omega
        go_wp2
        go_roundg (0 + 1)
        case rel => exact ⟨rfl, p, by rw [empty_bytes (s := p) (by omega)]; rfl, by omega, by omega, HT2⟩
        case measure => omega
    · have HT2 := Asd.mk (show trimS s = S by rw [← HT.out]; exact trimS_stop hgo)
      have hsel : Lib.hasSuffix S.data.toList [32] = false ∨ (Lib.hasSuffix S.data.toList [32] = true ∧ Lib.hasSuffix S.data.toList [92, 32] = true) := by
        by_cases hz : 0 < S.size
        · obtain ⟨n, hn⟩ : ∃ n, S.size = n + 1 := ⟨S.size - 1, by omega⟩
          by_cases h32 : bn S n = 32
          · right
            have h3 : S.size ≥ 2 ∧ bn S (S.size - 2) = 92 := by
              apply Classical.byContradiction
              intro hh
              apply hgo
              refine ⟨hz, by rw [hn]; exact h32, ?_⟩
              by_cases h2 : S.size < 2
              · exact .inl h2
              · exact .inr (fun e => hh ⟨by omega, e⟩)
            obtain ⟨m, hm⟩ : ∃ m, n = m + 1 := ⟨n - 1, by omega⟩
            subst hm
            refine ⟨by rw [suf_one hn 32]; exact decide_eq_true h32, ?_⟩
            rw [suf_two hn 92 32, decide_eq_true (show bn S m = (92 : UInt8).toNat by have := h3.2; rw [hn, show m + 1 + 1 - 2 = m by omega] at this; exact this), decide_eq_true (show bn S (m + 1) = (32 : UInt8).toNat from h32)]
            rfl
          · left
            rw [suf_one hn 32]
            exact decide_eq_false h32
        · exact .inl (suf_none hz 32)
      clear HT hgo
      rcases hsel with h | ⟨h, h'⟩
      · rw [h] at hc1
        have HC1 := Asd.mk hc1
        clear hc1 hc2 h
        go_wp2_with fail
        refine (HC1.out w).mono ?_
        rintro e w1 ⟨rfl, hw1⟩
        subst hw1
        go_wp2
        go_ret
        exact ⟨by rw [HT2.out]; rfl, rfl⟩
      · rw [h] at hc1
        rw [h'] at hc2
        have HC1 := Asd.mk hc1
        have HC2 := Asd.mk hc2
        clear hc1 hc2 h h'
        go_wp2_with fail
        refine (HC1.out w).mono ?_
        rintro e w1 ⟨rfl, hw1⟩
        subst hw1
        go_wp2_with fail
        refine (HC2.out w1).mono ?_
        rintro e w2 ⟨rfl, hw2⟩
        subst hw2
        go_wp2
        go_ret
        exact ⟨by rw [HT2.out]; rfl, rfl⟩
end Go.Proofs.YtgkifphfibcfdaaGreatDoor.G
/- The library's cuts at one byte, as this text's own words. -/
namespace Go.Proofs.YtgkifphfibcfdaaGreatDoor.G
open Go.RowKit Go.Proofs.YtgkifphfibcfdaaGreatDoor.B
set_option linter.unusedVariables false
theorem first_byte {s : ByteArray} (h : 0 < s.size) : ∃ b : UInt8, s.data.toList = b :: s.data.toList.drop 1 ∧ b.toNat = bn s 0 := by
  have hl : s.data.toList.length = s.size := by simp
  obtain ⟨b, hb, hbn⟩ := bn_get (s := s) (i := 0) h
  refine ⟨b, ?_, hbn⟩
  rw [List.getElem?_eq_getElem (by omega)] at hb
  conv => lhs; rw [← List.drop_zero (l := s.data.toList), List.drop_eq_getElem_cons (by omega), Option.some.inj hb]
theorem pre_one {s : ByteArray} (h : 0 < s.size) (c : UInt8) : Lib.hasPrefix s.data.toList [c] = decide (bn s 0 = c.toNat) := by
  obtain ⟨b, hb, hbn⟩ := first_byte h
  unfold Lib.hasPrefix
  rw [hb, ← hbn]
  simp only [List.isPrefixOf, Bool.and_true]
  rw [Bool.eq_iff_iff, beq_iff_eq, decide_eq_true_eq]
  constructor
  · rintro rfl; rfl
  · intro e; exact (UInt8.toNat_inj.1 e).symm
theorem pre_none {s : ByteArray} (h : ¬ 0 < s.size) (c : UInt8) : Lib.hasPrefix s.data.toList [c] = false := by
  rw [empty_bytes h]; rfl
theorem bytes_eq {a b : ByteArray} (h : a.data.toList = b.data.toList) : a = b := ByteArray.ext (Array.toList_inj.1 h)
theorem mk_list (l : List UInt8) : (⟨l.toArray⟩ : ByteArray).data.toList = l := rfl
theorem prefix_back (s : ByteArray) : Lib.hasPrefix s.data.toList [33] = isBack s := by
  by_cases h : 0 < s.size
  · rw [pre_one h 33]
    unfold isBack
    exact decide_eq_decide.2 ⟨fun e => ⟨h, e⟩, fun e => e.2⟩
  · rw [pre_none h 33]
    unfold isBack
    exact (decide_eq_false (fun e => h e.1)).symm
theorem drop_one (s : ByteArray) : (s.extract 1 s.size).data.toList = s.data.toList.drop 1 := by
  have hl : s.data.toList.length = s.size := by simp
  rw [toList_extract, List.take_of_length_le (by rw [List.length_drop]; omega)]
theorem trim_back (s : ByteArray) : (⟨(Lib.trimPrefix s.data.toList [33]).toArray⟩ : ByteArray) = cutBack s := by
  refine bytes_eq ?_
  rw [mk_list]
  unfold Lib.trimPrefix cutBack
  rw [prefix_back]
  cases isBack s with
  | true =>
    rw [if_pos rfl, if_pos rfl, drop_one]
    rfl
  | false => rw [if_neg (by decide), if_neg (by decide)]
theorem suffix_dir (s : ByteArray) : Lib.hasSuffix s.data.toList [47] = isDir s := by
  by_cases h : 0 < s.size
  · obtain ⟨n, hn⟩ : ∃ n, s.size = n + 1 := ⟨s.size - 1, by omega⟩
    rw [suf_one hn 47]
    unfold isDir
    rw [hn]
    exact decide_eq_decide.2 ⟨fun e => ⟨by omega, e⟩, fun e => e.2⟩
  · rw [suf_none h 47]
    unfold isDir
    exact (decide_eq_false (fun e => h e.1)).symm
theorem trim_dir (s : ByteArray) : (⟨(Lib.trimSuffix s.data.toList [47]).toArray⟩ : ByteArray) = cutDir s := by
  have hl : s.data.toList.length = s.size := by simp
  refine bytes_eq ?_
  rw [mk_list]
  unfold Lib.trimSuffix cutDir
  rw [suffix_dir]
  cases isDir s with
  | true =>
    rw [if_pos rfl, if_pos rfl, toList_extract, List.drop_zero, Nat.sub_zero, hl]
    rfl
  | false => rw [if_neg (by decide), if_neg (by decide)]
theorem spl_mk (l : List UInt8) : (spl 47 ⟨l.toArray⟩).map (·.data.toList) = spL 47 l := spl_list 47 ⟨l.toArray⟩
/-- A slash ahead is passed by. -/
theorem trim_root (s : ByteArray) : spl 47 ⟨(Lib.trimPrefix s.data.toList [47]).toArray⟩ = unroot (spl 47 s) := by
  have hsp : (spl 47 s).map (·.data.toList) = spL 47 s.data.toList := spl_list 47 s
  by_cases h : 0 < s.size
  · obtain ⟨b, hb, hbn⟩ := first_byte h
    have hp := pre_one h 47
    by_cases h47 : bn s 0 = 47
    · have hbc : b = 47 := UInt8.toNat_inj.1 (by rw [hbn, h47]; rfl)
      have e1 : Lib.trimPrefix s.data.toList [47] = s.data.toList.drop 1 := by
        unfold Lib.trimPrefix
        rw [hp, decide_eq_true (show bn s 0 = (47 : UInt8).toNat from h47), if_pos rfl]
        rfl
      rw [e1]
      have e2 : spL 47 s.data.toList = [] :: spL 47 (s.data.toList.drop 1) := by
        conv => lhs; rw [hb]
        simp only [spL]
        rw [if_pos hbc]
      rw [e2] at hsp
      cases hs : spl 47 s with
      | nil => rw [hs] at hsp; simp at hsp
      | cons p r =>
        rw [hs] at hsp
        simp only [List.map_cons, List.cons.injEq] at hsp
        have hr : r ≠ [] := fun e => by
          rw [e] at hsp
          exact spL_ne 47 _ hsp.2.symm
        have hpz : p.size = 0 := by
          have hl : p.data.toList.length = p.size := by simp
          rw [hsp.1] at hl
          simpa using hl.symm
        simp only [unroot]
        rw [if_pos ⟨hpz, hr⟩]
        refine bytes_of_lists ?_
        rw [spl_mk, hsp.2]
    · have e1 : Lib.trimPrefix s.data.toList [47] = s.data.toList := by
        unfold Lib.trimPrefix
        rw [hp, decide_eq_false (show ¬ bn s 0 = (47 : UInt8).toNat from h47), if_neg (by decide)]
      have e0 : (⟨s.data.toList.toArray⟩ : ByteArray) = s := bytes_eq rfl
      rw [e1, e0]
      have hbc : ¬ b = 47 := fun e => h47 (by rw [← hbn, e]; rfl)
      have e2 : spL 47 s.data.toList = glue [b] (spL 47 (s.data.toList.drop 1)) := by
        conv => lhs; rw [hb]
        simp only [spL]
        rw [if_neg hbc]
      rw [e2] at hsp
      cases hs : spl 47 s with
      | nil => rfl
      | cons p r =>
        rw [hs] at hsp
        have hpz : p.size ≠ 0 := fun e => by
          have hl : p.data.toList.length = p.size := by simp
          rw [e] at hl
          have hnil := List.eq_nil_of_length_eq_zero hl
          cases hq : spL 47 (s.data.toList.drop 1) with
          | nil => exact spL_ne 47 _ hq
          | cons x y =>
            rw [hq] at hsp
            simp only [List.map_cons, glue, List.cons.injEq, hnil] at hsp
            exact absurd hsp.1 (by simp)
        simp only [unroot]
        rw [if_neg (fun hh => hpz hh.1)]
  · rw [empty_bytes h]
    rfl
end Go.Proofs.YtgkifphfibcfdaaGreatDoor.G
/- What the reference's Compile leaves. -/
namespace Go.Proofs.YtgkifphfibcfdaaGreatDoor.G
open Go.RowKit Go.Proofs.YtgkifphfibcfdaaGreatDoor.B
set_option linter.unusedVariables false
/-- What the reference's Compile leaves. -/
def RCompPost (w : World) (R : Option (List PartV)) (e : Ending) (w' : World) : Prop :=
  Chg [] w w' ∧ match R with
  | some L => ∃ A c, e = .returned (.tuple #[.slice A L.length c, .int .i64 0]) ∧ PartsAt w' A L ∧ L.length ≤ 1048576
  | none => e = .returned (.tuple #[.slice none 0 0, .int .i64 40])
/-- The same, as a row that one owns. -/
def RCompPost2 (w : World) (R : Option (List PartV)) (e : Ending) (w' : World) : Prop :=
  Chg [] w w' ∧ match R with
  | some L => ∃ A c, e = .returned (.tuple #[.slice A L.length c, .int .i64 0]) ∧ w'.ownsRow w.heap.size 72 257 (.slice A L.length c) L.length (flat L) ∧ L.length ≤ 1048576
  | none => e = .returned (.tuple #[.slice none 0 0, .int .i64 40])
end Go.Proofs.YtgkifphfibcfdaaGreatDoor.G
/- Whether pieces mean names, as plain functions. -/
namespace Go.Proofs.YtgkifphfibcfdaaGreatDoor.G
open Go.RowKit Go.Proofs.YtgkifphfibcfdaaGreatDoor.B
set_option linter.unusedVariables false
/-- Is there a place from which the rest is as wanted? -/
def anyDrop (f : List ByteArray → Bool) : List ByteArray → Bool
  | [] => f []
  | c :: r => f (c :: r) || anyDrop f r
/-- Do pieces mean names (several: the rule has more than one)? -/
def fitsF (several : Bool) : List PieceV → List ByteArray → Bool
  | [], ns => ns.isEmpty
  | some L :: ps, ns => (match ns with | [] => false | n :: r => mt L (bl n) && fitsF several ps r)
  | none :: ps, ns => if ps.isEmpty = true then (!ns.isEmpty || !several) else anyDrop (fitsF several ps) ns
/-- Does a rule mean a path of these names? -/
def meansF (r : RuleV) (ns : List ByteArray) (dir : Bool) : Bool :=
  if r.dir = true ∧ dir = false then false
  else if r.rooted = false then (match r.pieces, ns.getLast? with | some L :: _, some n => mt L (bl n) | _, _ => false)
  else fitsF (decide (1 < r.pieces.length)) r.pieces ns
/-- The answer of the last rule that means so many names. -/
def verdict (rs : List RuleV) (ns : List ByteArray) (dir : Bool) (is : Bool) : Bool := rs.foldl (fun is r => if meansF r ns dir = true then !r.back else is) is
/-- Is a path of these names ignored (from its first k names on, f of them at most)? -/
def ignoredF (rs : List RuleV) (ns : List ByteArray) (dir : Bool) : Nat → Nat → Bool
  | 0, _ => false
  | f + 1, k => if verdict rs (ns.take k) (dir || decide (k < ns.length)) false = true then true else ignoredF rs ns dir f (k + 1)
def namesOf (path : ByteArray) : List ByteArray := (spl 47 path).filter fun p => decide (0 < p.size)
def ignoredP (rs : List RuleV) (path : ByteArray) (dir : Bool) : Bool := ignoredF rs (namesOf path) dir (namesOf path).length 1
theorem anyDrop_iff (f : List ByteArray → Bool) : ∀ s : List ByteArray, anyDrop f s = true ↔ ∃ j, j ≤ s.length ∧ f (s.drop j) = true
  | [] => by simp [anyDrop]
  | c :: r => by
    simp only [anyDrop, Bool.or_eq_true, anyDrop_iff f r]
    constructor
    · rintro (h | ⟨j, h1, h2⟩)
      · exact ⟨0, by simp, h⟩
      · exact ⟨j + 1, by simpa using h1, h2⟩
    · rintro ⟨j, h1, h2⟩
      cases j with
      | zero => exact .inl h2
      | succ j => exact .inr ⟨j, by simpa using h1, h2⟩
end Go.Proofs.YtgkifphfibcfdaaGreatDoor.G
/- The program's table for a rooted rule answers as the reference's fits: plainly. -/
namespace Go.Proofs.YtgkifphfibcfdaaGreatDoor.G
open Go.RowKit Go.Proofs.YtgkifphfibcfdaaGreatDoor.B
set_option linter.unusedVariables false
def orUpto (f : Nat → Bool) : Nat → Bool
  | 0 => f 0
  | i + 1 => f (i + 1) || orUpto f i
def orBelow (f : Nat → Bool) : Nat → Bool
  | 0 => false
  | i + 1 => f i || orBelow f i
theorem orUpto_iff (f : Nat → Bool) : ∀ i, orUpto f i = true ↔ ∃ j, j ≤ i ∧ f j = true
  | 0 => by
    simp only [orUpto]
    constructor
    · intro h
      exact ⟨0, Nat.le_refl _, h⟩
    · rintro ⟨j, h1, h2⟩
      obtain rfl : j = 0 := by omega
      exact h2
  | i + 1 => by
    simp only [orUpto, Bool.or_eq_true, orUpto_iff f i]
    constructor
    · rintro (h | ⟨j, h1, h2⟩)
      · exact ⟨i + 1, Nat.le_refl _, h⟩
      · exact ⟨j, by omega, h2⟩
    · rintro ⟨j, h1, h2⟩
      by_cases hj : j = i + 1
      · left; rw [← hj]; exact h2
      · exact .inr ⟨j, by omega, h2⟩
theorem orBelow_iff (f : Nat → Bool) : ∀ i, orBelow f i = true ↔ ∃ j, j < i ∧ f j = true
  | 0 => by
    simp only [orBelow]
    exact ⟨fun h => by simp at h, fun ⟨j, h1, _⟩ => by omega⟩
  | i + 1 => by
    simp only [orBelow, Bool.or_eq_true, orBelow_iff f i]
    constructor
    · rintro (h | ⟨j, h1, h2⟩)
      · exact ⟨i, by omega, h⟩
      · exact ⟨j, by omega, h2⟩
    · rintro ⟨j, h1, h2⟩
      by_cases hj : j = i
      · left; rw [← hj]; exact h2
      · exact .inr ⟨j, by omega, h2⟩
/-- The first k pieces mean the first i names (the last of several, any names, means one at least). -/
def dpF (ps : List PieceV) (ns : List ByteArray) : Nat → Nat → Bool
  | 0, i => decide (i = 0)
  | k + 1, i => match ps[k]? with
    | some (some L) => (match i with
      | 0 => false
      | j + 1 => dpF ps ns k j && (match ns[j]? with | some n => mt L (bl n) | none => false))
    | some none => if k + 1 = ps.length ∧ 0 < k then orBelow (dpF ps ns k) i else orUpto (dpF ps ns k) i
    | none => false
theorem dp_zero {ps : List PieceV} {ns : List ByteArray} {k : Nat} {L : List PartV} (h : ps[k]? = some (some L)) : dpF ps ns (k + 1) 0 = false := by simp only [dpF, h]
theorem dp_succ {ps : List PieceV} {ns : List ByteArray} {k i : Nat} {L : List PartV} {n : ByteArray} (h : ps[k]? = some (some L)) (hn : ns[i]? = some n) : dpF ps ns (k + 1) (i + 1) = (dpF ps ns k i && mt L (bl n)) := by simp only [dpF, h, hn]
theorem dp_last {ps : List PieceV} {ns : List ByteArray} {k i : Nat} (h : ps[k]? = some none) (hl : k + 1 = ps.length ∧ 0 < k) : dpF ps ns (k + 1) i = orBelow (dpF ps ns k) i := by
  simp only [dpF, h]
  rw [if_pos hl]
theorem dp_mid {ps : List PieceV} {ns : List ByteArray} {k i : Nat} (h : ps[k]? = some none) (hl : ¬ (k + 1 = ps.length ∧ 0 < k)) : dpF ps ns (k + 1) i = orUpto (dpF ps ns k) i := by
  simp only [dpF, h]
  rw [if_neg hl]
def Split (ps : List PieceV) (ns : List ByteArray) (k : Nat) : Prop := ∃ i, i ≤ ns.length ∧ dpF ps ns k i = true ∧ fitsF (decide (1 < ps.length)) (ps.drop k) (ns.drop i) = true
theorem split_step {ps : List PieceV} {ns : List ByteArray} {k : Nat} (hk : k < ps.length) : Split ps ns k ↔ Split ps ns (k + 1) := by
  have hd : ps.drop k = ps[k] :: ps.drop (k + 1) := List.drop_eq_getElem_cons hk
  have hg : ps[k]? = some ps[k] := List.getElem?_eq_getElem hk
  unfold Split
  rw [hd]
  cases hp : ps[k] with
  | some L =>
    rw [hp] at hg
    constructor
    · rintro ⟨i, h1, h2, h3⟩
      by_cases hi : i < ns.length
      · rw [List.drop_eq_getElem_cons hi] at h3
        simp only [fitsF, Bool.and_eq_true] at h3
        refine ⟨i + 1, by omega, ?_, h3.2⟩
        rw [dp_succ hg (List.getElem?_eq_getElem hi), Bool.and_eq_true]
        exact ⟨h2, h3.1⟩
      · rw [show ns.drop i = [] from List.drop_eq_nil_of_le (by omega)] at h3
        simp [fitsF] at h3
    · rintro ⟨i, h1, h2, h3⟩
      cases i with
      | zero => rw [dp_zero hg] at h2; cases h2
      | succ j =>
        have hj : j < ns.length := by omega
        rw [dp_succ hg (List.getElem?_eq_getElem hj), Bool.and_eq_true] at h2
        refine ⟨j, by omega, h2.1, ?_⟩
        rw [List.drop_eq_getElem_cons hj]
        simp only [fitsF, Bool.and_eq_true]
        exact ⟨h2.2, h3⟩
  | none =>
    rw [hp] at hg
    by_cases hlast : k + 1 = ps.length
    · have hnil : ps.drop (k + 1) = [] := List.drop_eq_nil_of_le (by omega)
      rw [hnil]
      have hend : ∀ i, i ≤ ns.length → (fitsF (decide (1 < ps.length)) [] (ns.drop i) = true ↔ i = ns.length) := fun i hi => by
        simp only [fitsF, List.isEmpty_iff, List.drop_eq_nil_iff]
        omega
      have hone : ∀ i, i ≤ ns.length → (fitsF (decide (1 < ps.length)) [none] (ns.drop i) = true ↔ i < ns.length ∨ k = 0) := fun i hi => by
        simp only [fitsF, List.isEmpty_nil, if_true, Bool.or_eq_true, Bool.not_eq_true', List.isEmpty_eq_false_iff, ne_eq, List.drop_eq_nil_iff, decide_eq_false_iff_not]
        omega
      by_cases hk0 : 0 < k
      · simp only [dp_last hg ⟨hlast, hk0⟩]
        constructor
        · rintro ⟨i, h1, h2, h3⟩
          have := (hone i h1).1 h3
          exact ⟨ns.length, Nat.le_refl _, (orBelow_iff _ _).2 ⟨i, by omega, h2⟩, (hend _ (Nat.le_refl _)).2 rfl⟩
        · rintro ⟨i, h1, h2, h3⟩
          obtain rfl := (hend i h1).1 h3
          obtain ⟨j, j1, j2⟩ := (orBelow_iff _ _).1 h2
          exact ⟨j, by omega, j2, (hone j (by omega)).2 (.inl j1)⟩
      · obtain rfl : k = 0 := by omega
        simp only [dp_mid hg (show ¬ (0 + 1 = ps.length ∧ 0 < 0) by omega)]
        constructor
        · rintro ⟨i, h1, h2, h3⟩
          exact ⟨ns.length, Nat.le_refl _, (orUpto_iff _ _).2 ⟨i, h1, h2⟩, (hend _ (Nat.le_refl _)).2 rfl⟩
        · rintro ⟨i, h1, h2, h3⟩
          obtain ⟨j, j1, j2⟩ := (orUpto_iff _ _).1 h2
          exact ⟨j, by omega, j2, (hone j (by omega)).2 (.inr rfl)⟩
    · simp only [dp_mid hg (fun h => hlast h.1)]
      have hne : (ps.drop (k + 1)).isEmpty = false := by
        cases hq : ps.drop (k + 1) with
        | nil => exact absurd (List.drop_eq_nil_iff.1 hq) (by omega)
        | cons a b => rfl
      have hfit : ∀ i, fitsF (decide (1 < ps.length)) (none :: ps.drop (k + 1)) (ns.drop i) = anyDrop (fitsF (decide (1 < ps.length)) (ps.drop (k + 1))) (ns.drop i) := fun i => by
        simp only [fitsF]
        rw [if_neg (by rw [hne]; decide)]
      constructor
      · rintro ⟨i, h1, h2, h3⟩
        rw [hfit, anyDrop_iff] at h3
        obtain ⟨d, d1, d2⟩ := h3
        rw [List.length_drop] at d1
        rw [List.drop_drop] at d2
        exact ⟨i + d, by omega, (orUpto_iff _ _).2 ⟨i, by omega, h2⟩, d2⟩
      · rintro ⟨i, h1, h2, h3⟩
        obtain ⟨j, j1, j2⟩ := (orUpto_iff _ _).1 h2
        refine ⟨j, by omega, j2, ?_⟩
        rw [hfit, anyDrop_iff]
        refine ⟨i - j, by rw [List.length_drop]; omega, ?_⟩
        rw [List.drop_drop, show j + (i - j) = i by omega]
        exact h3
theorem split_all (ps : List PieceV) (ns : List ByteArray) : ∀ k, k ≤ ps.length → (Split ps ns 0 ↔ Split ps ns k)
  | 0, _ => Iff.rfl
  | k + 1, h => (split_all ps ns k (by omega)).trans (split_step (by omega))
theorem dp_fits (ps : List PieceV) (ns : List ByteArray) : dpF ps ns ps.length ns.length = fitsF (decide (1 < ps.length)) ps ns := by
  have h := split_all ps ns ps.length (Nat.le_refl _)
  have h0 : Split ps ns 0 ↔ fitsF (decide (1 < ps.length)) ps ns = true := by
    unfold Split
    constructor
    · rintro ⟨i, h1, h2, h3⟩
      simp only [dpF, decide_eq_true_eq] at h2
      subst h2
      simpa using h3
    · intro hh
      exact ⟨0, by omega, by simp [dpF], by simpa using hh⟩
  have h1 : Split ps ns ps.length ↔ dpF ps ns ps.length ns.length = true := by
    unfold Split
    rw [List.drop_eq_nil_of_le (Nat.le_refl _)]
    constructor
    · rintro ⟨i, h1, h2, h3⟩
      simp only [fitsF, List.isEmpty_iff, List.drop_eq_nil_iff] at h3
      obtain rfl : i = ns.length := by omega
      exact h2
    · intro hh
      exact ⟨ns.length, Nat.le_refl _, hh, by simp [fitsF]⟩
  rw [Bool.eq_iff_iff, ← h1, ← h0, h]
end Go.Proofs.YtgkifphfibcfdaaGreatDoor.G
/- The names of a path: FieldsFunc at the slash is the pieces that are not empty. -/
namespace Go.Proofs.YtgkifphfibcfdaaGreatDoor.G
open Go.RowKit Go.Proofs.YtgkifphfibcfdaaGreatDoor.B
set_option linter.unusedVariables false
theorem get_bn {s : ByteArray} {i : Nat} (h : i < s.size) : (s.get! i).toNat = bn s i := by
  unfold bn
  rw [dif_pos h]
  have : s.get! i = s[i] := by
    show s.data[i]! = s.data[i]
    exact getElem!_pos s.data i h
  rw [this]
def isSlash (r : Nat) : Bool := r == 47
/-- A rune's bytes: a slash is one byte; no other rune has a slash in it. -/
theorem dec_slash {s : ByteArray} {pos : Nat} (h : pos < s.size) (e : bn s pos = 47) : Utf8.decode s pos = (47, 1) := by
  rw [Lib.decode_at, get_bn h, e]
  rfl
theorem dec_other {s : ByteArray} {pos : Nat} (h : pos < s.size) (e : bn s pos ≠ 47) : (Utf8.decode s pos).1 ≠ 47 ∧ 1 ≤ (Utf8.decode s pos).2 ∧ pos + (Utf8.decode s pos).2 ≤ s.size ∧ ∀ k, pos ≤ k → k < pos + (Utf8.decode s pos).2 → bn s k ≠ 47 := by
  rw [Lib.decode_at, get_bn h]
  have c1 : ∀ j, j < s.size - pos → (s.get! (pos + j)).toNat / 64 = 2 → bn s (pos + j) ≠ 47 := fun j hj h2 => by
    rw [get_bn (by omega)] at h2
    omega
  have one : ∀ r : Nat, r ≠ 47 → r ≠ 47 ∧ 1 ≤ 1 ∧ pos + 1 ≤ s.size ∧ ∀ k, pos ≤ k → k < pos + 1 → bn s k ≠ 47 := fun r hr => ⟨hr, Nat.le_refl _, h, fun k k1 k2 => by
    obtain rfl : k = pos := by omega
    exact e⟩
  unfold Lib.decodeN
  split
  · exact one _ e
  · split
    · rename_i h1
      split
      · rename_i h2
        refine ⟨by simp only; omega, by simp, by simp only; omega, fun k k1 k2 => ?_⟩
        simp only at k2
        rcases (show k = pos ∨ k = pos + 1 by omega) with rfl | rfl
        · exact e
        · exact c1 1 (by omega) h1.2.2
      · exact one _ (by decide)
    · split
      · rename_i h1
        split
        · rename_i h2
          refine ⟨by simp only; omega, by simp, by simp only; omega, fun k k1 k2 => ?_⟩
          simp only at k2
          rcases (show k = pos ∨ k = pos + 1 ∨ k = pos + 2 by omega) with rfl | rfl | rfl
          · exact e
          · exact c1 1 (by omega) h1.2.1.2
          · exact c1 2 (by omega) h1.2.2.2
        · exact one _ (by decide)
      · split
        · rename_i h1
          split
          · rename_i h2
            refine ⟨by simp only; omega, by simp, by simp only; omega, fun k k1 k2 => ?_⟩
            simp only at k2
            rcases (show k = pos ∨ k = pos + 1 ∨ k = pos + 2 ∨ k = pos + 3 by omega) with rfl | rfl | rfl | rfl
            · exact e
            · exact c1 1 (by omega) h1.2.1.2
            · exact c1 2 (by omega) h1.2.2.1.2
            · exact c1 3 (by omega) h1.2.2.2.2
          · exact one _ (by decide)
        · exact one _ (by decide)
theorem pieces_over (s : ByteArray) (a : Nat) : ∀ (w pos : Nat), pos + w ≤ s.size → (∀ k, pos ≤ k → k < pos + w → bn s k ≠ 47) → pieces 47 s (s.size - pos) a pos = pieces 47 s (s.size - (pos + w)) a (pos + w)
  | 0, pos, _, _ => rfl
  | w + 1, pos, h, hk => by
    rw [pieces_go (by omega), if_neg (hk pos (Nat.le_refl _) (by omega)), pieces_over s a w (pos + 1) (by omega) (fun k k1 k2 => hk k (by omega) (by omega))]
    rw [show pos + 1 + w = pos + (w + 1) by omega]
theorem ext_size (s : ByteArray) {a b : Nat} (h : b ≤ s.size) : (s.extract a b).size = b - a := by
  rw [ByteArray.size_extract]; omega
theorem filter_yes {p : ByteArray} (h : 0 < p.size) (l : List ByteArray) : (p :: l).filter (fun p => decide (0 < p.size)) = p :: l.filter (fun p => decide (0 < p.size)) := List.filter_cons_of_pos (decide_eq_true h)
theorem filter_no {p : ByteArray} (h : p.size = 0) (l : List ByteArray) : (p :: l).filter (fun p => decide (0 < p.size)) = l.filter (fun p => decide (0 < p.size)) := List.filter_cons_of_neg (by rw [h]; decide)
theorem spans_names (s : ByteArray) : ∀ (f pos : Nat) (st : Option Nat) (acc : List (Nat × Nat)), s.size ≤ pos + f → pos ≤ s.size → (∀ a, st = some a → a < pos) →
    (Lib.closeSpans s (Lib.spansFromP isSlash s f pos st acc)).map (fun x => s.extract x.1 x.2) = acc.map (fun x => s.extract x.1 x.2) ++ (pieces 47 s (s.size - pos) (st.getD pos) pos).filter (fun p => decide (0 < p.size)) := by
  have hend : ∀ (st : Option Nat) (acc : List (Nat × Nat)), (∀ a, st = some a → a < s.size) → (Lib.closeSpans s (acc, st)).map (fun x => s.extract x.1 x.2) = acc.map (fun x => s.extract x.1 x.2) ++ (pieces 47 s (s.size - s.size) (st.getD s.size) s.size).filter (fun p => decide (0 < p.size)) := by
    intro st acc hst
    rw [pieces_end]
    cases st with
    | none =>
      have hz : (s.extract s.size s.size).size = 0 := by rw [ext_size s (Nat.le_refl _)]; omega
      simp only [Lib.closeSpans, Option.getD_none]
      rw [filter_no hz, List.filter_nil, List.append_nil]
    | some a =>
      have hz : 0 < (s.extract a s.size).size := by rw [ext_size s (Nat.le_refl _)]; have := hst a rfl; omega
      simp only [Lib.closeSpans, Option.getD_some, List.map_append, List.map_cons, List.map_nil]
      rw [filter_yes hz, List.filter_nil]
  intro f
  induction f with
  | zero =>
    intro pos st acc h1 h2 h3
    obtain rfl : pos = s.size := by omega
    exact hend st acc h3
  | succ f ih =>
    intro pos st acc h1 h2 h3
    by_cases hlt : pos < s.size
    · simp only [Lib.spansFromP]
      rw [if_pos hlt]
      by_cases h47 : bn s pos = 47
      · rw [dec_slash hlt h47, pieces_go hlt, if_pos h47]
        rw [if_pos (show isSlash 47 = true from rfl)]
        cases st with
        | none =>
          have hz : (s.extract pos pos).size = 0 := by rw [ext_size s (by omega)]; omega
          simp only
          rw [ih (pos + 1) none acc (by omega) (by omega) (fun a ha => by cases ha)]
          simp only [Option.getD_none]
          rw [filter_no hz]
        | some a =>
          have hz : 0 < (s.extract a pos).size := by rw [ext_size s (by omega)]; have := h3 a rfl; omega
          simp only
          rw [ih (pos + 1) none _ (by omega) (by omega) (fun a ha => by cases ha)]
          simp only [Option.getD_none, Option.getD_some, List.map_append, List.map_cons, List.map_nil]
          rw [filter_yes hz, List.append_assoc]
          rfl
      · obtain ⟨d1, d2, d3, d4⟩ := dec_other hlt h47
        have hns : isSlash (Utf8.decode s pos).1 = false := by unfold isSlash; simp; exact d1
        rw [hns, if_neg (by decide), pieces_over s _ _ pos d3 d4]
        cases st with
        | none =>
          simp only
          rw [ih (pos + (Utf8.decode s pos).2) (some pos) acc (by omega) d3 (fun a ha => by cases ha; omega)]
          rfl
        | some a =>
          have := h3 a rfl
          simp only
          rw [ih (pos + (Utf8.decode s pos).2) (some a) acc (by omega) d3 (fun b hb => by cases hb; omega)]
          rfl
    · obtain rfl : pos = s.size := by omega
      rw [Lib.spansFromP_end _ _ _ _ _ _ hlt]
      exact hend st acc h3
theorem fields_names (path : ByteArray) : Lib.goFieldsP isSlash path = namesOf path := by
  unfold Lib.goFieldsP Lib.spansOfP
  rw [spans_names path path.size 0 none [] (by omega) (by omega) (fun a ha => by cases ha)]
  rfl
end Go.Proofs.YtgkifphfibcfdaaGreatDoor.G
