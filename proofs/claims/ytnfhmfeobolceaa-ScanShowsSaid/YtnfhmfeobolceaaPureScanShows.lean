/- scan.Show answers for every number what the document says (ScanShows is true for every input). The plain part: over the functions that were printed, without Go and memory. No condition beside the statement. -/
import Derived.Test.YtnfhmfeobolceaaPScanShowsx3
namespace Go.Proofs.Ytnfhmfeobolceaa.Pure
open Go.RowKit Go.Proofs.Ytnfhmfeobolceaa.PScanShows Go.Proofs.YtnfhmfeobolceaaW.PrintWords Go.Proofs.YtnfhmfeobolceaaW.PrintLast
/-! ### Places at which two texts differ, told plainly -/
def tick (c : Int) : Int := if c = 10 then 1 else 0
/-- The line of a place: 1 and the line ends ahead of it. -/
def lineAt (a : ByteArray) : Nat → Int
  | 0 => 1
  | i + 1 => lineAt a i + tick (bt a i)
theorem lineAt_bd (a : ByteArray) (i : Nat) : 1 ≤ lineAt a i ∧ lineAt a i ≤ i + 1 := by
  induction i with
  | zero => simp [lineAt]
  | succ i ih => unfold lineAt tick; split <;> omega
def differ (a b : ByteArray) (n : Nat) : List Nat := (List.range n).filter fun i => decide (bt a i ≠ bt b i)
theorem differ_succ (a b : ByteArray) (i : Nat) : differ a b (i + 1) = differ a b i ++ if bt a i = bt b i then [] else [i] := by
  unfold differ
  rw [List.range_succ, List.filter_append]
  by_cases h : bt a i = bt b i <;> simp [h]
theorem differ_le (a b : ByteArray) (n : Nat) : (differ a b n).length ≤ n := by
  have := List.length_filter_le (fun i : Nat => decide (bt a i ≠ bt b i)) (List.range n)
  simpa [differ] using this
theorem differ_mem {a b : ByteArray} {n i : Nat} (h : i ∈ differ a b n) : i < n ∧ bt a i ≠ bt b i := by
  simpa [differ] using h
theorem differ_sub (a b : ByteArray) {i n : Nat} (h : i ≤ n) : ∃ r, differ a b n = differ a b i ++ r := by
  induction n with
  | zero => obtain rfl : i = 0 := by omega
            exact ⟨[], by simp⟩
  | succ n ih =>
    rcases Nat.lt_or_ge i (n + 1) with h1 | h1
    · obtain ⟨r, hr⟩ := ih (by omega)
      exact ⟨_, by rw [differ_succ, hr, List.append_assoc]⟩
    · obtain rfl : i = n + 1 := by omega
      exact ⟨[], by simp⟩
/-- At most so many; below 0: all. -/
def most {α : Type} (m : Int) (l : List α) : List α := if m < 0 then l else l.take m.toNat
theorem most_full {α : Type} {m : Int} {l r : List α} (h : ((most m l).length : Int) = m) : most m (l ++ r) = most m l := by
  unfold most at *
  split
  · rename_i h0; rw [if_pos h0] at h; omega
  · rename_i h0
    rw [if_neg h0] at h
    rw [List.length_take] at h
    rw [List.take_append_of_le_length (by omega)]
theorem most_more {α : Type} {m : Int} {l r : List α} (h : ((most m l).length : Int) ≠ m) (hr : r.length ≤ 1) : most m (l ++ r) = most m l ++ r := by
  unfold most at *
  split
  · rfl
  · rename_i h0
    rw [if_neg h0, List.length_take] at h
    rw [List.take_of_length_le (l := l ++ r) (by simp; omega), List.take_of_length_le (l := l) (by omega)]
theorem most_ge {α : Type} {m : Int} (h0 : ¬ m < 0) {l r : List α} (h : m ≤ ((most m l).length : Int)) : most m (l ++ r) = most m l := by
  refine most_full ?_
  unfold most at *
  rw [if_neg h0, List.length_take] at *
  omega
theorem most_lt {α : Type} {m : Int} {l : List α} (h : m < 0 ∨ ((most m l).length : Int) < m) : ((most m l).length : Int) ≠ m := by
  rcases h with h | h <;> omega
theorem most_le {α : Type} (m : Int) (l : List α) : (most m l).length ≤ l.length := by
  unfold most
  split
  · exact Nat.le_refl _
  · exact List.length_take_le' _ _
theorem most_le_m {α : Type} {m : Int} (h : ¬ m < 0) (l : List α) : ((most m l).length : Int) ≤ m := by
  unfold most
  rw [if_neg h, List.length_take]
  omega
def pl (a b : ByteArray) (i : Nat) : S23 := ⟨(i : Int) + 1, lineAt a i, bt a i, bt b i⟩
def places (a b : ByteArray) (m : Int) : List S23 := (most m (differ a b (min a.size b.size))).map (pl a b)
theorem wrap_in {x : Int} (h : -9223372036854775808 ≤ x) (h1 : x ≤ 9223372036854775807) : wrap64 x = x := by unfold wrap64; omega
theorem wrap_bt (a : ByteArray) (i : Int) : wrap64 (bt a i) = bt a i := by
  have := bt_range a i
  exact wrap_in (by omega) (by omega)
/-- What bounds the places: the texts, or how many are asked for. -/
def fewB (m : Int) (n : Nat) : Prop := n ≤ 4398046511104 ∨ (0 ≤ m ∧ m ≤ 4398046511104)
theorem few_lt {m : Int} {n i : Nat} {a b : ByteArray} (h : fewB m n) (hi : i < n) (hm : ((most m (differ a b i)).length : Int) ≠ m) : (most m (differ a b i)).length < 4398046511104 := by
  have h1 := differ_le a b i
  have h2 := most_le m (differ a b i)
  rcases h with h | h
  · omega
  · have := most_le_m (by omega : ¬ m < 0) (differ a b i)
    omega

theorem scan_all (a b : ByteArray) (m : Int) (n : Nat) (hn : n = min a.size b.size) (hs : n ≤ 140737488351232) (hf : fewB m n) (d : Nat) : ∀ (i k : Nat), i + d = n → 2 * d + 2 ≤ k →
    scan_All.l0 k a b m ((most m (differ a b i)).map (pl a b)) (lineAt a i) i = some ((most m (differ a b n)).map (pl a b)) := by
  induction d with
  | zero =>
    intro i k hi hk
    obtain ⟨k, rfl⟩ : ∃ j, k = j + 2 := ⟨k - 2, by omega⟩
    obtain rfl : i = n := by omega
    simp only [scan_All.l0]
    by_cases h1 : (i : Int) < (a.size : Int)
    · rw [if_pos h1, if_neg (by omega)]; simp [scan_All.j1]
    · rw [if_neg h1]; simp [scan_All.j1]
  | succ d ih =>
    intro i k hi hk
    obtain ⟨k, rfl⟩ : ∃ j, k = j + 2 := ⟨k - 2, by omega⟩
    have hl := lineAt_bd a i
    have hstep := ih (i + 1) k (by omega) (by omega)
    have hcast : wrap64 ((i : Int) + 1) = ((i + 1 : Nat) : Int) := by rw [wrap_in (by omega) (by omega)]; rfl
    simp only [scan_All.l0]
    rw [if_pos (by omega), if_pos (by omega)]
    by_cases hfull : ((most m (differ a b i)).length : Int) = m
    · rw [show ((((List.map (pl a b) (most m (differ a b i))).length : Int) != m) = false) from by rw [List.length_map, hfull]; simp]
      simp only [scan_All.j1]
      rw [if_neg (by decide)]
      obtain ⟨r, hr⟩ := differ_sub a b (i := i) (n := n) (by omega)
      rw [hr, most_full hfull]
    · rw [show ((((List.map (pl a b) (most m (differ a b i))).length : Int) != m) = true) from by rw [List.length_map]; simpa using hfull]
      simp only [scan_All.j1]
      rw [if_pos trivial, if_pos (by omega), if_pos (by omega), if_pos (by omega)]
      by_cases he : bt a i = bt b i
      · rw [if_pos he]
        have hd : differ a b (i + 1) = differ a b i := by rw [differ_succ, if_pos he, List.append_nil]
        rw [hd] at hstep
        by_cases h10 : bt a i = 10
        · rw [if_pos h10, hcast, wrap_in (by omega) (by omega)]
          rw [show lineAt a (i + 1) = lineAt a i + 1 from by simp [lineAt, tick, h10]] at hstep
          exact hstep
        · rw [if_neg h10, hcast]
          rw [show lineAt a (i + 1) = lineAt a i from by simp [lineAt, tick, h10]] at hstep
          exact hstep
      · rw [if_neg he, if_pos (by rw [List.length_map]; exact few_lt hf (by omega) hfull)]
        simp only [Option.bind_some]
        have hd : (most m (differ a b (i + 1))).map (pl a b) = (most m (differ a b i)).map (pl a b) ++ [⟨wrap64 ((i : Int) + 1), lineAt a i, wrap64 (bt a i), wrap64 (bt b i)⟩] := by
          rw [differ_succ, if_neg he, most_more hfull (by simp), List.map_append, wrap_bt, wrap_bt, wrap_in (by omega) (by omega)]
          simp [pl]
        rw [← hd]
        by_cases h10 : bt a i = 10
        · rw [if_pos h10, hcast, wrap_in (by omega) (by omega)]
          rw [show lineAt a (i + 1) = lineAt a i + 1 from by simp [lineAt, tick, h10]] at hstep
          exact hstep
        · rw [if_neg h10, hcast]
          rw [show lineAt a (i + 1) = lineAt a i from by simp [lineAt, tick, h10]] at hstep
          exact hstep
theorem scan_all_f (a b : ByteArray) (m : Int) (hs : min a.size b.size ≤ 140737488351232) (hf : fewB m (min a.size b.size)) (k : Nat) (hk : 2 * min a.size b.size + 2 ≤ k) : scan_All.f k a b m = some (places a b m) := by
  have h := scan_all a b m _ rfl hs hf (min a.size b.size) 0 k (by omega) hk
  have h0 : differ a b 0 = [] := rfl
  have h1 : most m ([] : List Nat) = [] := by unfold most; split <;> simp
  rw [h0, h1] at h
  exact h
theorem sure_true (k : Nat) (h : 60 ≤ k) : selvagelaw19_sure.f k = some true := by
  have h0 : selvagelaw19_sure.f 60 = some true := by kernel_rfl
  obtain ⟨d, rfl⟩ : ∃ d, k = 60 + d := ⟨k - 60, by omega⟩
  induction d with
  | zero => exact h0
  | succ d ih => exact selvagelaw19_sure.mono _ _ (ih (by omega))
theorem and255 (a : Int) : Go.bits .and .i64 a 255 = a % 256 := by
  show IntKind.i64.wrap ((BitVec.ofInt 64 a &&& BitVec.ofInt 64 255).toNat : Int) = _
  have h : (BitVec.ofInt 64 a &&& BitVec.ofInt 64 255).toNat = (a % 18446744073709551616).toNat % 256 := by
    rw [BitVec.toNat_and]
    have : (BitVec.ofInt 64 255).toNat = 2 ^ 8 - 1 := by decide
    rw [this, Nat.and_two_pow_sub_one_eq_mod]
    simp [BitVec.toNat_ofInt]
  rw [h, IntKind.wrap_i64]
  omega
theorem tmod256 (a : Int) (h : -9223372036854775808 ≤ a) (h1 : a ≤ 9223372036854775807) : Int.tmod (wrap64 ((Int.tmod a 256) + 256)) 256 = a % 256 := by
  have h2 : Int.tmod a 256 = if 0 ≤ a then a % 256 else -((-a) % 256) := by
    split
    · rename_i h3; exact Int.tmod_eq_emod_of_nonneg h3
    · rename_i h3
      have : a = -(-a) := by omega
      rw [this, Int.neg_tmod, Int.tmod_eq_emod_of_nonneg (by omega), Int.neg_neg]
  rw [h2, wrap_in (by split <;> omega) (by split <;> omega)]
  split
  · rw [Int.tmod_eq_emod_of_nonneg (by omega)]; omega
  · rw [Int.tmod_eq_emod_of_nonneg (by omega)]; omega
theorem shows_alike (k : Nat) (x : Int) (s : ByteArray) (h0 : 0 ≤ x) (h1 : x < 128) : selvageref19_Show.j0 (k + 1) x s = scan_Show.j0 (k + 1) x s := by
  simp only [selvageref19_Show.j0, scan_Show.j0]
  by_cases h : x < 32
  · rw [if_pos h, if_pos h, wrap_in (by omega) (by omega), show ((x % 256 + 64) % 256) = (x + 64) % 256 from by omega]
  · rw [if_neg h, if_neg h]
theorem show_some (k : Nat) (x : Int) (s : ByteArray) (hs : s.size ≤ 2) : ∃ r, scan_Show.j0 (k + 1) x s = some r := by
  have hn : ∀ y : Int, (strOfNums [y]).size = 1 := fun y => rfl
  have hp : ∀ u v : ByteArray, (u ++ v).size = u.size + v.size := fun u v => ByteArray.size_append
  simp only [scan_Show.j0, Option.bind_some]
  have h94 : (⟨#[94]⟩ : ByteArray).size = 1 := rfl
  by_cases h : x < 32
  · rw [if_pos h, if_pos (by omega), if_pos (by rw [hp, hn, h94]; omega)]
    exact ⟨_, rfl⟩
  · rw [if_neg h]
    by_cases h7 : x = 127
    · rw [if_pos h7, if_pos (by omega)]; exact ⟨_, rfl⟩
    · rw [if_neg h7, if_pos (by rw [hn]; omega)]; exact ⟨_, rfl⟩
theorem shows_f (k : Nat) (a : Int) (h : -9223372036854775808 ≤ a) (h1 : a ≤ 9223372036854775807) : ∃ r, scan_Show.f (k + 1) a = some r ∧ selvageref19_Show.f (k + 1) a = some r := by
  unfold scan_Show.f selvageref19_Show.f
  rw [and255, tmod256 a h h1]
  by_cases h8 : a % 256 ≥ 128
  · rw [if_pos h8, if_pos h8, wrap_in (by omega) (by omega), shows_alike _ _ _ (by omega) (by omega)]
    obtain ⟨r, hr⟩ := show_some k (a % 256 - 128) (⟨#[77, 45]⟩ : ByteArray) (by decide)
    exact ⟨r, hr, hr⟩
  · rw [if_neg h8, if_neg h8, shows_alike _ _ _ (by omega) (by omega)]
    obtain ⟨r, hr⟩ := show_some k (a % 256) (⟨#[]⟩ : ByteArray) (by decide)
    exact ⟨r, hr, hr⟩
theorem ScanShows : selvagelaw19_ScanShows.Pure := by
  intro a hw
  have hb : -9223372036854775808 ≤ a ∧ a ≤ 9223372036854775807 := by simpa [Lit.wf, IntKind.min, IntKind.max, IntKind.signed, IntKind.bits] using hw
  refine ⟨60, ?_⟩
  obtain ⟨r, hr, hr2⟩ := shows_f 59 a hb.1 hb.2
  unfold selvagelaw19_ScanShows.f
  rw [hr, hr2]
  simp only [Option.bind_some]
  rw [if_pos trivial, sure_true 60 (by omega)]
  rfl

end Go.Proofs.Ytnfhmfeobolceaa.Pure
