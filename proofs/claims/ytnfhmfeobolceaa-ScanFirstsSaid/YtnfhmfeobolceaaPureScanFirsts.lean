/- scan.First answers for every two texts what the document says (ScanFirsts is true for every input). The plain part: over the functions that were printed, without Go and memory. No condition beside the statement. -/
import Derived.Test.YtnfhmfeobolceaaQScanFirstsx5
namespace Go.Proofs.Ytnfhmfeobolceaa.Pure
open Go.RowKit Go.Proofs.Ytnfhmfeobolceaa.QScanFirsts Go.Proofs.YtnfhmfeobolceaaW.PrintWords Go.Proofs.YtnfhmfeobolceaaW.PrintLast
/-! ### Places at which two texts differ, told plainly -/
def tick (c : Int) : Int := if c = 10 then 1 else 0
/-- The line of a place: 1 and the line ends ahead of it. -/
def lineAt (a : ByteArray) : Nat → Int
  | 0 => 1
  | i + 1 => lineAt a i + tick (bt a i)
theorem lineAt_bd (a : ByteArray) (i : Nat) : 1 ≤ lineAt a i ∧ lineAt a i ≤ i + 1 := by
  induction i with
  | zero => simp [lineAt]
  | succ i ih => unfold lineAt tick; split <;> omega
def differ (a b : ByteArray) (n : Nat) : List Nat := (List.range n).filter fun i => decide (bt a i ≠ bt b i)
theorem differ_succ (a b : ByteArray) (i : Nat) : differ a b (i + 1) = differ a b i ++ if bt a i = bt b i then [] else [i] := by
  unfold differ
  rw [List.range_succ, List.filter_append]
  by_cases h : bt a i = bt b i <;> simp [h]
theorem differ_le (a b : ByteArray) (n : Nat) : (differ a b n).length ≤ n := by
  have := List.length_filter_le (fun i : Nat => decide (bt a i ≠ bt b i)) (List.range n)
  simpa [differ] using this
theorem differ_mem {a b : ByteArray} {n i : Nat} (h : i ∈ differ a b n) : i < n ∧ bt a i ≠ bt b i := by
  simpa [differ] using h
theorem differ_sub (a b : ByteArray) {i n : Nat} (h : i ≤ n) : ∃ r, differ a b n = differ a b i ++ r := by
  induction n with
  | zero => obtain rfl : i = 0 := by omega
            exact ⟨[], by simp⟩
  | succ n ih =>
    rcases Nat.lt_or_ge i (n + 1) with h1 | h1
    · obtain ⟨r, hr⟩ := ih (by omega)
      exact ⟨_, by rw [differ_succ, hr, List.append_assoc]⟩
    · obtain rfl : i = n + 1 := by omega
      exact ⟨[], by simp⟩
/-- At most so many; below 0: all. -/
def most {α : Type} (m : Int) (l : List α) : List α := if m < 0 then l else l.take m.toNat
theorem most_full {α : Type} {m : Int} {l r : List α} (h : ((most m l).length : Int) = m) : most m (l ++ r) = most m l := by
  unfold most at *
  split
  · rename_i h0; rw [if_pos h0] at h; omega
  · rename_i h0
    rw [if_neg h0] at h
    rw [List.length_take] at h
    rw [List.take_append_of_le_length (by omega)]
theorem most_more {α : Type} {m : Int} {l r : List α} (h : ((most m l).length : Int) ≠ m) (hr : r.length ≤ 1) : most m (l ++ r) = most m l ++ r := by
  unfold most at *
  split
  · rfl
  · rename_i h0
    rw [if_neg h0, List.length_take] at h
    rw [List.take_of_length_le (l := l ++ r) (by simp; omega), List.take_of_length_le (l := l) (by omega)]
theorem most_ge {α : Type} {m : Int} (h0 : ¬ m < 0) {l r : List α} (h : m ≤ ((most m l).length : Int)) : most m (l ++ r) = most m l := by
  refine most_full ?_
  unfold most at *
  rw [if_neg h0, List.length_take] at *
  omega
theorem most_lt {α : Type} {m : Int} {l : List α} (h : m < 0 ∨ ((most m l).length : Int) < m) : ((most m l).length : Int) ≠ m := by
  rcases h with h | h <;> omega
theorem most_le {α : Type} (m : Int) (l : List α) : (most m l).length ≤ l.length := by
  unfold most
  split
  · exact Nat.le_refl _
  · exact List.length_take_le' _ _
theorem most_le_m {α : Type} {m : Int} (h : ¬ m < 0) (l : List α) : ((most m l).length : Int) ≤ m := by
  unfold most
  rw [if_neg h, List.length_take]
  omega
def pl (a b : ByteArray) (i : Nat) : S23 := ⟨(i : Int) + 1, lineAt a i, bt a i, bt b i⟩
def places (a b : ByteArray) (m : Int) : List S23 := (most m (differ a b (min a.size b.size))).map (pl a b)
theorem wrap_in {x : Int} (h : -9223372036854775808 ≤ x) (h1 : x ≤ 9223372036854775807) : wrap64 x = x := by unfold wrap64; omega
theorem wrap_bt (a : ByteArray) (i : Int) : wrap64 (bt a i) = bt a i := by
  have := bt_range a i
  exact wrap_in (by omega) (by omega)
/-- What bounds the places: the texts, or how many are asked for. -/
def fewB (m : Int) (n : Nat) : Prop := n ≤ 4398046511104 ∨ (0 ≤ m ∧ m ≤ 4398046511104)
theorem few_lt {m : Int} {n i : Nat} {a b : ByteArray} (h : fewB m n) (hi : i < n) (hm : ((most m (differ a b i)).length : Int) ≠ m) : (most m (differ a b i)).length < 4398046511104 := by
  have h1 := differ_le a b i
  have h2 := most_le m (differ a b i)
  rcases h with h | h
  · omega
  · have := most_le_m (by omega : ¬ m < 0) (differ a b i)
    omega

theorem scan_all (a b : ByteArray) (m : Int) (n : Nat) (hn : n = min a.size b.size) (hs : n ≤ 140737488351232) (hf : fewB m n) (d : Nat) : ∀ (i k : Nat), i + d = n → 2 * d + 2 ≤ k →
    scan_All.l0 k a b m ((most m (differ a b i)).map (pl a b)) (lineAt a i) i = some ((most m (differ a b n)).map (pl a b)) := by
  induction d with
  | zero =>
    intro i k hi hk
    obtain ⟨k, rfl⟩ : ∃ j, k = j + 2 := ⟨k - 2, by omega⟩
    obtain rfl : i = n := by omega
    simp only [scan_All.l0]
    by_cases h1 : (i : Int) < (a.size : Int)
    · rw [if_pos h1, if_neg (by omega)]; simp [scan_All.j1]
    · rw [if_neg h1]; simp [scan_All.j1]
  | succ d ih =>
    intro i k hi hk
    obtain ⟨k, rfl⟩ : ∃ j, k = j + 2 := ⟨k - 2, by omega⟩
    have hl := lineAt_bd a i
    have hstep := ih (i + 1) k (by omega) (by omega)
    have hcast : wrap64 ((i : Int) + 1) = ((i + 1 : Nat) : Int) := by rw [wrap_in (by omega) (by omega)]; rfl
    simp only [scan_All.l0]
    rw [if_pos (by omega), if_pos (by omega)]
    by_cases hfull : ((most m (differ a b i)).length : Int) = m
    · rw [show ((((List.map (pl a b) (most m (differ a b i))).length : Int) != m) = false) from by rw [List.length_map, hfull]; simp]
      simp only [scan_All.j1]
      rw [if_neg (by decide)]
      obtain ⟨r, hr⟩ := differ_sub a b (i := i) (n := n) (by omega)
      rw [hr, most_full hfull]
    · rw [show ((((List.map (pl a b) (most m (differ a b i))).length : Int) != m) = true) from by rw [List.length_map]; simpa using hfull]
      simp only [scan_All.j1]
      rw [if_pos trivial, if_pos (by omega), if_pos (by omega), if_pos (by omega)]
      by_cases he : bt a i = bt b i
      · rw [if_pos he]
        have hd : differ a b (i + 1) = differ a b i := by rw [differ_succ, if_pos he, List.append_nil]
        rw [hd] at hstep
        by_cases h10 : bt a i = 10
        · rw [if_pos h10, hcast, wrap_in (by omega) (by omega)]
          rw [show lineAt a (i + 1) = lineAt a i + 1 from by simp [lineAt, tick, h10]] at hstep
          exact hstep
        · rw [if_neg h10, hcast]
          rw [show lineAt a (i + 1) = lineAt a i from by simp [lineAt, tick, h10]] at hstep
          exact hstep
      · rw [if_neg he, if_pos (by rw [List.length_map]; exact few_lt hf (by omega) hfull)]
        simp only [Option.bind_some]
        have hd : (most m (differ a b (i + 1))).map (pl a b) = (most m (differ a b i)).map (pl a b) ++ [⟨wrap64 ((i : Int) + 1), lineAt a i, wrap64 (bt a i), wrap64 (bt b i)⟩] := by
          rw [differ_succ, if_neg he, most_more hfull (by simp), List.map_append, wrap_bt, wrap_bt, wrap_in (by omega) (by omega)]
          simp [pl]
        rw [← hd]
        by_cases h10 : bt a i = 10
        · rw [if_pos h10, hcast, wrap_in (by omega) (by omega)]
          rw [show lineAt a (i + 1) = lineAt a i + 1 from by simp [lineAt, tick, h10]] at hstep
          exact hstep
        · rw [if_neg h10, hcast]
          rw [show lineAt a (i + 1) = lineAt a i from by simp [lineAt, tick, h10]] at hstep
          exact hstep
theorem scan_all_f (a b : ByteArray) (m : Int) (hs : min a.size b.size ≤ 140737488351232) (hf : fewB m (min a.size b.size)) (k : Nat) (hk : 2 * min a.size b.size + 2 ≤ k) : scan_All.f k a b m = some (places a b m) := by
  have h := scan_all a b m _ rfl hs hf (min a.size b.size) 0 k (by omega) hk
  have h0 : differ a b 0 = [] := rfl
  have h1 : most m ([] : List Nat) = [] := by unfold most; split <;> simp
  rw [h0, h1] at h
  exact h
theorem sure_true (k : Nat) (h : 60 ≤ k) : selvagelaw19_sure.f k = some true := by
  have h0 : selvagelaw19_sure.f 60 = some true := by kernel_rfl
  obtain ⟨d, rfl⟩ : ∃ d, k = 60 + d := ⟨k - 60, by omega⟩
  induction d with
  | zero => exact h0
  | succ d ih => exact selvagelaw19_sure.mono _ _ (ih (by omega))
def pr (a b : ByteArray) (i : Nat) : S26 := ⟨(i : Int) + 1, lineAt a i, bt a i, bt b i⟩
def refPlaces (a b : ByteArray) (m : Int) : List S26 := (most m (differ a b (min a.size b.size))).map (pr a b)
theorem ref_all (a b : ByteArray) (m : Int) (n : Nat) (hn : n = min a.size b.size) (hs : n ≤ 140737488351232) (hf : fewB m n) (d : Nat) : ∀ (i k : Nat), i + d = n → 3 * d + 3 ≤ k →
    selvageref19_All.l0 k a b m ((most m (differ a b i)).map (pr a b)) (lineAt a i) i = some ((most m (differ a b n)).map (pr a b)) := by
  induction d with
  | zero =>
    intro i k hi hk
    obtain ⟨k, rfl⟩ : ∃ j, k = j + 3 := ⟨k - 3, by omega⟩
    obtain rfl : i = n := by omega
    simp only [selvageref19_All.l0]
    by_cases h1 : (i : Int) < (a.size : Int)
    · rw [if_pos h1, show decide ((i : Int) < (b.size : Int)) = false from by simp; omega]; simp [selvageref19_All.j1]
    · rw [if_neg h1]; simp [selvageref19_All.j1]
  | succ d ih =>
    intro i k hi hk
    obtain ⟨k, rfl⟩ : ∃ j, k = j + 3 := ⟨k - 3, by omega⟩
    have hl := lineAt_bd a i
    have hstep := ih (i + 1) k (by omega) (by omega)
    have hcast : wrap64 ((i : Int) + 1) = ((i + 1 : Nat) : Int) := by rw [wrap_in (by omega) (by omega)]; rfl
    simp only [selvageref19_All.l0]
    rw [if_pos (by omega), show decide ((i : Int) < (b.size : Int)) = true from by simp; omega]
    simp only [selvageref19_All.j1]
    rw [if_pos trivial, if_pos (by omega), if_pos (by omega), if_pos (by omega)]
    have hno : most m (differ a b (i + 1)) = most m (differ a b i) → selvageref19_All.j2 (k + 1) a b m ((most m (differ a b i)).map (pr a b)) (lineAt a i) i false = some ((most m (differ a b n)).map (pr a b)) := by
      intro hd
      rw [hd] at hstep
      simp only [selvageref19_All.j2]
      rw [if_neg (by decide), if_pos (by omega), if_pos (by omega)]
      by_cases h10 : bt a i = 10
      · rw [if_pos h10, hcast, wrap_in (by omega) (by omega)]
        rw [show lineAt a (i + 1) = lineAt a i + 1 from by simp [lineAt, tick, h10]] at hstep
        exact hstep
      · rw [if_neg h10, hcast]
        rw [show lineAt a (i + 1) = lineAt a i from by simp [lineAt, tick, h10]] at hstep
        exact hstep
    have hyes : bt a i ≠ bt b i → ((most m (differ a b i)).length : Int) ≠ m → selvageref19_All.j2 (k + 1) a b m ((most m (differ a b i)).map (pr a b)) (lineAt a i) i true = some ((most m (differ a b n)).map (pr a b)) := by
      intro he hfull
      simp only [selvageref19_All.j2]
      rw [if_pos trivial, if_pos (by omega), if_pos (by omega), if_pos (by omega), if_pos (by rw [List.length_map]; exact few_lt hf (by omega) hfull)]
      simp only [Option.bind_some]
      have hd : (most m (differ a b (i + 1))).map (pr a b) = (most m (differ a b i)).map (pr a b) ++ [⟨wrap64 ((i : Int) + 1), lineAt a i, wrap64 (bt a i), wrap64 (bt b i)⟩] := by
        rw [differ_succ, if_neg he, most_more hfull (by simp), List.map_append, wrap_bt, wrap_bt, wrap_in (by omega) (by omega)]
        simp [pr]
      rw [← hd]
      by_cases h10 : bt a i = 10
      · rw [if_pos h10, hcast, wrap_in (by omega) (by omega)]
        rw [show lineAt a (i + 1) = lineAt a i + 1 from by simp [lineAt, tick, h10]] at hstep
        exact hstep
      · rw [if_neg h10, hcast]
        rw [show lineAt a (i + 1) = lineAt a i from by simp [lineAt, tick, h10]] at hstep
        exact hstep
    by_cases he : bt a i = bt b i
    · rw [if_pos he]
      exact hno (by rw [differ_succ, if_pos he, List.append_nil])
    · rw [if_neg he]
      by_cases hm : m < 0
      · rw [if_pos hm]
        exact hyes he (by omega)
      · rw [if_neg hm]
        rw [List.length_map]
        by_cases hlt : ((most m (differ a b i)).length : Int) < m
        · rw [decide_eq_true hlt]
          exact hyes he (by omega)
        · rw [decide_eq_false hlt]
          exact hno (by rw [differ_succ]; exact most_ge hm (by omega))
theorem ref_all_f (a b : ByteArray) (m : Int) (hs : min a.size b.size ≤ 140737488351232) (hf : fewB m (min a.size b.size)) (k : Nat) (hk : 3 * min a.size b.size + 3 ≤ k) : selvageref19_All.f k a b m = some (refPlaces a b m) := by
  have h := ref_all a b m _ rfl hs hf (min a.size b.size) 0 k (by omega) hk
  have h0 : differ a b 0 = [] := rfl
  have h1 : most m ([] : List Nat) = [] := by unfold most; split <;> simp
  rw [h0, h1] at h
  exact h
def endsOf (a b : ByteArray) : Int := if (a.size : Int) < (b.size : Int) then 1 else if (a.size : Int) > (b.size : Int) then 2 else 0
def head6 (l : List S23) (e : Int) : Int × Int × Int × Int × Bool × Int := match l with
  | [] => (0, 0, 0, 0, false, e)
  | p :: _ => (p.f0, p.f1, p.f2, p.f3, true, e)
theorem few1 (n : Nat) : fewB 1 n := .inr ⟨by omega, by omega⟩
theorem first_f (a b : ByteArray) (hs : min a.size b.size ≤ 140737488351232) (k : Nat) (hk : 2 * min a.size b.size + 2 ≤ k) : scan_First.f k a b = some (head6 (places a b 1) (endsOf a b)) := by
  unfold scan_First.f endsOf
  rw [scan_all_f a b 1 hs (few1 _) k hk]
  simp only [Option.bind_some]
  cases places a b 1 with
  | nil =>
    simp only [head6, List.length_nil]
    split
    · rfl
    · split <;> rfl
  | cons p l =>
    have h0 : (((p :: l).length : Int) > 0) := by simp only [List.length_cons]; omega
    simp only [head6, if_pos h0, rd_T23]
    split
    · rfl
    · split <;> rfl
theorem ref_head (a b : ByteArray) (m : Int) (e : Int) : (match refPlaces a b m with
  | [] => (0, 0, 0, 0, false, e)
  | p :: _ => (p.f0, p.f1, p.f2, p.f3, true, e)) = head6 (places a b m) e := by
  unfold refPlaces places
  cases most m (differ a b (min a.size b.size)) <;> rfl
theorem ref_first_f (a b : ByteArray) (hs : min a.size b.size ≤ 140737488351232) (k : Nat) (hk : 3 * min a.size b.size + 4 ≤ k) : selvageref19_First.f k a b = some (head6 (places a b 1) (endsOf a b)) := by
  obtain ⟨k, rfl⟩ : ∃ j, k = j + 1 := ⟨k - 1, by omega⟩
  unfold selvageref19_First.f endsOf
  have hj : ∀ e : Int, selvageref19_First.j0 (k + 1) a b e = some (head6 (places a b 1) (if (a.size : Int) > (b.size : Int) then 2 else e)) := by
    intro e
    simp only [selvageref19_First.j0]
    rw [ref_all_f a b 1 hs (few1 _) k (by omega)]
    simp only [Option.bind_some]
    rw [← ref_head]
    cases refPlaces a b 1 with
    | nil => simp only [List.length_nil]; split <;> rfl
    | cons p l =>
      have h0 : ¬ (((p :: l).length : Int) = 0) := by simp only [List.length_cons]; omega
      have h1 : 0 < (((p :: l).length : Int)) := by simp only [List.length_cons]; omega
      simp only [if_neg h0, if_pos h1, rd_T26]
      split <;> rfl
  rw [hj, hj]
  by_cases h : (a.size : Int) < (b.size : Int)
  · rw [if_pos h, if_pos h, if_neg (by omega)]
  · rw [if_neg h, if_neg h]
theorem ScanFirsts : selvagelaw19_ScanFirsts.Pure := by
  intro a b ha hb
  refine ⟨3 * min a.size b.size + 60, ?_⟩
  unfold selvagelaw19_ScanFirsts.f
  rw [first_f a b (by omega) _ (by omega), ref_first_f a b (by omega) _ (by omega)]
  simp only [Option.bind_some]
  rw [if_pos (by simp), if_pos (by simp), if_pos trivial, sure_true _ (by omega)]
  rfl

end Go.Proofs.Ytnfhmfeobolceaa.Pure
