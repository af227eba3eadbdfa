/- The runs of every two texts are what the document says, and they are apart from one another. The plain part: over the functions that were printed, without Go and memory. No condition beside the statement. -/
import Derived.Test.YtnfhmfeobolceaaQScanRunsx6
namespace Go.Proofs.Ytnfhmfeobolceaa.Pure
open Go.RowKit Go.Proofs.Ytnfhmfeobolceaa.QScanRuns Go.Proofs.YtnfhmfeobolceaaW.PrintWords Go.Proofs.YtnfhmfeobolceaaW.PrintLast
/-! ### Places at which two texts differ, told plainly -/
def tick (c : Int) : Int := if c = 10 then 1 else 0
/-- The line of a place: 1 and the line ends ahead of it. -/
def lineAt (a : ByteArray) : Nat → Int
  | 0 => 1
  | i + 1 => lineAt a i + tick (bt a i)
theorem lineAt_bd (a : ByteArray) (i : Nat) : 1 ≤ lineAt a i ∧ lineAt a i ≤ i + 1 := by
  induction i with
  | zero => simp [lineAt]
  | succ i ih => unfold lineAt tick; split <;> omega
def differ (a b : ByteArray) (n : Nat) : List Nat := (List.range n).filter fun i => decide (bt a i ≠ bt b i)
theorem differ_succ (a b : ByteArray) (i : Nat) : differ a b (i + 1) = differ a b i ++ if bt a i = bt b i then [] else [i] := by
  unfold differ
  rw [List.range_succ, List.filter_append]
  by_cases h : bt a i = bt b i <;> simp [h]
theorem differ_le (a b : ByteArray) (n : Nat) : (differ a b n).length ≤ n := by
  have := List.length_filter_le (fun i : Nat => decide (bt a i ≠ bt b i)) (List.range n)
  simpa [differ] using this
theorem differ_mem {a b : ByteArray} {n i : Nat} (h : i ∈ differ a b n) : i < n ∧ bt a i ≠ bt b i := by
  simpa [differ] using h
theorem differ_sub (a b : ByteArray) {i n : Nat} (h : i ≤ n) : ∃ r, differ a b n = differ a b i ++ r := by
  induction n with
  | zero => obtain rfl : i = 0 := by omega
            exact ⟨[], by simp⟩
  | succ n ih =>
    rcases Nat.lt_or_ge i (n + 1) with h1 | h1
    · obtain ⟨r, hr⟩ := ih (by omega)
      exact ⟨_, by rw [differ_succ, hr, List.append_assoc]⟩
    · obtain rfl : i = n + 1 := by omega
      exact ⟨[], by simp⟩
/-- At most so many; below 0: all. -/
def most {α : Type} (m : Int) (l : List α) : List α := if m < 0 then l else l.take m.toNat
theorem most_full {α : Type} {m : Int} {l r : List α} (h : ((most m l).length : Int) = m) : most m (l ++ r) = most m l := by
  unfold most at *
  split
  · rename_i h0; rw [if_pos h0] at h; omega
  · rename_i h0
    rw [if_neg h0] at h
    rw [List.length_take] at h
    rw [List.take_append_of_le_length (by omega)]
theorem most_more {α : Type} {m : Int} {l r : List α} (h : ((most m l).length : Int) ≠ m) (hr : r.length ≤ 1) : most m (l ++ r) = most m l ++ r := by
  unfold most at *
  split
  · rfl
  · rename_i h0
    rw [if_neg h0, List.length_take] at h
    rw [List.take_of_length_le (l := l ++ r) (by simp; omega), List.take_of_length_le (l := l) (by omega)]
theorem most_ge {α : Type} {m : Int} (h0 : ¬ m < 0) {l r : List α} (h : m ≤ ((most m l).length : Int)) : most m (l ++ r) = most m l := by
  refine most_full ?_
  unfold most at *
  rw [if_neg h0, List.length_take] at *
  omega
theorem most_lt {α : Type} {m : Int} {l : List α} (h : m < 0 ∨ ((most m l).length : Int) < m) : ((most m l).length : Int) ≠ m := by
  rcases h with h | h <;> omega
theorem most_le {α : Type} (m : Int) (l : List α) : (most m l).length ≤ l.length := by
  unfold most
  split
  · exact Nat.le_refl _
  · exact List.length_take_le' _ _
theorem most_le_m {α : Type} {m : Int} (h : ¬ m < 0) (l : List α) : ((most m l).length : Int) ≤ m := by
  unfold most
  rw [if_neg h, List.length_take]
  omega
def pl (a b : ByteArray) (i : Nat) : S23 := ⟨(i : Int) + 1, lineAt a i, bt a i, bt b i⟩
def places (a b : ByteArray) (m : Int) : List S23 := (most m (differ a b (min a.size b.size))).map (pl a b)
theorem wrap_in {x : Int} (h : -9223372036854775808 ≤ x) (h1 : x ≤ 9223372036854775807) : wrap64 x = x := by unfold wrap64; omega
theorem wrap_bt (a : ByteArray) (i : Int) : wrap64 (bt a i) = bt a i := by
  have := bt_range a i
  exact wrap_in (by omega) (by omega)
/-- What bounds the places: the texts, or how many are asked for. -/
def fewB (m : Int) (n : Nat) : Prop := n ≤ 4398046511104 ∨ (0 ≤ m ∧ m ≤ 4398046511104)
theorem few_lt {m : Int} {n i : Nat} {a b : ByteArray} (h : fewB m n) (hi : i < n) (hm : ((most m (differ a b i)).length : Int) ≠ m) : (most m (differ a b i)).length < 4398046511104 := by
  have h1 := differ_le a b i
  have h2 := most_le m (differ a b i)
  rcases h with h | h
  · omega
  · have := most_le_m (by omega : ¬ m < 0) (differ a b i)
    omega

theorem scan_all (a b : ByteArray) (m : Int) (n : Nat) (hn : n = min a.size b.size) (hs : n ≤ 140737488351232) (hf : fewB m n) (d : Nat) : ∀ (i k : Nat), i + d = n → 2 * d + 2 ≤ k →
    scan_All.l0 k a b m ((most m (differ a b i)).map (pl a b)) (lineAt a i) i = some ((most m (differ a b n)).map (pl a b)) := by
  induction d with
  | zero =>
    intro i k hi hk
    obtain ⟨k, rfl⟩ : ∃ j, k = j + 2 := ⟨k - 2, by omega⟩
    obtain rfl : i = n := by omega
    simp only [scan_All.l0]
    by_cases h1 : (i : Int) < (a.size : Int)
    · rw [if_pos h1, if_neg (by omega)]; simp [scan_All.j1]
    · rw [if_neg h1]; simp [scan_All.j1]
  | succ d ih =>
    intro i k hi hk
    obtain ⟨k, rfl⟩ : ∃ j, k = j + 2 := ⟨k - 2, by omega⟩
    have hl := lineAt_bd a i
    have hstep := ih (i + 1) k (by omega) (by omega)
    have hcast : wrap64 ((i : Int) + 1) = ((i + 1 : Nat) : Int) := by rw [wrap_in (by omega) (by omega)]; rfl
    simp only [scan_All.l0]
    rw [if_pos (by omega), if_pos (by omega)]
    by_cases hfull : ((most m (differ a b i)).length : Int) = m
    · rw [show ((((List.map (pl a b) (most m (differ a b i))).length : Int) != m) = false) from by rw [List.length_map, hfull]; simp]
      simp only [scan_All.j1]
      rw [if_neg (by decide)]
      obtain ⟨r, hr⟩ := differ_sub a b (i := i) (n := n) (by omega)
      rw [hr, most_full hfull]
    · rw [show ((((List.map (pl a b) (most m (differ a b i))).length : Int) != m) = true) from by rw [List.length_map]; simpa using hfull]
      simp only [scan_All.j1]
      rw [if_pos trivial, if_pos (by omega), if_pos (by omega), if_pos (by omega)]
      by_cases he : bt a i = bt b i
      · rw [if_pos he]
        have hd : differ a b (i + 1) = differ a b i := by rw [differ_succ, if_pos he, List.append_nil]
        rw [hd] at hstep
        by_cases h10 : bt a i = 10
        · rw [if_pos h10, hcast, wrap_in (by omega) (by omega)]
          rw [show lineAt a (i + 1) = lineAt a i + 1 from by simp [lineAt, tick, h10]] at hstep
          exact hstep
        · rw [if_neg h10, hcast]
          rw [show lineAt a (i + 1) = lineAt a i from by simp [lineAt, tick, h10]] at hstep
          exact hstep
      · rw [if_neg he, if_pos (by rw [List.length_map]; exact few_lt hf (by omega) hfull)]
        simp only [Option.bind_some]
        have hd : (most m (differ a b (i + 1))).map (pl a b) = (most m (differ a b i)).map (pl a b) ++ [⟨wrap64 ((i : Int) + 1), lineAt a i, wrap64 (bt a i), wrap64 (bt b i)⟩] := by
          rw [differ_succ, if_neg he, most_more hfull (by simp), List.map_append, wrap_bt, wrap_bt, wrap_in (by omega) (by omega)]
          simp [pl]
        rw [← hd]
        by_cases h10 : bt a i = 10
        · rw [if_pos h10, hcast, wrap_in (by omega) (by omega)]
          rw [show lineAt a (i + 1) = lineAt a i + 1 from by simp [lineAt, tick, h10]] at hstep
          exact hstep
        · rw [if_neg h10, hcast]
          rw [show lineAt a (i + 1) = lineAt a i from by simp [lineAt, tick, h10]] at hstep
          exact hstep
theorem scan_all_f (a b : ByteArray) (m : Int) (hs : min a.size b.size ≤ 140737488351232) (hf : fewB m (min a.size b.size)) (k : Nat) (hk : 2 * min a.size b.size + 2 ≤ k) : scan_All.f k a b m = some (places a b m) := by
  have h := scan_all a b m _ rfl hs hf (min a.size b.size) 0 k (by omega) hk
  have h0 : differ a b 0 = [] := rfl
  have h1 : most m ([] : List Nat) = [] := by unfold most; split <;> simp
  rw [h0, h1] at h
  exact h
theorem sure_true (k : Nat) (h : 60 ≤ k) : selvagelaw19_sure.f k = some true := by
  have h0 : selvagelaw19_sure.f 60 = some true := by kernel_rfl
  obtain ⟨d, rfl⟩ : ∃ d, k = 60 + d := ⟨k - 60, by omega⟩
  induction d with
  | zero => exact h0
  | succ d ih => exact selvagelaw19_sure.mono _ _ (ih (by omega))
def pr (a b : ByteArray) (i : Nat) : S26 := ⟨(i : Int) + 1, lineAt a i, bt a i, bt b i⟩
def refPlaces (a b : ByteArray) (m : Int) : List S26 := (most m (differ a b (min a.size b.size))).map (pr a b)
theorem ref_all (a b : ByteArray) (m : Int) (n : Nat) (hn : n = min a.size b.size) (hs : n ≤ 140737488351232) (hf : fewB m n) (d : Nat) : ∀ (i k : Nat), i + d = n → 3 * d + 3 ≤ k →
    selvageref19_All.l0 k a b m ((most m (differ a b i)).map (pr a b)) (lineAt a i) i = some ((most m (differ a b n)).map (pr a b)) := by
  induction d with
  | zero =>
    intro i k hi hk
    obtain ⟨k, rfl⟩ : ∃ j, k = j + 3 := ⟨k - 3, by omega⟩
    obtain rfl : i = n := by omega
    simp only [selvageref19_All.l0]
    by_cases h1 : (i : Int) < (a.size : Int)
    · rw [if_pos h1, show decide ((i : Int) < (b.size : Int)) = false from by simp; omega]; simp [selvageref19_All.j1]
    · rw [if_neg h1]; simp [selvageref19_All.j1]
  | succ d ih =>
    intro i k hi hk
    obtain ⟨k, rfl⟩ : ∃ j, k = j + 3 := ⟨k - 3, by omega⟩
    have hl := lineAt_bd a i
    have hstep := ih (i + 1) k (by omega) (by omega)
    have hcast : wrap64 ((i : Int) + 1) = ((i + 1 : Nat) : Int) := by rw [wrap_in (by omega) (by omega)]; rfl
    simp only [selvageref19_All.l0]
    rw [if_pos (by omega), show decide ((i : Int) < (b.size : Int)) = true from by simp; omega]
    simp only [selvageref19_All.j1]
    rw [if_pos trivial, if_pos (by omega), if_pos (by omega), if_pos (by omega)]
    have hno : most m (differ a b (i + 1)) = most m (differ a b i) → selvageref19_All.j2 (k + 1) a b m ((most m (differ a b i)).map (pr a b)) (lineAt a i) i false = some ((most m (differ a b n)).map (pr a b)) := by
      intro hd
      rw [hd] at hstep
      simp only [selvageref19_All.j2]
      rw [if_neg (by decide), if_pos (by omega), if_pos (by omega)]
      by_cases h10 : bt a i = 10
      · rw [if_pos h10, hcast, wrap_in (by omega) (by omega)]
        rw [show lineAt a (i + 1) = lineAt a i + 1 from by simp [lineAt, tick, h10]] at hstep
        exact hstep
      · rw [if_neg h10, hcast]
        rw [show lineAt a (i + 1) = lineAt a i from by simp [lineAt, tick, h10]] at hstep
        exact hstep
    have hyes : bt a i ≠ bt b i → ((most m (differ a b i)).length : Int) ≠ m → selvageref19_All.j2 (k + 1) a b m ((most m (differ a b i)).map (pr a b)) (lineAt a i) i true = some ((most m (differ a b n)).map (pr a b)) := by
      intro he hfull
      simp only [selvageref19_All.j2]
      rw [if_pos trivial, if_pos (by omega), if_pos (by omega), if_pos (by omega), if_pos (by rw [List.length_map]; exact few_lt hf (by omega) hfull)]
      simp only [Option.bind_some]
      have hd : (most m (differ a b (i + 1))).map (pr a b) = (most m (differ a b i)).map (pr a b) ++ [⟨wrap64 ((i : Int) + 1), lineAt a i, wrap64 (bt a i), wrap64 (bt b i)⟩] := by
        rw [differ_succ, if_neg he, most_more hfull (by simp), List.map_append, wrap_bt, wrap_bt, wrap_in (by omega) (by omega)]
        simp [pr]
      rw [← hd]
      by_cases h10 : bt a i = 10
      · rw [if_pos h10, hcast, wrap_in (by omega) (by omega)]
        rw [show lineAt a (i + 1) = lineAt a i + 1 from by simp [lineAt, tick, h10]] at hstep
        exact hstep
      · rw [if_neg h10, hcast]
        rw [show lineAt a (i + 1) = lineAt a i from by simp [lineAt, tick, h10]] at hstep
        exact hstep
    by_cases he : bt a i = bt b i
    · rw [if_pos he]
      exact hno (by rw [differ_succ, if_pos he, List.append_nil])
    · rw [if_neg he]
      by_cases hm : m < 0
      · rw [if_pos hm]
        exact hyes he (by omega)
      · rw [if_neg hm]
        rw [List.length_map]
        by_cases hlt : ((most m (differ a b i)).length : Int) < m
        · rw [decide_eq_true hlt]
          exact hyes he (by omega)
        · rw [decide_eq_false hlt]
          exact hno (by rw [differ_succ]; exact most_ge hm (by omega))
theorem ref_all_f (a b : ByteArray) (m : Int) (hs : min a.size b.size ≤ 140737488351232) (hf : fewB m (min a.size b.size)) (k : Nat) (hk : 3 * min a.size b.size + 3 ≤ k) : selvageref19_All.f k a b m = some (refPlaces a b m) := by
  have h := ref_all a b m _ rfl hs hf (min a.size b.size) 0 k (by omega) hk
  have h0 : differ a b 0 = [] := rfl
  have h1 : most m ([] : List Nat) = [] := by unfold most; split <;> simp
  rw [h0, h1] at h
  exact h
theorem places_at (a b : ByteArray) (l : List Nat) (x : Int) (_h : 0 ≤ x) (h1 : x < (l.length : Int)) :
    rd_T23 (l.map (pl a b)) x = pl a b (l[x.toNat]'(by omega)) ∧ rd_T26 (l.map (pr a b)) x = pr a b (l[x.toNat]'(by omega)) := by
  have h2 : x.toNat < l.length := by omega
  constructor
  · unfold rd_T23
    rw [List.getD_eq_getElem?_getD, List.getElem?_map, List.getElem?_eq_getElem h2]; rfl
  · unfold rd_T26
    rw [List.getD_eq_getElem?_getD, List.getElem?_map, List.getElem?_eq_getElem h2]; rfl
theorem most_few (a b : ByteArray) (m : Int) (_h : min a.size b.size ≤ 1048576) : (most m (differ a b (min a.size b.size))).length ≤ min a.size b.size :=
  Nat.le_trans (most_le _ _) (differ_le _ _ _)
def f45 (p : Int × Int) : S45 := ⟨p.1, p.2⟩
def f44 (p : Int × Int) : S44 := ⟨p.1, p.2⟩
def lastP (acc : List (Int × Int)) : Int × Int := acc.getD (acc.length - 1) (0, 0)
def joins (acc : List (Int × Int)) (o : Int) : Bool := !acc.isEmpty && ((lastP acc).1 + (lastP acc).2 == o)
/-- The runs, place by place: the last one grows, or a new one begins (at most m; below 0: all). -/
def runsF (m : Int) : List Nat → List (Int × Int) → List (Int × Int)
  | [], acc => acc
  | i :: r, acc => if joins acc ((i : Int) + 1) = true then runsF m r (acc.set (acc.length - 1) ((lastP acc).1, (lastP acc).2 + 1)) else if (acc.length : Int) = m then acc else runsF m r (acc ++ [((i : Int) + 1, 1)])
theorem lastP_mem {acc : List (Int × Int)} (h : acc ≠ []) : lastP acc ∈ acc := by
  have hl : 0 < acc.length := List.length_pos_iff.mpr h
  unfold lastP
  rw [List.getD_eq_getElem?_getD, List.getElem?_eq_getElem (by omega)]
  exact List.getElem_mem _
theorem rd45 {acc : List (Int × Int)} (h : acc ≠ []) : rd_T45 (acc.map f45) ((acc.length : Int) - 1) = f45 (lastP acc) := by
  have hl : 0 < acc.length := List.length_pos_iff.mpr h
  unfold rd_T45 lastP
  rw [show ((acc.length : Int) - 1).toNat = acc.length - 1 from by omega, List.getD_eq_getElem?_getD, List.getD_eq_getElem?_getD, List.getElem?_map, List.getElem?_eq_getElem (by omega)]
  rfl
theorem rd44 {acc : List (Int × Int)} (h : acc ≠ []) : rd_T44 (acc.map f44) ((acc.length : Int) - 1) = f44 (lastP acc) := by
  have hl : 0 < acc.length := List.length_pos_iff.mpr h
  unfold rd_T44 lastP
  rw [show ((acc.length : Int) - 1).toNat = acc.length - 1 from by omega, List.getD_eq_getElem?_getD, List.getD_eq_getElem?_getD, List.getElem?_map, List.getElem?_eq_getElem (by omega)]
  rfl
/-- What keeps the sums in int's range. -/
def inRange (acc : List (Int × Int)) : Prop := ∀ p ∈ acc, 1 ≤ p.1 ∧ 1 ≤ p.2 ∧ p.1 + p.2 ≤ 1048577
theorem inRange_grow {acc : List (Int × Int)} (h : inRange acc) {i : Nat} (hi : i < 1048576) (hj : joins acc ((i : Int) + 1) = true) : inRange (acc.set (acc.length - 1) ((lastP acc).1, (lastP acc).2 + 1)) := by
  simp only [joins, Bool.and_eq_true, Bool.not_eq_true', List.isEmpty_eq_false_iff, beq_iff_eq] at hj
  have hl := h _ (lastP_mem hj.1)
  intro p hp
  rcases List.mem_or_eq_of_mem_set hp with hp | rfl
  · exact h p hp
  · exact ⟨hl.1, by dsimp only; omega, by dsimp only; omega⟩
theorem inRange_new {acc : List (Int × Int)} (h : inRange acc) {i : Nat} (hi : i < 1048576) : inRange (acc ++ [((i : Int) + 1, 1)]) := by
  intro p hp
  rcases List.mem_append.mp hp with hp | hp
  · exact h p hp
  · obtain rfl := List.mem_singleton.mp hp
    exact ⟨by dsimp only; omega, by dsimp only; omega, by dsimp only; omega⟩
theorem joins_false {acc : List (Int × Int)} {o : Int} (h : acc ≠ []) : joins acc o = ((lastP acc).1 + (lastP acc).2 == o) := by
  cases acc with
  | nil => exact absurd rfl h
  | cons x l => simp [joins]
theorem drop_at (D : List Nat) (j : Nat) (h : j < D.length) : D.drop j = D[j] :: D.drop (j + 1) := List.drop_eq_getElem_cons h
theorem runs_l0 (a b : ByteArray) (m : Int) (D : List Nat) (hD : D.length ≤ 1048576) (hlt : ∀ i ∈ D, i < 1048576) (d : Nat) : ∀ (j k : Nat) (acc : List (Int × Int)), j + d = D.length → 2 * d + 1 ≤ k → acc.length ≤ j → inRange acc →
    scan_Runs.l0 k m (acc.map f45) (D.map (pl a b)) (D.length : Int) j = some ((runsF m (D.drop j) acc).map f45) := by
  induction d with
  | zero =>
    intro j k acc hj hk ha hr
    obtain ⟨k, rfl⟩ : ∃ x, k = x + 1 := ⟨k - 1, by omega⟩
    simp only [scan_Runs.l0]
    rw [if_neg (by omega), List.drop_of_length_le (by omega)]
    rfl
  | succ d ih =>
    intro j k acc hj hk ha hr
    obtain ⟨k, rfl⟩ : ∃ x, k = x + 2 := ⟨k - 2, by omega⟩
    have hjl : j < D.length := by omega
    have hi : D[j] < 1048576 := hlt _ (List.getElem_mem _)
    have hp := (places_at a b D j (by omega) (by omega)).1
    rw [show D[((j : Int)).toNat]'(by omega) = D[j] from rfl] at hp
    have hcast : wrap64 ((j : Int) + 1) = ((j + 1 : Nat) : Int) := by rw [wrap_in (by omega) (by omega)]; rfl
    simp only [scan_Runs.l0]
    rw [if_pos (by omega), if_pos (by omega), if_pos (by rw [List.length_map]; omega), hp, List.length_map]
    rw [drop_at D j hjl]
    simp only [runsF]
    have hstop : joins acc ((D[j] : Int) + 1) = false → ∀ x : Int, scan_Runs.j1 (k + 1) m (acc.map f45) x (D.map (pl a b)) (D.length : Int) j false (pl a b D[j]).f0 (pl a b D[j]).f1 (pl a b D[j]).f2 (pl a b D[j]).f3 = some (List.map f45 (if joins acc ((D[j] : Int) + 1) = true then runsF m (D.drop (j + 1)) (acc.set (acc.length - 1) ((lastP acc).1, (lastP acc).2 + 1)) else if (acc.length : Int) = m then acc else runsF m (D.drop (j + 1)) (acc ++ [((D[j] : Int) + 1, 1)]))) := by
      intro hno x
      simp only [scan_Runs.j1]
      rw [List.length_map]
      simp only [hno, Bool.false_eq_true, if_false]
      by_cases hm : (acc.length : Int) = m
      · rw [if_pos hm, if_pos hm]
      · rw [if_neg hm, if_neg hm, if_pos (by omega), hcast]
        have h := ih (j + 1) k (acc ++ [((D[j] : Int) + 1, 1)]) (by omega) (by omega) (by simp; omega) (inRange_new hr hi)
        rw [List.map_append] at h
        exact h
    by_cases he : acc = []
    · subst he
      rw [if_neg (by unfold wrap64; simp)]
      exact hstop rfl _
    · have hl : 0 < acc.length := List.length_pos_iff.mpr he
      have hw : wrap64 ((acc.length : Int) - 1) = (acc.length : Int) - 1 := wrap_in (by omega) (by omega)
      have hla := hr _ (lastP_mem he)
      rw [hw, if_pos (by omega), if_pos (by omega), if_pos (by omega), rd45 he]
      have hb : (wrap64 ((f45 (lastP acc)).f0 + (f45 (lastP acc)).f1) == (pl a b D[j]).f0) = joins acc ((D[j] : Int) + 1) := by
        rw [joins_false he]
        simp only [f45, pl]
        rw [wrap_in (by omega) (by omega)]
      rw [hb]
      by_cases hjn : joins acc ((D[j] : Int) + 1) = true
      · rw [if_pos hjn, hjn]
        simp only [scan_Runs.j1]
        rw [if_pos trivial, if_pos (by omega), if_pos (by rw [List.length_map]; omega), hcast, rd45 he]
        have h := ih (j + 1) k _ (by omega) (by omega) (by rw [List.length_set]; omega) (inRange_grow hr hi hjn)
        rw [List.map_set] at h
        rw [show ((acc.length : Int) - 1).toNat = acc.length - 1 from by omega]
        simp only [f45] at h ⊢
        rw [wrap_in (by omega) (by omega)]
        exact h
      · have hjf : joins acc ((D[j] : Int) + 1) = false := by simpa using hjn
        have h := hstop hjf ((acc.length : Int) - 1)
        rw [hjf]
        rw [hjf] at h
        exact h
theorem ref_runs_l0 (a b : ByteArray) (m : Int) (D : List Nat) (hD : D.length ≤ 1048576) (hlt : ∀ i ∈ D, i < 1048576) (d : Nat) : ∀ (j k : Nat) (acc : List (Int × Int)), j + d = D.length → 2 * d + 1 ≤ k → acc.length ≤ j → inRange acc → (0 ≤ m → (acc.length : Int) ≤ m) →
    selvageref19_Runs.l0 k m (acc.map f44) (D.map (pr a b)) j = some ((runsF m (D.drop j) acc).map f44) := by
  induction d with
  | zero =>
    intro j k acc hj hk ha hr hmm
    obtain ⟨k, rfl⟩ : ∃ x, k = x + 1 := ⟨k - 1, by omega⟩
    simp only [selvageref19_Runs.l0]
    rw [if_neg (by rw [List.length_map]; omega), List.drop_of_length_le (by omega)]
    rfl
  | succ d ih =>
    intro j k acc hj hk ha hr hmm
    obtain ⟨k, rfl⟩ : ∃ x, k = x + 2 := ⟨k - 2, by omega⟩
    have hjl : j < D.length := by omega
    have hi : D[j] < 1048576 := hlt _ (List.getElem_mem _)
    have hp := (places_at a b D j (by omega) (by omega)).2
    rw [show D[((j : Int)).toNat]'(by omega) = D[j] from rfl] at hp
    have hcast : wrap64 ((j : Int) + 1) = ((j + 1 : Nat) : Int) := by rw [wrap_in (by omega) (by omega)]; rfl
    simp only [selvageref19_Runs.l0]
    rw [if_pos (by rw [List.length_map]; omega), List.length_map]
    rw [drop_at D j hjl]
    simp only [runsF]
    have hnew : ¬ (acc.length : Int) = m → selvageref19_Runs.l0 k m (acc.map f44 ++ [⟨(pr a b D[j]).f0, 1⟩]) (D.map (pr a b)) ((j + 1 : Nat) : Int) = some (List.map f44 (runsF m (D.drop (j + 1)) (acc ++ [((D[j] : Int) + 1, 1)]))) := by
      intro hm
      have h := ih (j + 1) k (acc ++ [((D[j] : Int) + 1, 1)]) (by omega) (by omega) (by simp; omega) (inRange_new hr hi) (by intro h0; have := hmm h0; simp only [List.length_append, List.length_cons, List.length_nil]; omega)
      rw [List.map_append] at h
      exact h
    have hstop : joins acc ((D[j] : Int) + 1) = false → selvageref19_Runs.j1 (k + 1) m (acc.map f44) (D.map (pr a b)) j (acc.length : Int) false = some (List.map f44 (if joins acc ((D[j] : Int) + 1) = true then runsF m (D.drop (j + 1)) (acc.set (acc.length - 1) ((lastP acc).1, (lastP acc).2 + 1)) else if (acc.length : Int) = m then acc else runsF m (D.drop (j + 1)) (acc ++ [((D[j] : Int) + 1, 1)]))) := by
      intro hno
      simp only [selvageref19_Runs.j1]
      simp only [hno, Bool.false_eq_true, if_false]
      by_cases hm0 : m ≥ 0
      · rw [if_pos hm0]
        have hle := hmm hm0
        by_cases hm : (acc.length : Int) = m
        · rw [if_pos (by omega), if_pos hm]
        · rw [if_neg (show ¬ ((acc.length : Int) ≥ m) by omega), if_neg hm, if_pos (show (0 : Int) ≤ (j : Int) by omega), if_pos (by rw [List.length_map]; omega), if_pos (by rw [List.length_map]; omega), hcast, hp]
          exact hnew hm
      · rw [if_neg hm0, if_neg (show ¬ ((acc.length : Int) = m) by omega), if_pos (show (0 : Int) ≤ (j : Int) by omega), if_pos (by rw [List.length_map]; omega), if_pos (by rw [List.length_map]; omega), hcast, hp]
        exact hnew (by omega)
    by_cases he : acc = []
    · subst he
      rw [if_neg (by simp)]
      exact hstop rfl
    · have hl : 0 < acc.length := List.length_pos_iff.mpr he
      have hw : wrap64 ((acc.length : Int) - 1) = (acc.length : Int) - 1 := wrap_in (by omega) (by omega)
      have hla := hr _ (lastP_mem he)
      rw [if_pos (by omega), hw, if_pos (by omega), if_pos (by omega), if_pos (by omega), rd44 he, hp]
      have hb : (wrap64 ((f44 (lastP acc)).f0 + (f44 (lastP acc)).f1) == (pr a b D[j]).f0) = joins acc ((D[j] : Int) + 1) := by
        rw [joins_false he]
        simp only [f44, pr]
        rw [wrap_in (by omega) (by omega)]
      rw [hb]
      by_cases hjn : joins acc ((D[j] : Int) + 1) = true
      · rw [if_pos hjn, hjn]
        simp only [selvageref19_Runs.j1]
        rw [if_pos trivial, hw, if_pos (by omega), if_pos (by rw [List.length_map]; omega), hcast, rd44 he]
        have h := ih (j + 1) k _ (by omega) (by omega) (by rw [List.length_set]; omega) (inRange_grow hr hi hjn) (by rw [List.length_set]; exact hmm)
        rw [List.map_set] at h
        rw [show ((acc.length : Int) - 1).toNat = acc.length - 1 from by omega]
        simp only [f44] at h ⊢
        rw [wrap_in (by omega) (by omega)]
        exact h
      · have hjf : joins acc ((D[j] : Int) + 1) = false := by simpa using hjn
        have h := hstop hjf
        rw [hjf]
        rw [hjf] at h
        exact h
theorem acc_split {acc : List (Int × Int)} (h : acc ≠ []) : ∃ init p, acc = init ++ [p] ∧ lastP acc = p ∧ ∀ q, acc.set (acc.length - 1) q = init ++ [q] := by
  rcases List.eq_nil_or_concat acc with rfl | ⟨init, p, e⟩
  · exact absurd rfl h
  · rw [List.concat_eq_append] at e
    subst e
    refine ⟨init, p, rfl, ?_, fun q => ?_⟩
    · simp [lastP]
    · simp
def cnt (l : List (Int × Int)) : Int := (l.map fun p => p.2).sum
theorem cnt_append (l r : List (Int × Int)) : cnt (l ++ r) = cnt l + cnt r := by simp [cnt]
/-- One run ends ahead of another's beginning, and not right ahead. -/
def gap (p q : Int × Int) : Prop := p.1 + p.2 < q.1
theorem runs_props (D : List Nat) : ∀ (acc : List (Int × Int)) (lo : Nat), (∀ i ∈ D, lo ≤ i) → D.Pairwise (· < ·) → (∀ p ∈ acc, 1 ≤ p.2 ∧ p.1 + p.2 ≤ (lo : Int) + 1) → acc.Pairwise gap →
    (∀ p ∈ runsF (-1) D acc, 1 ≤ p.2) ∧ (runsF (-1) D acc).Pairwise gap ∧ cnt (runsF (-1) D acc) = cnt acc + D.length := by
  induction D with
  | nil =>
    intro acc lo _ _ h3 h4
    exact ⟨fun p hp => (h3 p hp).1, h4, by simp [runsF]⟩
  | cons i r ih =>
    intro acc lo h1 h2 h3 h4
    have hi : lo ≤ i := h1 i (by simp)
    have h2' := List.pairwise_cons.mp h2
    have hr : ∀ x ∈ r, i + 1 ≤ x := fun x hx => h2'.1 x hx
    simp only [runsF]
    by_cases hj : joins acc ((i : Int) + 1) = true
    · rw [if_pos hj]
      simp only [joins, Bool.and_eq_true, Bool.not_eq_true', List.isEmpty_eq_false_iff, beq_iff_eq] at hj
      obtain ⟨init, p, rfl, hl, hs⟩ := acc_split hj.1
      rw [hl] at hj ⊢
      rw [hs]
      have hp := h3 p (by simp)
      have h4' := List.pairwise_append.mp h4
      obtain ⟨a1, a2, a3⟩ := ih (init ++ [(p.1, p.2 + 1)]) (i + 1) hr h2'.2 (by
        intro x hx
        rcases List.mem_append.mp hx with hx | hx
        · have := h3 x (by simp [hx]); exact ⟨this.1, by omega⟩
        · obtain rfl := List.mem_singleton.mp hx
          exact ⟨by dsimp only; omega, by dsimp only; omega⟩) (by
        refine List.pairwise_append.mpr ⟨h4'.1, by simp, ?_⟩
        intro x hx y hy
        obtain rfl := List.mem_singleton.mp hy
        exact h4'.2.2 x hx p (by simp))
      refine ⟨a1, a2, ?_⟩
      rw [a3, cnt_append, cnt_append]
      simp [cnt]; omega
    · rw [if_neg hj, if_neg (by omega)]
      have hlt : ∀ p ∈ acc, p.1 + p.2 < (i : Int) + 1 := by
        intro p hp
        by_cases he : acc = []
        · subst he; simp at hp
        · obtain ⟨init, q, rfl, hl, _⟩ := acc_split he
          have hq := h3 q (by simp)
          rw [joins_false he, hl] at hj
          have hq2 : q.1 + q.2 ≠ (i : Int) + 1 := by simpa using hj
          have h4' := List.pairwise_append.mp h4
          rcases List.mem_append.mp hp with hp | hp
          · have := h4'.2.2 p hp q (by simp)
            unfold gap at this
            omega
          · obtain rfl := List.mem_singleton.mp hp
            omega
      obtain ⟨a1, a2, a3⟩ := ih (acc ++ [((i : Int) + 1, 1)]) (i + 1) hr h2'.2 (by
        intro x hx
        rcases List.mem_append.mp hx with hx | hx
        · have := h3 x hx; exact ⟨this.1, by omega⟩
        · obtain rfl := List.mem_singleton.mp hx
          exact ⟨by dsimp only; omega, by dsimp only; omega⟩) (by
        refine List.pairwise_append.mpr ⟨h4, by simp, ?_⟩
        intro x hx y hy
        obtain rfl := List.mem_singleton.mp hy
        exact hlt x hx)
      refine ⟨a1, a2, ?_⟩
      rw [a3, cnt_append]
      simp [cnt]; omega
theorem runs_range (m : Int) (D : List Nat) : ∀ acc, (∀ i ∈ D, i < 1048576) → inRange acc → inRange (runsF m D acc) ∧ (runsF m D acc).length ≤ acc.length + D.length := by
  induction D with
  | nil => intro acc _ h; exact ⟨h, by simp [runsF]⟩
  | cons i r ih =>
    intro acc h1 h
    have hi := h1 i (by simp)
    simp only [runsF]
    split
    · rename_i hj
      obtain ⟨a1, a2⟩ := ih _ (fun x hx => h1 x (by simp [hx])) (inRange_grow h hi hj)
      exact ⟨a1, by rw [List.length_set] at a2; simp only [List.length_cons]; omega⟩
    · split
      · exact ⟨h, by omega⟩
      · obtain ⟨a1, a2⟩ := ih _ (fun x hx => h1 x (by simp [hx])) (inRange_new h hi)
        exact ⟨a1, by simp only [List.length_append, List.length_cons, List.length_nil] at a2 ⊢; omega⟩
theorem at45 (R : List (Int × Int)) (x : Int) (h1 : x < (R.length : Int)) (h0 : 0 ≤ x) : rd_T45 (R.map f45) x = f45 (R[x.toNat]'(by omega)) := by
  unfold rd_T45
  rw [List.getD_eq_getElem?_getD, List.getElem?_map, List.getElem?_eq_getElem (by omega)]; rfl
theorem at44 (R : List (Int × Int)) (x : Int) (h1 : x < (R.length : Int)) (h0 : 0 ≤ x) : rd_T44 (R.map f44) x = f44 (R[x.toNat]'(by omega)) := by
  unfold rd_T44
  rw [List.getD_eq_getElem?_getD, List.getElem?_map, List.getElem?_eq_getElem (by omega)]; rfl
theorem differ_up (a b : ByteArray) (n : Nat) : (differ a b n).Pairwise (· < ·) := List.Pairwise.filter _ List.pairwise_lt_range
theorem most_all {α : Type} (l : List α) : most (-1) l = l := rfl
theorem runs_f (a b : ByteArray) (m : Int) (hs : min a.size b.size ≤ 1048576) (k : Nat) (hk : 2 * min a.size b.size + 2 ≤ k) : scan_Runs.f k a b m = some ((runsF m (differ a b (min a.size b.size)) []).map f45) := by
  have hd := differ_le a b (min a.size b.size)
  unfold scan_Runs.f
  rw [scan_all_f a b (-1) (by omega) (.inl (by omega)) k hk]
  simp only [Option.bind_some, places, most_all]
  have h := runs_l0 a b m (differ a b (min a.size b.size)) (by omega) (fun i hi => by have := (differ_mem hi).1; omega) (differ a b (min a.size b.size)).length 0 k [] (by omega) (by omega) (by simp) (by intro p hp; simp at hp)
  rw [List.length_map]
  exact h
theorem ref_runs_f (a b : ByteArray) (m : Int) (hs : min a.size b.size ≤ 1048576) (k : Nat) (hk : 3 * min a.size b.size + 3 ≤ k) : selvageref19_Runs.f k a b m = some ((runsF m (differ a b (min a.size b.size)) []).map f44) := by
  have hd := differ_le a b (min a.size b.size)
  unfold selvageref19_Runs.f
  rw [ref_all_f a b (-1) (by omega) (.inl (by omega)) k hk]
  simp only [Option.bind_some, refPlaces, most_all]
  exact ref_runs_l0 a b m (differ a b (min a.size b.size)) (by omega) (fun i hi => by have := (differ_mem hi).1; omega) (differ a b (min a.size b.size)).length 0 k [] (by omega) (by omega) (by simp) (by intro p hp; simp at hp) (by simp)
theorem abcd (k : Nat) (h : 60 ≤ k) : scan_Runs.f k (⟨#[97, 98, 99, 100]⟩ : ByteArray) (⟨#[120, 121, 99, 122]⟩ : ByteArray) (-1) = some [⟨1, 2⟩, ⟨4, 1⟩] := by
  have h0 : scan_Runs.f 60 (⟨#[97, 98, 99, 100]⟩ : ByteArray) (⟨#[120, 121, 99, 122]⟩ : ByteArray) (-1) = some [⟨1, 2⟩, ⟨4, 1⟩] := by kernel_rfl
  obtain ⟨d, rfl⟩ : ∃ d, k = 60 + d := ⟨k - 60, by omega⟩
  induction d with
  | zero => exact h0
  | succ d ih => exact scan_Runs.mono _ _ _ _ _ (ih (by omega))
theorem tail_true (k : Nat) (h : 60 ≤ k) : (if ((([⟨1, 2⟩, ⟨4, 1⟩] : List S45).length : Int) = 2) then (if 0 < (([⟨1, 2⟩, ⟨4, 1⟩] : List S45).length : Int) then (if (((rd_T45 [⟨1, 2⟩, ⟨4, 1⟩] 0).f0) == 1 && (((rd_T45 [⟨1, 2⟩, ⟨4, 1⟩] 0).f1) == 2)) = true then ((selvagelaw19_sure.f k).bind fun t195 => (some t195)) else (some false)) else (none)) else (some false)) = some true := by
  rw [sure_true k h]
  rfl
theorem cnt_take (R : List (Int × Int)) (j : Nat) (h : j < R.length) : cnt (R.take (j + 1)) = cnt (R.take j) + R[j].2 := by
  rw [List.take_succ_eq_append_getElem h, cnt_append]; simp [cnt]
theorem law_l1 (a b : ByteArray) (hs : min a.size b.size ≤ 1048576) (R : List (Int × Int)) (hR : R.length ≤ 1048576) (h1 : inRange R) (h2 : R.Pairwise gap) (h3 : cnt R = (differ a b (min a.size b.size)).length) (d : Nat) :
    ∀ (j k : Nat), j + d = R.length → d + 3 * min a.size b.size + 61 ≤ k → 0 ≤ cnt (R.take j) → cnt (R.take j) ≤ (j : Int) * 1048577 → selvagelaw19_ScanRuns.l1 k a b (R.map f45) (cnt (R.take j)) j = some true := by
  induction d with
  | zero =>
    intro j k hj hk _ _
    obtain ⟨k, rfl⟩ : ∃ x, k = x + 1 := ⟨k - 1, by omega⟩
    simp only [selvagelaw19_ScanRuns.l1]
    rw [if_neg (by rw [List.length_map]; omega), abcd _ (by omega), scan_all_f a b (-1) (by omega) (.inl (by omega)) _ (by omega), List.take_of_length_le (by omega), h3]
    simp only [Option.bind_some, places, most_all, List.length_map]
    rw [if_pos trivial]
    exact tail_true k (by omega)
  | succ d ih =>
    intro j k hj hk hc0 hc1
    obtain ⟨k, rfl⟩ : ∃ x, k = x + 1 := ⟨k - 1, by omega⟩
    have hjl : j < R.length := by omega
    have hat := at45 R j (by omega) (by omega)
    rw [show R[((j : Int)).toNat]'(by omega) = R[j] from rfl] at hat
    have hcast : wrap64 ((j : Int) + 1) = ((j + 1 : Nat) : Int) := by rw [wrap_in (by omega) (by omega)]; rfl
    have hr := h1 _ (List.getElem_mem hjl)
    have hct := cnt_take R j hjl
    have hstep := ih (j + 1) k (by omega) (by omega) (by omega) (by rw [hct]; omega)
    have hsum : wrap64 (cnt (R.take j) + (f45 R[j]).f1) = cnt (R.take (j + 1)) := by
      rw [hct]
      exact wrap_in (by simp only [f45]; omega) (by simp only [f45]; omega)
    simp only [selvagelaw19_ScanRuns.l1]
    rw [if_pos (by rw [List.length_map]; omega), if_pos (by omega), hat, if_neg (by simp only [f45]; omega), hsum, hcast]
    by_cases hj0 : (j : Int) > 0
    · have hat2 := at45 R ((j : Int) - 1) (by omega) (by omega)
      have hjt : ((j : Int) - 1).toNat = j - 1 := by omega
      have hr2 := h1 _ (List.getElem_mem (show j - 1 < R.length by omega))
      have hg : gap R[j - 1] R[j] := List.pairwise_iff_getElem.mp h2 (j - 1) j (by omega) hjl (by omega)
      unfold gap at hg
      rw [if_pos hj0, wrap_in (x := (j : Int) - 1) (by omega) (by omega), if_pos (by omega), if_pos (by rw [List.length_map]; omega), hat2]
      simp only [hjt, f45]
      rw [wrap_in (x := R[j - 1].1 + R[j - 1].2) (by omega) (by omega), if_neg (by omega)]
      exact hstep
    · rw [if_neg hj0]
      exact hstep
theorem law_l0 (a b : ByteArray) (hs : min a.size b.size ≤ 1048576) (R : List (Int × Int)) (hR : R.length ≤ 1048576) (d : Nat) :
    ∀ (j k : Nat), j + d = R.length → d + 4 * min a.size b.size + 70 ≤ k → selvagelaw19_ScanRuns.l0 k a b (R.map f45) (R.map f44) j = some true := by
  induction d with
  | zero =>
    intro j k hj hk
    obtain ⟨k, rfl⟩ : ∃ x, k = x + 1 := ⟨k - 1, by omega⟩
    have hd := differ_le a b (min a.size b.size)
    simp only [selvagelaw19_ScanRuns.l0]
    rw [if_neg (by rw [List.length_map]; omega), runs_f a b (-1) hs k (by omega)]
    simp only [Option.bind_some]
    obtain ⟨b1, b2⟩ := runs_range (-1) (differ a b (min a.size b.size)) [] (fun i hi => by have := (differ_mem hi).1; omega) (by intro p hp; simp at hp)
    obtain ⟨a1, a2, a3⟩ := runs_props (differ a b (min a.size b.size)) [] 0 (fun _ _ => Nat.zero_le _) (differ_up a b _) (by simp) (by simp)
    simp only [List.length_nil, Nat.zero_add] at b2
    refine law_l1 a b hs _ (by omega) b1 a2 (by rw [a3]; simp [cnt]) _ 0 k (Nat.zero_add _) (by omega) (by simp [cnt]) (by simp [cnt])
  | succ d ih =>
    intro j k hj hk
    obtain ⟨k, rfl⟩ : ∃ x, k = x + 1 := ⟨k - 1, by omega⟩
    have hcast : wrap64 ((j : Int) + 1) = ((j + 1 : Nat) : Int) := by rw [wrap_in (by omega) (by omega)]; rfl
    simp only [selvagelaw19_ScanRuns.l0]
    rw [if_pos (by rw [List.length_map]; omega), if_pos (by omega), if_pos (by rw [List.length_map]; omega), at45 R j (by omega) (by omega), at44 R j (by omega) (by omega), if_neg (by simp [f45, f44]), hcast]
    exact ih (j + 1) k (by omega) (by omega)
theorem ScanRuns (a b : ByteArray) (m : Int) (ha : a.size ≤ 1048576) (hb : b.size ≤ 1048576) (_ : (Lit.int .i64 m).wf = true) : ∃ k, selvagelaw19_ScanRuns.f k a b m = some true := by
  refine ⟨5 * min a.size b.size + 100, ?_⟩
  have hd := differ_le a b (min a.size b.size)
  obtain ⟨b1, b2⟩ := runs_range m (differ a b (min a.size b.size)) [] (fun i hi => by have := (differ_mem hi).1; omega) (by intro p hp; simp at hp)
  simp only [List.length_nil, Nat.zero_add] at b2
  unfold selvagelaw19_ScanRuns.f
  rw [runs_f a b m (by omega) _ (by omega), ref_runs_f a b m (by omega) _ (by omega)]
  simp only [Option.bind_some]
  rw [if_pos (by rw [List.length_map, List.length_map])]
  exact law_l0 a b (by omega) _ (by omega) _ 0 _ (Nat.zero_add _) (by omega)

end Go.Proofs.Ytnfhmfeobolceaa.Pure
