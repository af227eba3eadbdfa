/- The walk of ScanTurns comes to true, for every two texts of at most 1048576 bytes. The plain part: over the functions that were printed, without Go and memory. No condition beside the statement. -/
import Derived.Test.YtnfhmfeobolceaaTurnsWalk
namespace Go.Proofs.Ytnfhmfeobolceaa.Pure
open Go.RowKit Go.Proofs.Ytnfhmfeobolceaa.PScanTurns Go.Proofs.YtnfhmfeobolceaaW.PrintWords Go.Proofs.YtnfhmfeobolceaaW.PrintLast
/-! ### Places at which two texts differ, told plainly -/
def tick (c : Int) : Int := if c = 10 then 1 else 0
/-- The line of a place: 1 and the line ends ahead of it. -/
def lineAt (a : ByteArray) : Nat → Int
  | 0 => 1
  | i + 1 => lineAt a i + tick (bt a i)
theorem lineAt_bd (a : ByteArray) (i : Nat) : 1 ≤ lineAt a i ∧ lineAt a i ≤ i + 1 := by
  induction i with
  | zero => simp [lineAt]
  | succ i ih => unfold lineAt tick; split <;> omega
def differ (a b : ByteArray) (n : Nat) : List Nat := (List.range n).filter fun i => decide (bt a i ≠ bt b i)
theorem differ_succ (a b : ByteArray) (i : Nat) : differ a b (i + 1) = differ a b i ++ if bt a i = bt b i then [] else [i] := by
  unfold differ
  rw [List.range_succ, List.filter_append]
  by_cases h : bt a i = bt b i <;> simp [h]
theorem differ_le (a b : ByteArray) (n : Nat) : (differ a b n).length ≤ n := by
  have := List.length_filter_le (fun i : Nat => decide (bt a i ≠ bt b i)) (List.range n)
  simpa [differ] using this
theorem differ_mem {a b : ByteArray} {n i : Nat} (h : i ∈ differ a b n) : i < n ∧ bt a i ≠ bt b i := by
  simpa [differ] using h
theorem differ_sub (a b : ByteArray) {i n : Nat} (h : i ≤ n) : ∃ r, differ a b n = differ a b i ++ r := by
  induction n with
  | zero => obtain rfl : i = 0 := by omega
            exact ⟨[], by simp⟩
  | succ n ih =>
    rcases Nat.lt_or_ge i (n + 1) with h1 | h1
    · obtain ⟨r, hr⟩ := ih (by omega)
      exact ⟨_, by rw [differ_succ, hr, List.append_assoc]⟩
    · obtain rfl : i = n + 1 := by omega
      exact ⟨[], by simp⟩
/-- At most so many; below 0: all. -/
def most {α : Type} (m : Int) (l : List α) : List α := if m < 0 then l else l.take m.toNat
theorem most_full {α : Type} {m : Int} {l r : List α} (h : ((most m l).length : Int) = m) : most m (l ++ r) = most m l := by
  unfold most at *
  split
  · rename_i h0; rw [if_pos h0] at h; omega
  · rename_i h0
    rw [if_neg h0] at h
    rw [List.length_take] at h
    rw [List.take_append_of_le_length (by omega)]
theorem most_more {α : Type} {m : Int} {l r : List α} (h : ((most m l).length : Int) ≠ m) (hr : r.length ≤ 1) : most m (l ++ r) = most m l ++ r := by
  unfold most at *
  split
  · rfl
  · rename_i h0
    rw [if_neg h0, List.length_take] at h
    rw [List.take_of_length_le (l := l ++ r) (by simp; omega), List.take_of_length_le (l := l) (by omega)]
theorem most_ge {α : Type} {m : Int} (h0 : ¬ m < 0) {l r : List α} (h : m ≤ ((most m l).length : Int)) : most m (l ++ r) = most m l := by
  refine most_full ?_
  unfold most at *
  rw [if_neg h0, List.length_take] at *
  omega
theorem most_lt {α : Type} {m : Int} {l : List α} (h : m < 0 ∨ ((most m l).length : Int) < m) : ((most m l).length : Int) ≠ m := by
  rcases h with h | h <;> omega
theorem most_le {α : Type} (m : Int) (l : List α) : (most m l).length ≤ l.length := by
  unfold most
  split
  · exact Nat.le_refl _
  · exact List.length_take_le' _ _
theorem most_le_m {α : Type} {m : Int} (h : ¬ m < 0) (l : List α) : ((most m l).length : Int) ≤ m := by
  unfold most
  rw [if_neg h, List.length_take]
  omega
def pl (a b : ByteArray) (i : Nat) : S23 := ⟨(i : Int) + 1, lineAt a i, bt a i, bt b i⟩
def places (a b : ByteArray) (m : Int) : List S23 := (most m (differ a b (min a.size b.size))).map (pl a b)
theorem wrap_in {x : Int} (h : -9223372036854775808 ≤ x) (h1 : x ≤ 9223372036854775807) : wrap64 x = x := by unfold wrap64; omega
theorem wrap_bt (a : ByteArray) (i : Int) : wrap64 (bt a i) = bt a i := by
  have := bt_range a i
  exact wrap_in (by omega) (by omega)
/-- What bounds the places: the texts, or how many are asked for. -/
def fewB (m : Int) (n : Nat) : Prop := n ≤ 4398046511104 ∨ (0 ≤ m ∧ m ≤ 4398046511104)
theorem few_lt {m : Int} {n i : Nat} {a b : ByteArray} (h : fewB m n) (hi : i < n) (hm : ((most m (differ a b i)).length : Int) ≠ m) : (most m (differ a b i)).length < 4398046511104 := by
  have h1 := differ_le a b i
  have h2 := most_le m (differ a b i)
  rcases h with h | h
  · omega
  · have := most_le_m (by omega : ¬ m < 0) (differ a b i)
    omega

theorem scan_all (a b : ByteArray) (m : Int) (n : Nat) (hn : n = min a.size b.size) (hs : n ≤ 140737488351232) (hf : fewB m n) (d : Nat) : ∀ (i k : Nat), i + d = n → 2 * d + 2 ≤ k →
    scan_All.l0 k a b m ((most m (differ a b i)).map (pl a b)) (lineAt a i) i = some ((most m (differ a b n)).map (pl a b)) := by
  induction d with
  | zero =>
    intro i k hi hk
    obtain ⟨k, rfl⟩ : ∃ j, k = j + 2 := ⟨k - 2, by omega⟩
    obtain rfl : i = n := by omega
    simp only [scan_All.l0]
    by_cases h1 : (i : Int) < (a.size : Int)
    · rw [if_pos h1, if_neg (by omega)]; simp [scan_All.j1]
    · rw [if_neg h1]; simp [scan_All.j1]
  | succ d ih =>
    intro i k hi hk
    obtain ⟨k, rfl⟩ : ∃ j, k = j + 2 := ⟨k - 2, by omega⟩
    have hl := lineAt_bd a i
    have hstep := ih (i + 1) k (by omega) (by omega)
    have hcast : wrap64 ((i : Int) + 1) = ((i + 1 : Nat) : Int) := by rw [wrap_in (by omega) (by omega)]; rfl
    simp only [scan_All.l0]
    rw [if_pos (by omega), if_pos (by omega)]
    by_cases hfull : ((most m (differ a b i)).length : Int) = m
    · rw [show ((((List.map (pl a b) (most m (differ a b i))).length : Int) != m) = false) from by rw [List.length_map, hfull]; simp]
      simp only [scan_All.j1]
      rw [if_neg (by decide)]
      obtain ⟨r, hr⟩ := differ_sub a b (i := i) (n := n) (by omega)
      rw [hr, most_full hfull]
    · rw [show ((((List.map (pl a b) (most m (differ a b i))).length : Int) != m) = true) from by rw [List.length_map]; simpa using hfull]
      simp only [scan_All.j1]
      rw [if_pos trivial, if_pos (by omega), if_pos (by omega), if_pos (by omega)]
      by_cases he : bt a i = bt b i
      · rw [if_pos he]
        have hd : differ a b (i + 1) = differ a b i := by rw [differ_succ, if_pos he, List.append_nil]
        rw [hd] at hstep
        by_cases h10 : bt a i = 10
        · rw [if_pos h10, hcast, wrap_in (by omega) (by omega)]
          rw [show lineAt a (i + 1) = lineAt a i + 1 from by simp [lineAt, tick, h10]] at hstep
          exact hstep
        · rw [if_neg h10, hcast]
          rw [show lineAt a (i + 1) = lineAt a i from by simp [lineAt, tick, h10]] at hstep
          exact hstep
      · rw [if_neg he, if_pos (by rw [List.length_map]; exact few_lt hf (by omega) hfull)]
        simp only [Option.bind_some]
        have hd : (most m (differ a b (i + 1))).map (pl a b) = (most m (differ a b i)).map (pl a b) ++ [⟨wrap64 ((i : Int) + 1), lineAt a i, wrap64 (bt a i), wrap64 (bt b i)⟩] := by
          rw [differ_succ, if_neg he, most_more hfull (by simp), List.map_append, wrap_bt, wrap_bt, wrap_in (by omega) (by omega)]
          simp [pl]
        rw [← hd]
        by_cases h10 : bt a i = 10
        · rw [if_pos h10, hcast, wrap_in (by omega) (by omega)]
          rw [show lineAt a (i + 1) = lineAt a i + 1 from by simp [lineAt, tick, h10]] at hstep
          exact hstep
        · rw [if_neg h10, hcast]
          rw [show lineAt a (i + 1) = lineAt a i from by simp [lineAt, tick, h10]] at hstep
          exact hstep
theorem scan_all_f (a b : ByteArray) (m : Int) (hs : min a.size b.size ≤ 140737488351232) (hf : fewB m (min a.size b.size)) (k : Nat) (hk : 2 * min a.size b.size + 2 ≤ k) : scan_All.f k a b m = some (places a b m) := by
  have h := scan_all a b m _ rfl hs hf (min a.size b.size) 0 k (by omega) hk
  have h0 : differ a b 0 = [] := rfl
  have h1 : most m ([] : List Nat) = [] := by unfold most; split <;> simp
  rw [h0, h1] at h
  exact h
theorem sure_true (k : Nat) (h : 60 ≤ k) : selvagelaw19_sure.f k = some true := by
  have h0 : selvagelaw19_sure.f 60 = some true := by kernel_rfl
  obtain ⟨d, rfl⟩ : ∃ d, k = 60 + d := ⟨k - 60, by omega⟩
  induction d with
  | zero => exact h0
  | succ d ih => exact selvagelaw19_sure.mono _ _ (ih (by omega))
def endsOf (a b : ByteArray) : Int := if (a.size : Int) < (b.size : Int) then 1 else if (a.size : Int) > (b.size : Int) then 2 else 0
def head6 (l : List S23) (e : Int) : Int × Int × Int × Int × Bool × Int := match l with
  | [] => (0, 0, 0, 0, false, e)
  | p :: _ => (p.f0, p.f1, p.f2, p.f3, true, e)
theorem few1 (n : Nat) : fewB 1 n := .inr ⟨by omega, by omega⟩
theorem first_f (a b : ByteArray) (hs : min a.size b.size ≤ 140737488351232) (k : Nat) (hk : 2 * min a.size b.size + 2 ≤ k) : scan_First.f k a b = some (head6 (places a b 1) (endsOf a b)) := by
  unfold scan_First.f endsOf
  rw [scan_all_f a b 1 hs (few1 _) k hk]
  simp only [Option.bind_some]
  cases places a b 1 with
  | nil =>
    simp only [head6, List.length_nil]
    split
    · rfl
    · split <;> rfl
  | cons p l =>
    have h0 : (((p :: l).length : Int) > 0) := by simp only [List.length_cons]; omega
    simp only [head6, if_pos h0, rd_T23]
    split
    · rfl
    · split <;> rfl
theorem differ_turn (a b : ByteArray) (n : Nat) : differ b a n = differ a b n := by
  unfold differ
  congr 1
  funext i
  exact decide_eq_decide.mpr ⟨fun h e => h e.symm, fun h e => h e.symm⟩
theorem lineAt_alike (a b : ByteArray) (i : Nat) (h : ∀ j : Nat, j < i → bt a j = bt b j) : lineAt a i = lineAt b i := by
  induction i with
  | zero => rfl
  | succ i ih => simp only [lineAt]; rw [ih (fun j hj => h j (by omega)), h i (by omega)]
theorem bt_list (a : ByteArray) (i : Nat) (h : i < a.size) : bt a i = ((a.data.toList[i]'(by simpa using h)).toNat : Int) := by
  unfold bt
  rw [dif_pos (by simpa using h)]
  rfl
theorem alike_of_lists {a b : ByteArray} {i : Nat} (ha : i ≤ a.size) (hb : i ≤ b.size) (h : (a.extract 0 i).toList = (b.extract 0 i).toList) : ∀ j : Nat, j < i → bt a j = bt b j := by
  intro j hj
  rw [ByteArray.toList_eq, ByteArray.toList_eq] at h
  have ea : ∀ s : ByteArray, (s.extract 0 i).data.toList = s.data.toList.take i := fun s => by simp
  rw [ea, ea] at h
  rw [bt_list a j (by omega), bt_list b j (by omega)]
  have hja : j < a.data.toList.length := by simpa using (show j < a.size by omega)
  have hjb : j < b.data.toList.length := by simpa using (show j < b.size by omega)
  have h1 : (a.data.toList.take i)[j]? = (b.data.toList.take i)[j]? := by rw [h]
  rw [List.getElem?_take_of_lt hj, List.getElem?_take_of_lt hj, List.getElem?_eq_getElem hja, List.getElem?_eq_getElem hjb] at h1
  rw [Option.some.inj h1]
theorem eq_of_bytes {a b : ByteArray} (hs : a.size = b.size) (h : ∀ j : Nat, j < a.size → bt a j = bt b j) : a.toList = b.toList := by
  rw [ByteArray.toList_eq, ByteArray.toList_eq]
  refine List.ext_getElem (by simpa using hs) fun j h1 h2 => ?_
  have h3 := h j (by simpa using h1)
  rw [bt_list a j (by simpa using h1), bt_list b j (by simpa using h2)] at h3
  exact UInt8.toNat_inj.mp (by omega)
theorem size_of_lists {a b : ByteArray} (h : a.toList = b.toList) : a.size = b.size := by
  rw [ByteArray.toList_eq, ByteArray.toList_eq] at h
  simpa using congrArg List.length h
theorem bytes_of_lists {a b : ByteArray} (h : a.toList = b.toList) (j : Nat) (hj : j < a.size) : bt a j = bt b j := by
  have hs := size_of_lists h
  have h' := h
  rw [ByteArray.toList_eq, ByteArray.toList_eq] at h'
  rw [bt_list a j hj, bt_list b j (by omega)]
  have h1 : a.data.toList[j]? = b.data.toList[j]? := by rw [h']
  rw [List.getElem?_eq_getElem (by simpa using hj), List.getElem?_eq_getElem (by simpa using (show j < b.size by omega))] at h1
  rw [Option.some.inj h1]
theorem rd_pl (a b : ByteArray) (l : List Nat) (j : Nat) (h : j < l.length) : rd_T23 (l.map (pl a b)) j = pl a b l[j] := by
  unfold rd_T23
  rw [List.getD_eq_getElem?_getD, List.getElem?_map, List.getElem?_eq_getElem (by simpa using h)]; rfl
theorem ahead_some (a b : ByteArray) (i : Nat) (ha : i < a.size) (hb : i < b.size) (hi : i < 1048576) (hne : lineAt a i ≠ lineAt b i) : selvagelaw19_ahead.f a b ((i : Int) + 1) = some true := by
  unfold selvagelaw19_ahead.f
  have hw : wrap64 ((i : Int) + 1 - 1) = (i : Int) := by rw [wrap_in (by omega) (by omega)]; omega
  rw [if_pos (by omega), if_pos (by omega), if_pos (by omega), hw, if_pos (by omega), if_pos (by omega), if_pos (by omega)]
  have : (a.extract 0 ((i : Int)).toNat).toList ≠ (b.extract 0 ((i : Int)).toNat).toList := fun h => hne (lineAt_alike a b i (alike_of_lists (i := i) (by omega) (by omega) h))
  rw [bne_iff_ne.mpr this]
theorem head_alike {a b : ByteArray} {n i : Nat} {r : List Nat} (h : differ a b n = i :: r) : ∀ j : Nat, j < i → bt a j = bt b j := by
  intro j hj
  have hm := differ_mem (show i ∈ differ a b n by rw [h]; simp)
  refine Classical.byContradiction fun hne => ?_
  have hjm : j ∈ differ a b n := by
    unfold differ
    rw [List.mem_filter]
    exact ⟨by simp; omega, by simpa using hne⟩
  have hp := List.Pairwise.filter (fun i : Nat => decide (bt a i ≠ bt b i)) (List.pairwise_lt_range (n := n))
  have hp' : (differ a b n).Pairwise (· < ·) := hp
  rw [h] at hp' hjm
  rcases List.mem_cons.mp hjm with rfl | hx
  · omega
  · have := (List.pairwise_cons.mp hp').1 j hx; omega
theorem first_turn (a b : ByteArray) (hs : min a.size b.size ≤ 1048576) (k : Nat) (hk : 2 * min a.size b.size + 2 ≤ k) : scan_First.f k a b = some (head6 (((differ a b (min a.size b.size)).take 1).map (pl a b)) (endsOf a b)) := by
  rw [first_f a b (by omega) k hk]
  rfl
theorem turns_walk (a b : ByteArray) (w : World) (ha : a.size ≤ 1048576) (hb : b.size ≤ 1048576) :
    Calls Try.prog 6 #[.string a, .string b] w fun e w' => e = .returned (.bool true) ∧ Below w.heap.size w w' := by
  obtain ⟨k, hk⟩ : ∃ k, k = 2 * min a.size b.size + 100 := ⟨_, rfl⟩
  obtain ⟨n, hn⟩ : ∃ n, n = min a.size b.size := ⟨_, rfl⟩
  have hn' : min b.size a.size = n := by omega
  have hd := differ_le a b n
  have e1 : scan_All.f k a b (-1) = some ((differ a b n).map (pl a b)) := by rw [scan_all_f a b (-1) (by omega) (.inl (by omega)) k (by omega), hn]; rfl
  have e2 : scan_All.f k b a (-1) = some ((differ a b n).map (pl b a)) := by
    rw [scan_all_f b a (-1) (by omega) (.inl (by omega)) k (by omega)]
    unfold places
    rw [hn', differ_turn]; rfl
  have f1 : scan_First.f k a b = some (head6 (((differ a b n).take 1).map (pl a b)) (endsOf a b)) := by rw [first_turn a b (by omega) k (by omega), hn]
  have f2 : scan_First.f k b a = some (head6 (((differ a b n).take 1).map (pl b a)) (endsOf b a)) := by rw [first_turn b a (by omega) k (by omega), hn', differ_turn]
  have hsure := Aside0.mk (sure_true k (by omega))
  cases hdd : differ a b n with
  | nil =>
    rw [hdd] at e1 e2 f1 f2
    simp only [List.map_nil, List.take_nil, head6] at e1 e2 f1 f2
    unfold endsOf at f1 f2
    by_cases h1 : a.size < b.size
    · rw [if_pos (by omega)] at f1
      rw [if_neg (by omega), if_pos (by omega)] at f2
      refine turns_none_1 k a b w ⟨e1⟩ ⟨e2⟩ ⟨f1⟩ ⟨f2⟩ (beq_eq_false_iff_ne.mpr fun h => ?_) hsure
      have := size_of_lists h; omega
    · by_cases h2 : b.size < a.size
      · rw [if_neg (by omega), if_pos (by omega)] at f1
        rw [if_pos (by omega)] at f2
        refine turns_none_2 k a b w ⟨e1⟩ ⟨e2⟩ ⟨f1⟩ ⟨f2⟩ (beq_eq_false_iff_ne.mpr fun h => ?_) hsure
        have := size_of_lists h; omega
      · rw [if_neg (by omega), if_neg (by omega)] at f1 f2
        refine turns_none_0 k a b w ⟨e1⟩ ⟨e2⟩ ⟨f1⟩ ⟨f2⟩ (beq_iff_eq.mpr (eq_of_bytes (by omega) fun j hj => ?_)) hsure
        refine Classical.byContradiction fun hne => ?_
        have hjm : j ∈ differ a b n := by
          unfold differ
          rw [List.mem_filter]
          exact ⟨by simp; omega, by simpa using hne⟩
        rw [hdd] at hjm
        simp at hjm
  | cons i r =>
    have hi := differ_mem (show i ∈ differ a b n by rw [hdd]; simp)
    have hal := lineAt_alike a b i (head_alike hdd)
    have hne : (a.toList == b.toList) = false := beq_eq_false_iff_ne.mpr fun h => hi.2 (bytes_of_lists h i (by omega))
    have g1 : ∀ e, head6 (((differ a b n).take 1).map (pl a b)) e = ((pl a b i).f0, (pl a b i).f1, (pl a b i).f2, (pl a b i).f3, true, e) := fun e => by rw [hdd]; rfl
    have g2 : ∀ e, head6 (((differ a b n).take 1).map (pl b a)) e = ((pl a b i).f0, (pl a b i).f1, (pl a b i).f3, (pl a b i).f2, true, e) := fun e => by
      rw [hdd]
      simp only [List.take_succ_cons, List.take_zero, List.map_cons, List.map_nil, head6, pl]
      rw [hal]
    rw [g1] at f1
    rw [g2] at f2
    have hlp : 0 < (differ a b n).length := by rw [hdd]; simp
    have hx := rd_pl a b (differ a b n) 0 hlp
    rw [show (differ a b n)[0] = i from by simp [hdd]] at hx
    have hrow : ∀ j : Nat, j < ((differ a b n).map (pl a b)).length → ∃ p0 p1 p2 p3 q : Int, rd_T23 ((differ a b n).map (pl a b)) j = ⟨p0, p1, p2, p3⟩ ∧ rd_T23 ((differ a b n).map (pl b a)) j = ⟨p0, q, p3, p2⟩ ∧ (q = p1 ∨ ((p1 != q) = true ∧ selvagelaw19_ahead.f a b p0 = some true)) := by
      intro j hj
      rw [List.length_map] at hj
      have hm := differ_mem (List.getElem_mem hj)
      refine ⟨_, _, _, _, lineAt b (differ a b n)[j], rd_pl a b _ j hj, rd_pl b a _ j hj, ?_⟩
      by_cases hq : lineAt a (differ a b n)[j] = lineAt b (differ a b n)[j]
      · exact .inl hq.symm
      · exact .inr ⟨bne_iff_ne.mpr hq, ahead_some a b _ (by omega) (by omega) (by omega) hq⟩
    have hlen : ((((differ a b n).map (pl a b)).length : Int) != (((differ a b n).map (pl b a)).length : Int)) = false := by simp
    have hpos : decide (0 < (((differ a b n).map (pl a b)).length : Int)) = true := decide_eq_true (by rw [List.length_map]; omega)
    unfold endsOf at f1 f2
    by_cases h1 : a.size < b.size
    · rw [if_pos (by omega)] at f1
      rw [if_neg (by omega), if_pos (by omega)] at f2
      exact turns_some_1 k a b _ _ (pl a b i) w ⟨e1⟩ ⟨e2⟩ ⟨f1⟩ ⟨f2⟩ ⟨hx⟩ hlen hpos (by rw [List.length_map]; exact hlp) hne (by rw [List.length_map]; omega) ⟨hrow⟩ (by simp) hsure
    · by_cases h2 : b.size < a.size
      · rw [if_neg (by omega), if_pos (by omega)] at f1
        rw [if_pos (by omega)] at f2
        exact turns_some_2 k a b _ _ (pl a b i) w ⟨e1⟩ ⟨e2⟩ ⟨f1⟩ ⟨f2⟩ ⟨hx⟩ hlen hpos (by rw [List.length_map]; exact hlp) hne (by rw [List.length_map]; omega) ⟨hrow⟩ (by simp) hsure
      · rw [if_neg (by omega), if_neg (by omega)] at f1 f2
        exact turns_some_0 k a b _ _ (pl a b i) w ⟨e1⟩ ⟨e2⟩ ⟨f1⟩ ⟨f2⟩ ⟨hx⟩ hlen hpos (by rw [List.length_map]; exact hlp) hne (by rw [List.length_map]; omega) ⟨hrow⟩ (by simp) hsure

end Go.Proofs.Ytnfhmfeobolceaa.Pure
