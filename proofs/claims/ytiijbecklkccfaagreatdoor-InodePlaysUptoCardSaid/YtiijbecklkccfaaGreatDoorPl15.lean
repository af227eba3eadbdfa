/- Merged out of these texts: RTab, RUsed, RefBelow, KeepsF, RRow. -/
import Derived.Test.YtiijbecklkccfaaGreatDoorPl14
import Derived.BigQuiet
import Derived.Test.YtiijbecklkccfaaGreatDoorPl6
import Derived.Test.YtiijbecklkccfaaGreatDoorPl8
import Derived.Test.YtiijbecklkccfaaGreatDoorPl12
/- The reference's tables: find, at. -/
namespace Go.Proofs.YtiijbecklkccfaaGreatDoor.I
open Go.RowKit Go.Proofs.YtiijbecklkccfaaGreatDoor.B Go.Sort
set_option linter.unusedVariables false
def findI (E : List Ent) (s : ByteArray) : Nat := E.findIdx fun x => decide (x.1 = s)
/-- The reference's find: the index. -/
def findV (E : List Ent) (s : ByteArray) : Int := if findI E s < E.length then (findI E s : Int) else -1
theorem ba_eqs (a b : ByteArray) : (a.toList == b.toList) = decide (a = b) := by
  rw [ba_tests, ByteArray.toList_eq]
  by_cases h : a = b
  · rw [decide_eq_true h, decide_eq_true (by rw [h])]
  · rw [decide_eq_false h, decide_eq_false (fun e => h (ByteArray.ext (Array.toList_inj.1 e)))]
theorem size_tab (a b c : Value) : (Tryz.prog.info? 56).map (·.size) = some (#[a, b, c]).size := by kernel_rfl
set_option maxRecDepth 100000 in
set_option maxHeartbeats 16000000 in
theorem find_calls (A : Option Addr) (N c : Nat) (bb nn : Int) (E : List Ent) (s : ByteArray) (w : World) (hE : EntL w (.slice A N c) E) (hN : E.length = N) (hNz : N ≤ 1048576) :
    Calls Tryz.prog 89 #[.agg #[.slice A N c, .int .i64 bb, .int .i64 nn], .string s] w fun e w' => e = .returned (.int .i64 (findV E s)) ∧ Chg [] w w' := by
  obtain ⟨w0, hw0⟩ : ∃ W, w.alloc (.cells #[.slice A N c, .int .i64 bb, .int .i64 nn] 56) = W := ⟨_, rfl⟩
  have HC := Asd.mk (show Chg [] w w0 by rw [← hw0]; exact (Chg.refl _ _).alloc _)
  have hB : w0.heap[w.heap.size]? = some (.cells #[.slice A N c, .int .i64 bb, .int .i64 nn] 56 (0, 0)) := by rw [← hw0]; exact hp_new _ _
  have HE := Asd.mk (hE.chg HC.out)
  have HN := Asd.mk hN
  have b0 := cell_of_heap hB 0
  clear hE hB hN
  (go_enter Tryz.func89, Tryz.ntmps89)
  go_wp2
  obtain ⟨B, hBq⟩ : ∃ B, w.heap.size = B := ⟨_, rfl⟩
  rw [hBq] at b0 ⊢
  clear hBq hw0
  go_loopg [5] (N + 1) (fun gk v5 wx => w0 = wx ∧ ∃ i : Nat, i ≤ N ∧ gk = N + 1 - i ∧ v5 = .int .i64 (i : Int) ∧ Asd (∀ j, (h : j < E.length) → j < i → (E[j]'h).1 ≠ s))
  case atStart => exact ⟨rfl, 0, by omega, rfl, rfl, ⟨fun j _ hj => by omega⟩⟩
  case round =>
    obtain ⟨rfl, i, hi, rfl, rfl, HJ⟩ := hrel
    by_cases hlt : i < N
    · have k1 : (i : Int) < (N : Int) := by omega
      have hil : i < E.length := by rw [HN.out]; exact hlt
      obtain ⟨g, rfl, c0, c1, c2⟩ := ent_cells HE.out hil
      obtain ⟨P, hP⟩ : ∃ P, (E[i]'hil).1 = P := ⟨_, rfl⟩
      rw [hP] at c0
      have t1 := ba_eqs P s
      clear c1 c2
      by_cases hs : P = s
      · have HR := Asd.mk (show findV E s = (i : Int) by
          have : findI E s = i := (List.findIdx_eq hil).2 ⟨by rw [decide_eq_true_eq]; exact hP.trans hs, fun j hj => by rw [decide_eq_false_iff_not]; exact HJ.out j (by omega) hj⟩
          unfold findV
          rw [this, if_pos hil])
        rw [decide_eq_true hs] at t1
        clear hs hP hil HJ
        go_wp2
        go_ret
        exact ⟨by rw [HR.out]; rfl, HC.out⟩
      · rw [decide_eq_false hs] at t1
        have HJ2 := Asd.mk (show ∀ j, (h : j < E.length) → j < i + 1 → (E[j]'h).1 ≠ s from fun j h hj => by
          rcases Nat.lt_or_ge j i with h1 | h1
          · exact HJ.out j h h1
          · obtain rfl : j = i := by omega
            rw [hP]; exact hs)
        clear hs hP hil HJ
        go_wp2
        go_roundg (N + 1 - (i + 1))
        case rel => exact ⟨rfl, i + 1, by omega, by omega, by go_num, HJ2⟩
        case measure => omega
    · have k1 : ¬ (i : Int) < (N : Int) := by omega
      have HR := Asd.mk (show findV E s = -1 by
        have : findI E s = E.length := List.findIdx_eq_length.2 fun x hx => by
          obtain ⟨j, hj, rfl⟩ := List.getElem_of_mem hx
          rw [decide_eq_false_iff_not]
          exact HJ.out j hj (by have := HN.out; omega)
        unfold findV
        rw [this, if_neg (by omega)])
      clear HJ
      go_wp2
      go_ret
      exact ⟨by rw [HR.out]; rfl, HC.out⟩
theorem start1 (w : World) (cs : Array Value) (T : TypeId) : ∃ w0, w.alloc (.cells cs T) = w0 ∧ Chg [] w w0 ∧ w0.heap[w.heap.size]? = some (.cells cs T (0, 0)) := ⟨_, rfl, (Chg.refl _ _).alloc _, hp_new _ _⟩
/-- The reference's at. -/
def atR (E : List Ent) (s : ByteArray) : Ent := if s = ⟨#[]⟩ then (⟨#[]⟩, 2, ⟨#[]⟩) else (E[findI E s]?).getD (⟨#[]⟩, 0, ⟨#[]⟩)
set_option maxRecDepth 100000 in
set_option maxHeartbeats 16000000 in
theorem at20_calls (A : Option Addr) (N c : Nat) (bb nn : Int) (E : List Ent) (s : ByteArray) (w : World) (hE : EntL w (.slice A N c) E) (hN : E.length = N) (hNz : N ≤ 1048576) :
    Calls Tryz.prog 72 #[.agg #[.slice A N c, .int .i64 bb, .int .i64 nn], .string s] w fun e w' => e = .returned (.agg (entC (atR E s))) ∧ Chg [] w w' := by
  obtain ⟨wa, hwa, hCa, hA1⟩ := start1 w #[.slice A N c, .int .i64 bb, .int .i64 nn] 56
  obtain ⟨w0, hw0, hCb, hD⟩ := start1 wa #[.string ⟨#[]⟩, .int .i64 0, .string ⟨#[]⟩] 41
  have HC := Asd.mk (hCa.trans hCb)
  have hB := hCb.heap hA1 (by simp)
  have HE := Asd.mk (hE.chg HC.out)
  have HN := Asd.mk hN
  have HF := Asd.mk (find_calls A N c bb nn E s w0 HE.out hN hNz)
  have HD := Asd.mk hD
  have HDw := Asd.mk (show ¬ wa.heap.size < w.heap.size by have := hCa.size; omega)
  have HB := Asd.mk hB
  have b0 := cell_of_heap hB 0
  have b1 := cell_of_heap hB 1
  have b2 := cell_of_heap hB 2
  have t1 := ba_tests s []
  clear hE hB hN hA1 hD hCa hCb
  by_cases hs : s = ⟨#[]⟩
  · have HA := Asd.mk (show atR E s = (⟨#[]⟩, 2, ⟨#[]⟩) by unfold atR; rw [if_pos hs])
    rw [decide_eq_true (by rw [hs])] at t1
    have HD1 := HD
    clear hs HF HE HN
    (go_enter Tryz.func72, Tryz.ntmps72)
    go_wp2_with (first | (refine wpList_store_row (o := ⟨none, _, _, _, _, _⟩) rfl 41 (.tmp 4) (.tmp 8) rfl wa.heap.size _ rfl rfl 41 _ HD1.out (size_entry _ _ _) rfl (one_entry _ _ _) ?_))
    refine bodyPost_ret (results_cell_row rfl _ _ wa.heap.size 41 _ (0, 0) _ rfl (setRow_heap _ _ _ _ _ _ HD1.out) Tryz.underlying41 rfl (size_entry _ _ _)) rfl ?_
    exact ⟨by rw [HA.out]; rfl, HC.out.setRow (fun h => absurd h HDw.out) _⟩
  · have hs2 : s.data.toList ≠ [] := fun e => hs (ByteArray.ext (Array.toList_inj.1 e))
    have HA := Asd.mk (show atR E s = (E[findI E s]?).getD (⟨#[]⟩, 0, ⟨#[]⟩) by unfold atR; rw [if_neg hs])
    rw [decide_eq_false hs2] at t1
    clear hs hs2
    (go_enter Tryz.func72, Tryz.ntmps72)
    go_wp2_with fail
    refine HF.out.mono ?_
    rintro e w1 ⟨rfl, hC⟩
    have HC1 := Asd.mk (HC.out.trans hC)
    have HE1 := Asd.mk (HE.out.chg hC)
    have HD1 := Asd.mk (hC.heap HD.out (by simp))
    have hB1 := hC.heap HB.out (by simp)
    have b0 := cell_of_heap hB1 0
    clear hC HC HE HD HB b1 b2 hB1 HF hwa hw0
    by_cases hf : findI E s < E.length
    · obtain ⟨i, hi⟩ : ∃ i, findI E s = i := ⟨_, rfl⟩
      have hv : findV E s = (i : Int) := by unfold findV; rw [if_pos hf, hi]
      rw [hi] at hf
      have HA2 := Asd.mk (show atR E s = E[i]'hf by rw [HA.out, hi, List.getElem?_eq_getElem hf]; rfl)
      rw [hv]
      have k1 : ¬ (i : Int) < 0 := by omega
      have k2 : (0 : Int) ≤ (i : Int) := by omega
      have k3 : (i : Int) < (N : Int) := by have := HN.out; omega
      obtain ⟨g, rfl, c0, c1, c2⟩ := ent_cells HE1.out hf
      obtain ⟨P, kd, Z, hx⟩ : ∃ P kd Z, E[i]'hf = (P, kd, Z) := ⟨_, _, _, rfl⟩
      rw [hx] at c0 c1 c2 HA2
      clear hi hv hf hx HE1 HN HA
      go_wp2_with (first | (refine wpList_store_row (o := ⟨none, _, _, _, _, _⟩) rfl 41 (.tmp 4) (.tmp 19) rfl wa.heap.size _ rfl rfl 41 _ HD1.out (size_entry _ _ _) rfl (one_entry _ _ _) ?_))
      refine bodyPost_ret (results_cell_row rfl _ _ wa.heap.size 41 _ (0, 0) _ rfl (setRow_heap _ _ _ _ _ _ HD1.out) Tryz.underlying41 rfl (size_entry _ _ _)) rfl ?_
      exact ⟨by rw [HA2.out]; rfl, HC1.out.setRow (fun h => absurd h HDw.out) _⟩
    · have hv : findV E s = -1 := by unfold findV; rw [if_neg hf]
      have HA2 := Asd.mk (show atR E s = (⟨#[]⟩, 0, ⟨#[]⟩) by rw [HA.out, List.getElem?_eq_none (by omega)]; rfl)
      rw [hv]
      clear hv hf HE1 HN HA
      go_wp2_with (first | (refine wpList_store_row (o := ⟨none, _, _, _, _, _⟩) rfl 41 (.tmp 4) (.tmp 14) rfl wa.heap.size _ rfl rfl 41 _ HD1.out (size_entry _ _ _) rfl (one_entry _ _ _) ?_))
      refine bodyPost_ret (results_cell_row rfl _ _ wa.heap.size 41 _ (0, 0) _ rfl (setRow_heap _ _ _ _ _ _ HD1.out) Tryz.underlying41 rfl (size_entry _ _ _)) rfl ?_
      exact ⟨by rw [HA2.out]; rfl, HC1.out.setRow (fun h => absurd h HDw.out) _⟩
end Go.Proofs.YtiijbecklkccfaaGreatDoor.I
/- The reference's Used, room. -/
namespace Go.Proofs.YtiijbecklkccfaaGreatDoor.I
open Go.RowKit Go.Proofs.YtiijbecklkccfaaGreatDoor.B Go.Sort
set_option linter.unusedVariables false
/-- The bytes of all texts. -/
def sumE (E : List Ent) : Nat := (E.map fun x => x.2.2.size).sum
theorem sumE_take (E : List Ent) {i : Nat} (hi : i < E.length) : sumE (E.take (i + 1)) = sumE (E.take i) + (E[i]'hi).2.2.size := by
  unfold sumE
  rw [List.take_succ_eq_append_getElem hi, List.map_append, List.sum_append]
  simp
theorem sumE_le (E : List Ent) (i : Nat) : sumE (E.take i) ≤ sumE E := by
  conv => rhs; rw [← List.take_append_drop i E]
  unfold sumE
  rw [List.map_append, List.sum_append]
  omega
set_option maxRecDepth 100000 in
set_option maxHeartbeats 16000000 in
theorem used20_calls (A : Option Addr) (N c : Nat) (bb nn : Int) (E : List Ent) (w : World) (hE : EntL w (.slice A N c) E) (hN : E.length = N) (hNz : N ≤ 1048576) (hz : sumE E ≤ 4294967280) :
    Calls Tryz.prog 50 #[.agg #[.slice A N c, .int .i64 bb, .int .i64 nn]] w fun e w' => e = .returned (.tuple #[.int .i64 (sumE E : Int), .int .i64 (N : Int)]) ∧ Chg [] w w' := by
  obtain ⟨w0, hw0, hC, hB⟩ := start1 w #[.slice A N c, .int .i64 bb, .int .i64 nn] 56
  have HC := Asd.mk hC
  have HE := Asd.mk (hE.chg HC.out)
  have HN := Asd.mk hN
  have b0 := cell_of_heap hB 0
  clear hE hB hN hC
  (go_enter Tryz.func50, Tryz.ntmps50)
  go_wp2
  obtain ⟨B, hBq⟩ : ∃ B, w.heap.size = B := ⟨_, rfl⟩
  rw [hBq] at b0 ⊢
  clear hBq hw0
  go_loopg [4, 5] (N + 1) (fun gk v4 v5 wx => w0 = wx ∧ ∃ i m : Nat, i ≤ N ∧ gk = N + 1 - i ∧ v4 = .int .i64 (m : Int) ∧ v5 = .int .i64 (i : Int) ∧ Asd (m = sumE (E.take i)))
  case atStart => exact ⟨rfl, 0, 0, by omega, rfl, rfl, rfl, ⟨rfl⟩⟩
  case round =>
    obtain ⟨rfl, i, m, hi, rfl, rfl, rfl, HS⟩ := hrel
    by_cases hlt : i < N
    · have k1 : (i : Int) < (N : Int) := by omega
      have hil : i < E.length := by rw [HN.out]; exact hlt
      obtain ⟨g, rfl, c0, c1, c2⟩ := ent_cells HE.out hil
      obtain ⟨P, hP⟩ : ∃ P, (E[i]'hil).2.2 = P := ⟨_, rfl⟩
      have hs := sumE_take E hil
      have hm := sumE_le E (i + 1)
      rw [hP] at c2 hs
      rw [← HS.out] at hs
      have HS2 := Asd.mk hs.symm
      have hmb : m + P.size ≤ 4294967280 := by omega
      clear c0 c1 hs hP hil HS hm
      go_wp2
      go_roundg (N + 1 - (i + 1))
      case rel => exact ⟨rfl, i + 1, m + P.size, by omega, by omega, by go_num, by go_num, HS2⟩
      case measure => omega
    · have k1 : ¬ (i : Int) < (N : Int) := by omega
      have HR := Asd.mk (show m = sumE E by rw [HS.out, List.take_of_length_le (by have := HN.out; omega)])
      clear HS
      go_wp2
      go_quiet (fail)
      go_wp2
      go_ret2
      exact ⟨by rw [← HR.out]; rfl, HC.out.drewN _⟩
set_option maxRecDepth 100000 in
set_option maxHeartbeats 16000000 in
theorem room20_calls (A : Option Addr) (N c : Nat) (bb nn x y : Nat) (E : List Ent) (w : World) (hE : EntL w (.slice A N c) E) (hN : E.length = N) (hNz : N ≤ nn) (hz : sumE E ≤ bb) (hb : bb ≤ 2147483647) (hnn : nn ≤ 65536) (hx : x ≤ 4294967280) (hy : y ≤ 1) :
    Calls Tryz.prog 73 #[.agg #[.slice A N c, .int .i64 (bb : Int), .int .i64 (nn : Int)], .int .i64 (x : Int), .int .i64 (y : Int)] w fun e w' => e = .returned (.bool (decide (sumE E + x ≤ bb ∧ N + y ≤ nn))) ∧ Chg [] w w' := by
  obtain ⟨w0, hw0, hC, hB⟩ := start1 w #[.slice A N c, .int .i64 (bb : Int), .int .i64 (nn : Int)] 56
  have HC := Asd.mk hC
  have HU := Asd.mk (used20_calls A N c bb nn E w0 (hE.chg HC.out) hN (by omega) (by omega))
  have HB := Asd.mk hB
  have b0 := cell_of_heap hB 0
  have b1 := cell_of_heap hB 1
  have b2 := cell_of_heap hB 2
  obtain ⟨S, hS⟩ : ∃ S, sumE E = S := ⟨_, rfl⟩
  rw [hS] at HU hz ⊢
  obtain ⟨R, hR⟩ : ∃ R, decide (S + x ≤ bb ∧ N + y ≤ nn) = R := ⟨_, rfl⟩
  rw [hR]
  have HR := Asd.mk hR
  clear hE hB hN hC hS hR
  (go_enter Tryz.func73, Tryz.ntmps73)
  go_wp2_with fail
  refine HU.out.mono ?_
  rintro e w1 ⟨rfl, hC⟩
  have HC1 := Asd.mk (HC.out.trans hC)
  have hB1 := hC.heap HB.out (by simp)
  have b1 := cell_of_heap hB1 1
  have b2 := cell_of_heap hB1 2
  clear hC HC HU HB hB1 b0 hw0
  by_cases h1 : S + x ≤ bb
  · have k1 : (x : Int) ≤ (bb : Int) - (S : Int) := by omega
    by_cases h2 : N + y ≤ nn
    · have k2 : (y : Int) ≤ (nn : Int) - (N : Int) := by omega
      have HR2 := Asd.mk (show R = true by rw [← HR.out]; exact decide_eq_true (And.intro h1 h2))
      clear HR
      go_wp2
      go_ret
      exact ⟨by rw [HR2.out]; rfl, HC1.out⟩
    · have k2 : decide ((y : Int) ≤ (nn : Int) - (N : Int)) = false := decide_eq_false (by omega)
      have HR2 := Asd.mk (show R = false by rw [← HR.out]; exact decide_eq_false (fun h => h2 h.2))
      clear HR
      go_wp2
      go_ret
      exact ⟨by rw [HR2.out]; rfl, HC1.out⟩
  · have k1 : ¬ (x : Int) ≤ (bb : Int) - (S : Int) := by omega
    have HR2 := Asd.mk (show R = false by rw [← HR.out]; exact decide_eq_false (fun h => h1 h.1))
    clear HR
    go_wp2
    go_ret
    exact ⟨by rw [HR2.out]; rfl, HC1.out⟩
end Go.Proofs.YtiijbecklkccfaaGreatDoor.I
/- The reference's Below (layer 3): the walk. -/
namespace Go.Proofs.YtiijbecklkccfaaGreatDoor.I
open Go.RowKit Go.Proofs.YtiijbecklkccfaaGreatDoor.B Go.Sort
set_option linter.unusedVariables false
theorem pre_slash {a b : ByteArray} : Lib.hasPrefix b.data.toList (a ++ ⟨#[47]⟩).data.toList = true ↔ ∃ h : a.size < b.size, (b.extract 0 a.size).data.toList = a.data.toList ∧ b[a.size] = 47 := by
  have ha := list_size a
  have hb := list_size b
  unfold Lib.hasPrefix
  rw [ByteArray.data_append, Array.toList_append, List.isPrefixOf_iff_prefix]
  constructor
  · rintro ⟨t, ht⟩
    have hlen := congrArg List.length ht
    simp only [List.length_append, List.length_cons, List.length_nil] at hlen
    have hlt : a.size < b.size := by omega
    refine ⟨hlt, ?_, ?_⟩
    · rw [toList_extract, List.drop_zero, Nat.sub_zero, ← ht, List.append_assoc, ← ha, List.take_left]
    · have h1 := list_get hlt
      rw [← ht, List.append_assoc, List.getElem?_append_right (by omega), ha, Nat.sub_self] at h1
      simp at h1
      exact h1.symm
  · rintro ⟨hlt, h1, h2⟩
    rw [toList_extract, List.drop_zero, Nat.sub_zero] at h1
    refine ⟨b.data.toList.drop (a.size + 1), ?_⟩
    have hl : a.size < b.data.toList.length := by omega
    have h3 : b.data.toList.drop a.size = 47 :: b.data.toList.drop (a.size + 1) := by
      rw [List.drop_eq_getElem_cons hl]
      congr 1
    calc a.data.toList ++ [47] ++ b.data.toList.drop (a.size + 1) = a.data.toList ++ b.data.toList.drop a.size := by rw [h3]; simp
      _ = b.data.toList.take a.size ++ b.data.toList.drop a.size := by rw [h1]
      _ = _ := List.take_append_drop _ _
set_option maxRecDepth 100000 in
set_option maxHeartbeats 16000000 in
theorem refbelow_calls (a b : ByteArray) (w : World) (ha : a.size ≤ 4294967280) (hb : b.size ≤ 4294967280) : Calls Tryz.prog 16 #[.string a, .string b] w fun e w' => e = .returned (.bool (belowB a b)) ∧ w' = w := by
  have t1 := ba_tests a []
  by_cases h1 : a.data.toList = []
  · rw [show belowB a b = true by unfold belowB; rw [ByteArray.toList_eq, h1]; rfl]
    rw [decide_eq_true h1] at t1
    clear h1
    (go_enter Tryz.func16, Tryz.ntmps16)
    go_wp2
    go_ret
    exact ⟨rfl, rfl⟩
  · rw [decide_eq_false h1] at t1
    have te : a.toList.isEmpty = false := by rw [ByteArray.toList_eq]; exact Bool.eq_false_iff.2 fun h => h1 (List.isEmpty_iff.1 h)
    cases t2 : (b.toList == a.toList) with
    | true =>
      rw [show belowB a b = true by unfold belowB; rw [t2]; simp]
      clear h1 te
      (go_enter Tryz.func16, Tryz.ntmps16)
      go_wp2
      go_ret
      exact ⟨rfl, rfl⟩
    | false =>
      rw [show belowB a b = Lib.hasPrefix b.data.toList (a ++ ⟨#[47]⟩).data.toList by unfold belowB; rw [te, t2]; rfl]
      by_cases h3 : a.size < b.size
      · have k1 : (a.size : Int) < (b.size : Int) := by omega
        have hx : ((b.extract 0 a.size).toList == a.toList) = decide ((b.extract 0 a.size).data.toList = a.data.toList) := by
          rw [ByteArray.toList_eq a]; exact ba_tests _ _
        by_cases h4 : (b.extract 0 a.size).data.toList = a.data.toList
        · rw [decide_eq_true h4] at hx
          by_cases h5 : b[a.size] = 47
          · rw [pre_slash.2 ⟨h3, h4, h5⟩]
            have t5 : (((b[a.size].toNat : Nat) : Int) == 47) = true := by rw [h5]; rfl
            clear h1 te h4 h5
            (go_enter Tryz.func16, Tryz.ntmps16)
            go_wp2
            go_ret
            exact ⟨rfl, rfl⟩
          · rw [show Lib.hasPrefix b.data.toList (a ++ ⟨#[47]⟩).data.toList = false from Bool.eq_false_iff.2 fun h => h5 (pre_slash.1 h).2.2]
            have t5 : (((b[a.size].toNat : Nat) : Int) == 47) = false := by
              refine beq_eq_false_iff_ne.2 fun h => h5 ?_
              apply UInt8.toNat_inj.1
              have : b[a.size].toNat = 47 := by omega
              rw [this]; rfl
            clear h1 te h4 h5
            (go_enter Tryz.func16, Tryz.ntmps16)
            go_wp2
            go_ret
            exact ⟨rfl, rfl⟩
        · rw [show Lib.hasPrefix b.data.toList (a ++ ⟨#[47]⟩).data.toList = false from Bool.eq_false_iff.2 fun h => h4 (pre_slash.1 h).2.1]
          rw [decide_eq_false h4] at hx
          clear h1 te h4
          (go_enter Tryz.func16, Tryz.ntmps16)
          go_wp2
          go_ret
          exact ⟨rfl, rfl⟩
      · have k1 : ¬ (a.size : Int) < (b.size : Int) := by omega
        rw [show Lib.hasPrefix b.data.toList (a ++ ⟨#[47]⟩).data.toList = false from Bool.eq_false_iff.2 fun h => h3 (pre_slash.1 h).1]
        clear h1 te h3
        (go_enter Tryz.func16, Tryz.ntmps16)
        go_wp2
        go_ret
        exact ⟨rfl, rfl⟩
end Go.Proofs.YtiijbecklkccfaaGreatDoor.I
/- What InodeKeeps asks of a tree: plain. -/
namespace Go.Proofs.YtiijbecklkccfaaGreatDoor.I
open Go.RowKit Go.Proofs.YtiijbecklkccfaaGreatDoor.B Go.Sort
set_option linter.unusedVariables false
/-- The whole tree. -/
def treeF0 (fs : FS) : List Ent := treeL fs 65 []
theorem below_prefix {p q : Pth} (hp : p ≠ []) (hop : okP p) (hoq : okP q) (h : belowB (tx p) (tx q) = true) : p <+: q := by
  have hpt := parts_tx hp hop
  by_cases hq : q = []
  · subst hq
    exfalso
    unfold belowB at h
    rw [Bool.or_eq_true, Bool.or_eq_true] at h
    rcases h with (h | h) | h
    · rw [ByteArray.toList_eq, List.isEmpty_iff] at h
      have : tx p = ⟨#[]⟩ := by have := congrArg nb h; rw [nb_list] at this; exact this
      exact tx_ne hp hop this
    · have := ba_eq (beq_iff_eq.1 h)
      exact tx_ne hp hop this.symm
    · obtain ⟨h1, _⟩ := pre_slash.1 h
      have : (tx []).size = 0 := rfl
      omega
  · unfold belowB at h
    rw [Bool.or_eq_true, Bool.or_eq_true] at h
    rcases h with (h | h) | h
    · rw [ByteArray.toList_eq, List.isEmpty_iff] at h
      have : tx p = ⟨#[]⟩ := by have := congrArg nb h; rw [nb_list] at this; exact this
      exact absurd this (tx_ne hp hop)
    · have e := ba_eq (beq_iff_eq.1 h)
      have hqt := parts_tx hq hoq
      rw [e, hpt] at hqt
      cases hqt
      exact List.prefix_refl _
    · unfold Lib.hasPrefix at h
      rw [List.isPrefixOf_iff_prefix] at h
      obtain ⟨t, ht⟩ := h
      rw [ByteArray.data_append, Array.toList_append, tx_list, tx_list] at ht
      have hs := spL_join_all 47 hq (ok_slash hoq.2.2)
      rw [← ht, List.append_assoc] at hs
      have e : spL 47 (joinL 47 p ++ ([47] ++ t)) = spL 47 (joinL 47 p) ++ spL 47 t := spL_join 47 (joinL 47 p) t
      have hs2 : spL 47 (joinL 47 p) ++ spL 47 t = q := by rw [← e]; exact hs
      rw [spL_join_all 47 hp (ok_slash hop.2.2)] at hs2
      exact ⟨_, hs2⟩
theorem ok_at {fs : FS} (hg : FsOk fs) {p : Pth} (h : fs.at p ≠ none) : okP p := by
  cases hx : fs.at p with
  | none => exact absurd hx h
  | some x => exact hg.okp p x hx
/-- What stands behind what is no directory is not below it. -/
theorem tree_next {fs : FS} (hg : FsOk fs) {k : Nat} (hk : k + 1 < (pathsL fs 65 []).length) (hn : (entF fs ((pathsL fs 65 [])[k]'(by omega))).2.1 ≠ 2) : belowB (tx ((pathsL fs 65 [])[k]'(by omega))) (tx ((pathsL fs 65 [])[k + 1]'hk)) = false := by
  obtain ⟨a, ha⟩ : ∃ a, (pathsL fs 65 [])[k]'(by omega) = a := ⟨_, rfl⟩
  obtain ⟨b, hb⟩ : ∃ b, (pathsL fs 65 [])[k + 1]'hk = b := ⟨_, rfl⟩
  have ma : a ∈ pathsL fs 65 [] := by rw [← ha]; exact List.getElem_mem _
  have mb : b ∈ pathsL fs 65 [] := by rw [← hb]; exact List.getElem_mem _
  have hne : a ≠ b := by
    rw [← ha, ← hb]
    exact List.pairwise_iff_getElem.1 (paths_nodup hg.nodup 65 []) k (k + 1) (by omega) hk (by omega)
  have hr : fs.at [] ≠ none := by rw [at_root]; simp
  have aa := paths_at hr ma
  have ab := paths_at hr mb
  rw [ha] at hn
  rw [ha, hb]
  apply Bool.eq_false_iff.2
  intro h
  have ha0 : a ≠ [] := by
    rintro rfl
    apply hn
    unfold entF
    rw [at_root]; rfl
  obtain ⟨s, hs⟩ := below_prefix ha0 (ok_at hg aa) (ok_at hg ab) h
  have hs0 : s ≠ [] := by
    rintro rfl
    rw [List.append_nil] at hs
    exact hne hs
  rw [← hs] at ab
  obtain ⟨y, hy1, hy2⟩ := hg.prefix ab hs0
  apply hn
  unfold entF
  rw [hy1]
  exact hy2
theorem sum_perm {l m : List Nat} (h : l.Perm m) : l.sum = m.sum := by
  induction h with
  | nil => rfl
  | cons x _ ih => simp [ih]
  | swap x y l => simp; omega
  | trans _ _ h1 h2 => exact h1.trans h2
/-- The bytes of all texts are what is taken. -/
theorem tree_sum {fs : FS} (hg : FsOk fs) : ((treeF0 fs).map fun x => x.2.2.size).sum = usedF fs := by
  unfold treeF0 treeL
  rw [List.map_map]
  have h1 := sum_perm ((paths_perm hg).map ((fun x : Ent => x.2.2.size) ∘ entF fs))
  rw [h1, List.map_cons, List.sum_cons, List.map_map]
  have h0 : ((fun x : Ent => x.2.2.size) ∘ entF fs) [] = 0 := by
    show ((fs.at []).getD rootN).text.size = 0
    rw [at_root]; rfl
  rw [h0, Nat.zero_add]
  unfold usedF
  congr 1
  refine List.map_congr_left fun y hy => ?_
  show ((fs.at y.1).getD rootN).text.size = y.2.text.size
  rw [at_ne fs (hg.ne y hy), mem_lookup hg.nodup hy]
  rfl
theorem tree_count {fs : FS} (hg : FsOk fs) : (treeF0 fs).length = fs.length + 1 := by
  unfold treeF0 treeL
  rw [List.length_map, (paths_perm hg).length_eq]
  simp
end Go.Proofs.YtiijbecklkccfaaGreatDoor.I
/- The reference's tables as rows of a file system: what is asked of them. Plain. -/
namespace Go.Proofs.YtiijbecklkccfaaGreatDoor.I
open Go.RowKit Go.Proofs.YtiijbecklkccfaaGreatDoor.B Go.Sort
set_option linter.unusedVariables false
def keepE (E : List Ent) (s : ByteArray) : List Ent := E.filter fun y => decide (y.1 ≠ s)
def withE (E : List Ent) (s : ByteArray) (x : Ent) : List Ent := keepE E s ++ (if x.2.1 = 0 then [] else [(s, x.2.1, x.2.2)])
theorem keep_take (E : List Ent) (s : ByteArray) {i : Nat} (hi : i < E.length) : keepE (E.take (i + 1)) s = keepE (E.take i) s ++ (if (E[i]'hi).1 ≠ s then [E[i]'hi] else []) := by
  unfold keepE
  rw [List.take_succ_eq_append_getElem hi, List.filter_append]
  congr 1
  by_cases h : (E[i]'hi).1 = s
  · rw [List.filter_cons_of_neg (by simp [h]), if_neg (by simp [h])]; rfl
  · rw [List.filter_cons_of_pos (by simp [h]), if_pos h]; rfl
theorem keep_len (E : List Ent) (s : ByteArray) : (keepE E s).length ≤ E.length := List.length_filter_le _ _
/-- The row of a file system. -/
def entR (x : Pth × Nd) : Ent := (tx x.1, x.2.kind, x.2.text)
def rowE (G : FS) : List Ent := G.map entR
structure OkRow (G : FS) : Prop where
  nodup : (G.map (·.1)).Nodup
  ne : ∀ x ∈ G, x.1 ≠ []
  ok : ∀ x ∈ G, okP x.1
  kind : ∀ x ∈ G, x.2.kind = 1 ∨ x.2.kind = 2 ∨ x.2.kind = 3
theorem okRow_of {G : FS} (h : FsOk G) : OkRow G :=
  ⟨h.nodup, h.ne, fun x hx => by
    have := ((mem_at h.nodup h.ne).1 hx).2
    exact h.okp _ _ this, fun x hx => by
    have := ((mem_at h.nodup h.ne).1 hx).2
    exact h.kind _ _ this⟩
theorem tx_inj {p q : Pth} (hp : okP p) (hq : okP q) (h : tx p = tx q) : p = q := by
  by_cases h1 : p = []
  · by_cases h2 : q = []
    · rw [h1, h2]
    · subst h1
      exact absurd h.symm (tx_ne h2 hq)
  · by_cases h2 : q = []
    · subst h2
      exact absurd h (tx_ne h1 hp)
    · have e1 := parts_tx h1 hp
      have e2 := parts_tx h2 hq
      rw [h, e2] at e1
      exact (Except.ok.inj e1).symm
theorem tx_eqP {p : Pth} (hp : okP p) : tx p = ⟨#[]⟩ ↔ p = [] := by
  constructor
  · intro h
    exact tx_inj hp ⟨by simp, by simp [joinL], by simp⟩ h
  · rintro rfl; rfl
theorem okP_pre {p q : Pth} (h : okP (p ++ q)) : okP p := by
  obtain ⟨h1, h2, h3⟩ := h
  refine ⟨by rw [List.length_append] at h1; omega, ?_, ?_⟩
  · by_cases hp : p = []
    · subst hp; simp [joinL]
    · by_cases hq : q = []
      · subst hq; simpa using h2
      · rw [join_app 47 hp hq] at h2
        simp at h2
        omega
  · rw [List.all_append] at h3
    simp at h3
    simp
    exact h3.1
/-- What stands at a path, by the row. -/
theorem at_row {G : FS} (h : OkRow G) {p : Pth} (hp : okP p) : atR (rowE G) (tx p) = match G.at p with
    | none => (⟨#[]⟩, 0, ⟨#[]⟩)
    | some x => (tx p, x.kind, x.text) := by
  by_cases h0 : p = []
  · subst h0
    rfl
  · unfold atR
    rw [if_neg (fun e => h0 ((tx_eqP hp).1 e)), at_ne G h0]
    clear h0
    obtain ⟨hn, hne, hok, _⟩ := h
    induction G with
    | nil => rfl
    | cons a G ih =>
      have hd : findI (rowE (a :: G)) (tx p) = if a.1 = p then 0 else findI (rowE G) (tx p) + 1 := by
        unfold findI rowE
        rw [List.map_cons, List.findIdx_cons]
        by_cases e : a.1 = p
        · rw [if_pos e]
          have : decide ((entR a).1 = tx p) = true := by unfold entR; simp [e]
          rw [this]; rfl
        · rw [if_neg e]
          have : decide ((entR a).1 = tx p) = false := by
            rw [decide_eq_false_iff_not]
            exact fun e2 => e (tx_inj (hok a List.mem_cons_self) hp e2)
          rw [this]; rfl
      rw [hd]
      by_cases e : a.1 = p
      · rw [if_pos e]
        obtain ⟨q, x⟩ := a
        simp only at e
        subst e
        rw [lookup_hit]
        rfl
      · rw [if_neg e]
        obtain ⟨q, x⟩ := a
        simp only at e
        rw [lookup_miss (fun e2 => e e2.symm)]
        have := ih (List.nodup_cons.1 hn).2 (fun x hx => hne x (List.mem_cons_of_mem _ hx)) (fun x hx => hok x (List.mem_cons_of_mem _ hx)) (fun x hx => by rename_i k; exact k x (List.mem_cons_of_mem _ hx))
        exact this
def withF (G : FS) (p : Pth) (kd : Nat) (t : ByteArray) : FS := delF G p ++ (if kd = 0 then [] else [(p, ⟨kd, t⟩)])
theorem with_row {G : FS} (h : OkRow G) {p : Pth} (hp : okP p) (px : ByteArray) (kd : Nat) (t : ByteArray) : withE (rowE G) (tx p) (px, kd, t) = rowE (withF G p kd t) := by
  unfold withE withF rowE
  rw [List.map_append]
  congr 1
  · unfold keepE delF
    rw [List.filter_map]
    congr 1
    refine List.filter_congr fun x hx => ?_
    show decide (tx x.1 ≠ tx p) = decide (x.1 ≠ p)
    by_cases e : x.1 = p
    · rw [decide_eq_false (fun k => k (by rw [e])), decide_eq_false (fun k => k e)]
    · rw [decide_eq_true (show tx x.1 ≠ tx p from fun k => e (tx_inj (h.ok x hx) hp k)), decide_eq_true (show x.1 ≠ p from e)]
  · by_cases e : kd = 0
    · rw [if_pos e, if_pos e]; rfl
    · rw [if_neg e, if_neg e]; rfl
theorem okRow_with {G : FS} (h : OkRow G) {p : Pth} (hp : okP p) (h0 : p ≠ []) {kd : Nat} (hk : kd = 0 ∨ kd = 1 ∨ kd = 2 ∨ kd = 3) (t : ByteArray) : OkRow (withF G p kd t) := by
  unfold withF
  have hsub : ∀ x, x ∈ delF G p → x ∈ G ∧ x.1 ≠ p := fun x hx => by
    unfold delF at hx
    rw [List.mem_filter] at hx
    exact ⟨hx.1, of_decide_eq_true hx.2⟩
  have hnd : ((delF G p).map (·.1)).Nodup := (List.Sublist.map _ List.filter_sublist).nodup h.nodup
  by_cases e : kd = 0
  · rw [if_pos e, List.append_nil]
    exact ⟨hnd, fun x hx => h.ne x (hsub x hx).1, fun x hx => h.ok x (hsub x hx).1, fun x hx => h.kind x (hsub x hx).1⟩
  · rw [if_neg e]
    have hmem : ∀ x, x ∈ delF G p ++ [(p, (⟨kd, t⟩ : Nd))] → (x ∈ G ∧ x.1 ≠ p) ∨ x = (p, ⟨kd, t⟩) := fun x hx => by
      rcases List.mem_append.1 hx with hx | hx
      · exact .inl (hsub x hx)
      · exact .inr (List.mem_singleton.1 hx)
    refine ⟨?_, fun x hx => ?_, fun x hx => ?_, fun x hx => ?_⟩
    · rw [List.map_append, List.nodup_append]
      refine ⟨hnd, by simp, fun a ha b hb => ?_⟩
      obtain ⟨x, hx, rfl⟩ := List.mem_map.1 ha
      simp at hb
      subst hb
      exact (hsub x hx).2
    · rcases hmem x hx with h1 | h1
      · exact h.ne x h1.1
      · rw [h1]; exact h0
    · rcases hmem x hx with h1 | h1
      · exact h.ok x h1.1
      · rw [h1]; exact hp
    · rcases hmem x hx with h1 | h1
      · exact h.kind x h1.1
      · rw [h1]; show kd = 1 ∨ kd = 2 ∨ kd = 3; omega
theorem at_with (G : FS) {p : Pth} (h0 : p ≠ []) (kd : Nat) (t : ByteArray) (r : Pth) : (withF G p kd t).at r = if r = p then (if kd = 0 then none else some ⟨kd, t⟩) else G.at r := by
  unfold withF
  by_cases e : kd = 0
  · rw [if_pos e, if_pos e, List.append_nil, at_del h0]
  · rw [if_neg e, if_neg e, at_put ⟨kd, t⟩ h0 (by rw [at_del h0, if_pos rfl]), at_del h0]
    by_cases hr : r = p
    · rw [if_pos hr, if_pos hr]
    · rw [if_neg hr, if_neg hr, if_neg hr]
theorem sum_row (G : FS) : sumE (rowE G) = usedF G := by
  unfold sumE usedF rowE
  rw [List.map_map]
  rfl
theorem row_len (G : FS) : (rowE G).length = G.length := by unfold rowE; rw [List.length_map]
/-- A file system that has the same at each path as one that is sound, and no path twice, is sound. -/
theorem eqv_of_at {F G : FS} (hF : FsOk F) (hG : OkRow G) (h : ∀ r, F.at r = G.at r) : Eqv F G :=
  ⟨hF, ⟨hG.nodup, hG.ne, fun p n hn => by rw [← h] at hn ⊢; exact hF.up p n hn, fun p x hx => hF.kind p x (by rw [h]; exact hx), fun p x hx => hF.dirs p x (by rw [h]; exact hx), fun p x hx => hF.small p x (by rw [h]; exact hx), fun p x hx => hF.okp p x (by rw [h]; exact hx)⟩, h⟩
/-- The error of a path and of the way to it, as a number. -/
def wayN (G : FS) (s : ByteArray) : Nat := match atE G s with
  | .error n => n
  | .ok _ => 0
theorem way_num {G : FS} {p : Pth} {n : Nat} (h : wayE G p = some n) : n = 200 ∨ n = 203 ∨ n = 204 := by
  have : ∀ (r d : Pth), wayFrom G d r = some n → n = 200 ∨ n = 203 ∨ n = 204 := by
    intro r
    induction r with
    | nil => intro d h; cases h
    | cons a r ih =>
      intro d h
      cases r with
      | nil => cases h
      | cons b r =>
        simp only [wayFrom] at h
        split at h
        · cases h; simp
        · split at h
          · cases h; simp
          · split at h
            · cases h; simp
            · exact ih _ h
  exact this p [] h
end Go.Proofs.YtiijbecklkccfaaGreatDoor.I
