/- What an escaped name means: itself, and nothing else; the reference's Escape. -/
import Derived.Test.YtgkifphfibcfdaaGreatDoorLong
namespace Go.Proofs.YtgkifphfibcfdaaGreatDoor.G
open Go.RowKit Go.Proofs.YtgkifphfibcfdaaGreatDoor.B
set_option linter.unusedVariables false
set_option linter.unusedSimpArgs false
/-- The part that takes just one byte. -/
def single (c : Nat) : PartV := (false, upd noneT c true)
theorem single_takes (c d : Nat) : (single c).2 d = decide (d = c) := by
  simp only [single, upd, noneT]
  by_cases h : d = c <;> simp [h]
theorem mt_singles : ∀ (l t : List Nat), mt (l.map single) t = decide (t = l)
  | [], [] => rfl
  | [], _ :: _ => by simp [mt]
  | c :: l, [] => by
    rw [List.map_cons, mt_one_nil _ rfl]; simp
  | c :: l, d :: t => by
    rw [List.map_cons, mt_one _ _ _ rfl, single_takes, mt_singles l t]
    simp only [List.cons.injEq]
    rw [Bool.decide_and]
theorem parts_escaped : ∀ c, c ∈ specials → parts ⟨((escB c).map UInt8.ofNat).toArray⟩ = some [single c] := by
  intro c hc
  simp only [specials, List.mem_cons, List.mem_nil_iff, or_false] at hc
  rcases hc with rfl | rfl | rfl | rfl
  · exact (show parts ⟨((escB 92).map UInt8.ofNat).toArray⟩ = some [single 92] by kernel_rfl)
  · exact (show parts ⟨((escB 91).map UInt8.ofNat).toArray⟩ = some [single 91] by kernel_rfl)
  · exact (show parts ⟨((escB 63).map UInt8.ofNat).toArray⟩ = some [single 63] by kernel_rfl)
  · exact (show parts ⟨((escB 42).map UInt8.ofNat).toArray⟩ = some [single 42] by kernel_rfl)
theorem parts_plain (c : Nat) (h : c < 256) (hc : c ∉ specials) : parts ⟨((escB c).map UInt8.ofNat).toArray⟩ = some [single c] := by
  unfold escB
  rw [if_neg hc]
  have hs : (⟨(([c] : List Nat).map UInt8.ofNat).toArray⟩ : ByteArray).size = 1 := rfl
  have hb : bn ⟨(([c] : List Nat).map UInt8.ofNat).toArray⟩ 0 = c := by
    rw [bn_in (by rw [hs]; omega)]
    show (UInt8.ofNat c).toNat = c
    rw [UInt8.toNat_ofNat']
    omega
  simp only [specials, List.mem_cons, List.mem_nil_iff, or_false, not_or] at hc
  refine parts_of (k := 2) ?_
  have hp : bytePlace ⟨(([c] : List Nat).map UInt8.ofNat).toArray⟩ 0 = 0 := by
    unfold bytePlace
    rw [if_neg (fun h2 => hc.1 (by rw [← hb]; exact (one_bn.1 h2).2))]
  simp only [crun]
  rw [hs, hb, hp, if_pos (by omega), if_neg hc.2.2.2, if_neg hc.2.2.1, if_neg hc.2.1, if_pos (by omega), hb, if_neg (by omega)]
  rfl
theorem bl_lt (s : ByteArray) : ∀ c ∈ bl s, c < 256 := by
  intro c hc
  simp only [bl, List.mem_map, List.mem_range] at hc
  obtain ⟨i, _, rfl⟩ := hc
  have := bn_le s i
  omega
theorem parts_list : ∀ l : List Nat, (∀ c ∈ l, c < 256) → parts ⟨((l.flatMap escB).map UInt8.ofNat).toArray⟩ = some (l.map single)
  | [], _ => parts_of (k := 1) rfl
  | c :: l, h => by
    have h1 : parts ⟨((escB c).map UInt8.ofNat).toArray⟩ = some [single c] := by
      by_cases hc : c ∈ specials
      · exact parts_escaped c hc
      · exact parts_plain c (h c (by simp)) hc
    have h2 := parts_append h1 (parts_list l (fun d hd => h d (by simp [hd])))
    rw [bytes_append] at h2
    rw [List.flatMap_cons, List.map_append, h2]
    rfl
/-- A name's own pattern. -/
theorem parts_escS (s : ByteArray) : parts (escS s) = some ((bl s).map single) := by
  have h := parts_list (bl s) (bl_lt s)
  unfold escS escL
  rw [List.take_of_length_le (by rw [bl_length]; exact Nat.le_refl _)]
  exact h
theorem bl_inj {a b : ByteArray} : (bl b = bl a) ↔ a = b := by
  constructor
  · intro h
    rw [← bl_bytes a, ← bl_bytes b, h]
  · rintro rfl; rfl
theorem mt_escS (s t : ByteArray) : mt ((bl s).map single) (bl t) = (s.toList == t.toList) := by
  rw [mt_singles]
  apply Bool.eq_iff_iff.2
  rw [decide_eq_true_eq, bl_inj, beq_iff_eq, ByteArray.toList_eq, ByteArray.toList_eq]
  constructor
  · rintro rfl; rfl
  · intro h; exact ByteArray.ext (Array.toList_inj.1 h)
theorem escS_size (s : ByteArray) : (escS s).size = (escL s s.size).length := by
  show ((escL s s.size).map UInt8.ofNat).toArray.size = _
  simp
/-- Bytes as cells. -/
theorem cellsU_step (l : List Nat) (c : Nat) (hc : c < 256) : cellsU (l.map UInt8.ofNat) ++ [Value.int .u8 (c : Int)] = cellsU ((l ++ [c]).map UInt8.ofNat) := by
  simp [cellsU, UInt8.toNat_ofNat']
  omega
set_option maxRecDepth 100000 in
set_option maxHeartbeats 8000000 in
theorem refescape_calls (s : ByteArray) (w : World) (hs : s.size ≤ 1048576) : Calls Tryz.prog 19 #[.string s] w fun e w' => e = .returned (.string (escS s)) ∧ Chg [] w w' := by
  go_enter Tryz.func19, Tryz.ntmps19
  go_wp2
  go_loopg [3, 4] (s.size + 1) (fun gk v3 v4 wr => ∃ i : Nat, i ≤ s.size ∧ gk = s.size + 1 - i ∧ v4 = .int .i64 (i : Int) ∧ Asd (Chg [] w wr) ∧ Asd (wr.ownsRow w.heap.size 5 1 v3 (escL s i).length (cellsU ((escL s i).map UInt8.ofNat))))
  case atStart => exact ⟨0, by omega, by omega, rfl, ⟨Chg.refl _ _⟩, ⟨by rw [escL_zero]; exact World.ownsRow_nil _ _ _ _⟩⟩
  case round =>
    obtain ⟨i, hi, rfl, rfl, HC, HO⟩ := hrel
    by_cases hlt : i < s.size
    · have hle := escL_le s i hi
      have hbn : bn s i = s[i].toNat := by unfold bn; rw [dif_pos hlt]
      have hb5 : s[i].toNat < 256 := UInt8.toNat_lt s[i]
      have hsu := escL_succ hlt
      by_cases hsp : bn s i ∈ specials
      · have hsp2 := hsp
        rw [escB, if_pos hsp] at hsu
        simp only [specials, List.mem_cons, List.mem_nil_iff, or_false] at hsp
        rcases hsp with hsp | hsp | hsp | hsp
        · have t0 : (((s[i].toNat : Nat) : Int) == 42) = false := by rw [← hbn, hsp]; rfl
          have t1 : (((s[i].toNat : Nat) : Int) == 63) = false := by rw [← hbn, hsp]; rfl
          have t2 : (((s[i].toNat : Nat) : Int) == 91) = false := by rw [← hbn, hsp]; rfl
          have t3 : (((s[i].toNat : Nat) : Int) == 92) = true := by rw [← hbn, hsp]; rfl
          have HSU := Asd.mk hsu
          have HBN := Asd.mk hbn
          clear hsu hbn hsp
          go_wp2_with (first | (at_builtin; obtain ⟨ie, h1, h2, h3, h4⟩ := info5'; refine wpList_append_own _ rfl _ _ 35 rfl w.heap.size 5 ie _ 1 1 Tryz.underlying35 h1 h2 h3 h4 rfl (by decide) _ _ _ rfl (HO.out.alloc _) ⟨wr.heap.size, 0, none⟩ 1 1 [.int .u8 92] rfl rfl (one_new _ _ _) (fun u hu => by simp at hu; subst hu; rfl) (by unfold maxLen; omega) (by omega) (by have := HC.out.size; simp; omega) ?_; intro v1 w3 hownA hgrowA hnil3; clear h1 h2 h3 h4 hnil3; rw [show Value.int .u8 92 = Value.int .u8 ((92 : Nat) : Int) from rfl, cellsU_step _ 92 (by omega)] at hownA; replace hownA := Asd.mk hownA; replace hgrowA := Asd.mk hgrowA; simp only [Act.put, List.setIfInBounds_toArray, List.set_cons_zero, List.set_cons_succ]) | (at_builtin; obtain ⟨ie, h1, h2, h3, h4⟩ := info5'; refine wpList_append_own _ rfl _ _ 35 rfl w.heap.size 5 ie _ 1 1 Tryz.underlying35 h1 h2 h3 h4 rfl (by decide) _ _ _ rfl (hownA.out.alloc _) ⟨w3.heap.size, 0, none⟩ 1 1 [.int .u8 (s[i].toNat : Int)] rfl rfl (one_new _ _ _) (fun u hu => by simp at hu; subst hu; rfl) (by unfold maxLen; omega) (by omega) (by have := HC.out.size; have := hgrowA.out.size; simp at this ⊢; omega) ?_; intro v2 w4 hownB hgrowB hnil3; clear h1 h2 h3 h4 hnil3; rw [cellsU_step _ _ hb5] at hownB; replace hownB := Asd.mk hownB; replace hgrowB := Asd.mk hgrowB; simp only [Act.put, List.setIfInBounds_toArray, List.set_cons_zero, List.set_cons_succ]))
          go_roundg (s.size + 1 - (i + 1))
          case rel =>
            refine ⟨i + 1, by omega, by omega, by go_num, ⟨Chg.grownN ((Chg.grownN (HC.out.alloc _) hgrowA.out (fun g e => (HO.out.lt g e).1)).alloc _) hgrowB.out (fun g e => (hownA.out.lt g e).1)⟩, ⟨?_⟩⟩
            have h := hownB.out
            rw [HSU.out, HBN.out, List.length_append]
            rw [List.append_assoc] at h
            exact h
          case measure => omega
        · have t0 : (((s[i].toNat : Nat) : Int) == 42) = false := by rw [← hbn, hsp]; rfl
          have t1 : (((s[i].toNat : Nat) : Int) == 63) = false := by rw [← hbn, hsp]; rfl
          have t2 : (((s[i].toNat : Nat) : Int) == 91) = true := by rw [← hbn, hsp]; rfl
          have HSU := Asd.mk hsu
          have HBN := Asd.mk hbn
          clear hsu hbn hsp
          go_wp2_with (first | (at_builtin; obtain ⟨ie, h1, h2, h3, h4⟩ := info5'; refine wpList_append_own _ rfl _ _ 35 rfl w.heap.size 5 ie _ 1 1 Tryz.underlying35 h1 h2 h3 h4 rfl (by decide) _ _ _ rfl (HO.out.alloc _) ⟨wr.heap.size, 0, none⟩ 1 1 [.int .u8 92] rfl rfl (one_new _ _ _) (fun u hu => by simp at hu; subst hu; rfl) (by unfold maxLen; omega) (by omega) (by have := HC.out.size; simp; omega) ?_; intro v1 w3 hownA hgrowA hnil3; clear h1 h2 h3 h4 hnil3; rw [show Value.int .u8 92 = Value.int .u8 ((92 : Nat) : Int) from rfl, cellsU_step _ 92 (by omega)] at hownA; replace hownA := Asd.mk hownA; replace hgrowA := Asd.mk hgrowA; simp only [Act.put, List.setIfInBounds_toArray, List.set_cons_zero, List.set_cons_succ]) | (at_builtin; obtain ⟨ie, h1, h2, h3, h4⟩ := info5'; refine wpList_append_own _ rfl _ _ 35 rfl w.heap.size 5 ie _ 1 1 Tryz.underlying35 h1 h2 h3 h4 rfl (by decide) _ _ _ rfl (hownA.out.alloc _) ⟨w3.heap.size, 0, none⟩ 1 1 [.int .u8 (s[i].toNat : Int)] rfl rfl (one_new _ _ _) (fun u hu => by simp at hu; subst hu; rfl) (by unfold maxLen; omega) (by omega) (by have := HC.out.size; have := hgrowA.out.size; simp at this ⊢; omega) ?_; intro v2 w4 hownB hgrowB hnil3; clear h1 h2 h3 h4 hnil3; rw [cellsU_step _ _ hb5] at hownB; replace hownB := Asd.mk hownB; replace hgrowB := Asd.mk hgrowB; simp only [Act.put, List.setIfInBounds_toArray, List.set_cons_zero, List.set_cons_succ]))
          go_roundg (s.size + 1 - (i + 1))
          case rel =>
            refine ⟨i + 1, by omega, by omega, by go_num, ⟨Chg.grownN ((Chg.grownN (HC.out.alloc _) hgrowA.out (fun g e => (HO.out.lt g e).1)).alloc _) hgrowB.out (fun g e => (hownA.out.lt g e).1)⟩, ⟨?_⟩⟩
            have h := hownB.out
            rw [HSU.out, HBN.out, List.length_append]
            rw [List.append_assoc] at h
            exact h
          case measure => omega
        · have t0 : (((s[i].toNat : Nat) : Int) == 42) = false := by rw [← hbn, hsp]; rfl
          have t1 : (((s[i].toNat : Nat) : Int) == 63) = true := by rw [← hbn, hsp]; rfl
          have HSU := Asd.mk hsu
          have HBN := Asd.mk hbn
          clear hsu hbn hsp
          go_wp2_with (first | (at_builtin; obtain ⟨ie, h1, h2, h3, h4⟩ := info5'; refine wpList_append_own _ rfl _ _ 35 rfl w.heap.size 5 ie _ 1 1 Tryz.underlying35 h1 h2 h3 h4 rfl (by decide) _ _ _ rfl (HO.out.alloc _) ⟨wr.heap.size, 0, none⟩ 1 1 [.int .u8 92] rfl rfl (one_new _ _ _) (fun u hu => by simp at hu; subst hu; rfl) (by unfold maxLen; omega) (by omega) (by have := HC.out.size; simp; omega) ?_; intro v1 w3 hownA hgrowA hnil3; clear h1 h2 h3 h4 hnil3; rw [show Value.int .u8 92 = Value.int .u8 ((92 : Nat) : Int) from rfl, cellsU_step _ 92 (by omega)] at hownA; replace hownA := Asd.mk hownA; replace hgrowA := Asd.mk hgrowA; simp only [Act.put, List.setIfInBounds_toArray, List.set_cons_zero, List.set_cons_succ]) | (at_builtin; obtain ⟨ie, h1, h2, h3, h4⟩ := info5'; refine wpList_append_own _ rfl _ _ 35 rfl w.heap.size 5 ie _ 1 1 Tryz.underlying35 h1 h2 h3 h4 rfl (by decide) _ _ _ rfl (hownA.out.alloc _) ⟨w3.heap.size, 0, none⟩ 1 1 [.int .u8 (s[i].toNat : Int)] rfl rfl (one_new _ _ _) (fun u hu => by simp at hu; subst hu; rfl) (by unfold maxLen; omega) (by omega) (by have := HC.out.size; have := hgrowA.out.size; simp at this ⊢; omega) ?_; intro v2 w4 hownB hgrowB hnil3; clear h1 h2 h3 h4 hnil3; rw [cellsU_step _ _ hb5] at hownB; replace hownB := Asd.mk hownB; replace hgrowB := Asd.mk hgrowB; simp only [Act.put, List.setIfInBounds_toArray, List.set_cons_zero, List.set_cons_succ]))
          go_roundg (s.size + 1 - (i + 1))
          case rel =>
            refine ⟨i + 1, by omega, by omega, by go_num, ⟨Chg.grownN ((Chg.grownN (HC.out.alloc _) hgrowA.out (fun g e => (HO.out.lt g e).1)).alloc _) hgrowB.out (fun g e => (hownA.out.lt g e).1)⟩, ⟨?_⟩⟩
            have h := hownB.out
            rw [HSU.out, HBN.out, List.length_append]
            rw [List.append_assoc] at h
            exact h
          case measure => omega
        · have t0 : (((s[i].toNat : Nat) : Int) == 42) = true := by rw [← hbn, hsp]; rfl
          have HSU := Asd.mk hsu
          have HBN := Asd.mk hbn
          clear hsu hbn hsp
          go_wp2_with (first | (at_builtin; obtain ⟨ie, h1, h2, h3, h4⟩ := info5'; refine wpList_append_own _ rfl _ _ 35 rfl w.heap.size 5 ie _ 1 1 Tryz.underlying35 h1 h2 h3 h4 rfl (by decide) _ _ _ rfl (HO.out.alloc _) ⟨wr.heap.size, 0, none⟩ 1 1 [.int .u8 92] rfl rfl (one_new _ _ _) (fun u hu => by simp at hu; subst hu; rfl) (by unfold maxLen; omega) (by omega) (by have := HC.out.size; simp; omega) ?_; intro v1 w3 hownA hgrowA hnil3; clear h1 h2 h3 h4 hnil3; rw [show Value.int .u8 92 = Value.int .u8 ((92 : Nat) : Int) from rfl, cellsU_step _ 92 (by omega)] at hownA; replace hownA := Asd.mk hownA; replace hgrowA := Asd.mk hgrowA; simp only [Act.put, List.setIfInBounds_toArray, List.set_cons_zero, List.set_cons_succ]) | (at_builtin; obtain ⟨ie, h1, h2, h3, h4⟩ := info5'; refine wpList_append_own _ rfl _ _ 35 rfl w.heap.size 5 ie _ 1 1 Tryz.underlying35 h1 h2 h3 h4 rfl (by decide) _ _ _ rfl (hownA.out.alloc _) ⟨w3.heap.size, 0, none⟩ 1 1 [.int .u8 (s[i].toNat : Int)] rfl rfl (one_new _ _ _) (fun u hu => by simp at hu; subst hu; rfl) (by unfold maxLen; omega) (by omega) (by have := HC.out.size; have := hgrowA.out.size; simp at this ⊢; omega) ?_; intro v2 w4 hownB hgrowB hnil3; clear h1 h2 h3 h4 hnil3; rw [cellsU_step _ _ hb5] at hownB; replace hownB := Asd.mk hownB; replace hgrowB := Asd.mk hgrowB; simp only [Act.put, List.setIfInBounds_toArray, List.set_cons_zero, List.set_cons_succ]))
          go_roundg (s.size + 1 - (i + 1))
          case rel =>
            refine ⟨i + 1, by omega, by omega, by go_num, ⟨Chg.grownN ((Chg.grownN (HC.out.alloc _) hgrowA.out (fun g e => (HO.out.lt g e).1)).alloc _) hgrowB.out (fun g e => (hownA.out.lt g e).1)⟩, ⟨?_⟩⟩
            have h := hownB.out
            rw [HSU.out, HBN.out, List.length_append]
            rw [List.append_assoc] at h
            exact h
          case measure => omega
      · rw [escB, if_neg hsp] at hsu
        simp only [specials, List.mem_cons, List.mem_nil_iff, or_false, not_or] at hsp
        have t1 : (((s[i].toNat : Nat) : Int) == 42) = false := by rw [← hbn]; simp; omega
        have t2 : (((s[i].toNat : Nat) : Int) == 63) = false := by rw [← hbn]; simp; omega
        have t3 : (((s[i].toNat : Nat) : Int) == 91) = false := by rw [← hbn]; simp; omega
        have t4 : (((s[i].toNat : Nat) : Int) == 92) = false := by rw [← hbn]; simp; omega
        have HSU := Asd.mk hsu
        have HBN := Asd.mk hbn
        clear hsu hbn hsp
        go_wp2_with (at_builtin; obtain ⟨ie, h1, h2, h3, h4⟩ := info5'; refine wpList_append_own _ rfl _ _ 35 rfl w.heap.size 5 ie _ 1 1 Tryz.underlying35 h1 h2 h3 h4 rfl (by decide) _ _ _ rfl (HO.out.alloc _) ⟨wr.heap.size, 0, none⟩ 1 1 [.int .u8 (s[i].toNat : Int)] rfl rfl (one_new _ _ _) (fun u hu => by simp at hu; subst hu; rfl) (by unfold maxLen; omega) (by omega) (by have := HC.out.size; simp; omega) ?_; intro v' w3 hown' hgrow3 hnil3; clear h1 h2 h3 h4 hnil3; rw [cellsU_step _ _ hb5] at hown'; replace hown' := Asd.mk hown'; replace hgrow3 := Asd.mk hgrow3; simp only [Act.put, List.setIfInBounds_toArray, List.set_cons_zero, List.set_cons_succ])
        go_roundg (s.size + 1 - (i + 1))
        case rel =>
          refine ⟨i + 1, by omega, by omega, by go_num, ⟨Chg.grownN (HC.out.alloc _) hgrow3.out (fun g e => (HO.out.lt g e).1)⟩, ⟨?_⟩⟩
          have h := hown'.out
          rw [HSU.out, HBN.out, List.length_append]
          exact h
        case measure => omega
    · obtain rfl : i = s.size := by omega
      have hcv := conv_own (l := (escL s s.size).map UInt8.ofNat) HO.out
      go_wp2
      go_ret
      exact ⟨rfl, HC.out⟩
end Go.Proofs.YtgkifphfibcfdaaGreatDoor.G
