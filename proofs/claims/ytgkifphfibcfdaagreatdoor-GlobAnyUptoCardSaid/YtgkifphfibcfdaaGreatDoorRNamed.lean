/- The reference's named: the class at the beginning of a text. -/
import Derived.Test.YtgkifphfibcfdaaGreatDoorRSmall
import Derived.Test.YtgkifphfibcfdaaGreatDoorRCls0
import Derived.Test.YtgkifphfibcfdaaGreatDoorRCls1
import Derived.Test.YtgkifphfibcfdaaGreatDoorRCls2
import Derived.Test.YtgkifphfibcfdaaGreatDoorRCls3
import Derived.Deep.LoopGhost
namespace Go.Proofs.YtgkifphfibcfdaaGreatDoor.G
open Go.RowKit Go.Proofs.YtgkifphfibcfdaaGreatDoor.B
set_option linter.unusedVariables false
theorem rclass_calls (k : Nat) (hk : k < 12) (c : Int) (w : World) (h0 : 0 ≤ c) (h1 : c ≤ 255) : Calls Tryz.prog 49 #[.string (cname k), .int .i64 c] w fun e w' => e = .returned (.tuple #[.bool (chas k c), .bool true]) ∧ w' = w :=
  twelve (p := fun k => Calls Tryz.prog 49 #[.string (cname k), .int .i64 c] w fun e w' => e = .returned (.tuple #[.bool (chas k c), .bool true]) ∧ w' = w) k hk (ralpha_calls c w h0 h1) (rdigit_calls c w h0 h1) (ralnum_calls c w h0 h1) (rupper_calls c w h0 h1) (rlower_calls c w h0 h1) (rxdigit_calls c w h0 h1) (rspace_calls c w h0 h1) (rblank_calls c w h0 h1) (rpunct_calls c w h0 h1) (rprint_calls c w h0 h1) (rgraph_calls c w h0 h1) (rcntrl_calls c w h0 h1)
set_option maxHeartbeats 2000000 in
theorem rclass_no (name : ByteArray) (w : World) (h : ∀ k, k < 12 → (name.toList == (cname k).toList) = false) : Calls Tryz.prog 49 #[.string name, .int .i64 0] w fun e w' => e = .returned (.tuple #[.bool false, .bool false]) ∧ w' = w := by
  have e0 : (name.toList == [97, 108, 112, 104, 97]) = false := by have := h 0 (by omega); rwa [show (cname 0).toList = [97, 108, 112, 104, 97] from by kernel_rfl] at this
  have e1 : (name.toList == [100, 105, 103, 105, 116]) = false := by have := h 1 (by omega); rwa [show (cname 1).toList = [100, 105, 103, 105, 116] from by kernel_rfl] at this
  have e2 : (name.toList == [97, 108, 110, 117, 109]) = false := by have := h 2 (by omega); rwa [show (cname 2).toList = [97, 108, 110, 117, 109] from by kernel_rfl] at this
  have e3 : (name.toList == [117, 112, 112, 101, 114]) = false := by have := h 3 (by omega); rwa [show (cname 3).toList = [117, 112, 112, 101, 114] from by kernel_rfl] at this
  have e4 : (name.toList == [108, 111, 119, 101, 114]) = false := by have := h 4 (by omega); rwa [show (cname 4).toList = [108, 111, 119, 101, 114] from by kernel_rfl] at this
  have e5 : (name.toList == [120, 100, 105, 103, 105, 116]) = false := by have := h 5 (by omega); rwa [show (cname 5).toList = [120, 100, 105, 103, 105, 116] from by kernel_rfl] at this
  have e6 : (name.toList == [115, 112, 97, 99, 101]) = false := by have := h 6 (by omega); rwa [show (cname 6).toList = [115, 112, 97, 99, 101] from by kernel_rfl] at this
  have e7 : (name.toList == [98, 108, 97, 110, 107]) = false := by have := h 7 (by omega); rwa [show (cname 7).toList = [98, 108, 97, 110, 107] from by kernel_rfl] at this
  have e8 : (name.toList == [112, 117, 110, 99, 116]) = false := by have := h 8 (by omega); rwa [show (cname 8).toList = [112, 117, 110, 99, 116] from by kernel_rfl] at this
  have e9 : (name.toList == [112, 114, 105, 110, 116]) = false := by have := h 9 (by omega); rwa [show (cname 9).toList = [112, 114, 105, 110, 116] from by kernel_rfl] at this
  have e10 : (name.toList == [103, 114, 97, 112, 104]) = false := by have := h 10 (by omega); rwa [show (cname 10).toList = [103, 114, 97, 112, 104] from by kernel_rfl] at this
  have e11 : (name.toList == [99, 110, 116, 114, 108]) = false := by have := h 11 (by omega); rwa [show (cname 11).toList = [99, 110, 116, 114, 108] from by kernel_rfl] at this
  clear h
  go_enter Tryz.func49, Tryz.ntmps49
  go_wp2
  go_ret2
  exact ⟨rfl, rfl⟩
/-- How a class is written, byte for byte. -/
theorem cpat_spelt : ((List.range 12).all fun k => bn (cpat k) 0 == 91 && bn (cpat k) 1 == 58 && bn (cpat k) (2 + (cname k).size) == 58 && bn (cpat k) (3 + (cname k).size) == 93 &&
    (List.range (cname k).size).all fun t => bn (cpat k) (2 + t) == bn (cname k) t && decide (97 ≤ bn (cname k) t) && decide (bn (cname k) t ≤ 122)) = true := by kernel_rfl
theorem cpat_bytes {k : Nat} (hk : k < 12) : bn (cpat k) 0 = 91 ∧ bn (cpat k) 1 = 58 ∧ bn (cpat k) (2 + (cname k).size) = 58 ∧ bn (cpat k) (3 + (cname k).size) = 93 ∧
    ∀ t, t < (cname k).size → bn (cpat k) (2 + t) = bn (cname k) t ∧ 97 ≤ bn (cname k) t ∧ bn (cname k) t ≤ 122 := by
  have h := cpat_spelt
  rw [List.all_eq_true] at h
  have h2 := h k (by simpa using hk)
  simp only [Bool.and_eq_true, beq_iff_eq, List.all_eq_true, List.mem_range, decide_eq_true_eq] at h2
  exact ⟨h2.1.1.1.1, h2.1.1.1.2, h2.1.1.2, h2.1.2, fun t ht => ⟨(h2.2 t ht).1.1, (h2.2 t ht).1.2, (h2.2 t ht).2⟩⟩
theorem name_iff {s p : ByteArray} {i : Nat} (hi : 2 ≤ i) (hs : i ≤ s.size) : ((s.extract 2 i).toList == p.toList) = true ↔ i = 2 + p.size ∧ ∀ t, t < p.size → bn s (2 + t) = bn p t := by
  rw [beq_iff_eq, ByteArray.toList_eq, ByteArray.toList_eq]
  have hls : s.data.toList.length = s.size := by simp
  have hl : p.data.toList.length = p.size := by simp
  have e : (s.extract 2 i).data.toList = (s.data.toList.drop 2).take (i - 2) := by
    simp only [ByteArray.data_extract, Array.toList_extract, List.extract_eq_take_drop]
  rw [e]
  constructor
  · intro h
    have hlen := congrArg List.length h
    rw [List.length_take, List.length_drop, hl, hls] at hlen
    refine ⟨by omega, fun t ht => ?_⟩
    rw [bn_in (show 2 + t < s.size by omega), bn_in ht]
    have h3 : ((s.data.toList.drop 2).take (i - 2))[t]? = p.data.toList[t]? := by rw [h]
    rw [List.getElem?_take_of_lt (by omega), List.getElem?_drop, List.getElem?_eq_getElem (by rw [hls]; omega), List.getElem?_eq_getElem (by rw [hl]; exact ht)] at h3
    exact congrArg UInt8.toNat (Option.some.inj h3)
  · rintro ⟨h1, h2⟩
    apply List.ext_getElem
    · rw [List.length_take, List.length_drop, hl, hls]; omega
    · intro t g1 g2
      rw [hl] at g2
      have := h2 t g2
      rw [bn_in (show 2 + t < s.size by omega), bn_in g2] at this
      rw [List.getElem_take, List.getElem_drop]
      exact UInt8.toNat_inj.1 this
theorem eq_of_toList {a b : ByteArray} (h : (a.toList == b.toList) = true) : a = b := by
  rw [beq_iff_eq, ByteArray.toList_eq, ByteArray.toList_eq] at h
  exact ByteArray.ext (Array.toList_inj.1 h)
/-- No class begins there. -/
theorem classNo_no {s : ByteArray} (h : ∀ k, k < 12 → startsAt s 0 (cpat k) ≠ true) : classNo s 0 0 12 = none := by
  cases hc : classNo s 0 0 12 with
  | none => rfl
  | some r =>
    obtain ⟨_, h2, h3, _⟩ := classNo_some hc
    exact absurd h3 (h r (by omega))
/-- named: the class at the beginning of a text, and how long all of it is. -/
def namedF (s : ByteArray) : ByteArray × Nat := match classNo s 0 0 12 with | some k => (cname k, (cpat k).size) | none => (⟨#[]⟩, 0)
theorem namedF_no {s : ByteArray} (h : ∀ k, k < 12 → startsAt s 0 (cpat k) ≠ true) : namedF s = (⟨#[]⟩, 0) := by
  unfold namedF
  rw [classNo_no h]
theorem namedF_of {s : ByteArray} {k : Nat} (hk : k < 12) (h : startsAt s 0 (cpat k) = true) : namedF s = (cname k, (cpat k).size) := by
  unfold namedF
  rw [classNo_of hk h]
/-- Where a class stands, its end stands behind lower letters. -/
theorem class_end {s : ByteArray} {k : Nat} (hk : k < 12) (h : startsAt s 0 (cpat k) = true) : 3 + (cname k).size < s.size ∧ bn s (2 + (cname k).size) = 58 ∧ bn s (3 + (cname k).size) = 93 ∧ ∀ t, t < (cname k).size → bn s (2 + t) = bn (cname k) t ∧ 97 ≤ bn s (2 + t) ∧ bn s (2 + t) ≤ 122 := by
  obtain ⟨h1, h2⟩ := (startsAt_iff (cpat_pos k)).1 h
  obtain ⟨c0, c1, c2, c3, c4⟩ := cpat_bytes hk
  have hl := cpat_len k
  refine ⟨by omega, ?_, ?_, fun t ht => ?_⟩
  · have := h2 (2 + (cname k).size) (by omega); rw [Nat.zero_add] at this; omega
  · have := h2 (3 + (cname k).size) (by omega); rw [Nat.zero_add] at this; omega
  · have := h2 (2 + t) (by omega); rw [Nat.zero_add] at this
    have := c4 t ht
    omega
set_option maxRecDepth 100000 in
set_option maxHeartbeats 4000000 in
theorem named_calls (s : ByteArray) (w : World) (hs : s.size ≤ 1048576) (hb : startsAt s 0 ⟨#[91, 58]⟩ = true) :
    Calls Tryz.prog 48 #[.string s] w fun e w' => e = .returned (.tuple #[.string (namedF s).1, .int .i64 ((namedF s).2 : Int)]) ∧ w' = w := by
  have hz : 2 ≤ s.size := by have := (begins_iff.1 hb).1; omega
  have HB := Asd.mk hb
  clear hb
  go_enter Tryz.func48, Tryz.ntmps48
  go_wp2
  go_loopg [4] (s.size - 1) (fun gk v4 wr => w = wr ∧ ∃ i : Nat, 2 ≤ i ∧ i ≤ s.size ∧ gk = s.size + 1 - i ∧ v4 = .int .i64 (i : Int) ∧ Asd (∀ j, 2 ≤ j → j < i → 97 ≤ bn s j ∧ bn s j ≤ 122))
  case atStart => exact ⟨rfl, 2, by omega, hz, by omega, rfl, ⟨fun j h1 h2 => by omega⟩⟩
  case round =>
    obtain ⟨rfl, i, hi2, his, rfl, rfl, HL⟩ := hrel
    -- a class would end at i, or before, or behind
    have key : ∀ k, k < 12 → startsAt s 0 (cpat k) = true → i ≤ 2 + (cname k).size ∧ (i < 2 + (cname k).size → 97 ≤ bn s i ∧ bn s i ≤ 122) := by
      intro k hk h
      obtain ⟨a1, a2, a3, a4⟩ := class_end hk h
      refine ⟨?_, fun hlt => ?_⟩
      · apply Classical.byContradiction
        intro hn
        have := HL.out (2 + (cname k).size) (by omega) (by omega)
        omega
      · have := a4 (i - 2) (by omega)
        rw [show 2 + (i - 2) = i by omega] at this
        omega
    have KEY := Asd.mk key
    clear key
    by_cases h1 : i + 1 < s.size
    · have h0 : i < s.size := by omega
      have b0 : bn s i = s[i].toNat := by unfold bn; rw [dif_pos h0]
      have b1 : bn s (i + 1) = s[i + 1].toNat := by unfold bn; rw [dif_pos h1]
      by_cases h58 : bn s i = 58
      · have t1 : (((s[i].toNat : Nat) : Int) == 58) = true := by rw [← b0, h58]; rfl
        by_cases h93 : bn s (i + 1) = 93
        · have t2 : (((s[i + 1].toNat : Nat) : Int) == 93) = true := by rw [← b1, h93]; rfl
          by_cases hkn : ∃ k, k < 12 ∧ ((s.extract 2 i).toList == (cname k).toList) = true
          · obtain ⟨k, hk, hn⟩ := hkn
            obtain ⟨g1, g2⟩ := (name_iff hi2 (by omega)).1 hn
            have hst : startsAt s 0 (cpat k) = true := by
              rw [startsAt_iff (cpat_pos k)]
              obtain ⟨c0, c1, c2, c3, c4⟩ := cpat_bytes hk
              have hl := cpat_len k
              have hbg := begins_iff.1 HB.out
              refine ⟨by omega, fun t ht => ?_⟩
              rw [Nat.zero_add]
              rcases (show t = 0 ∨ t = 1 ∨ (2 ≤ t ∧ t < 2 + (cname k).size) ∨ t = 2 + (cname k).size ∨ t = 3 + (cname k).size by omega) with rfl | rfl | ⟨x1, x2⟩ | rfl | rfl
              · rw [hbg.2.1, c0]
              · rw [show (1 : Nat) = 0 + 1 from rfl, hbg.2.2, c1]
              · have := g2 (t - 2) (by omega)
                rw [show 2 + (t - 2) = t by omega] at this
                rw [this, ← (c4 (t - 2) (by omega)).1, show 2 + (t - 2) = t by omega]
              · rw [c2, ← g1, h58]
              · rw [c3, show 3 + (cname k).size = i + 1 by omega, h93]
            have hnF := namedF_of hk hst
            have hne : s.extract 2 i = cname k := eq_of_toList hn
            have hl := cpat_len k
            have HNF := Asd.mk hnF
            have HNE := Asd.mk hne
            have HG1 := Asd.mk g1
            have j1 : (2 : Int) ≤ (i : Int) := by omega
            have j2 : (i : Int) ≤ (s.size : Int) := by omega
            clear hnF hne hst hn g1 g2 b0 b1 h58 h93
            go_wp2_with fail
            have hRC := rclass_calls k hk 0 w (by omega) (by omega)
            rw [← HNE.out] at hRC
            refine hRC.mono ?_
            clear hRC
            rintro e w1 ⟨rfl, rfl⟩
            go_wp2
            go_ret2
            have hg1 := HG1.out
            have hnE := HNE.out
            refine ⟨?_, rfl⟩
            rw [HNF.out]
            simp only
            rw [← hnE, hl, show ((2 + (cname k).size + 2 : Nat) : Int) = (i : Int) + 2 by omega]
            rfl
          · have hno : ∀ k, k < 12 → ((s.extract 2 i).toList == (cname k).toList) = false := fun k hk => Bool.eq_false_iff.2 (fun h => hkn ⟨k, hk, h⟩)
            have hnF : namedF s = (⟨#[]⟩, 0) := namedF_no (fun k hk h => by
              obtain ⟨k1, k2⟩ := KEY.out k hk h
              obtain ⟨a1, a2, a3, a4⟩ := class_end hk h
              by_cases hlt : i < 2 + (cname k).size
              · have := k2 hlt; omega
              · exact hkn ⟨k, hk, (name_iff hi2 (by omega)).2 ⟨by omega, fun t ht => (a4 t ht).1⟩⟩)
            have HNF := Asd.mk hnF
            have HNO := Asd.mk hno
            have j1 : (2 : Int) ≤ (i : Int) := by omega
            have j2 : (i : Int) ≤ (s.size : Int) := by omega
            clear hnF hno hkn b0 b1 h58 h93
            go_wp2_with fail
            refine (rclass_no _ w HNO.out).mono ?_
            rintro e w1 ⟨rfl, rfl⟩
            go_wp2
            go_ret2
            exact ⟨by rw [HNF.out]; rfl, rfl⟩
        · have t2 : (((s[i + 1].toNat : Nat) : Int) == 93) = false := by rw [← b1]; simp; omega
          have t3 : decide (((s[i].toNat : Nat) : Int) < 97) = true := decide_eq_true (by rw [← b0, h58]; decide)
          have hnF : namedF s = (⟨#[]⟩, 0) := namedF_no (fun k hk h => by
            obtain ⟨k1, k2⟩ := KEY.out k hk h
            obtain ⟨a1, a2, a3, a4⟩ := class_end hk h
            by_cases hlt : i < 2 + (cname k).size
            · have := k2 hlt; omega
            · apply h93
              rw [show i + 1 = 3 + (cname k).size by omega]; exact a3)
          have HNF := Asd.mk hnF
          clear hnF b0 b1 h58 h93
          go_wp2
          go_ret2
          exact ⟨by rw [HNF.out]; rfl, rfl⟩
      · have t1 : (((s[i].toNat : Nat) : Int) == 58) = false := by rw [← b0]; simp; omega
        by_cases hlo : 97 ≤ bn s i ∧ bn s i ≤ 122
        · have t3 : decide (((s[i].toNat : Nat) : Int) < 97) = false := decide_eq_false (by rw [← b0]; omega)
          have t4 : decide (122 < ((s[i].toNat : Nat) : Int)) = false := decide_eq_false (by rw [← b0]; omega)
          have hL2 : ∀ j, 2 ≤ j → j < i + 1 → 97 ≤ bn s j ∧ bn s j ≤ 122 := fun j x1 x2 => by
            by_cases hj : j = i
            · rw [hj]; exact hlo
            · exact HL.out j x1 (by omega)
          have HL2 := Asd.mk hL2
          clear hL2 hlo b0 b1 h58
          go_wp2
          go_roundg (s.size + 1 - (i + 1))
          case rel => exact ⟨rfl, i + 1, by omega, by omega, by omega, rfl, HL2⟩
          case measure => omega
        · have hnF : namedF s = (⟨#[]⟩, 0) := namedF_no (fun k hk h => by
            obtain ⟨k1, k2⟩ := KEY.out k hk h
            obtain ⟨a1, a2, a3, a4⟩ := class_end hk h
            by_cases hlt : i < 2 + (cname k).size
            · exact hlo (k2 hlt)
            · apply h58
              rw [show i = 2 + (cname k).size by omega]; exact a2)
          have HNF := Asd.mk hnF
          clear hnF h58
          by_cases hlow : bn s i < 97
          · have t3 : decide (((s[i].toNat : Nat) : Int) < 97) = true := decide_eq_true (by rw [← b0]; omega)
            clear b0 b1 hlo hlow
            go_wp2
            go_ret2
            exact ⟨by rw [HNF.out]; rfl, rfl⟩
          · have t3 : decide (((s[i].toNat : Nat) : Int) < 97) = false := decide_eq_false (by rw [← b0]; omega)
            have t4 : decide (122 < ((s[i].toNat : Nat) : Int)) = true := decide_eq_true (by rw [← b0]; omega)
            clear b0 b1 hlo hlow
            go_wp2
            go_ret2
            exact ⟨by rw [HNF.out]; rfl, rfl⟩
    · have hnF : namedF s = (⟨#[]⟩, 0) := namedF_no (fun k hk h => by
        obtain ⟨k1, k2⟩ := KEY.out k hk h
        obtain ⟨a1, a2, a3, a4⟩ := class_end hk h
        omega)
      have HNF := Asd.mk hnF
      clear hnF
      go_wp2
      go_ret2
      exact ⟨by rw [HNF.out]; rfl, rfl⟩
end Go.Proofs.YtgkifphfibcfdaaGreatDoor.G
