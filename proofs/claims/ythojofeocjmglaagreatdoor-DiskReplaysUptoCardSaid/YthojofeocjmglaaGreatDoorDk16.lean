/- Merged out of these texts: RefName, QLetter, QBuild, QQuote. -/
import Derived.Test.YthojofeocjmglaaGreatDoorDk3
import Derived.Test.YthojofeocjmglaaGreatDoorDk13
import Derived.Test.YthojofeocjmglaaGreatDoorDk2
import Derived.Test.YthojofeocjmglaaGreatDoorChecked
/- The reference's Name (layer 3): the walk. -/
namespace Go.Proofs.YthojofeocjmglaaGreatDoor.I
open Go.RowKit Go.Proofs.YthojofeocjmglaaGreatDoor.B Go.Sort
set_option linter.unusedVariables false
def nameE (s : ByteArray) : Int := if okNm s.data.toList = true then 0 else 30
theorem list_get {s : ByteArray} {i : Nat} (hi : i < s.size) : s.data.toList[i]? = some s[i] := by
  have : i < s.data.toList.length := by simpa using hi
  rw [List.getElem?_eq_getElem this]
  rfl
theorem list_size (s : ByteArray) : s.data.toList.length = s.size := by show _ = s.data.size; simp
theorem ba_tests (s : ByteArray) (l : List UInt8) : (s.toList == l) = decide (s.data.toList = l) := by
  rw [ByteArray.toList_eq]
  by_cases h : s.data.toList = l
  · rw [decide_eq_true h]; simpa using h
  · rw [decide_eq_false h]; simpa using h
set_option maxRecDepth 100000 in
set_option maxHeartbeats 16000000 in
theorem refname_calls (s : ByteArray) (w : World) (hs : s.size ≤ 4294967280) :
    Calls Tryz.prog 154 #[.string s] w fun e w' => e = .returned (.int .i64 (nameE s)) ∧ w' = w := by
  have t1 := ba_tests s []
  have t2 := ba_tests s [46]
  have t3 := ba_tests s [46, 46]
  have hl := list_size s
  by_cases h1 : s.data.toList = []
  · have HA := Asd.mk (show nameE s = 30 by unfold nameE; rw [if_neg (by unfold okNm; rw [decide_eq_true_eq]; exact fun h => h.1 h1)])
    rw [decide_eq_true h1] at t1
    clear t2 t3 h1 hl
    (go_enter Tryz.func154, Tryz.ntmps154)
    go_wp2
    go_ret
    exact ⟨by rw [HA.out]; rfl, rfl⟩
  · rw [decide_eq_false h1] at t1
    by_cases h2 : s.data.toList = [46]
    · have HA := Asd.mk (show nameE s = 30 by unfold nameE; rw [if_neg (by unfold okNm; rw [decide_eq_true_eq]; exact fun h => h.2.2.1 h2)])
      rw [decide_eq_true h2] at t2
      clear t3 h1 h2 hl
      (go_enter Tryz.func154, Tryz.ntmps154)
      go_wp2
      go_ret
      exact ⟨by rw [HA.out]; rfl, rfl⟩
    · rw [decide_eq_false h2] at t2
      by_cases h3 : s.data.toList = [46, 46]
      · have HA := Asd.mk (show nameE s = 30 by unfold nameE; rw [if_neg (by unfold okNm; rw [decide_eq_true_eq]; exact fun h => h.2.2.2.1 h3)])
        rw [decide_eq_true h3] at t3
        clear h1 h2 h3 hl
        (go_enter Tryz.func154, Tryz.ntmps154)
        go_wp2
        go_ret
        exact ⟨by rw [HA.out]; rfl, rfl⟩
      · rw [decide_eq_false h3] at t3
        by_cases h4 : 255 < s.size
        · have HA := Asd.mk (show nameE s = 30 by unfold nameE; rw [if_neg (by unfold okNm; rw [decide_eq_true_eq]; exact fun h => by have := h.2.1; omega)])
          have k1 : (255 : Int) < (s.size : Int) := by omega
          clear h1 h2 h3 hl h4
          (go_enter Tryz.func154, Tryz.ntmps154)
          go_wp2
          go_ret
          exact ⟨by rw [HA.out]; rfl, rfl⟩
        · have k1 : ¬ (255 : Int) < (s.size : Int) := by omega
          have HN := Asd.mk (show ∀ (hz : (47 : UInt8) ∉ s.data.toList ∧ (0 : UInt8) ∉ s.data.toList), nameE s = 0 from fun hz => by unfold nameE; rw [if_pos (by unfold okNm; rw [decide_eq_true_eq]; exact ⟨h1, by omega, h2, h3, hz⟩)])
          have HB := Asd.mk (show (47 : UInt8) ∈ s.data.toList ∨ (0 : UInt8) ∈ s.data.toList → nameE s = 30 from fun hz => by unfold nameE; rw [if_neg (by unfold okNm; rw [decide_eq_true_eq]; exact fun h => hz.elim h.2.2.2.2.1 h.2.2.2.2.2)])
          have HL := Asd.mk hl
          clear h1 h2 h3 hl h4
          (go_enter Tryz.func154, Tryz.ntmps154)
          go_wp2
          go_loopg [3] (s.size + 1) (fun gk v3 wx => wx = w ∧ ∃ i : Nat, i ≤ s.size ∧ gk = s.size + 1 - i ∧ v3 = .int .i64 (i : Int) ∧ Asd (∀ j, j < i → s.data.toList[j]? ≠ some 47 ∧ s.data.toList[j]? ≠ some 0))
          case atStart => exact ⟨rfl, 0, by omega, rfl, rfl, ⟨fun j hj => by omega⟩⟩
          case round =>
            obtain ⟨rfl, i, hi, rfl, rfl, HJ⟩ := hrel
            by_cases hlt : i < s.size
            · have k2 : (i : Int) < (s.size : Int) := by omega
              have hg := list_get hlt
              by_cases e1 : s[i] = 47
              · have HA := Asd.mk (HB.out (.inl (List.mem_of_getElem? (hg.trans (by rw [e1])))))
                have t5 : (((s[i].toNat : Nat) : Int) == 47) = true := by rw [e1]; rfl
                clear hg e1 HB HN HJ
                go_wp2
                go_ret
                exact ⟨by rw [HA.out]; rfl, rfl⟩
              · have t5 : (((s[i].toNat : Nat) : Int) == 47) = false := by
                  refine beq_eq_false_iff_ne.2 fun h => e1 ?_
                  apply UInt8.toNat_inj.1
                  have : s[i].toNat = 47 := by omega
                  rw [this]; rfl
                by_cases e2 : s[i] = 0
                · have HA := Asd.mk (HB.out (.inr (List.mem_of_getElem? (hg.trans (by rw [e2])))))
                  have t6 : (((s[i].toNat : Nat) : Int) == 0) = true := by rw [e2]; rfl
                  clear hg e1 e2 HB HN HJ
                  go_wp2
                  go_ret
                  exact ⟨by rw [HA.out]; rfl, rfl⟩
                · have t6 : (((s[i].toNat : Nat) : Int) == 0) = false := by
                    refine beq_eq_false_iff_ne.2 fun h => e2 ?_
                    apply UInt8.toNat_inj.1
                    have : s[i].toNat = 0 := by omega
                    rw [this]; rfl
                  have HJ2 := Asd.mk (show ∀ j, j < i + 1 → s.data.toList[j]? ≠ some 47 ∧ s.data.toList[j]? ≠ some 0 from fun j hj => by
                    rcases Nat.lt_or_ge j i with h | h
                    · exact HJ.out j h
                    · obtain rfl : j = i := by omega
                      rw [hg]
                      exact ⟨fun h => e1 (Option.some.inj h), fun h => e2 (Option.some.inj h)⟩)
                  clear hg e1 e2 HJ
                  go_wp2
                  go_roundg (s.size + 1 - (i + 1))
                  case rel => exact ⟨rfl, i + 1, by omega, by omega, by go_num, HJ2⟩
                  case measure => omega
            · have k2 : ¬ (i : Int) < (s.size : Int) := by omega
              have HA := Asd.mk (HN.out ⟨fun h => by
                obtain ⟨j, hj⟩ := List.getElem?_of_mem h
                have hjl := (List.getElem?_eq_some_iff.1 hj).1
                exact (HJ.out j (by have := HL.out; omega)).1 hj, fun h => by
                obtain ⟨j, hj⟩ := List.getElem?_of_mem h
                have hjl := (List.getElem?_eq_some_iff.1 hj).1
                exact (HJ.out j (by have := HL.out; omega)).2 hj⟩)
              clear HB HN HJ
              go_wp2
              go_ret
              exact ⟨by rw [HA.out]; rfl, rfl⟩
end Go.Proofs.YthojofeocjmglaaGreatDoor.I
/- The program's letter and Needs: the walks. -/
namespace Go.Proofs.YthojofeocjmglaaGreatDoor.I
open Go.RowKit Go.Proofs.YthojofeocjmglaaGreatDoor.B Go.Sort
set_option linter.unusedVariables false
theorem lit_yes (i : Nat) (h : i + 1 < (⟨#[7, 97, 8, 98, 9, 116, 10, 110, 11, 118, 12, 102, 13, 114, 34, 34, 92, 92]⟩ : ByteArray).size) (h2 : i % 2 = 0) (c : UInt8) (hc : ((⟨#[7, 97, 8, 98, 9, 116, 10, 110, 11, 118, 12, 102, 13, 114, 34, 34, 92, 92]⟩ : ByteArray)[i]'(by omega)).toNat = c.toNat) : letterL c = some ((⟨#[7, 97, 8, 98, 9, 116, 10, 110, 11, 118, 12, 102, 13, 114, 34, 34, 92, 92]⟩ : ByteArray)[i + 1]'h) := by
  have hb : i + 1 < 18 := h
  have hc2 : ((⟨#[7, 97, 8, 98, 9, 116, 10, 110, 11, 118, 12, 102, 13, 114, 34, 34, 92, 92]⟩ : ByteArray)[i]'(by omega)) = c := UInt8.toNat_inj.1 hc
  rw [← hc2]
  clear hc hc2
  match i, hb, h2 with
  | 0, _, _ => rfl
  | 2, _, _ => rfl
  | 4, _, _ => rfl
  | 6, _, _ => rfl
  | 8, _, _ => rfl
  | 10, _, _ => rfl
  | 12, _, _ => rfl
  | 14, _, _ => rfl
  | 16, _, _ => rfl
  | i + 17, hb, _ => exact absurd hb (by omega)
theorem lit_no (c : UInt8) (h : ∀ i, i < 18 → i % 2 = 0 → ((⟨#[7, 97, 8, 98, 9, 116, 10, 110, 11, 118, 12, 102, 13, 114, 34, 34, 92, 92]⟩ : ByteArray).data[i]!).toNat ≠ c.toNat) : letterL c = none := by
  have g : ∀ x : UInt8, x.toNat ≠ c.toNat → (c == x) = false := fun x hx => by
    simp only [beq_eq_false_iff_ne]
    rintro rfl
    exact hx rfl
  unfold letterL escT
  simp only [List.lookup_cons]
  rw [g 7 (h 0 (by omega) rfl), g 8 (h 2 (by omega) rfl), g 9 (h 4 (by omega) rfl), g 10 (h 6 (by omega) rfl), g 11 (h 8 (by omega) rfl), g 12 (h 10 (by omega) rfl), g 13 (h 12 (by omega) rfl), g 34 (h 14 (by omega) rfl), g 92 (h 16 (by omega) rfl)]
  rfl
set_option maxRecDepth 100000 in
set_option maxHeartbeats 4000000 in
theorem letter_calls (c : UInt8) (w : World) :
    Calls Tryz.prog 135 #[.int .u8 (c.toNat : Int)] w fun e w' => e = .returned (.tuple #[.int .u8 (((letterL c).getD 0).toNat : Int), .bool (letterL c).isSome]) ∧ w' = w := by
  obtain ⟨R, hR⟩ : ∃ R, letterL c = R := ⟨_, rfl⟩
  rw [hR]
  have HR := Asd.mk hR
  obtain ⟨cn, hcn⟩ : ∃ cn, c.toNat = cn := ⟨_, rfl⟩
  rw [hcn]
  have HC := Asd.mk hcn
  clear hR hcn
  (go_enter Tryz.func135, Tryz.ntmps135)
  go_wp2
  go_loopg [4] 20 (fun gk v4 wx => ∃ i : Nat, i ≤ 18 ∧ i % 2 = 0 ∧ gk = 20 - i ∧ v4 = .int .i64 (i : Int) ∧ wx = w ∧ Asd (∀ j, j < i → j % 2 = 0 → ((⟨#[7, 97, 8, 98, 9, 116, 10, 110, 11, 118, 12, 102, 13, 114, 34, 34, 92, 92]⟩ : ByteArray).data[j]!).toNat ≠ cn))
  case atStart => exact ⟨0, by omega, rfl, rfl, rfl, rfl, ⟨fun j hj => absurd hj (by omega)⟩⟩
  case round =>
    obtain ⟨i, hi, h2, rfl, rfl, rfl, HN⟩ := hrel
    by_cases hlt : i < 18
    · have k1 : (i : Int) < 18 := by omega
      have k2 : i < (⟨#[7, 97, 8, 98, 9, 116, 10, 110, 11, 118, 12, 102, 13, 114, 34, 34, 92, 92]⟩ : ByteArray).size := hlt
      have k3 : i + 1 < (⟨#[7, 97, 8, 98, 9, 116, 10, 110, 11, 118, 12, 102, 13, 114, 34, 34, 92, 92]⟩ : ByteArray).size := by show i + 1 < 18; omega
      obtain ⟨x, hx⟩ : ∃ x, ((⟨#[7, 97, 8, 98, 9, 116, 10, 110, 11, 118, 12, 102, 13, 114, 34, 34, 92, 92]⟩ : ByteArray)[i]'k2).toNat = x := ⟨_, rfl⟩
      obtain ⟨y, hy⟩ : ∃ y, ((⟨#[7, 97, 8, 98, 9, 116, 10, 110, 11, 118, 12, 102, 13, 114, 34, 34, 92, 92]⟩ : ByteArray)[i + 1]'k3) = y := ⟨_, rfl⟩
      have HX := Asd.mk hx
      have HY := Asd.mk hy
      by_cases he : x = cn
      · have HA := Asd.mk (show R = some y by
          rw [← HR.out, ← HY.out]
          exact lit_yes i k3 h2 c (by rw [HX.out, HC.out, he]))
        have t1 : ((x : Int) == (cn : Int)) = true := by rw [he]; simp
        go_wp2
        go_ret2
        exact ⟨by rw [HA.out]; rfl, rfl⟩
      · have t1 : ((x : Int) == (cn : Int)) = false := by
          simp only [beq_eq_false_iff_ne]; omega
        have HN2 := Asd.mk (show ∀ j, j < i + 2 → j % 2 = 0 → ((⟨#[7, 97, 8, 98, 9, 116, 10, 110, 11, 118, 12, 102, 13, 114, 34, 34, 92, 92]⟩ : ByteArray).data[j]!).toNat ≠ cn from fun j hj hj2 => by
          by_cases e : j = i
          · subst e
            rw [show (⟨#[7, 97, 8, 98, 9, 116, 10, 110, 11, 118, 12, 102, 13, 114, 34, 34, 92, 92]⟩ : ByteArray).data[j]! = (⟨#[7, 97, 8, 98, 9, 116, 10, 110, 11, 118, 12, 102, 13, 114, 34, 34, 92, 92]⟩ : ByteArray)[j]'k2 from by rw [getElem!_pos (⟨#[7, 97, 8, 98, 9, 116, 10, 110, 11, 118, 12, 102, 13, 114, 34, 34, 92, 92]⟩ : ByteArray).data j k2]; rfl, HX.out]
            exact he
          · exact HN.out j (by omega) hj2)
        go_wp2
        go_roundg (20 - (i + 2))
        case rel => exact ⟨i + 2, by omega, by omega, rfl, by go_num, rfl, HN2⟩
        case measure => omega
    · obtain rfl : i = 18 := by omega
      have HA := Asd.mk (show R = none by
        rw [← HR.out]
        exact lit_no c (fun j hj hj2 => by rw [HC.out]; exact HN.out j hj hj2))
      go_wp2
      go_ret2
      exact ⟨by rw [HA.out]; rfl, rfl⟩
theorem needs_size {s : ByteArray} (h : s.size = 0) : needsL s.data.toList = true := by
  have : s.data.toList = [] := List.eq_nil_of_length_eq_zero (by have := list_size s; omega)
  rw [this]
  rfl
theorem needs_yes {s : ByteArray} {i : Nat} (hi : i < s.size) (h : needB s[i] = true) : needsL s.data.toList = true := by
  unfold needsL
  rw [Bool.or_eq_true]
  right
  rw [List.any_eq_true]
  exact ⟨s[i], by rw [Array.mem_toList_iff]; exact Array.getElem_mem _, h⟩
theorem needs_no {s : ByteArray} (h0 : s.size ≠ 0) (h : ∀ i, (hi : i < s.size) → needB s[i] = false) : needsL s.data.toList = false := by
  unfold needsL
  rw [Bool.or_eq_false_iff]
  refine ⟨?_, ?_⟩
  · cases hs : s.data.toList with
    | nil => exact absurd (by have := list_size s; rw [hs] at this; simpa using this.symm) h0
    | cons a l => rfl
  · rw [List.any_eq_false]
    intro x hx
    rw [Array.mem_toList_iff] at hx
    obtain ⟨i, hi, rfl⟩ := Array.mem_iff_getElem.1 hx
    rw [show needB s.data[i] = needB s[i] from rfl, h i hi]
    simp
theorem need_bits (c : UInt8) : needB c = (decide (c.toNat < 33) || decide (127 ≤ c.toNat) || decide (c.toNat = 34) || decide (c.toNat = 92)) := by
  have := all_u8 (p := fun c => needB c == (decide (c.toNat < 33) || decide (127 ≤ c.toNat) || decide (c.toNat = 34) || decide (c.toNat = 92))) (by kernel_rfl) c
  simpa using this
set_option maxRecDepth 100000 in
set_option maxHeartbeats 4000000 in
theorem needs_calls (s : ByteArray) (w : World) (hs : s.size ≤ 4294967280) :
    Calls Tryz.prog 133 #[.string s] w fun e w' => e = .returned (.bool (needsL s.data.toList)) ∧ w' = w := by
  obtain ⟨R, hR⟩ : ∃ R, needsL s.data.toList = R := ⟨_, rfl⟩
  rw [hR]
  have HR := Asd.mk hR
  clear hR
  have hT := ba_tests s []
  have hsl := list_size s
  by_cases h0 : s.size = 0
  · have h0' : s.data.toList = [] := List.eq_nil_of_length_eq_zero (by omega)
    rw [decide_eq_true h0'] at hT
    have HA := Asd.mk (show R = true by rw [← HR.out]; exact needs_size h0)
    clear h0' h0 hsl
    (go_enter Tryz.func133, Tryz.ntmps133)
    go_wp2
    go_ret
    exact ⟨by rw [HA.out]; rfl, rfl⟩
  · have h0' : ¬ s.data.toList = [] := fun e => by rw [e] at hsl; exact h0 hsl.symm
    rw [decide_eq_false h0'] at hT
    have H0 := Asd.mk h0
    clear h0' h0 hsl
    (go_enter Tryz.func133, Tryz.ntmps133)
    go_wp2
    go_loopg [9] (s.size + 1) (fun gk v9 wx => ∃ i : Nat, i ≤ s.size ∧ gk = s.size + 1 - i ∧ v9 = .int .i64 (i : Int) ∧ wx = w ∧ Asd (∀ j, (hj : j < s.size) → j < i → needB s[j] = false))
    case atStart => exact ⟨0, by omega, rfl, rfl, rfl, ⟨fun j _ hj => absurd hj (by omega)⟩⟩
    case round =>
      obtain ⟨i, hi, rfl, rfl, rfl, HN⟩ := hrel
      by_cases hlt : i < s.size
      · have k1 : (i : Int) < (s.size : Int) := by omega
        have hnb := need_bits s[i]
        obtain ⟨x, hx⟩ : ∃ x, s[i].toNat = x := ⟨_, rfl⟩
        rw [hx] at hnb
        have HX := Asd.mk hx
        have HB := Asd.mk hnb
        clear hnb
        by_cases b1 : x < 33
        · have HA := Asd.mk (show R = true by rw [← HR.out]; exact needs_yes hlt (by rw [HB.out]; simp [b1]))
          have t1 : decide ((x : Int) < 33) = true := decide_eq_true (by omega)
          clear HB b1
          go_wp2
          go_ret
          exact ⟨by rw [HA.out]; rfl, rfl⟩
        · have t1 : decide ((x : Int) < 33) = false := decide_eq_false (by omega)
          by_cases b2 : 127 ≤ x
          · have HA := Asd.mk (show R = true by rw [← HR.out]; exact needs_yes hlt (by rw [HB.out]; simp [b2]))
            have t2 : decide ((127 : Int) ≤ (x : Int)) = true := decide_eq_true (by omega)
            clear HB b1 b2
            go_wp2
            go_ret
            exact ⟨by rw [HA.out]; rfl, rfl⟩
          · have t2 : decide ((127 : Int) ≤ (x : Int)) = false := decide_eq_false (by omega)
            by_cases b3 : x = 34
            · have HA := Asd.mk (show R = true by rw [← HR.out]; exact needs_yes hlt (by rw [HB.out]; simp [b3]))
              have t3 : ((x : Int) == 34) = true := by rw [b3]; rfl
              clear HB b1 b2 b3
              go_wp2
              go_ret
              exact ⟨by rw [HA.out]; rfl, rfl⟩
            · have t3 : ((x : Int) == 34) = false := by simp only [beq_eq_false_iff_ne]; omega
              by_cases b4 : x = 92
              · have HA := Asd.mk (show R = true by rw [← HR.out]; exact needs_yes hlt (by rw [HB.out]; simp [b4]))
                have t4 : ((x : Int) == 92) = true := by rw [b4]; rfl
                clear HB b1 b2 b3 b4
                go_wp2
                go_ret
                exact ⟨by rw [HA.out]; rfl, rfl⟩
              · have t4 : ((x : Int) == 92) = false := by simp only [beq_eq_false_iff_ne]; omega
                have HN2 := Asd.mk (show ∀ j, (hj : j < s.size) → j < i + 1 → needB s[j] = false from fun j hj hji => by
                  by_cases e : j = i
                  · subst e; rw [HB.out]; simp [b1, b2, b3, b4]
                  · exact HN.out j hj (by omega))
                clear HB b1 b2 b3 b4
                go_wp2
                go_roundg (s.size + 1 - (i + 1))
                case rel => exact ⟨i + 1, by omega, by omega, by go_num, rfl, HN2⟩
                case measure => omega
      · obtain rfl : i = s.size := by omega
        have HA := Asd.mk (show R = false by
          rw [← HR.out]
          exact needs_no H0.out (fun j hj => HN.out j hj hj))
        go_wp2
        go_ret
        exact ⟨by rw [HA.out]; rfl, rfl⟩
end Go.Proofs.YthojofeocjmglaaGreatDoor.I
/- The strings.Builder of Quote: copyCheck, WriteByte, Write at a builder that the call has made itself. (The kit's contracts do not lay at this program: copyCheck's last branch is cut.) -/
namespace Go.Proofs.YthojofeocjmglaaGreatDoor.I
open Go.RowKit Go.Proofs.YthojofeocjmglaaGreatDoor.B Go.Sort
set_option linter.unusedVariables false
theorem size_builder : (Tryz.prog.info? 191).map (·.size) = some 2 := by kernel_rfl
theorem lies_builder : liesAt Tryz.prog Tryz.prog.depth 191 (2 / Tryz.prog.cellsOf 191) 0 191 1 = true := by kernel_rfl
theorem info_byte : (Tryz.prog.info? 5).map (fun i => (i.zero, i.size, i.bytes)) = some (some (.int .u8 0), 1, 1) := by kernel_rfl
set_option maxHeartbeats 1000000 in
set_option maxRecDepth 100000 in
theorem bld_check_used (b : Nat) (w : World) (h0 : w.cell? ⟨b, 0, none⟩ = some (.pointer (some ⟨b, 0, none⟩))) :
    Calls Tryz.prog 158 #[(.pointer (some ⟨b, 0, none⟩))] w fun e w' => e = .returned (.tuple #[]) ∧ w' = w := by
  obtain ⟨j, hj, _⟩ := Option.map_eq_some_iff.1 size_builder
  (go_enter Tryz.func158, Tryz.ntmps158)
  go_wp2
  rw [Lib.run_neq_ptr_same w _ Tryz.underlying189 hj]
  go_wp2
  go_end0
  exact ⟨rfl, rfl⟩
set_option maxHeartbeats 1000000 in
set_option maxRecDepth 100000 in
theorem bld_check_fresh (b : Nat) (w : World) (h0 : w.cell? ⟨b, 0, none⟩ = some (.pointer none)) (hsh : w.shape? b = some (191, 2)) (hfz : w.frozen? ⟨b, 0, none⟩ = false) :
    Calls Tryz.prog 158 #[(.pointer (some ⟨b, 0, none⟩))] w fun e w' => e = .returned (.tuple #[]) ∧ w' = w.setCell ⟨b, 0, none⟩ (.pointer (some ⟨b, 0, none⟩)) := by
  obtain ⟨j, hj, hjs⟩ := Option.map_eq_some_iff.1 size_builder
  (go_enter Tryz.func158, Tryz.ntmps158)
  go_wp2
  rw [Lib.run_to_unsafe w ⟨b, 0, none⟩ Tryz.underlying189 Tryz.underlying134 hj (by rw [hjs]; decide) hsh (Nat.zero_lt_succ 1)]
  simp only [Result.andThen]
  rw [Oper.upon_value]
  go_wp2
  rw [run_callFunc_extern Tryz.func178 (by kernel_rfl) (by kernel_rfl) (by kernel_rfl) (e := Extern.AbiNoEscape.same) (by kernel_rfl)]
  rw [Lib.run_noEscape]
  simp only [Result.andThen]
  rw [Oper.upon_value]
  go_wp2
  rw [Lib.run_from_unsafe w ⟨b, 0, none⟩ Tryz.underlying134 Tryz.underlying189 hj hsh lies_builder]
  simp only [Result.andThen]
  rw [Oper.upon_value]
  go_wp2
  go_end0
  exact ⟨rfl, rfl⟩
theorem bld_check (B b : Nat) (bs : List Value) (w : World) (h : Lib.IsBuilder 191 5 B b bs w) :
    Calls Tryz.prog 158 #[(.pointer (some ⟨b, 0, none⟩))] w fun e w' => e = .returned (.tuple #[]) ∧ (Lib.BuilderAt 191 5 B b (.pointer (some ⟨b, 0, none⟩)) bs w' ∧ Below B w w') := by
  rcases h with h | h
  · refine (bld_check_fresh b w h.cell0 h.shape h.frozen0).mono ?_
    rintro e w' ⟨rfl, rfl⟩
    exact ⟨rfl, h.used _, (Below.refl B w).setCell (p := ⟨b, 0, none⟩) h.1 _⟩
  · refine (bld_check_used b w h.cell0).mono ?_
    rintro e w' ⟨rfl, rfl⟩
    exact ⟨rfl, h, Below.refl B _⟩
set_option maxHeartbeats 2000000 in
set_option maxRecDepth 100000 in
theorem bld_byte (B b : Nat) (bs : List Value) (c : Int) (w : World) (h : Lib.IsBuilder 191 5 B b bs w) (hlen : bs.length + 1 ≤ 140737488355328) (hBw : B ≤ w.heap.size) :
    Calls Tryz.prog 134 #[(.pointer (some ⟨b, 0, none⟩)), .int .u8 c] w fun e w' => e = .returned .nilIface ∧ (Lib.BuilderAt 191 5 B b (.pointer (some ⟨b, 0, none⟩)) (bs ++ [.int .u8 c]) w' ∧ Below B w w') := by
  obtain ⟨i0, hi, hz0, hz1, hz2⟩ := info_parts info_byte
  (go_enter Tryz.func134, Tryz.ntmps134)
  go_wp2_with fail
  refine (bld_check B b bs _ h).mono ?_
  rintro e w1 ⟨rfl, h1, hb1⟩
  obtain ⟨hB, v, hbk, hown, hne⟩ := h1
  have c0 : w1.cell? ⟨b, 0, none⟩ = some (.pointer (some ⟨b, 0, none⟩)) := by rw [Lib.cell_of_heap hbk]; rfl
  have c1 : w1.cell? ⟨b, 1, none⟩ = some v := by rw [Lib.cell_of_heap hbk]; rfl
  go_wp2_with (at_builtin; refine wpList_append_own _ rfl _ _ 164 rfl B 5 i0 (.int .u8 0) 1 1 Tryz.underlying164 hi hz0 hz1 hz2 rfl (by decide) _ _ _ rfl (hown.alloc _) ⟨w1.heap.size, 0, none⟩ 1 1 [.int .u8 c] rfl rfl ?c1 ?c2 ?c3 ?c4 ?c5 ?_)
  case c1 =>
    intro j u hj
    match j, hj with
    | 0, hj => simp at hj; subst hj; simp [Addr.add]
  case c2 => intro u hu; simp at hu; subst hu; rfl
  case c3 => unfold maxLen; omega
  case c4 => omega
  case c5 => have := hb1.size; simp; omega
  intro v' w2 hown' hgrow _
  have hlt : b < w1.heap.size := lt_of_heap hbk
  have hb2 : w2.heap[b]? = some (.cells #[(.pointer (some ⟨b, 0, none⟩)), v] 191 (0, 0)) := by
    rw [hgrow.block b (by simp; omega) (fun e => hne e.symm), Lib.alloc_old w1 _ b hlt]
    exact hbk
  have d0 : w2.cell? ⟨b, 0, none⟩ = some (.pointer (some ⟨b, 0, none⟩)) := by rw [Lib.cell_of_heap hb2]; rfl
  have d1 : w2.cell? ⟨b, 1, none⟩ = some v := by rw [Lib.cell_of_heap hb2]; rfl
  have f1 : w2.frozen? ⟨b, 1, none⟩ = false := Lib.frozen_of_heap hb2 1
  obtain ⟨g, cap, rfl⟩ : ∃ g cap, v' = .slice (some ⟨g, 0, none⟩) (bs.length + 1) cap := by
    rcases hown'.2 with ⟨_, h0⟩ | ⟨g, cap, cur, hv, _⟩
    · omega
    · exact ⟨g, cap, hv⟩
  go_wp2
  go_ret
  refine ⟨rfl, ?_, ?_⟩
  · exact Lib.BuilderAt.put (T := 191) (e := 5) hB hb2 (bs' := bs ++ [.int .u8 c]) (by simpa using hown') (by decide)
  · exact ((hb1.alloc (by have := hb1.size; omega) _).grown hgrow (by have := hb1.size; simp; omega) (fun k hk => (hown.lt k hk).1)).setCell (p := ⟨b, 1, none⟩) hB _
set_option maxHeartbeats 2000000 in
set_option maxRecDepth 100000 in
/-- Write, of a row, at a builder that has been written. -/
theorem bld_write (B b : Nat) (bs : List Value) (g0 m c : Nat) (news : List Value) (w : World) (h : Lib.BuilderAt 191 5 B b (.pointer (some ⟨b, 0, none⟩)) bs w) (hl : news.length = m) (hnews : ∀ j u, news[j]? = some u → w.cell? ⟨g0, j, none⟩ = some u) (h1 : ∀ u ∈ news, u.oneCell' = true) (hlen : bs.length + m ≤ 140737488355328) (hm0 : 0 < m) (hBw : B ≤ w.heap.size) :
    Calls Tryz.prog 136 #[(.pointer (some ⟨b, 0, none⟩)), .slice (some ⟨g0, 0, none⟩) m c] w fun e w' => e = .returned (.tuple #[.int .i64 (m : Int), .nilIface]) ∧ (Lib.BuilderAt 191 5 B b (.pointer (some ⟨b, 0, none⟩)) (bs ++ news) w' ∧ Below B w w') := by
  obtain ⟨i0, hi, hz0, hz1, hz2⟩ := info_parts info_byte
  have HU := Asd.mk (bld_check_used b w h.cell0)
  have hnews2 : ∀ j u, news[j]? = some u → w.cell? ((⟨g0, 0, none⟩ : Addr).add j) = some u := fun j u hu => by
    have e : (⟨g0, 0, none⟩ : Addr).add j = ⟨g0, j, none⟩ := by
      unfold Addr.add
      split
      · subst_vars; rfl
      · simp
    rw [e]; exact hnews j u hu
  have HN := Asd.mk hnews2
  have H1 := Asd.mk h1
  clear hnews hnews2 h1
  obtain ⟨hB, v, hbk, hown, hne⟩ := h
  (go_enter Tryz.func136, Tryz.ntmps136)
  go_wp2_with fail
  refine HU.out.mono ?_
  rintro e w1 ⟨rfl, rfl⟩
  have c0 : w1.cell? ⟨b, 0, none⟩ = some (.pointer (some ⟨b, 0, none⟩)) := by rw [Lib.cell_of_heap hbk]; rfl
  have c1 : w1.cell? ⟨b, 1, none⟩ = some v := by rw [Lib.cell_of_heap hbk]; rfl
  go_wp2_with (at_builtin; refine wpList_append_own _ rfl _ _ 164 rfl B 5 i0 (.int .u8 0) 1 1 Tryz.underlying164 hi hz0 hz1 hz2 rfl (by decide) _ _ _ rfl hown ⟨g0, 0, none⟩ m c news rfl (by omega) HN.out H1.out ?c3 ?c4 hBw ?_)
  case c3 => unfold maxLen; omega
  case c4 => omega
  intro v' w2 hown' hgrow _
  have hlt : b < w1.heap.size := lt_of_heap hbk
  have hb2 : w2.heap[b]? = some (.cells #[(.pointer (some ⟨b, 0, none⟩)), v] 191 (0, 0)) := by
    rw [hgrow.block b hlt (fun e => hne e.symm)]
    exact hbk
  have d0 : w2.cell? ⟨b, 0, none⟩ = some (.pointer (some ⟨b, 0, none⟩)) := by rw [Lib.cell_of_heap hb2]; rfl
  have d1 : w2.cell? ⟨b, 1, none⟩ = some v := by rw [Lib.cell_of_heap hb2]; rfl
  have f1 : w2.frozen? ⟨b, 1, none⟩ = false := Lib.frozen_of_heap hb2 1
  obtain ⟨g, cap, rfl⟩ : ∃ g cap, v' = .slice (some ⟨g, 0, none⟩) (bs.length + m) cap := by
    rcases hown'.2 with ⟨_, h0⟩ | ⟨g, cap, cur, hv, _⟩
    · omega
    · exact ⟨g, cap, hv⟩
  go_wp2
  go_ret2
  refine ⟨rfl, ?_, ?_⟩
  · exact Lib.BuilderAt.put (T := 191) (e := 5) hB hb2 (bs' := bs ++ news) (by rw [List.length_append, hl]; exact hown') (by decide)
  · exact ((Below.refl B _).grown hgrow hBw (fun k hk => (hown.lt k hk).1)).setCell (p := ⟨b, 1, none⟩) hB _
end Go.Proofs.YthojofeocjmglaaGreatDoor.I
/- The program's Quote: the walk. -/
namespace Go.Proofs.YthojofeocjmglaaGreatDoor.I
open Go.RowKit Go.Proofs.YthojofeocjmglaaGreatDoor.B Go.Sort
set_option linter.unusedVariables false
/-- A builder of the call's own, written. -/
def Bd (w : World) (l : List UInt8) (W : World) : Prop := Lib.BuilderAt 191 5 w.heap.size w.heap.size (.pointer (some ⟨w.heap.size, 0, none⟩)) (Lib.byteCells l) W ∧ Below w.heap.size w W
theorem cells_snoc (l : List UInt8) (c : UInt8) : Lib.byteCells (l ++ [c]) = Lib.byteCells l ++ [.int .u8 (c.toNat : Int)] := by simp [Lib.byteCells]
theorem cells_app (l m : List UInt8) : Lib.byteCells (l ++ m) = Lib.byteCells l ++ Lib.byteCells m := by simp [Lib.byteCells]
theorem bd_byte {w W : World} {l : List UInt8} (h : Bd w l W) (c : UInt8) (hl : l.length ≤ 40000000000) :
    Calls Tryz.prog 134 #[(.pointer (some ⟨w.heap.size, 0, none⟩)), .int .u8 (c.toNat : Int)] W fun e w' => e = .returned .nilIface ∧ Bd w (l ++ [c]) w' := by
  refine (bld_byte w.heap.size w.heap.size _ (c.toNat : Int) W (.inr h.1) (by rw [Lib.byteCells_length]; omega) h.2.size).mono ?_
  rintro e w' ⟨rfl, h1, h2⟩
  exact ⟨rfl, by rw [cells_snoc]; exact h1, h.2.trans h2⟩
theorem bd_first {w : World} (c : UInt8) :
    Calls Tryz.prog 134 #[(.pointer (some ⟨w.heap.size, 0, none⟩)), .int .u8 (c.toNat : Int)] (w.alloc (.cells #[.pointer none, .slice none 0 0] 191)) fun e w' => e = .returned .nilIface ∧ Bd w [c] w' := by
  refine (bld_byte w.heap.size w.heap.size [] (c.toNat : Int) _ (Lib.fresh_isBuilder 191 5 w) (by simp) (by simp)).mono ?_
  rintro e w' ⟨rfl, h1, h2⟩
  exact ⟨rfl, h1, ((Below.refl _ w).alloc (Nat.le_refl _) _).trans h2⟩
theorem bd_four {w W : World} {l : List UInt8} (h : Bd w l W) (a b c d : UInt8) (hl : l.length ≤ 40000000000) (cp : Nat) :
    Calls Tryz.prog 136 #[(.pointer (some ⟨w.heap.size, 0, none⟩)), .slice (some ⟨W.heap.size, 0, none⟩) 4 cp] (W.alloc (.cells #[.int .u8 (a.toNat : Int), .int .u8 (b.toNat : Int), .int .u8 (c.toNat : Int), .int .u8 (d.toNat : Int)] 5)) fun e w' => e = .returned (.tuple #[.int .i64 4, .nilIface]) ∧ Bd w (l ++ [a, b, c, d]) w' := by
  obtain ⟨hB, v, hbk, hown, hne⟩ := h.1
  have hs := h.2.size
  have hC : Below w.heap.size W (W.alloc (.cells #[.int .u8 (a.toNat : Int), .int .u8 (b.toNat : Int), .int .u8 (c.toNat : Int), .int .u8 (d.toNat : Int)] 5)) := (Below.refl _ W).alloc hs _
  refine (bld_write w.heap.size w.heap.size (Lib.byteCells l) W.heap.size 4 cp [.int .u8 (a.toNat : Int), .int .u8 (b.toNat : Int), .int .u8 (c.toNat : Int), .int .u8 (d.toNat : Int)] _ ⟨hB, v, hp_alloc hbk _, hown.alloc _, hne⟩ rfl (fun j u hj => ?_) (fun u hu => ?_) (by rw [Lib.byteCells_length]; omega) (by omega) (by simp; omega)).mono ?_
  · rw [cell_of_heap (hp_new W _)]
    simpa using hj
  · simp at hu
    rcases hu with rfl | rfl | rfl | rfl <;> rfl
  · rintro e w' ⟨rfl, h1, h2⟩
    exact ⟨rfl, by rw [cells_app]; exact h1, (h.2.trans hC).trans h2⟩
theorem bd_string {w W : World} {l : List UInt8} (h : Bd w l W) : Calls Tryz.prog 137 #[(.pointer (some ⟨w.heap.size, 0, none⟩))] W fun e w' => e = .returned (.string (nb l)) ∧ Chg [] w w' := by
  refine (Tryz.Builder_String_any w.heap.size w.heap.size l W (.inr h.1) h.2.size).mono ?_
  rintro e w' ⟨rfl, h2⟩
  exact ⟨rfl, Chg.of_below (h.2.trans h2)⟩
theorem oct1 (c : UInt8) : (48 + (c.toNat : Int) / 64) % 256 = ((o1 c).toNat : Int) := by
  simpa using all_u8 (p := fun c => decide ((48 + (c.toNat : Int) / 64) % 256 = ((o1 c).toNat : Int))) (by kernel_rfl) c
theorem oct2 (c : UInt8) : (48 + bits BinOp.and IntKind.u8 ((c.toNat : Int) / 8) 7) % 256 = ((o2 c).toNat : Int) := by
  have := all_u8 (p := fun c => decide ((48 + bits BinOp.and IntKind.u8 ((c.toNat : Int) / 8) 7) % 256 = ((o2 c).toNat : Int))) (by kernel_rfl) c
  exact of_decide_eq_true this
theorem oct3 (c : UInt8) : (48 + bits BinOp.and IntKind.u8 (c.toNat : Int) 7) % 256 = ((o3 c).toNat : Int) := by
  have := all_u8 (p := fun c => decide ((48 + bits BinOp.and IntKind.u8 (c.toNat : Int) 7) % 256 = ((o3 c).toNat : Int))) (by kernel_rfl) c
  exact of_decide_eq_true this
set_option maxRecDepth 100000 in
set_option maxHeartbeats 4000000 in
theorem quote_calls (s : ByteArray) (w : World) (hs : s.size ≤ 4294967280) :
    Calls Tryz.prog 103 #[.string s] w fun e w' => e = .returned (.string (nb (quoteL s.data.toList))) ∧ Chg [] w w' := by
  have hN := needs_calls s w hs
  by_cases hn : needsL s.data.toList = true
  · rw [hn] at hN
    have HN := Asd.mk hN
    have HQ := Asd.mk (show quoteL s.data.toList = (34 :: s.data.toList.flatMap escB) ++ [34] by unfold quoteL; rw [if_pos hn]; simp [quotB])
    clear hN hn
    (go_enter Tryz.func103, Tryz.ntmps103)
    go_wp2_with fail
    refine HN.out.mono ?_
    rintro e w1 ⟨rfl, rfl⟩
    have H1 := Asd.mk (bd_first (w := w1) 34)
    go_wp2_with fail
    refine H1.out.mono ?_
    rintro e w2 ⟨rfl, hB⟩
    have HB := Asd.mk hB
    clear hB H1
    go_wp2
    go_loopg [15] (s.size + 1) (fun gk v15 wx => ∃ i : Nat, i ≤ s.size ∧ gk = s.size + 1 - i ∧ v15 = .int .i64 (i : Int) ∧ Asd (Bd w1 (34 :: (s.data.toList.take i).flatMap escB) wx))
    case atStart => exact ⟨0, by omega, rfl, rfl, ⟨by simpa using HB.out⟩⟩
    case round =>
      obtain ⟨i, hi, rfl, rfl, HX⟩ := hrel
      by_cases hlt : i < s.size
      · have k1 : (i : Int) < (s.size : Int) := by omega
        obtain ⟨c, hc⟩ : ∃ c, s[i] = c := ⟨_, rfl⟩
        have hlist : s.data.toList.take (i + 1) = s.data.toList.take i ++ [c] := by
          rw [List.take_add_one, list_get hlt, hc]
          rfl
        have hlen : (34 :: (s.data.toList.take i).flatMap escB).length ≤ 4 * s.size + 1 := by
          have := flat_len (s.data.toList.take i)
          have h2 : (s.data.toList.take i).length ≤ s.size := by rw [List.length_take, list_size]; omega
          rw [List.length_cons]
          omega
        have HL := Asd.mk (show 34 :: (s.data.toList.take (i + 1)).flatMap escB = (34 :: (s.data.toList.take i).flatMap escB) ++ escB c by rw [hlist, List.flatMap_append]; simp)
        obtain ⟨l, hl⟩ : ∃ l, 34 :: (s.data.toList.take i).flatMap escB = l := ⟨_, rfl⟩
        rw [hl] at HX HL hlen
        have HLn := Asd.mk hlen
        have HLt := Asd.mk (letter_calls c wr)
        clear hlist hlen hl
        cases hlc : letterL c with
        | some y =>
          have HE := Asd.mk (show escB c = [92, y] by unfold escB; rw [hlc])
          rw [hlc] at HLt
          clear hlc
          go_wp2_with fail
          refine HLt.out.mono ?_
          rintro e w3 ⟨rfl, rfl⟩
          have H2 := Asd.mk (bd_byte HX.out 92 (by have := HLn.out; omega))
          go_wp2_with fail
          refine H2.out.mono ?_
          rintro e w4 ⟨rfl, hB⟩
          have H3 := Asd.mk (bd_byte hB y (by have := HLn.out; rw [List.length_append, List.length_singleton]; omega))
          clear hB H2
          go_wp2_with fail
          refine H3.out.mono ?_
          rintro e w5 ⟨rfl, hB⟩
          have HB5 := Asd.mk (show Bd w1 (34 :: (s.data.toList.take (i + 1)).flatMap escB) w5 by rw [HL.out, HE.out]; simpa using hB)
          clear hB H3
          go_wp2
          go_roundg (s.size + 1 - (i + 1))
          case rel => exact ⟨i + 1, by omega, by omega, by go_num, HB5⟩
          case measure => omega
        | none =>
          rw [hlc] at HLt
          by_cases hw : c < 32 ∨ 127 ≤ c
          · have HE := Asd.mk (show escB c = [92, o1 c, o2 c, o3 c] by unfold escB; rw [hlc]; simp only; rw [if_pos hw]; rfl)
            have hsel : decide ((c.toNat : Int) < 32) = true ∨ (decide ((c.toNat : Int) < 32) = false ∧ decide ((127 : Int) ≤ (c.toNat : Int)) = true) := by
              by_cases h : c.toNat < 32
              · exact .inl (decide_eq_true (by omega))
              · refine .inr ⟨decide_eq_false (by omega), decide_eq_true ?_⟩
                rcases hw with h2 | h2
                · rw [UInt8.lt_iff_toNat_lt] at h2
                  exact absurd h2 h
                · rw [UInt8.le_iff_toNat_le] at h2
                  have : 127 ≤ c.toNat := h2
                  omega
            clear hlc hw
            rcases hsel with t1 | ⟨t1, t2⟩
            · go_wp2_with fail
              refine HLt.out.mono ?_
              rintro e w3 ⟨rfl, rfl⟩
              go_wp2_with fail
              rw [oct1, oct2, oct3]
              refine (bd_four HX.out 92 (o1 c) (o2 c) (o3 c) (by have := HLn.out; omega) 4).mono ?_
              rintro e w5 ⟨rfl, hB⟩
              have HB5 := Asd.mk (show Bd w1 (34 :: (s.data.toList.take (i + 1)).flatMap escB) w5 by rw [HL.out, HE.out]; exact hB)
              clear hB
              go_wp2
              go_roundg (s.size + 1 - (i + 1))
              case rel => exact ⟨i + 1, by omega, by omega, by go_num, HB5⟩
              case measure => omega
            · go_wp2_with fail
              refine HLt.out.mono ?_
              rintro e w3 ⟨rfl, rfl⟩
              go_wp2_with fail
              rw [oct1, oct2, oct3]
              refine (bd_four HX.out 92 (o1 c) (o2 c) (o3 c) (by have := HLn.out; omega) 4).mono ?_
              rintro e w5 ⟨rfl, hB⟩
              have HB5 := Asd.mk (show Bd w1 (34 :: (s.data.toList.take (i + 1)).flatMap escB) w5 by rw [HL.out, HE.out]; exact hB)
              clear hB
              go_wp2
              go_roundg (s.size + 1 - (i + 1))
              case rel => exact ⟨i + 1, by omega, by omega, by go_num, HB5⟩
              case measure => omega
          · have HE := Asd.mk (show escB c = [c] by unfold escB; rw [hlc]; simp only; rw [if_neg hw])
            have t1 : decide ((c.toNat : Int) < 32) = false := decide_eq_false (fun h => hw (.inl (by rw [UInt8.lt_iff_toNat_lt]; show c.toNat < 32; omega)))
            have t2 : decide ((127 : Int) ≤ (c.toNat : Int)) = false := decide_eq_false (fun h => hw (.inr (by rw [UInt8.le_iff_toNat_le]; show 127 ≤ c.toNat; omega)))
            clear hlc hw
            go_wp2_with fail
            refine HLt.out.mono ?_
            rintro e w3 ⟨rfl, rfl⟩
            have H2 := Asd.mk (bd_byte HX.out c (by have := HLn.out; omega))
            go_wp2_with fail
            refine H2.out.mono ?_
            rintro e w5 ⟨rfl, hB⟩
            have HB5 := Asd.mk (show Bd w1 (34 :: (s.data.toList.take (i + 1)).flatMap escB) w5 by rw [HL.out, HE.out]; exact hB)
            clear hB H2
            go_wp2
            go_roundg (s.size + 1 - (i + 1))
            case rel => exact ⟨i + 1, by omega, by omega, by go_num, HB5⟩
            case measure => omega
      · obtain rfl : i = s.size := by omega
        rw [List.take_of_length_le (by rw [list_size]; exact Nat.le_refl _)] at HX
        have hlen : (34 :: s.data.toList.flatMap escB).length ≤ 40000000000 := by
          have := flat_len s.data.toList
          have := list_size s
          rw [List.length_cons]
          omega
        have H1 := Asd.mk (bd_byte HX.out 34 hlen)
        clear hlen
        go_wp2_with fail
        refine H1.out.mono ?_
        rintro e w3 ⟨rfl, hB⟩
        have H2 := Asd.mk (bd_string hB)
        clear hB H1
        go_wp2_with fail
        refine H2.out.mono ?_
        rintro e w4 ⟨rfl, hC⟩
        have HC := Asd.mk hC
        clear hC H2
        go_wp2
        go_ret
        exact ⟨by rw [HQ.out]; rfl, HC.out⟩
  · have hn2 : needsL s.data.toList = false := by simpa using hn
    rw [hn2] at hN
    have HN := Asd.mk hN
    have HQ := Asd.mk (show quoteL s.data.toList = s.data.toList by unfold quoteL; rw [if_neg hn])
    clear hN hn hn2
    (go_enter Tryz.func103, Tryz.ntmps103)
    go_wp2_with fail
    refine HN.out.mono ?_
    rintro e w1 ⟨rfl, rfl⟩
    go_wp2
    go_ret
    exact ⟨by rw [HQ.out]; rfl, Chg.refl _ _⟩
end Go.Proofs.YthojofeocjmglaaGreatDoor.I
