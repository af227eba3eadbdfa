/- The reference's begins, lone, one. -/
import Derived.Test.YtgkifphfibcfdaaGreatDoorLocal
import Derived.Test.YtgkifphfibcfdaaGreatDoorBase2
namespace Go.Proofs.YtgkifphfibcfdaaGreatDoor.G
open Go.RowKit Go.Proofs.YtgkifphfibcfdaaGreatDoor.B
set_option linter.unusedVariables false
theorem begins_iff {s : ByteArray} {i : Nat} : startsAt s i ⟨#[91, 58]⟩ = true ↔ i + 2 ≤ s.size ∧ bn s i = 91 ∧ bn s (i + 1) = 58 := by
  rw [startsAt_iff two_pos]
  have e2 : (⟨#[91, 58]⟩ : ByteArray).size = 2 := rfl
  constructor
  · rintro ⟨h1, h2⟩
    exact ⟨h1, h2 0 (by omega), h2 1 (by omega)⟩
  · rintro ⟨h1, h2, h3⟩
    refine ⟨h1, fun t ht => ?_⟩
    match t, ht with
    | 0, _ => exact h2
    | 1, _ => exact h3
    | t + 2, ht => exact absurd ht (by omega)
set_option maxHeartbeats 2000000 in
theorem begins_calls (s : ByteArray) (i : Nat) (w : World) (hi : i ≤ s.size) (hs : s.size ≤ 1048576) :
    Calls Tryz.prog 47 #[.string s, .int .i64 (i : Int)] w fun e w' => e = .returned (.bool (startsAt s i ⟨#[91, 58]⟩)) ∧ w' = w := by
  by_cases h1 : i + 1 < s.size
  · have h0 : i < s.size := by omega
    have b0 : bn s i = s[i].toNat := by unfold bn; rw [dif_pos h0]
    have b1 : bn s (i + 1) = s[i + 1].toNat := by unfold bn; rw [dif_pos h1]
    by_cases h91 : bn s i = 91
    · by_cases h58 : bn s (i + 1) = 58
      · have HV := Asd.mk (begins_iff.2 ⟨by omega, h91, h58⟩)
        have t1 : (((s[i].toNat : Nat) : Int) == 91) = true := by rw [← b0, h91]; rfl
        have t2 : (((s[i + 1].toNat : Nat) : Int) == 58) = true := by rw [← b1, h58]; rfl
        clear b0 b1 h91 h58
        go_enter Tryz.func47, Tryz.ntmps47
        go_wp2
        go_ret
        exact ⟨by rw [HV.out]; rfl, rfl⟩
      · have HV := Asd.mk (Bool.eq_false_iff.2 (fun h => h58 (begins_iff.1 h).2.2))
        have t1 : (((s[i].toNat : Nat) : Int) == 91) = true := by rw [← b0, h91]; rfl
        have t2 : (((s[i + 1].toNat : Nat) : Int) == 58) = false := by rw [← b1]; simp; omega
        clear b0 b1 h91 h58
        go_enter Tryz.func47, Tryz.ntmps47
        go_wp2
        go_ret
        exact ⟨by rw [HV.out]; rfl, rfl⟩
    · have HV := Asd.mk (Bool.eq_false_iff.2 (fun h => h91 (begins_iff.1 h).2.1))
      have t1 : (((s[i].toNat : Nat) : Int) == 91) = false := by rw [← b0]; simp; omega
      clear b0 b1 h91
      go_enter Tryz.func47, Tryz.ntmps47
      go_wp2
      go_ret
      exact ⟨by rw [HV.out]; rfl, rfl⟩
  · have HV := Asd.mk (show startsAt s i ⟨#[91, 58]⟩ = false from Bool.eq_false_iff.2 (fun h => h1 (by have := (begins_iff.1 h).1; omega)))
    go_enter Tryz.func47, Tryz.ntmps47
    go_wp2
    go_ret
    exact ⟨by rw [HV.out]; rfl, rfl⟩
theorem bytePlace_no {s : ByteArray} {i : Nat} (h : bn s i ≠ 92) : bytePlace s i = i := by
  unfold bytePlace
  rw [if_neg (fun h2 => h (one_bn.1 h2).2)]
theorem bytePlace_yes {s : ByteArray} {i : Nat} (hi : i < s.size) (h : bn s i = 92) : bytePlace s i = i + 1 := by
  unfold bytePlace
  rw [if_pos (one_bn.2 ⟨hi, by rw [h]; rfl⟩)]
/-- lone: the byte at a place of a set, how long it is; none: the pattern ends. -/
theorem lone_yes (s : ByteArray) (i : Nat) (w : World) (hs : s.size ≤ 1048576) (hin : bytePlace s i < s.size) :
    Calls Tryz.prog 50 #[.string s, .int .i64 (i : Int)] w fun e w' => e = .returned (.tuple #[.int .u8 (bn s (bytePlace s i) : Int), .int .i64 ((bytePlace s i + 1 - i : Nat) : Int)]) ∧ w' = w := by
  have hi : i < s.size := by have := le_bytePlace s i; omega
  have b0 : bn s i = s[i].toNat := by unfold bn; rw [dif_pos hi]
  by_cases h92 : bn s i = 92
  · rw [bytePlace_yes hi h92] at hin ⊢
    have b1 : bn s (i + 1) = s[i + 1].toNat := by unfold bn; rw [dif_pos hin]
    have t1 : (((s[i].toNat : Nat) : Int) != 92) = false := by rw [← b0, h92]; rfl
    have e : i + 1 + 1 - i = 2 := by omega
    rw [e]
    have HB := Asd.mk b1
    clear b0 b1 h92
    go_enter Tryz.func50, Tryz.ntmps50
    go_wp2
    go_ret2
    exact ⟨by rw [HB.out]; rfl, rfl⟩
  · rw [bytePlace_no h92] at hin ⊢
    have t1 : (((s[i].toNat : Nat) : Int) != 92) = true := by rw [← b0]; simp; omega
    have e : i + 1 - i = 1 := by omega
    rw [e]
    have HB := Asd.mk b0
    clear b0 h92
    go_enter Tryz.func50, Tryz.ntmps50
    go_wp2
    go_ret2
    exact ⟨by rw [HB.out]; rfl, rfl⟩
theorem lone_no (s : ByteArray) (i : Nat) (w : World) (hi : i ≤ s.size) (hs : s.size ≤ 1048576) (hin : ¬ bytePlace s i < s.size) :
    Calls Tryz.prog 50 #[.string s, .int .i64 (i : Int)] w fun e w' => e = .returned (.tuple #[.int .u8 0, .int .i64 0]) ∧ w' = w := by
  by_cases hlt : i < s.size
  · have b0 : bn s i = s[i].toNat := by unfold bn; rw [dif_pos hlt]
    by_cases h92 : bn s i = 92
    · rw [bytePlace_yes hlt h92] at hin
      have t1 : (((s[i].toNat : Nat) : Int) != 92) = false := by rw [← b0, h92]; rfl
      clear b0 h92
      go_enter Tryz.func50, Tryz.ntmps50
      go_wp2
      go_ret2
      exact ⟨rfl, rfl⟩
    · rw [bytePlace_no h92] at hin
      exact absurd hlt hin
  · clear hin
    go_enter Tryz.func50, Tryz.ntmps50
    go_wp2
    go_ret2
    exact ⟨rfl, rfl⟩
end Go.Proofs.YtgkifphfibcfdaaGreatDoor.G
