/- The reference's class. Printed by rcls.py. -/
import Derived.Test.YtgkifphfibcfdaaGreatDoorPart
namespace Go.Proofs.YtgkifphfibcfdaaGreatDoor.G
open Go.RowKit Go.Proofs.YtgkifphfibcfdaaGreatDoor.B
set_option linter.unusedVariables false
set_option linter.unusedSimpArgs false
set_option maxRecDepth 100000 in
set_option maxHeartbeats 4000000 in
theorem ralpha_calls (c : Int) (w : World) (h0 : 0 ≤ c) (h1 : c ≤ 255) : Calls Tryz.prog 49 #[.string ⟨#[97, 108, 112, 104, 97]⟩, .int .i64 c] w fun e w' => e = .returned (.tuple #[.bool (alphaB c), .bool true]) ∧ w' = w := by
  have e0 : ((⟨#[97, 108, 112, 104, 97]⟩ : ByteArray).toList == (⟨#[97, 108, 112, 104, 97]⟩ : ByteArray).toList) = true := by kernel_rfl
  have hc : (0 ≤ c ∧ c ≤ 47) ∨ (48 ≤ c ∧ c ≤ 57) ∨ (58 ≤ c ∧ c ≤ 64) ∨ (65 ≤ c ∧ c ≤ 90) ∨ (91 ≤ c ∧ c ≤ 96) ∨ (97 ≤ c ∧ c ≤ 122) ∨ (123 ≤ c ∧ c ≤ 255) := by omega
  rcases hc with ⟨a, b⟩ | ⟨a, b⟩ | ⟨a, b⟩ | ⟨a, b⟩ | ⟨a, b⟩ | ⟨a, b⟩ | ⟨a, b⟩
  · have HV := Lib.hid (show alphaB c = false from decide_eq_false (by omega))
    go_enter Tryz.func49, Tryz.ntmps49
    go_wp2
    go_ret2
    exact ⟨by rw [HV.out]; first | rfl | (simp; done) | (simp; omega), rfl⟩
  · have HV := Lib.hid (show alphaB c = false from decide_eq_false (by omega))
    go_enter Tryz.func49, Tryz.ntmps49
    go_wp2
    go_ret2
    exact ⟨by rw [HV.out]; first | rfl | (simp; done) | (simp; omega), rfl⟩
  · have HV := Lib.hid (show alphaB c = false from decide_eq_false (by omega))
    go_enter Tryz.func49, Tryz.ntmps49
    go_wp2
    go_ret2
    exact ⟨by rw [HV.out]; first | rfl | (simp; done) | (simp; omega), rfl⟩
  · have HV := Lib.hid (show alphaB c = true from decide_eq_true (by omega))
    go_enter Tryz.func49, Tryz.ntmps49
    go_wp2
    go_ret2
    exact ⟨by rw [HV.out]; first | rfl | (simp; done) | (simp; omega), rfl⟩
  · have HV := Lib.hid (show alphaB c = false from decide_eq_false (by omega))
    go_enter Tryz.func49, Tryz.ntmps49
    go_wp2
    go_ret2
    exact ⟨by rw [HV.out]; first | rfl | (simp; done) | (simp; omega), rfl⟩
  · have HV := Lib.hid (show alphaB c = true from decide_eq_true (by omega))
    go_enter Tryz.func49, Tryz.ntmps49
    go_wp2
    go_ret2
    exact ⟨by rw [HV.out]; first | rfl | (simp; done) | (simp; omega), rfl⟩
  · have HV := Lib.hid (show alphaB c = false from decide_eq_false (by omega))
    go_enter Tryz.func49, Tryz.ntmps49
    go_wp2
    go_ret2
    exact ⟨by rw [HV.out]; first | rfl | (simp; done) | (simp; omega), rfl⟩
set_option maxRecDepth 100000 in
set_option maxHeartbeats 4000000 in
theorem rdigit_calls (c : Int) (w : World) (h0 : 0 ≤ c) (h1 : c ≤ 255) : Calls Tryz.prog 49 #[.string ⟨#[100, 105, 103, 105, 116]⟩, .int .i64 c] w fun e w' => e = .returned (.tuple #[.bool (digitB c), .bool true]) ∧ w' = w := by
  have e0 : ((⟨#[100, 105, 103, 105, 116]⟩ : ByteArray).toList == (⟨#[97, 108, 112, 104, 97]⟩ : ByteArray).toList) = false := by kernel_rfl
  have e1 : ((⟨#[100, 105, 103, 105, 116]⟩ : ByteArray).toList == (⟨#[100, 105, 103, 105, 116]⟩ : ByteArray).toList) = true := by kernel_rfl
  have hc : (0 ≤ c ∧ c ≤ 47) ∨ (48 ≤ c ∧ c ≤ 57) ∨ (58 ≤ c ∧ c ≤ 64) ∨ (65 ≤ c ∧ c ≤ 90) ∨ (91 ≤ c ∧ c ≤ 96) ∨ (97 ≤ c ∧ c ≤ 122) ∨ (123 ≤ c ∧ c ≤ 255) := by omega
  rcases hc with ⟨a, b⟩ | ⟨a, b⟩ | ⟨a, b⟩ | ⟨a, b⟩ | ⟨a, b⟩ | ⟨a, b⟩ | ⟨a, b⟩
  · have HV := Lib.hid (show digitB c = false from decide_eq_false (by omega))
    go_enter Tryz.func49, Tryz.ntmps49
    go_wp2
    go_ret2
    exact ⟨by rw [HV.out]; first | rfl | (simp; done) | (simp; omega), rfl⟩
  · have HV := Lib.hid (show digitB c = true from decide_eq_true (by omega))
    go_enter Tryz.func49, Tryz.ntmps49
    go_wp2
    go_ret2
    exact ⟨by rw [HV.out]; first | rfl | (simp; done) | (simp; omega), rfl⟩
  · have HV := Lib.hid (show digitB c = false from decide_eq_false (by omega))
    go_enter Tryz.func49, Tryz.ntmps49
    go_wp2
    go_ret2
    exact ⟨by rw [HV.out]; first | rfl | (simp; done) | (simp; omega), rfl⟩
  · have HV := Lib.hid (show digitB c = false from decide_eq_false (by omega))
    go_enter Tryz.func49, Tryz.ntmps49
    go_wp2
    go_ret2
    exact ⟨by rw [HV.out]; first | rfl | (simp; done) | (simp; omega), rfl⟩
  · have HV := Lib.hid (show digitB c = false from decide_eq_false (by omega))
    go_enter Tryz.func49, Tryz.ntmps49
    go_wp2
    go_ret2
    exact ⟨by rw [HV.out]; first | rfl | (simp; done) | (simp; omega), rfl⟩
  · have HV := Lib.hid (show digitB c = false from decide_eq_false (by omega))
    go_enter Tryz.func49, Tryz.ntmps49
    go_wp2
    go_ret2
    exact ⟨by rw [HV.out]; first | rfl | (simp; done) | (simp; omega), rfl⟩
  · have HV := Lib.hid (show digitB c = false from decide_eq_false (by omega))
    go_enter Tryz.func49, Tryz.ntmps49
    go_wp2
    go_ret2
    exact ⟨by rw [HV.out]; first | rfl | (simp; done) | (simp; omega), rfl⟩
set_option maxRecDepth 100000 in
set_option maxHeartbeats 4000000 in
theorem ralnum_calls (c : Int) (w : World) (h0 : 0 ≤ c) (h1 : c ≤ 255) : Calls Tryz.prog 49 #[.string ⟨#[97, 108, 110, 117, 109]⟩, .int .i64 c] w fun e w' => e = .returned (.tuple #[.bool (alnumB c), .bool true]) ∧ w' = w := by
  have e0 : ((⟨#[97, 108, 110, 117, 109]⟩ : ByteArray).toList == (⟨#[97, 108, 112, 104, 97]⟩ : ByteArray).toList) = false := by kernel_rfl
  have e1 : ((⟨#[97, 108, 110, 117, 109]⟩ : ByteArray).toList == (⟨#[100, 105, 103, 105, 116]⟩ : ByteArray).toList) = false := by kernel_rfl
  have e2 : ((⟨#[97, 108, 110, 117, 109]⟩ : ByteArray).toList == (⟨#[97, 108, 110, 117, 109]⟩ : ByteArray).toList) = true := by kernel_rfl
  have hc : (0 ≤ c ∧ c ≤ 47) ∨ (48 ≤ c ∧ c ≤ 57) ∨ (58 ≤ c ∧ c ≤ 64) ∨ (65 ≤ c ∧ c ≤ 90) ∨ (91 ≤ c ∧ c ≤ 96) ∨ (97 ≤ c ∧ c ≤ 122) ∨ (123 ≤ c ∧ c ≤ 255) := by omega
  rcases hc with ⟨a, b⟩ | ⟨a, b⟩ | ⟨a, b⟩ | ⟨a, b⟩ | ⟨a, b⟩ | ⟨a, b⟩ | ⟨a, b⟩
  · have HV := Lib.hid (show alnumB c = false from decide_eq_false (by omega))
    go_enter Tryz.func49, Tryz.ntmps49
    go_wp2
    go_ret2
    exact ⟨by rw [HV.out]; first | rfl | (simp; done) | (simp; omega), rfl⟩
  · have HV := Lib.hid (show alnumB c = true from decide_eq_true (by omega))
    go_enter Tryz.func49, Tryz.ntmps49
    go_wp2
    go_ret2
    exact ⟨by rw [HV.out]; first | rfl | (simp; done) | (simp; omega), rfl⟩
  · have HV := Lib.hid (show alnumB c = false from decide_eq_false (by omega))
    go_enter Tryz.func49, Tryz.ntmps49
    go_wp2
    go_ret2
    exact ⟨by rw [HV.out]; first | rfl | (simp; done) | (simp; omega), rfl⟩
  · have HV := Lib.hid (show alnumB c = true from decide_eq_true (by omega))
    go_enter Tryz.func49, Tryz.ntmps49
    go_wp2
    go_ret2
    exact ⟨by rw [HV.out]; first | rfl | (simp; done) | (simp; omega), rfl⟩
  · have HV := Lib.hid (show alnumB c = false from decide_eq_false (by omega))
    go_enter Tryz.func49, Tryz.ntmps49
    go_wp2
    go_ret2
    exact ⟨by rw [HV.out]; first | rfl | (simp; done) | (simp; omega), rfl⟩
  · have HV := Lib.hid (show alnumB c = true from decide_eq_true (by omega))
    go_enter Tryz.func49, Tryz.ntmps49
    go_wp2
    go_ret2
    exact ⟨by rw [HV.out]; first | rfl | (simp; done) | (simp; omega), rfl⟩
  · have HV := Lib.hid (show alnumB c = false from decide_eq_false (by omega))
    go_enter Tryz.func49, Tryz.ntmps49
    go_wp2
    go_ret2
    exact ⟨by rw [HV.out]; first | rfl | (simp; done) | (simp; omega), rfl⟩
set_option maxRecDepth 100000 in
set_option maxHeartbeats 4000000 in
theorem rupper_calls (c : Int) (w : World) (h0 : 0 ≤ c) (h1 : c ≤ 255) : Calls Tryz.prog 49 #[.string ⟨#[117, 112, 112, 101, 114]⟩, .int .i64 c] w fun e w' => e = .returned (.tuple #[.bool (upperB c), .bool true]) ∧ w' = w := by
  have e0 : ((⟨#[117, 112, 112, 101, 114]⟩ : ByteArray).toList == (⟨#[97, 108, 112, 104, 97]⟩ : ByteArray).toList) = false := by kernel_rfl
  have e1 : ((⟨#[117, 112, 112, 101, 114]⟩ : ByteArray).toList == (⟨#[100, 105, 103, 105, 116]⟩ : ByteArray).toList) = false := by kernel_rfl
  have e2 : ((⟨#[117, 112, 112, 101, 114]⟩ : ByteArray).toList == (⟨#[97, 108, 110, 117, 109]⟩ : ByteArray).toList) = false := by kernel_rfl
  have e3 : ((⟨#[117, 112, 112, 101, 114]⟩ : ByteArray).toList == (⟨#[117, 112, 112, 101, 114]⟩ : ByteArray).toList) = true := by kernel_rfl
  have hc : (0 ≤ c ∧ c ≤ 47) ∨ (48 ≤ c ∧ c ≤ 57) ∨ (58 ≤ c ∧ c ≤ 64) ∨ (65 ≤ c ∧ c ≤ 90) ∨ (91 ≤ c ∧ c ≤ 96) ∨ (97 ≤ c ∧ c ≤ 122) ∨ (123 ≤ c ∧ c ≤ 255) := by omega
  rcases hc with ⟨a, b⟩ | ⟨a, b⟩ | ⟨a, b⟩ | ⟨a, b⟩ | ⟨a, b⟩ | ⟨a, b⟩ | ⟨a, b⟩
  · have HV := Lib.hid (show upperB c = false from decide_eq_false (by omega))
    go_enter Tryz.func49, Tryz.ntmps49
    go_wp2
    go_ret2
    exact ⟨by rw [HV.out]; first | rfl | (simp; done) | (simp; omega), rfl⟩
  · have HV := Lib.hid (show upperB c = false from decide_eq_false (by omega))
    go_enter Tryz.func49, Tryz.ntmps49
    go_wp2
    go_ret2
    exact ⟨by rw [HV.out]; first | rfl | (simp; done) | (simp; omega), rfl⟩
  · have HV := Lib.hid (show upperB c = false from decide_eq_false (by omega))
    go_enter Tryz.func49, Tryz.ntmps49
    go_wp2
    go_ret2
    exact ⟨by rw [HV.out]; first | rfl | (simp; done) | (simp; omega), rfl⟩
  · have HV := Lib.hid (show upperB c = true from decide_eq_true (by omega))
    go_enter Tryz.func49, Tryz.ntmps49
    go_wp2
    go_ret2
    exact ⟨by rw [HV.out]; first | rfl | (simp; done) | (simp; omega), rfl⟩
  · have HV := Lib.hid (show upperB c = false from decide_eq_false (by omega))
    go_enter Tryz.func49, Tryz.ntmps49
    go_wp2
    go_ret2
    exact ⟨by rw [HV.out]; first | rfl | (simp; done) | (simp; omega), rfl⟩
  · have HV := Lib.hid (show upperB c = false from decide_eq_false (by omega))
    go_enter Tryz.func49, Tryz.ntmps49
    go_wp2
    go_ret2
    exact ⟨by rw [HV.out]; first | rfl | (simp; done) | (simp; omega), rfl⟩
  · have HV := Lib.hid (show upperB c = false from decide_eq_false (by omega))
    go_enter Tryz.func49, Tryz.ntmps49
    go_wp2
    go_ret2
    exact ⟨by rw [HV.out]; first | rfl | (simp; done) | (simp; omega), rfl⟩
set_option maxRecDepth 100000 in
set_option maxHeartbeats 4000000 in
theorem rlower_calls (c : Int) (w : World) (h0 : 0 ≤ c) (h1 : c ≤ 255) : Calls Tryz.prog 49 #[.string ⟨#[108, 111, 119, 101, 114]⟩, .int .i64 c] w fun e w' => e = .returned (.tuple #[.bool (lowerB c), .bool true]) ∧ w' = w := by
  have e0 : ((⟨#[108, 111, 119, 101, 114]⟩ : ByteArray).toList == (⟨#[97, 108, 112, 104, 97]⟩ : ByteArray).toList) = false := by kernel_rfl
  have e1 : ((⟨#[108, 111, 119, 101, 114]⟩ : ByteArray).toList == (⟨#[100, 105, 103, 105, 116]⟩ : ByteArray).toList) = false := by kernel_rfl
  have e2 : ((⟨#[108, 111, 119, 101, 114]⟩ : ByteArray).toList == (⟨#[97, 108, 110, 117, 109]⟩ : ByteArray).toList) = false := by kernel_rfl
  have e3 : ((⟨#[108, 111, 119, 101, 114]⟩ : ByteArray).toList == (⟨#[117, 112, 112, 101, 114]⟩ : ByteArray).toList) = false := by kernel_rfl
  have e4 : ((⟨#[108, 111, 119, 101, 114]⟩ : ByteArray).toList == (⟨#[108, 111, 119, 101, 114]⟩ : ByteArray).toList) = true := by kernel_rfl
  have hc : (0 ≤ c ∧ c ≤ 47) ∨ (48 ≤ c ∧ c ≤ 57) ∨ (58 ≤ c ∧ c ≤ 64) ∨ (65 ≤ c ∧ c ≤ 90) ∨ (91 ≤ c ∧ c ≤ 96) ∨ (97 ≤ c ∧ c ≤ 122) ∨ (123 ≤ c ∧ c ≤ 255) := by omega
  rcases hc with ⟨a, b⟩ | ⟨a, b⟩ | ⟨a, b⟩ | ⟨a, b⟩ | ⟨a, b⟩ | ⟨a, b⟩ | ⟨a, b⟩
  · have HV := Lib.hid (show lowerB c = false from decide_eq_false (by omega))
    go_enter Tryz.func49, Tryz.ntmps49
    go_wp2
    go_ret2
    exact ⟨by rw [HV.out]; first | rfl | (simp; done) | (simp; omega), rfl⟩
  · have HV := Lib.hid (show lowerB c = false from decide_eq_false (by omega))
    go_enter Tryz.func49, Tryz.ntmps49
    go_wp2
    go_ret2
    exact ⟨by rw [HV.out]; first | rfl | (simp; done) | (simp; omega), rfl⟩
  · have HV := Lib.hid (show lowerB c = false from decide_eq_false (by omega))
    go_enter Tryz.func49, Tryz.ntmps49
    go_wp2
    go_ret2
    exact ⟨by rw [HV.out]; first | rfl | (simp; done) | (simp; omega), rfl⟩
  · have HV := Lib.hid (show lowerB c = false from decide_eq_false (by omega))
    go_enter Tryz.func49, Tryz.ntmps49
    go_wp2
    go_ret2
    exact ⟨by rw [HV.out]; first | rfl | (simp; done) | (simp; omega), rfl⟩
  · have HV := Lib.hid (show lowerB c = false from decide_eq_false (by omega))
    go_enter Tryz.func49, Tryz.ntmps49
    go_wp2
    go_ret2
    exact ⟨by rw [HV.out]; first | rfl | (simp; done) | (simp; omega), rfl⟩
  · have HV := Lib.hid (show lowerB c = true from decide_eq_true (by omega))
    go_enter Tryz.func49, Tryz.ntmps49
    go_wp2
    go_ret2
    exact ⟨by rw [HV.out]; first | rfl | (simp; done) | (simp; omega), rfl⟩
  · have HV := Lib.hid (show lowerB c = false from decide_eq_false (by omega))
    go_enter Tryz.func49, Tryz.ntmps49
    go_wp2
    go_ret2
    exact ⟨by rw [HV.out]; first | rfl | (simp; done) | (simp; omega), rfl⟩
end Go.Proofs.YtgkifphfibcfdaaGreatDoor.G
