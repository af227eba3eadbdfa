/- The reference's class. Printed by rcls.py. -/
import Derived.Test.YtgkifphfibcfdaaGreatDoorPart
namespace Go.Proofs.YtgkifphfibcfdaaGreatDoor.G
open Go.RowKit Go.Proofs.YtgkifphfibcfdaaGreatDoor.B
set_option linter.unusedVariables false
set_option linter.unusedSimpArgs false
set_option maxRecDepth 100000 in
set_option maxHeartbeats 4000000 in
theorem rblank_calls (c : Int) (w : World) (h0 : 0 ≤ c) (h1 : c ≤ 255) : Calls Tryz.prog 49 #[.string ⟨#[98, 108, 97, 110, 107]⟩, .int .i64 c] w fun e w' => e = .returned (.tuple #[.bool (blankB c), .bool true]) ∧ w' = w := by
  have e0 : ((⟨#[98, 108, 97, 110, 107]⟩ : ByteArray).toList == (⟨#[97, 108, 112, 104, 97]⟩ : ByteArray).toList) = false := by kernel_rfl
  have e1 : ((⟨#[98, 108, 97, 110, 107]⟩ : ByteArray).toList == (⟨#[100, 105, 103, 105, 116]⟩ : ByteArray).toList) = false := by kernel_rfl
  have e2 : ((⟨#[98, 108, 97, 110, 107]⟩ : ByteArray).toList == (⟨#[97, 108, 110, 117, 109]⟩ : ByteArray).toList) = false := by kernel_rfl
  have e3 : ((⟨#[98, 108, 97, 110, 107]⟩ : ByteArray).toList == (⟨#[117, 112, 112, 101, 114]⟩ : ByteArray).toList) = false := by kernel_rfl
  have e4 : ((⟨#[98, 108, 97, 110, 107]⟩ : ByteArray).toList == (⟨#[108, 111, 119, 101, 114]⟩ : ByteArray).toList) = false := by kernel_rfl
  have e5 : ((⟨#[98, 108, 97, 110, 107]⟩ : ByteArray).toList == (⟨#[120, 100, 105, 103, 105, 116]⟩ : ByteArray).toList) = false := by kernel_rfl
  have e6 : ((⟨#[98, 108, 97, 110, 107]⟩ : ByteArray).toList == (⟨#[115, 112, 97, 99, 101]⟩ : ByteArray).toList) = false := by kernel_rfl
  have e7 : ((⟨#[98, 108, 97, 110, 107]⟩ : ByteArray).toList == (⟨#[98, 108, 97, 110, 107]⟩ : ByteArray).toList) = true := by kernel_rfl
  have hc : (0 ≤ c ∧ c ≤ 8) ∨ (9 ≤ c ∧ c ≤ 9) ∨ (10 ≤ c ∧ c ≤ 31) ∨ (32 ≤ c ∧ c ≤ 32) ∨ (33 ≤ c ∧ c ≤ 47) ∨ (48 ≤ c ∧ c ≤ 57) ∨ (58 ≤ c ∧ c ≤ 64) ∨ (65 ≤ c ∧ c ≤ 90) ∨ (91 ≤ c ∧ c ≤ 96) ∨ (97 ≤ c ∧ c ≤ 122) ∨ (123 ≤ c ∧ c ≤ 255) := by omega
  rcases hc with ⟨a, b⟩ | ⟨a, b⟩ | ⟨a, b⟩ | ⟨a, b⟩ | ⟨a, b⟩ | ⟨a, b⟩ | ⟨a, b⟩ | ⟨a, b⟩ | ⟨a, b⟩ | ⟨a, b⟩ | ⟨a, b⟩
  · have HV := Lib.hid (show blankB c = false from decide_eq_false (by omega))
    go_enter Tryz.func49, Tryz.ntmps49
    go_wp2
    go_ret2
    exact ⟨by rw [HV.out]; first | rfl | (simp; done) | (simp; omega), rfl⟩
  · obtain rfl : c = 9 := by omega
    have HV := Lib.hid (show blankB 9 = true from decide_eq_true (by omega))
    clear a b h0 h1
    go_enter Tryz.func49, Tryz.ntmps49
    go_wp2
    go_ret2
    exact ⟨by rw [HV.out]; first | rfl | (simp; done), rfl⟩
  · have HV := Lib.hid (show blankB c = false from decide_eq_false (by omega))
    go_enter Tryz.func49, Tryz.ntmps49
    go_wp2
    go_ret2
    exact ⟨by rw [HV.out]; first | rfl | (simp; done) | (simp; omega), rfl⟩
  · obtain rfl : c = 32 := by omega
    have HV := Lib.hid (show blankB 32 = true from decide_eq_true (by omega))
    clear a b h0 h1
    go_enter Tryz.func49, Tryz.ntmps49
    go_wp2
    go_ret2
    exact ⟨by rw [HV.out]; first | rfl | (simp; done), rfl⟩
  · have HV := Lib.hid (show blankB c = false from decide_eq_false (by omega))
    go_enter Tryz.func49, Tryz.ntmps49
    go_wp2
    go_ret2
    exact ⟨by rw [HV.out]; first | rfl | (simp; done) | (simp; omega), rfl⟩
  · have HV := Lib.hid (show blankB c = false from decide_eq_false (by omega))
    go_enter Tryz.func49, Tryz.ntmps49
    go_wp2
    go_ret2
    exact ⟨by rw [HV.out]; first | rfl | (simp; done) | (simp; omega), rfl⟩
  · have HV := Lib.hid (show blankB c = false from decide_eq_false (by omega))
    go_enter Tryz.func49, Tryz.ntmps49
    go_wp2
    go_ret2
    exact ⟨by rw [HV.out]; first | rfl | (simp; done) | (simp; omega), rfl⟩
  · have HV := Lib.hid (show blankB c = false from decide_eq_false (by omega))
    go_enter Tryz.func49, Tryz.ntmps49
    go_wp2
    go_ret2
    exact ⟨by rw [HV.out]; first | rfl | (simp; done) | (simp; omega), rfl⟩
  · have HV := Lib.hid (show blankB c = false from decide_eq_false (by omega))
    go_enter Tryz.func49, Tryz.ntmps49
    go_wp2
    go_ret2
    exact ⟨by rw [HV.out]; first | rfl | (simp; done) | (simp; omega), rfl⟩
  · have HV := Lib.hid (show blankB c = false from decide_eq_false (by omega))
    go_enter Tryz.func49, Tryz.ntmps49
    go_wp2
    go_ret2
    exact ⟨by rw [HV.out]; first | rfl | (simp; done) | (simp; omega), rfl⟩
  · have HV := Lib.hid (show blankB c = false from decide_eq_false (by omega))
    go_enter Tryz.func49, Tryz.ntmps49
    go_wp2
    go_ret2
    exact ⟨by rw [HV.out]; first | rfl | (simp; done) | (simp; omega), rfl⟩
set_option maxRecDepth 100000 in
set_option maxHeartbeats 4000000 in
theorem rpunct_calls (c : Int) (w : World) (h0 : 0 ≤ c) (h1 : c ≤ 255) : Calls Tryz.prog 49 #[.string ⟨#[112, 117, 110, 99, 116]⟩, .int .i64 c] w fun e w' => e = .returned (.tuple #[.bool (punctB c), .bool true]) ∧ w' = w := by
  have e0 : ((⟨#[112, 117, 110, 99, 116]⟩ : ByteArray).toList == (⟨#[97, 108, 112, 104, 97]⟩ : ByteArray).toList) = false := by kernel_rfl
  have e1 : ((⟨#[112, 117, 110, 99, 116]⟩ : ByteArray).toList == (⟨#[100, 105, 103, 105, 116]⟩ : ByteArray).toList) = false := by kernel_rfl
  have e2 : ((⟨#[112, 117, 110, 99, 116]⟩ : ByteArray).toList == (⟨#[97, 108, 110, 117, 109]⟩ : ByteArray).toList) = false := by kernel_rfl
  have e3 : ((⟨#[112, 117, 110, 99, 116]⟩ : ByteArray).toList == (⟨#[117, 112, 112, 101, 114]⟩ : ByteArray).toList) = false := by kernel_rfl
  have e4 : ((⟨#[112, 117, 110, 99, 116]⟩ : ByteArray).toList == (⟨#[108, 111, 119, 101, 114]⟩ : ByteArray).toList) = false := by kernel_rfl
  have e5 : ((⟨#[112, 117, 110, 99, 116]⟩ : ByteArray).toList == (⟨#[120, 100, 105, 103, 105, 116]⟩ : ByteArray).toList) = false := by kernel_rfl
  have e6 : ((⟨#[112, 117, 110, 99, 116]⟩ : ByteArray).toList == (⟨#[115, 112, 97, 99, 101]⟩ : ByteArray).toList) = false := by kernel_rfl
  have e7 : ((⟨#[112, 117, 110, 99, 116]⟩ : ByteArray).toList == (⟨#[98, 108, 97, 110, 107]⟩ : ByteArray).toList) = false := by kernel_rfl
  have e8 : ((⟨#[112, 117, 110, 99, 116]⟩ : ByteArray).toList == (⟨#[112, 117, 110, 99, 116]⟩ : ByteArray).toList) = true := by kernel_rfl
  have hc : (0 ≤ c ∧ c ≤ 32) ∨ (33 ≤ c ∧ c ≤ 47) ∨ (48 ≤ c ∧ c ≤ 57) ∨ (58 ≤ c ∧ c ≤ 64) ∨ (65 ≤ c ∧ c ≤ 90) ∨ (91 ≤ c ∧ c ≤ 96) ∨ (97 ≤ c ∧ c ≤ 122) ∨ (123 ≤ c ∧ c ≤ 126) ∨ (127 ≤ c ∧ c ≤ 255) := by omega
  rcases hc with ⟨a, b⟩ | ⟨a, b⟩ | ⟨a, b⟩ | ⟨a, b⟩ | ⟨a, b⟩ | ⟨a, b⟩ | ⟨a, b⟩ | ⟨a, b⟩ | ⟨a, b⟩
  · have HV := Lib.hid (show punctB c = false from decide_eq_false (by omega))
    go_enter Tryz.func49, Tryz.ntmps49
    go_wp2
    go_ret2
    exact ⟨by rw [HV.out]; first | rfl | (simp; done) | (simp; omega), rfl⟩
  · have HV := Lib.hid (show punctB c = true from decide_eq_true (by omega))
    go_enter Tryz.func49, Tryz.ntmps49
    go_wp2
    go_ret2
    exact ⟨by rw [HV.out]; first | rfl | (simp; done) | (simp; omega), rfl⟩
  · have HV := Lib.hid (show punctB c = false from decide_eq_false (by omega))
    go_enter Tryz.func49, Tryz.ntmps49
    go_wp2
    go_ret2
    exact ⟨by rw [HV.out]; first | rfl | (simp; done) | (simp; omega), rfl⟩
  · have HV := Lib.hid (show punctB c = true from decide_eq_true (by omega))
    go_enter Tryz.func49, Tryz.ntmps49
    go_wp2
    go_ret2
    exact ⟨by rw [HV.out]; first | rfl | (simp; done) | (simp; omega), rfl⟩
  · have HV := Lib.hid (show punctB c = false from decide_eq_false (by omega))
    go_enter Tryz.func49, Tryz.ntmps49
    go_wp2
    go_ret2
    exact ⟨by rw [HV.out]; first | rfl | (simp; done) | (simp; omega), rfl⟩
  · have HV := Lib.hid (show punctB c = true from decide_eq_true (by omega))
    go_enter Tryz.func49, Tryz.ntmps49
    go_wp2
    go_ret2
    exact ⟨by rw [HV.out]; first | rfl | (simp; done) | (simp; omega), rfl⟩
  · have HV := Lib.hid (show punctB c = false from decide_eq_false (by omega))
    go_enter Tryz.func49, Tryz.ntmps49
    go_wp2
    go_ret2
    exact ⟨by rw [HV.out]; first | rfl | (simp; done) | (simp; omega), rfl⟩
  · have HV := Lib.hid (show punctB c = true from decide_eq_true (by omega))
    go_enter Tryz.func49, Tryz.ntmps49
    go_wp2
    go_ret2
    exact ⟨by rw [HV.out]; first | rfl | (simp; done) | (simp; omega), rfl⟩
  · have HV := Lib.hid (show punctB c = false from decide_eq_false (by omega))
    go_enter Tryz.func49, Tryz.ntmps49
    go_wp2
    go_ret2
    exact ⟨by rw [HV.out]; first | rfl | (simp; done) | (simp; omega), rfl⟩
set_option maxRecDepth 100000 in
set_option maxHeartbeats 4000000 in
theorem rprint_calls (c : Int) (w : World) (h0 : 0 ≤ c) (h1 : c ≤ 255) : Calls Tryz.prog 49 #[.string ⟨#[112, 114, 105, 110, 116]⟩, .int .i64 c] w fun e w' => e = .returned (.tuple #[.bool (printB c), .bool true]) ∧ w' = w := by
  have e0 : ((⟨#[112, 114, 105, 110, 116]⟩ : ByteArray).toList == (⟨#[97, 108, 112, 104, 97]⟩ : ByteArray).toList) = false := by kernel_rfl
  have e1 : ((⟨#[112, 114, 105, 110, 116]⟩ : ByteArray).toList == (⟨#[100, 105, 103, 105, 116]⟩ : ByteArray).toList) = false := by kernel_rfl
  have e2 : ((⟨#[112, 114, 105, 110, 116]⟩ : ByteArray).toList == (⟨#[97, 108, 110, 117, 109]⟩ : ByteArray).toList) = false := by kernel_rfl
  have e3 : ((⟨#[112, 114, 105, 110, 116]⟩ : ByteArray).toList == (⟨#[117, 112, 112, 101, 114]⟩ : ByteArray).toList) = false := by kernel_rfl
  have e4 : ((⟨#[112, 114, 105, 110, 116]⟩ : ByteArray).toList == (⟨#[108, 111, 119, 101, 114]⟩ : ByteArray).toList) = false := by kernel_rfl
  have e5 : ((⟨#[112, 114, 105, 110, 116]⟩ : ByteArray).toList == (⟨#[120, 100, 105, 103, 105, 116]⟩ : ByteArray).toList) = false := by kernel_rfl
  have e6 : ((⟨#[112, 114, 105, 110, 116]⟩ : ByteArray).toList == (⟨#[115, 112, 97, 99, 101]⟩ : ByteArray).toList) = false := by kernel_rfl
  have e7 : ((⟨#[112, 114, 105, 110, 116]⟩ : ByteArray).toList == (⟨#[98, 108, 97, 110, 107]⟩ : ByteArray).toList) = false := by kernel_rfl
  have e8 : ((⟨#[112, 114, 105, 110, 116]⟩ : ByteArray).toList == (⟨#[112, 117, 110, 99, 116]⟩ : ByteArray).toList) = false := by kernel_rfl
  have e9 : ((⟨#[112, 114, 105, 110, 116]⟩ : ByteArray).toList == (⟨#[112, 114, 105, 110, 116]⟩ : ByteArray).toList) = true := by kernel_rfl
  have hc : (0 ≤ c ∧ c ≤ 31) ∨ (32 ≤ c ∧ c ≤ 47) ∨ (48 ≤ c ∧ c ≤ 57) ∨ (58 ≤ c ∧ c ≤ 64) ∨ (65 ≤ c ∧ c ≤ 90) ∨ (91 ≤ c ∧ c ≤ 96) ∨ (97 ≤ c ∧ c ≤ 122) ∨ (123 ≤ c ∧ c ≤ 126) ∨ (127 ≤ c ∧ c ≤ 255) := by omega
  rcases hc with ⟨a, b⟩ | ⟨a, b⟩ | ⟨a, b⟩ | ⟨a, b⟩ | ⟨a, b⟩ | ⟨a, b⟩ | ⟨a, b⟩ | ⟨a, b⟩ | ⟨a, b⟩
  · have HV := Lib.hid (show printB c = false from decide_eq_false (by omega))
    go_enter Tryz.func49, Tryz.ntmps49
    go_wp2
    go_ret2
    exact ⟨by rw [HV.out]; first | rfl | (simp; done) | (simp; omega), rfl⟩
  · have HV := Lib.hid (show printB c = true from decide_eq_true (by omega))
    go_enter Tryz.func49, Tryz.ntmps49
    go_wp2
    go_ret2
    exact ⟨by rw [HV.out]; first | rfl | (simp; done) | (simp; omega), rfl⟩
  · have HV := Lib.hid (show printB c = true from decide_eq_true (by omega))
    go_enter Tryz.func49, Tryz.ntmps49
    go_wp2
    go_ret2
    exact ⟨by rw [HV.out]; first | rfl | (simp; done) | (simp; omega), rfl⟩
  · have HV := Lib.hid (show printB c = true from decide_eq_true (by omega))
    go_enter Tryz.func49, Tryz.ntmps49
    go_wp2
    go_ret2
    exact ⟨by rw [HV.out]; first | rfl | (simp; done) | (simp; omega), rfl⟩
  · have HV := Lib.hid (show printB c = true from decide_eq_true (by omega))
    go_enter Tryz.func49, Tryz.ntmps49
    go_wp2
    go_ret2
    exact ⟨by rw [HV.out]; first | rfl | (simp; done) | (simp; omega), rfl⟩
  · have HV := Lib.hid (show printB c = true from decide_eq_true (by omega))
    go_enter Tryz.func49, Tryz.ntmps49
    go_wp2
    go_ret2
    exact ⟨by rw [HV.out]; first | rfl | (simp; done) | (simp; omega), rfl⟩
  · have HV := Lib.hid (show printB c = true from decide_eq_true (by omega))
    go_enter Tryz.func49, Tryz.ntmps49
    go_wp2
    go_ret2
    exact ⟨by rw [HV.out]; first | rfl | (simp; done) | (simp; omega), rfl⟩
  · have HV := Lib.hid (show printB c = true from decide_eq_true (by omega))
    go_enter Tryz.func49, Tryz.ntmps49
    go_wp2
    go_ret2
    exact ⟨by rw [HV.out]; first | rfl | (simp; done) | (simp; omega), rfl⟩
  · have HV := Lib.hid (show printB c = false from decide_eq_false (by omega))
    go_enter Tryz.func49, Tryz.ntmps49
    go_wp2
    go_ret2
    exact ⟨by rw [HV.out]; first | rfl | (simp; done) | (simp; omega), rfl⟩
end Go.Proofs.YtgkifphfibcfdaaGreatDoor.G
