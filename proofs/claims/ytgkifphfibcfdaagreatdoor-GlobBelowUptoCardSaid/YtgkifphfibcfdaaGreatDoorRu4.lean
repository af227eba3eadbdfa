/- Merged out of these texts: RCls2, RCls3, Repl. -/
import Derived.Test.YtgkifphfibcfdaaGreatDoorRu3
import Derived.Test.YtgkifphfibcfdaaGreatDoorRu2
import Derived.Laws.CopyOwn
import Derived.Deep.CutRange
import Derived.Lib.Strings
import Derived.Lib.Slices
import Derived.Lib.Walk
import Derived.Lib.Bytealg
/- The reference's class. Printed by rcls.py. -/
namespace Go.Proofs.YtgkifphfibcfdaaGreatDoor.G
open Go.RowKit Go.Proofs.YtgkifphfibcfdaaGreatDoor.B
set_option linter.unusedVariables false
set_option linter.unusedSimpArgs false
set_option maxRecDepth 100000 in
set_option maxHeartbeats 4000000 in
theorem rblank_calls (c : Int) (w : World) (h0 : 0 ≤ c) (h1 : c ≤ 255) : Calls Tryz.prog 49 #[.string ⟨#[98, 108, 97, 110, 107]⟩, .int .i64 c] w fun e w' => e = .returned (.tuple #[.bool (blankB c), .bool true]) ∧ w' = w := by
  have e0 : ((⟨#[98, 108, 97, 110, 107]⟩ : ByteArray).toList == (⟨#[97, 108, 112, 104, 97]⟩ : ByteArray).toList) = false := by kernel_rfl
  have e1 : ((⟨#[98, 108, 97, 110, 107]⟩ : ByteArray).toList == (⟨#[100, 105, 103, 105, 116]⟩ : ByteArray).toList) = false := by kernel_rfl
  have e2 : ((⟨#[98, 108, 97, 110, 107]⟩ : ByteArray).toList == (⟨#[97, 108, 110, 117, 109]⟩ : ByteArray).toList) = false := by kernel_rfl
  have e3 : ((⟨#[98, 108, 97, 110, 107]⟩ : ByteArray).toList == (⟨#[117, 112, 112, 101, 114]⟩ : ByteArray).toList) = false := by kernel_rfl
  have e4 : ((⟨#[98, 108, 97, 110, 107]⟩ : ByteArray).toList == (⟨#[108, 111, 119, 101, 114]⟩ : ByteArray).toList) = false := by kernel_rfl
  have e5 : ((⟨#[98, 108, 97, 110, 107]⟩ : ByteArray).toList == (⟨#[120, 100, 105, 103, 105, 116]⟩ : ByteArray).toList) = false := by kernel_rfl
  have e6 : ((⟨#[98, 108, 97, 110, 107]⟩ : ByteArray).toList == (⟨#[115, 112, 97, 99, 101]⟩ : ByteArray).toList) = false := by kernel_rfl
  have e7 : ((⟨#[98, 108, 97, 110, 107]⟩ : ByteArray).toList == (⟨#[98, 108, 97, 110, 107]⟩ : ByteArray).toList) = true := by kernel_rfl
  have hc : (0 ≤ c ∧ c ≤ 8) ∨ (9 ≤ c ∧ c ≤ 9) ∨ (10 ≤ c ∧ c ≤ 31) ∨ (32 ≤ c ∧ c ≤ 32) ∨ (33 ≤ c ∧ c ≤ 47) ∨ (48 ≤ c ∧ c ≤ 57) ∨ (58 ≤ c ∧ c ≤ 64) ∨ (65 ≤ c ∧ c ≤ 90) ∨ (91 ≤ c ∧ c ≤ 96) ∨ (97 ≤ c ∧ c ≤ 122) ∨ (123 ≤ c ∧ c ≤ 255) := by omega
  rcases hc with ⟨a, b⟩ | ⟨a, b⟩ | ⟨a, b⟩ | ⟨a, b⟩ | ⟨a, b⟩ | ⟨a, b⟩ | ⟨a, b⟩ | ⟨a, b⟩ | ⟨a, b⟩ | ⟨a, b⟩ | ⟨a, b⟩
  · have HV := Lib.hid (show blankB c = false from decide_eq_false (by omega))
    go_enter Tryz.func49, Tryz.ntmps49
    go_wp2
    go_ret2
    exact ⟨by rw [HV.out]; first | rfl | (simp; done) | (simp; omega), rfl⟩
  · obtain rfl : c = 9 := by omega
    have HV := Lib.hid (show blankB 9 = true from decide_eq_true (by omega))
    clear a b h0 h1
    go_enter Tryz.func49, Tryz.ntmps49
    go_wp2
    go_ret2
    exact ⟨by rw [HV.out]; first | rfl | (simp; done), rfl⟩
  · have HV := Lib.hid (show blankB c = false from decide_eq_false (by omega))
    go_enter Tryz.func49, Tryz.ntmps49
    go_wp2
    go_ret2
    exact ⟨by rw [HV.out]; first | rfl | (simp; done) | (simp; omega), rfl⟩
  · obtain rfl : c = 32 := by omega
    have HV := Lib.hid (show blankB 32 = true from decide_eq_true (by omega))
    clear a b h0 h1
    go_enter Tryz.func49, Tryz.ntmps49
    go_wp2
    go_ret2
    exact ⟨by rw [HV.out]; first | rfl | (simp; done), rfl⟩
  · have HV := Lib.hid (show blankB c = false from decide_eq_false (by omega))
    go_enter Tryz.func49, Tryz.ntmps49
    go_wp2
    go_ret2
    exact ⟨by rw [HV.out]; first | rfl | (simp; done) | (simp; omega), rfl⟩
  · have HV := Lib.hid (show blankB c = false from decide_eq_false (by omega))
    go_enter Tryz.func49, Tryz.ntmps49
    go_wp2
    go_ret2
    exact ⟨by rw [HV.out]; first | rfl | (simp; done) | (simp; omega), rfl⟩
  · have HV := Lib.hid (show blankB c = false from decide_eq_false (by omega))
    go_enter Tryz.func49, Tryz.ntmps49
    go_wp2
    go_ret2
    exact ⟨by rw [HV.out]; first | rfl | (simp; done) | (simp; omega), rfl⟩
  · have HV := Lib.hid (show blankB c = false from decide_eq_false (by omega))
    go_enter Tryz.func49, Tryz.ntmps49
    go_wp2
    go_ret2
    exact ⟨by rw [HV.out]; first | rfl | (simp; done) | (simp; omega), rfl⟩
  · have HV := Lib.hid (show blankB c = false from decide_eq_false (by omega))
    go_enter Tryz.func49, Tryz.ntmps49
    go_wp2
    go_ret2
    exact ⟨by rw [HV.out]; first | rfl | (simp; done) | (simp; omega), rfl⟩
  · have HV := Lib.hid (show blankB c = false from decide_eq_false (by omega))
    go_enter Tryz.func49, Tryz.ntmps49
    go_wp2
    go_ret2
    exact ⟨by rw [HV.out]; first | rfl | (simp; done) | (simp; omega), rfl⟩
  · have HV := Lib.hid (show blankB c = false from decide_eq_false (by omega))
    go_enter Tryz.func49, Tryz.ntmps49
    go_wp2
    go_ret2
    exact ⟨by rw [HV.out]; first | rfl | (simp; done) | (simp; omega), rfl⟩
set_option maxRecDepth 100000 in
set_option maxHeartbeats 4000000 in
theorem rpunct_calls (c : Int) (w : World) (h0 : 0 ≤ c) (h1 : c ≤ 255) : Calls Tryz.prog 49 #[.string ⟨#[112, 117, 110, 99, 116]⟩, .int .i64 c] w fun e w' => e = .returned (.tuple #[.bool (punctB c), .bool true]) ∧ w' = w := by
  have e0 : ((⟨#[112, 117, 110, 99, 116]⟩ : ByteArray).toList == (⟨#[97, 108, 112, 104, 97]⟩ : ByteArray).toList) = false := by kernel_rfl
  have e1 : ((⟨#[112, 117, 110, 99, 116]⟩ : ByteArray).toList == (⟨#[100, 105, 103, 105, 116]⟩ : ByteArray).toList) = false := by kernel_rfl
  have e2 : ((⟨#[112, 117, 110, 99, 116]⟩ : ByteArray).toList == (⟨#[97, 108, 110, 117, 109]⟩ : ByteArray).toList) = false := by kernel_rfl
  have e3 : ((⟨#[112, 117, 110, 99, 116]⟩ : ByteArray).toList == (⟨#[117, 112, 112, 101, 114]⟩ : ByteArray).toList) = false := by kernel_rfl
  have e4 : ((⟨#[112, 117, 110, 99, 116]⟩ : ByteArray).toList == (⟨#[108, 111, 119, 101, 114]⟩ : ByteArray).toList) = false := by kernel_rfl
  have e5 : ((⟨#[112, 117, 110, 99, 116]⟩ : ByteArray).toList == (⟨#[120, 100, 105, 103, 105, 116]⟩ : ByteArray).toList) = false := by kernel_rfl
  have e6 : ((⟨#[112, 117, 110, 99, 116]⟩ : ByteArray).toList == (⟨#[115, 112, 97, 99, 101]⟩ : ByteArray).toList) = false := by kernel_rfl
  have e7 : ((⟨#[112, 117, 110, 99, 116]⟩ : ByteArray).toList == (⟨#[98, 108, 97, 110, 107]⟩ : ByteArray).toList) = false := by kernel_rfl
  have e8 : ((⟨#[112, 117, 110, 99, 116]⟩ : ByteArray).toList == (⟨#[112, 117, 110, 99, 116]⟩ : ByteArray).toList) = true := by kernel_rfl
  have hc : (0 ≤ c ∧ c ≤ 32) ∨ (33 ≤ c ∧ c ≤ 47) ∨ (48 ≤ c ∧ c ≤ 57) ∨ (58 ≤ c ∧ c ≤ 64) ∨ (65 ≤ c ∧ c ≤ 90) ∨ (91 ≤ c ∧ c ≤ 96) ∨ (97 ≤ c ∧ c ≤ 122) ∨ (123 ≤ c ∧ c ≤ 126) ∨ (127 ≤ c ∧ c ≤ 255) := by omega
  rcases hc with ⟨a, b⟩ | ⟨a, b⟩ | ⟨a, b⟩ | ⟨a, b⟩ | ⟨a, b⟩ | ⟨a, b⟩ | ⟨a, b⟩ | ⟨a, b⟩ | ⟨a, b⟩
  · have HV := Lib.hid (show punctB c = false from decide_eq_false (by omega))
    go_enter Tryz.func49, Tryz.ntmps49
    go_wp2
    go_ret2
    exact ⟨by rw [HV.out]; first | rfl | (simp; done) | (simp; omega), rfl⟩
  · have HV := Lib.hid (show punctB c = true from decide_eq_true (by omega))
    go_enter Tryz.func49, Tryz.ntmps49
    go_wp2
    go_ret2
    exact ⟨by rw [HV.out]; first | rfl | (simp; done) | (simp; omega), rfl⟩
  · have HV := Lib.hid (show punctB c = false from decide_eq_false (by omega))
    go_enter Tryz.func49, Tryz.ntmps49
    go_wp2
    go_ret2
    exact ⟨by rw [HV.out]; first | rfl | (simp; done) | (simp; omega), rfl⟩
  · have HV := Lib.hid (show punctB c = true from decide_eq_true (by omega))
    go_enter Tryz.func49, Tryz.ntmps49
    go_wp2
    go_ret2
    exact ⟨by rw [HV.out]; first | rfl | (simp; done) | (simp; omega), rfl⟩
  · have HV := Lib.hid (show punctB c = false from decide_eq_false (by omega))
    go_enter Tryz.func49, Tryz.ntmps49
    go_wp2
    go_ret2
    exact ⟨by rw [HV.out]; first | rfl | (simp; done) | (simp; omega), rfl⟩
  · have HV := Lib.hid (show punctB c = true from decide_eq_true (by omega))
    go_enter Tryz.func49, Tryz.ntmps49
    go_wp2
    go_ret2
    exact ⟨by rw [HV.out]; first | rfl | (simp; done) | (simp; omega), rfl⟩
  · have HV := Lib.hid (show punctB c = false from decide_eq_false (by omega))
    go_enter Tryz.func49, Tryz.ntmps49
    go_wp2
    go_ret2
    exact ⟨by rw [HV.out]; first | rfl | (simp; done) | (simp; omega), rfl⟩
  · have HV := Lib.hid (show punctB c = true from decide_eq_true (by omega))
    go_enter Tryz.func49, Tryz.ntmps49
    go_wp2
    go_ret2
    exact ⟨by rw [HV.out]; first | rfl | (simp; done) | (simp; omega), rfl⟩
  · have HV := Lib.hid (show punctB c = false from decide_eq_false (by omega))
    go_enter Tryz.func49, Tryz.ntmps49
    go_wp2
    go_ret2
    exact ⟨by rw [HV.out]; first | rfl | (simp; done) | (simp; omega), rfl⟩
set_option maxRecDepth 100000 in
set_option maxHeartbeats 4000000 in
theorem rprint_calls (c : Int) (w : World) (h0 : 0 ≤ c) (h1 : c ≤ 255) : Calls Tryz.prog 49 #[.string ⟨#[112, 114, 105, 110, 116]⟩, .int .i64 c] w fun e w' => e = .returned (.tuple #[.bool (printB c), .bool true]) ∧ w' = w := by
  have e0 : ((⟨#[112, 114, 105, 110, 116]⟩ : ByteArray).toList == (⟨#[97, 108, 112, 104, 97]⟩ : ByteArray).toList) = false := by kernel_rfl
  have e1 : ((⟨#[112, 114, 105, 110, 116]⟩ : ByteArray).toList == (⟨#[100, 105, 103, 105, 116]⟩ : ByteArray).toList) = false := by kernel_rfl
  have e2 : ((⟨#[112, 114, 105, 110, 116]⟩ : ByteArray).toList == (⟨#[97, 108, 110, 117, 109]⟩ : ByteArray).toList) = false := by kernel_rfl
  have e3 : ((⟨#[112, 114, 105, 110, 116]⟩ : ByteArray).toList == (⟨#[117, 112, 112, 101, 114]⟩ : ByteArray).toList) = false := by kernel_rfl
  have e4 : ((⟨#[112, 114, 105, 110, 116]⟩ : ByteArray).toList == (⟨#[108, 111, 119, 101, 114]⟩ : ByteArray).toList) = false := by kernel_rfl
  have e5 : ((⟨#[112, 114, 105, 110, 116]⟩ : ByteArray).toList == (⟨#[120, 100, 105, 103, 105, 116]⟩ : ByteArray).toList) = false := by kernel_rfl
  have e6 : ((⟨#[112, 114, 105, 110, 116]⟩ : ByteArray).toList == (⟨#[115, 112, 97, 99, 101]⟩ : ByteArray).toList) = false := by kernel_rfl
  have e7 : ((⟨#[112, 114, 105, 110, 116]⟩ : ByteArray).toList == (⟨#[98, 108, 97, 110, 107]⟩ : ByteArray).toList) = false := by kernel_rfl
  have e8 : ((⟨#[112, 114, 105, 110, 116]⟩ : ByteArray).toList == (⟨#[112, 117, 110, 99, 116]⟩ : ByteArray).toList) = false := by kernel_rfl
  have e9 : ((⟨#[112, 114, 105, 110, 116]⟩ : ByteArray).toList == (⟨#[112, 114, 105, 110, 116]⟩ : ByteArray).toList) = true := by kernel_rfl
  have hc : (0 ≤ c ∧ c ≤ 31) ∨ (32 ≤ c ∧ c ≤ 47) ∨ (48 ≤ c ∧ c ≤ 57) ∨ (58 ≤ c ∧ c ≤ 64) ∨ (65 ≤ c ∧ c ≤ 90) ∨ (91 ≤ c ∧ c ≤ 96) ∨ (97 ≤ c ∧ c ≤ 122) ∨ (123 ≤ c ∧ c ≤ 126) ∨ (127 ≤ c ∧ c ≤ 255) := by omega
  rcases hc with ⟨a, b⟩ | ⟨a, b⟩ | ⟨a, b⟩ | ⟨a, b⟩ | ⟨a, b⟩ | ⟨a, b⟩ | ⟨a, b⟩ | ⟨a, b⟩ | ⟨a, b⟩
  · have HV := Lib.hid (show printB c = false from decide_eq_false (by omega))
    go_enter Tryz.func49, Tryz.ntmps49
    go_wp2
    go_ret2
    exact ⟨by rw [HV.out]; first | rfl | (simp; done) | (simp; omega), rfl⟩
  · have HV := Lib.hid (show printB c = true from decide_eq_true (by omega))
    go_enter Tryz.func49, Tryz.ntmps49
    go_wp2
    go_ret2
    exact ⟨by rw [HV.out]; first | rfl | (simp; done) | (simp; omega), rfl⟩
  · have HV := Lib.hid (show printB c = true from decide_eq_true (by omega))
    go_enter Tryz.func49, Tryz.ntmps49
    go_wp2
    go_ret2
    exact ⟨by rw [HV.out]; first | rfl | (simp; done) | (simp; omega), rfl⟩
  · have HV := Lib.hid (show printB c = true from decide_eq_true (by omega))
    go_enter Tryz.func49, Tryz.ntmps49
    go_wp2
    go_ret2
    exact ⟨by rw [HV.out]; first | rfl | (simp; done) | (simp; omega), rfl⟩
  · have HV := Lib.hid (show printB c = true from decide_eq_true (by omega))
    go_enter Tryz.func49, Tryz.ntmps49
    go_wp2
    go_ret2
    exact ⟨by rw [HV.out]; first | rfl | (simp; done) | (simp; omega), rfl⟩
  · have HV := Lib.hid (show printB c = true from decide_eq_true (by omega))
    go_enter Tryz.func49, Tryz.ntmps49
    go_wp2
    go_ret2
    exact ⟨by rw [HV.out]; first | rfl | (simp; done) | (simp; omega), rfl⟩
  · have HV := Lib.hid (show printB c = true from decide_eq_true (by omega))
    go_enter Tryz.func49, Tryz.ntmps49
    go_wp2
    go_ret2
    exact ⟨by rw [HV.out]; first | rfl | (simp; done) | (simp; omega), rfl⟩
  · have HV := Lib.hid (show printB c = true from decide_eq_true (by omega))
    go_enter Tryz.func49, Tryz.ntmps49
    go_wp2
    go_ret2
    exact ⟨by rw [HV.out]; first | rfl | (simp; done) | (simp; omega), rfl⟩
  · have HV := Lib.hid (show printB c = false from decide_eq_false (by omega))
    go_enter Tryz.func49, Tryz.ntmps49
    go_wp2
    go_ret2
    exact ⟨by rw [HV.out]; first | rfl | (simp; done) | (simp; omega), rfl⟩
end Go.Proofs.YtgkifphfibcfdaaGreatDoor.G
/- The reference's class. Printed by rcls.py. -/
namespace Go.Proofs.YtgkifphfibcfdaaGreatDoor.G
open Go.RowKit Go.Proofs.YtgkifphfibcfdaaGreatDoor.B
set_option linter.unusedVariables false
set_option linter.unusedSimpArgs false
set_option maxRecDepth 100000 in
set_option maxHeartbeats 4000000 in
theorem rgraph_calls (c : Int) (w : World) (h0 : 0 ≤ c) (h1 : c ≤ 255) : Calls Tryz.prog 49 #[.string ⟨#[103, 114, 97, 112, 104]⟩, .int .i64 c] w fun e w' => e = .returned (.tuple #[.bool (graphB c), .bool true]) ∧ w' = w := by
  have e0 : ((⟨#[103, 114, 97, 112, 104]⟩ : ByteArray).toList == (⟨#[97, 108, 112, 104, 97]⟩ : ByteArray).toList) = false := by kernel_rfl
  have e1 : ((⟨#[103, 114, 97, 112, 104]⟩ : ByteArray).toList == (⟨#[100, 105, 103, 105, 116]⟩ : ByteArray).toList) = false := by kernel_rfl
  have e2 : ((⟨#[103, 114, 97, 112, 104]⟩ : ByteArray).toList == (⟨#[97, 108, 110, 117, 109]⟩ : ByteArray).toList) = false := by kernel_rfl
  have e3 : ((⟨#[103, 114, 97, 112, 104]⟩ : ByteArray).toList == (⟨#[117, 112, 112, 101, 114]⟩ : ByteArray).toList) = false := by kernel_rfl
  have e4 : ((⟨#[103, 114, 97, 112, 104]⟩ : ByteArray).toList == (⟨#[108, 111, 119, 101, 114]⟩ : ByteArray).toList) = false := by kernel_rfl
  have e5 : ((⟨#[103, 114, 97, 112, 104]⟩ : ByteArray).toList == (⟨#[120, 100, 105, 103, 105, 116]⟩ : ByteArray).toList) = false := by kernel_rfl
  have e6 : ((⟨#[103, 114, 97, 112, 104]⟩ : ByteArray).toList == (⟨#[115, 112, 97, 99, 101]⟩ : ByteArray).toList) = false := by kernel_rfl
  have e7 : ((⟨#[103, 114, 97, 112, 104]⟩ : ByteArray).toList == (⟨#[98, 108, 97, 110, 107]⟩ : ByteArray).toList) = false := by kernel_rfl
  have e8 : ((⟨#[103, 114, 97, 112, 104]⟩ : ByteArray).toList == (⟨#[112, 117, 110, 99, 116]⟩ : ByteArray).toList) = false := by kernel_rfl
  have e9 : ((⟨#[103, 114, 97, 112, 104]⟩ : ByteArray).toList == (⟨#[112, 114, 105, 110, 116]⟩ : ByteArray).toList) = false := by kernel_rfl
  have e10 : ((⟨#[103, 114, 97, 112, 104]⟩ : ByteArray).toList == (⟨#[103, 114, 97, 112, 104]⟩ : ByteArray).toList) = true := by kernel_rfl
  have hc : (0 ≤ c ∧ c ≤ 32) ∨ (33 ≤ c ∧ c ≤ 47) ∨ (48 ≤ c ∧ c ≤ 57) ∨ (58 ≤ c ∧ c ≤ 64) ∨ (65 ≤ c ∧ c ≤ 90) ∨ (91 ≤ c ∧ c ≤ 96) ∨ (97 ≤ c ∧ c ≤ 122) ∨ (123 ≤ c ∧ c ≤ 126) ∨ (127 ≤ c ∧ c ≤ 255) := by omega
  rcases hc with ⟨a, b⟩ | ⟨a, b⟩ | ⟨a, b⟩ | ⟨a, b⟩ | ⟨a, b⟩ | ⟨a, b⟩ | ⟨a, b⟩ | ⟨a, b⟩ | ⟨a, b⟩
  · have HV := Lib.hid (show graphB c = false from decide_eq_false (by omega))
    go_enter Tryz.func49, Tryz.ntmps49
    go_wp2
    go_ret2
    exact ⟨by rw [HV.out]; first | rfl | (simp; done) | (simp; omega), rfl⟩
  · have HV := Lib.hid (show graphB c = true from decide_eq_true (by omega))
    go_enter Tryz.func49, Tryz.ntmps49
    go_wp2
    go_ret2
    exact ⟨by rw [HV.out]; first | rfl | (simp; done) | (simp; omega), rfl⟩
  · have HV := Lib.hid (show graphB c = true from decide_eq_true (by omega))
    go_enter Tryz.func49, Tryz.ntmps49
    go_wp2
    go_ret2
    exact ⟨by rw [HV.out]; first | rfl | (simp; done) | (simp; omega), rfl⟩
  · have HV := Lib.hid (show graphB c = true from decide_eq_true (by omega))
    go_enter Tryz.func49, Tryz.ntmps49
    go_wp2
    go_ret2
    exact ⟨by rw [HV.out]; first | rfl | (simp; done) | (simp; omega), rfl⟩
  · have HV := Lib.hid (show graphB c = true from decide_eq_true (by omega))
    go_enter Tryz.func49, Tryz.ntmps49
    go_wp2
    go_ret2
    exact ⟨by rw [HV.out]; first | rfl | (simp; done) | (simp; omega), rfl⟩
  · have HV := Lib.hid (show graphB c = true from decide_eq_true (by omega))
    go_enter Tryz.func49, Tryz.ntmps49
    go_wp2
    go_ret2
    exact ⟨by rw [HV.out]; first | rfl | (simp; done) | (simp; omega), rfl⟩
  · have HV := Lib.hid (show graphB c = true from decide_eq_true (by omega))
    go_enter Tryz.func49, Tryz.ntmps49
    go_wp2
    go_ret2
    exact ⟨by rw [HV.out]; first | rfl | (simp; done) | (simp; omega), rfl⟩
  · have HV := Lib.hid (show graphB c = true from decide_eq_true (by omega))
    go_enter Tryz.func49, Tryz.ntmps49
    go_wp2
    go_ret2
    exact ⟨by rw [HV.out]; first | rfl | (simp; done) | (simp; omega), rfl⟩
  · have HV := Lib.hid (show graphB c = false from decide_eq_false (by omega))
    go_enter Tryz.func49, Tryz.ntmps49
    go_wp2
    go_ret2
    exact ⟨by rw [HV.out]; first | rfl | (simp; done) | (simp; omega), rfl⟩
set_option maxRecDepth 100000 in
set_option maxHeartbeats 4000000 in
theorem rcntrl_calls (c : Int) (w : World) (h0 : 0 ≤ c) (h1 : c ≤ 255) : Calls Tryz.prog 49 #[.string ⟨#[99, 110, 116, 114, 108]⟩, .int .i64 c] w fun e w' => e = .returned (.tuple #[.bool (cntrlB c), .bool true]) ∧ w' = w := by
  have e0 : ((⟨#[99, 110, 116, 114, 108]⟩ : ByteArray).toList == (⟨#[97, 108, 112, 104, 97]⟩ : ByteArray).toList) = false := by kernel_rfl
  have e1 : ((⟨#[99, 110, 116, 114, 108]⟩ : ByteArray).toList == (⟨#[100, 105, 103, 105, 116]⟩ : ByteArray).toList) = false := by kernel_rfl
  have e2 : ((⟨#[99, 110, 116, 114, 108]⟩ : ByteArray).toList == (⟨#[97, 108, 110, 117, 109]⟩ : ByteArray).toList) = false := by kernel_rfl
  have e3 : ((⟨#[99, 110, 116, 114, 108]⟩ : ByteArray).toList == (⟨#[117, 112, 112, 101, 114]⟩ : ByteArray).toList) = false := by kernel_rfl
  have e4 : ((⟨#[99, 110, 116, 114, 108]⟩ : ByteArray).toList == (⟨#[108, 111, 119, 101, 114]⟩ : ByteArray).toList) = false := by kernel_rfl
  have e5 : ((⟨#[99, 110, 116, 114, 108]⟩ : ByteArray).toList == (⟨#[120, 100, 105, 103, 105, 116]⟩ : ByteArray).toList) = false := by kernel_rfl
  have e6 : ((⟨#[99, 110, 116, 114, 108]⟩ : ByteArray).toList == (⟨#[115, 112, 97, 99, 101]⟩ : ByteArray).toList) = false := by kernel_rfl
  have e7 : ((⟨#[99, 110, 116, 114, 108]⟩ : ByteArray).toList == (⟨#[98, 108, 97, 110, 107]⟩ : ByteArray).toList) = false := by kernel_rfl
  have e8 : ((⟨#[99, 110, 116, 114, 108]⟩ : ByteArray).toList == (⟨#[112, 117, 110, 99, 116]⟩ : ByteArray).toList) = false := by kernel_rfl
  have e9 : ((⟨#[99, 110, 116, 114, 108]⟩ : ByteArray).toList == (⟨#[112, 114, 105, 110, 116]⟩ : ByteArray).toList) = false := by kernel_rfl
  have e10 : ((⟨#[99, 110, 116, 114, 108]⟩ : ByteArray).toList == (⟨#[103, 114, 97, 112, 104]⟩ : ByteArray).toList) = false := by kernel_rfl
  have e11 : ((⟨#[99, 110, 116, 114, 108]⟩ : ByteArray).toList == (⟨#[99, 110, 116, 114, 108]⟩ : ByteArray).toList) = true := by kernel_rfl
  have hc : (0 ≤ c ∧ c ≤ 31) ∨ (32 ≤ c ∧ c ≤ 47) ∨ (48 ≤ c ∧ c ≤ 57) ∨ (58 ≤ c ∧ c ≤ 64) ∨ (65 ≤ c ∧ c ≤ 90) ∨ (91 ≤ c ∧ c ≤ 96) ∨ (97 ≤ c ∧ c ≤ 122) ∨ (123 ≤ c ∧ c ≤ 126) ∨ (127 ≤ c ∧ c ≤ 127) ∨ (128 ≤ c ∧ c ≤ 255) := by omega
  rcases hc with ⟨a, b⟩ | ⟨a, b⟩ | ⟨a, b⟩ | ⟨a, b⟩ | ⟨a, b⟩ | ⟨a, b⟩ | ⟨a, b⟩ | ⟨a, b⟩ | ⟨a, b⟩ | ⟨a, b⟩
  · have HV := Lib.hid (show cntrlB c = true from decide_eq_true (by omega))
    go_enter Tryz.func49, Tryz.ntmps49
    go_wp2
    go_ret2
    exact ⟨by rw [HV.out]; first | rfl | (simp; done) | (simp; omega), rfl⟩
  · have HV := Lib.hid (show cntrlB c = false from decide_eq_false (by omega))
    go_enter Tryz.func49, Tryz.ntmps49
    go_wp2
    go_ret2
    exact ⟨by rw [HV.out]; first | rfl | (simp; done) | (simp; omega), rfl⟩
  · have HV := Lib.hid (show cntrlB c = false from decide_eq_false (by omega))
    go_enter Tryz.func49, Tryz.ntmps49
    go_wp2
    go_ret2
    exact ⟨by rw [HV.out]; first | rfl | (simp; done) | (simp; omega), rfl⟩
  · have HV := Lib.hid (show cntrlB c = false from decide_eq_false (by omega))
    go_enter Tryz.func49, Tryz.ntmps49
    go_wp2
    go_ret2
    exact ⟨by rw [HV.out]; first | rfl | (simp; done) | (simp; omega), rfl⟩
  · have HV := Lib.hid (show cntrlB c = false from decide_eq_false (by omega))
    go_enter Tryz.func49, Tryz.ntmps49
    go_wp2
    go_ret2
    exact ⟨by rw [HV.out]; first | rfl | (simp; done) | (simp; omega), rfl⟩
  · have HV := Lib.hid (show cntrlB c = false from decide_eq_false (by omega))
    go_enter Tryz.func49, Tryz.ntmps49
    go_wp2
    go_ret2
    exact ⟨by rw [HV.out]; first | rfl | (simp; done) | (simp; omega), rfl⟩
  · have HV := Lib.hid (show cntrlB c = false from decide_eq_false (by omega))
    go_enter Tryz.func49, Tryz.ntmps49
    go_wp2
    go_ret2
    exact ⟨by rw [HV.out]; first | rfl | (simp; done) | (simp; omega), rfl⟩
  · have HV := Lib.hid (show cntrlB c = false from decide_eq_false (by omega))
    go_enter Tryz.func49, Tryz.ntmps49
    go_wp2
    go_ret2
    exact ⟨by rw [HV.out]; first | rfl | (simp; done) | (simp; omega), rfl⟩
  · obtain rfl : c = 127 := by omega
    have HV := Lib.hid (show cntrlB 127 = true from decide_eq_true (by omega))
    clear a b h0 h1
    go_enter Tryz.func49, Tryz.ntmps49
    go_wp2
    go_ret2
    exact ⟨by rw [HV.out]; first | rfl | (simp; done), rfl⟩
  · have HV := Lib.hid (show cntrlB c = false from decide_eq_false (by omega))
    go_enter Tryz.func49, Tryz.ntmps49
    go_wp2
    go_ret2
    exact ⟨by rw [HV.out]; first | rfl | (simp; done) | (simp; omega), rfl⟩
end Go.Proofs.YtgkifphfibcfdaaGreatDoor.G
/- (*byteStringReplacer).Replace, at short texts. -/
namespace Go.Proofs.YtgkifphfibcfdaaGreatDoor.G
open Go.RowKit Go.Proofs.YtgkifphfibcfdaaGreatDoor.B
set_option linter.unusedVariables false
/-- What Escape makes of a byte; of the first i bytes of a text; of a text. -/
def escB (c : Nat) : List Nat := if c ∈ specials then [92, c] else [c]
def escL (s : ByteArray) (i : Nat) : List Nat := ((bl s).take i).flatMap escB
def escS (s : ByteArray) : ByteArray := ⟨((escL s s.size).map UInt8.ofNat).toArray⟩
theorem escL_zero (s : ByteArray) : escL s 0 = [] := by simp [escL]
theorem escL_succ {s : ByteArray} {i : Nat} (h : i < s.size) : escL s (i + 1) = escL s i ++ escB (bn s i) := by
  unfold escL
  have h2 : (bl s).take (i + 1) = (bl s).take i ++ [bn s i] := by
    rw [List.take_succ_eq_append_getElem (by rw [bl_length]; exact h)]
    simp [bl]
  rw [h2, List.flatMap_append]
  simp
theorem escB_length (c : Nat) : (escB c).length = if c ∈ specials then 2 else 1 := by unfold escB; split <;> rfl
theorem escL_le (s : ByteArray) : ∀ i, i ≤ s.size → i ≤ (escL s i).length ∧ (escL s i).length ≤ 2 * i
  | 0, _ => by simp [escL_zero]
  | i + 1, h => by
    have ih := escL_le s i (by omega)
    rw [escL_succ (by omega), List.length_append, escB_length]
    split <;> omega
theorem escL_mono (s : ByteArray) : ∀ d i, i + d ≤ s.size → (escL s i).length + d ≤ (escL s (i + d)).length
  | 0, i, _ => by simp
  | d + 1, i, h => by
    have ih := escL_mono s d i (by omega)
    have e : i + (d + 1) = (i + d) + 1 := by omega
    rw [e, escL_succ (by omega), List.length_append, escB_length]
    split <;> omega
theorem escL_same (s : ByteArray) : ∀ i, i ≤ s.size → (escL s i).length = i → escL s i = (bl s).take i
  | 0, _, _ => by simp [escL]
  | i + 1, h, hl => by
    have h1 := (escL_le s i (by omega)).1
    rw [escL_succ (by omega), List.length_append, escB_length] at hl
    have h2 : (bl s).take (i + 1) = (bl s).take i ++ [bn s i] := by
      rw [List.take_succ_eq_append_getElem (by rw [bl_length]; omega)]
      simp [bl]
    split at hl
    · omega
    · rename_i hn
      rw [escL_succ (by omega), h2, escL_same s i (by omega) (by omega)]
      unfold escB
      rw [if_neg hn]
theorem bl_bytes (s : ByteArray) : (⟨((bl s).map UInt8.ofNat).toArray⟩ : ByteArray) = s := by
  apply ByteArray.ext
  apply Array.ext
  · simp [bl]
  · intro i h1 h2
    simp only [bl, List.map_map, List.getElem_toArray, List.getElem_map, List.getElem_range, Function.comp]
    have hi : i < s.size := h2
    unfold bn
    rw [dif_pos hi]
    exact UInt8.ofNat_toNat
theorem escS_same {s : ByteArray} (h : (escL s s.size).length = s.size) : escS s = s := by
  unfold escS
  rw [escL_same s s.size (Nat.le_refl _) h, List.take_of_length_le (by rw [bl_length]; exact Nat.le_refl _)]
  exact bl_bytes s
def byteV (c : Nat) : Value := .int .u8 (c : Int)
/-- A row of bytes, filled from its head. -/
def rowOf (out : List Nat) (N : Nat) : Array Value := (out.map byteV ++ List.replicate (N - out.length) (byteV 0)).toArray
theorem rowOf_size {out : List Nat} {N : Nat} (h : out.length ≤ N) : (rowOf out N).size = N := by simp [rowOf]; omega
theorem rowOf_set {out : List Nat} {N : Nat} (h : out.length < N) (c : Nat) : (rowOf out N).setIfInBounds out.length (byteV c) = rowOf (out ++ [c]) N := by
  apply Array.toList_inj.1
  rw [Array.toList_setIfInBounds]
  simp only [rowOf]
  rw [List.set_append_right _ _ (by simp)]
  obtain ⟨d, hd⟩ : ∃ d, N - out.length = d + 1 := ⟨N - out.length - 1, by omega⟩
  have hd2 : N - (out ++ [c]).length = d := by simp; omega
  rw [hd, hd2]
  simp [List.replicate_succ]
theorem rowOf_copy {out : List Nat} {N : Nat} (h : out.length + 2 ≤ N) (a b : Nat) : ((rowOf out N).toList.take out.length ++ ([byteV a, byteV b] ++ (rowOf out N).toList.drop (out.length + 2))).toArray = rowOf (out ++ [a, b]) N := by
  simp only [rowOf]
  obtain ⟨d, hd⟩ : ∃ d, N - out.length = d + 2 := ⟨N - out.length - 2, by omega⟩
  have hd2 : N - (out ++ [a, b]).length = d := by simp; omega
  rw [hd, hd2]
  congr 1
  rw [List.take_append_of_le_length (by simp), List.take_of_length_le (by simp), List.drop_append]
  simp [List.replicate_succ]
theorem rowOf_full (out : List Nat) : rowOf out out.length = (out.map byteV).toArray := by simp [rowOf]
theorem rowOf_next {out : List Nat} {N : Nat} (h : out.length < N) : (rowOf out N)[out.length]? = some (byteV 0) := by
  simp only [rowOf, List.getElem?_toArray]
  rw [List.getElem?_append_right (by simp), List.getElem?_replicate, if_pos (by simp; omega)]
theorem escB_lt {c : Nat} (hc : c < 256) : ∀ x ∈ escB c, x < 256 := by
  intro x hx
  unfold escB at hx
  split at hx
  · simp at hx; omega
  · simp at hx; omega
theorem escL_lt (s : ByteArray) : ∀ i, i ≤ s.size → ∀ x ∈ escL s i, x < 256
  | 0, _, x, hx => by simp [escL_zero] at hx
  | i + 1, h, x, hx => by
    rw [escL_succ (by omega), List.mem_append] at hx
    rcases hx with hx | hx
    · exact escL_lt s i (by omega) x hx
    · exact escB_lt (by have := bn_le s i; omega) x hx
theorem info5 : (Tryz.prog.info? 5).map (fun i => (i.zero, i.size, i.bytes)) = some (some (.int .u8 0), 1, 1) := by kernel_rfl
theorem info5s : (Tryz.prog.info? 5).map (·.size) = some 1 := by kernel_rfl
theorem make_bytes (N : Nat) (w : World) (hN : N ≤ 4194304) : (Instr.makeSlice 35 (.int .i64 (N : Int)) (.int .i64 (N : Int))).run Tryz.prog w = .ok (.slice (some ⟨w.heap.size, 0, none⟩) N N) (w.alloc (.cells (rowOf [] N) 5)) := by
  cases hie : Tryz.prog.info? 5 with
  | none => have := info5; rw [hie] at this; cases this
  | some ie =>
    have h := info5
    rw [hie] at h
    simp only [Option.map_some, Option.some.injEq, Prod.mk.injEq] at h
    obtain ⟨h2, h3, h4⟩ := h
    have h := run_makeSlice (P := Tryz.prog) w 35 5 ie _ Tryz.underlying35 hie h2 .i64 .i64 (N : Int) (N : Int) (by omega) (by omega) (by rw [h3]; omega) (by rw [h4]; omega) (by omega)
    rw [h3] at h
    have e : madeCells (Value.int .u8 0).cells ((N : Int).toNat * 1) = rowOf [] N := by
      apply Array.ext
      · simp [madeCells, rowOf]
      · intro i h1 h2
        simp [madeCells, rowOf, byteV, Value.cells, Nat.mod_one]
    rw [e] at h
    exact h
theorem addr_add (g j : Nat) : (⟨g, 0, none⟩ : Addr).add j = ⟨g, j, none⟩ := by unfold Addr.add; split <;> simp_all
theorem wp_copy35 {o : Oper} {a : Act} {w : World} {K : Act → World → Prop} {Q : Exit → Act → World → Prop} (d s : Operand) (ho : o.op = .call { callee := .builtin .copy, args := #[d, s], argTypes := #[35, 35] }) {v u v' : Value} {w' : World} (hd : a.eval d = v) (hs : a.eval s = u)
    (hr : ∀ ty, (Builtin.copy_ #[35, 35] ty #[v, u]).run Tryz.prog w = .ok v' w') (h : K (a.put o.dst v') w') : o.wp Tryz.prog a w K Q := by
  unfold Oper.wp execOp
  simp only [ho, resolve, invoke, builtin, Sem.run_bind, Sem.run_pure, Result.andThen_ok, List.map_toArray, List.map_cons, List.map_nil, hd, hs, hr]
  exact h
theorem conv_out (s : ByteArray) (g : Nat) (w : World) (h : w.heap[g]? = some (.cells (rowOf (escL s s.size) (escL s s.size).length) 5 (0, 0))) :
    (convert 35 9 (.slice (some ⟨g, 0, none⟩) (escL s s.size).length (escL s s.size).length)).run Tryz.prog w = .ok (.string (escS s)) w := by
  have hl : ((escL s s.size).map UInt8.ofNat).length = (escL s s.size).length := by simp
  have h2 := run_convert_bytes_back (P := Tryz.prog) w 35 9 5 ⟨g, 0, none⟩ (escL s s.size).length ((escL s s.size).map UInt8.ofNat) Tryz.underlying35 Tryz.underlying5 Tryz.underlying9 (fun j hj => by
    have hj2 : j < (escL s s.size).length := by rw [← hl]; exact hj
    rw [addr_add, cell_of_heap h, rowOf_full, List.getElem?_toArray, List.getElem?_map, List.getElem?_eq_getElem hj2, List.getElem_map]
    have := escL_lt s s.size (Nat.le_refl _) _ (List.getElem_mem hj2)
    simp only [Option.map_some, byteV, UInt8.toNat_ofNat', Option.some.injEq, Value.int.injEq, true_and]
    omega)
  rw [hl] at h2
  exact h2
set_option maxHeartbeats 1000000 in
set_option maxRecDepth 100000 in
/-- strings.Count of one byte. -/
theorem count_calls (s : ByteArray) (c : UInt8) (w : World) :
    Calls Tryz.prog 73 #[.string s, .string ⟨#[c]⟩] w fun e w' => e = .returned (.int .i64 (Lib.countByte s.data.toList c)) ∧ w' = w := by
  go_enter Tryz.func73, Tryz.ntmps73
  go_wp2
  rw [run_callFunc_extern Tryz.func89 (by kernel_rfl) (by kernel_rfl) (by kernel_rfl) (e := Extern.BytealgCount.count) (by kernel_rfl), Lib.run_countString]
  simp only [Result.andThen]
  rw [Oper.upon_value]
  go_wp2
  go_ret
  exact ⟨rfl, rfl⟩
/-- How many bytes are escaped: by each of the first n special bytes. -/
def cntN (s : ByteArray) (n : Nat) : Nat := ((specials.take n).map fun c => Lib.countByte s.data.toList (UInt8.ofNat c)).sum
theorem esc_count : ∀ l : List UInt8, ((l.map UInt8.toNat).flatMap escB).length = l.length + (l.count 92 + (l.count 91 + (l.count 63 + l.count 42)))
  | [] => rfl
  | x :: l => by
    rw [List.map_cons, List.flatMap_cons, List.length_append, esc_count l, escB_length, List.length_cons]
    simp only [List.count_cons]
    by_cases h1 : x = 92
    · subst h1; rw [if_pos (by decide)]; simp; omega
    · by_cases h2 : x = 91
      · subst h2; rw [if_pos (by decide)]; simp; omega
      · by_cases h3 : x = 63
        · subst h3; rw [if_pos (by decide)]; simp; omega
        · by_cases h4 : x = 42
          · subst h4; rw [if_pos (by decide)]; simp; omega
          · have hn : x.toNat ∉ specials := by
              have g : ∀ y : UInt8, x ≠ y → x.toNat ≠ y.toNat := fun y h e => h (UInt8.toNat_inj.1 e)
              have g1 := g 92 h1
              have g2 := g 91 h2
              have g3 := g 63 h3
              have g4 := g 42 h4
              simp only [specials, List.mem_cons, List.mem_nil_iff, or_false, not_or]
              exact ⟨g1, g2, g3, g4⟩
            rw [if_neg hn]
            simp [h1, h2, h3, h4]
            omega
theorem bl_data (s : ByteArray) : bl s = s.data.toList.map UInt8.toNat := by
  apply List.ext_getElem
  · rw [bl_length]; simp
  · intro i h1 h2
    rw [bl_length] at h1
    simp only [bl, List.getElem_map, List.getElem_range]
    unfold bn
    rw [dif_pos h1]
    rfl
theorem escL_count (s : ByteArray) : (escL s s.size).length = s.size + cntN s 4 := by
  unfold escL
  rw [List.take_of_length_le (by rw [bl_length]; exact Nat.le_refl _), bl_data, esc_count]
  have h : s.data.toList.length = s.size := by simp
  rw [h]
  rfl
/-- A replacer of Escape in memory. -/
structure BsrAt (w : World) (B : Nat) (F : Nat → Value) (tr : Value) : Prop where
  at_ : w.heap[B]? = some (.cells (bsr F tr) 184 (0, 0))
  strs : ∃ g cap cur, tr = .slice (some ⟨g, 0, none⟩) 4 cap ∧ w.heap[g]? = some (.cells cur 9 (0, 0)) ∧ ∀ j, j < 4 → cur[j]? = (specials.map fun c => Value.string ⟨#[UInt8.ofNat c]⟩)[j]?
  reps : ∀ c, c ∈ specials → ∃ g cap cs fz, F c = .slice (some ⟨g, 0, none⟩) 2 cap ∧ w.heap[g]? = some (.cells cs 5 fz) ∧ cs[0]? = some (.int .u8 92) ∧ cs[1]? = some (.int .u8 (c : Int))
  nils : ∀ c, c ∉ specials → F c = .slice none 0 0
theorem BuildAt.bsr {w w' : World} {B : Nat} {F : Nat → Value} {tr : Value} (h : BuildAt w w' B 4 F tr) : BsrAt w' B F tr := by
  refine ⟨h.at_, ?_, fun c hc => ?_, fun c hc => h.nils c hc⟩
  · rcases h.own.2 with ⟨_, h0⟩ | ⟨g, cap, cur, rfl, hb, hg, _, _, hsz, ht⟩
    · cases h0
    · refine ⟨_, _, cur, rfl, hg, fun j hj => ?_⟩
      have h1 : (cur.toList.take (4 * 1))[j]? = ((specials.take 4).map fun c => Value.string ⟨#[UInt8.ofNat c]⟩)[j]? := by rw [ht]
      rw [List.getElem?_take_of_lt (by omega)] at h1
      rw [show specials.take 4 = specials from rfl] at h1
      simpa using h1
  · obtain ⟨g, cap, cs, fz, h1, _, _, _, h5, h6, h7⟩ := h.reps c hc
    exact ⟨g, cap, cs, fz, h1, h5, h6, h7⟩
theorem BsrAt.chg {w w' : World} {B : Nat} {F : Nat → Value} {tr : Value} {L : List Nat} (h : BsrAt w B F tr) (hc : Chg L w w') (hB : B ∉ L) (hL : ∀ g ∈ L, ∀ cs t fz, w.heap[g]? = some (.cells cs t fz) → t ≠ 5 ∧ t ≠ 9) : BsrAt w' B F tr := by
  refine ⟨hc.heap h.at_ hB, ?_, fun c hm => ?_, h.nils⟩
  · obtain ⟨g, cap, cur, h1, h2, h3⟩ := h.strs
    exact ⟨g, cap, cur, h1, hc.heap h2 (fun e => (hL g e _ _ _ h2).2 rfl), h3⟩
  · obtain ⟨g, cap, cs, fz, h1, h2, h3, h4⟩ := h.reps c hm
    exact ⟨g, cap, cs, fz, h1, hc.heap h2 (fun e => (hL g e _ _ _ h2).1 rfl), h3, h4⟩
set_option maxRecDepth 100000 in
set_option maxHeartbeats 8000000 in
theorem repl_calls (B : Nat) (F : Nat → Value) (tr : Value) (s : ByteArray) (w : World) (hB : BsrAt w B F tr) (hs : s.size ≤ 1048576) :
    Calls Tryz.prog 180 #[.pointer (some ⟨B, 0, none⟩), .string s] w fun e w' => e = .returned (.string (escS s)) ∧ Chg [] w w' := by
  obtain ⟨tg, cap, cur, rfl, htg, hcur⟩ := hB.strs
  have qt : w.cell? ⟨B, 256, none⟩ = some (.slice (some ⟨tg, 0, none⟩) 4 cap) := (cell_of_heap hB.at_ 256).trans (bsr_last _ _)
  have x0 : w.cell? ⟨tg, 0, none⟩ = some (.string ⟨#[92]⟩) := (cell_of_heap htg 0).trans (hcur 0 (by omega))
  have x1 : w.cell? ⟨tg, 1, none⟩ = some (.string ⟨#[91]⟩) := (cell_of_heap htg 1).trans (hcur 1 (by omega))
  have x2 : w.cell? ⟨tg, 2, none⟩ = some (.string ⟨#[63]⟩) := (cell_of_heap htg 2).trans (hcur 2 (by omega))
  have x3 : w.cell? ⟨tg, 3, none⟩ = some (.string ⟨#[42]⟩) := (cell_of_heap htg 3).trans (hcur 3 (by omega))
  have HB := Asd.mk hB
  clear hB htg hcur
  go_enter Tryz.func180, Tryz.ntmps180
  go_upto_if 26 with fail
  go_cut [5, 6] from 16 to 80 (fun v5 v6 wx => Asd (Chg [] w wx) ∧ v5 = .int .i64 (((escL s s.size).length : Nat) : Int) ∧ v6 = .bool (decide (s.size < (escL s s.size).length)))
  case first =>
   by_cases h32 : s.size < 32
   case neg =>
    have tb : decide ((32 : Int) ≤ (s.size : Int)) = true := decide_eq_true (by omega)
    rw [tb]
    clear tb
    go_wp2
    go_loopg [5, 6, 32] 5 (fun gk v5 v6 v32 wr => (∃ d, wr = w.drewN d) ∧ ∃ n : Nat, n ≤ 4 ∧ gk = 5 - n ∧ v32 = .int .i64 (n : Int) ∧ v5 = .int .i64 ((s.size + cntN s n : Nat) : Int) ∧ v6 = .bool (decide (0 < cntN s n)))
    case atStart => exact ⟨⟨0, rfl⟩, 0, by omega, rfl, rfl, rfl, rfl⟩
    case round =>
      obtain ⟨⟨d, hd⟩, n, hn, rfl, rfl, rfl, rfl⟩ := hrel
      have qt2 : wr.cell? ⟨B, 256, none⟩ = some (.slice (some ⟨tg, 0, none⟩) 4 cap) := by rw [hd]; exact qt
      have y0 : wr.cell? ⟨tg, 0, none⟩ = some (.string ⟨#[92]⟩) := by rw [hd]; exact x0
      have y1 : wr.cell? ⟨tg, 1, none⟩ = some (.string ⟨#[91]⟩) := by rw [hd]; exact x1
      have y2 : wr.cell? ⟨tg, 2, none⟩ = some (.string ⟨#[63]⟩) := by rw [hd]; exact x2
      have y3 : wr.cell? ⟨tg, 3, none⟩ = some (.string ⟨#[42]⟩) := by rw [hd]; exact x3
      clear x0 x1 x2 x3 qt
      rcases (show n = 0 ∨ n = 1 ∨ n = 2 ∨ n = 3 ∨ n = 4 by omega) with rfl | rfl | rfl | rfl | rfl
      · obtain ⟨g, cp, cs, fz, h1, h2, h3, h4⟩ := HB.out.reps 92 (by simp [specials])
        have qc : wr.cell? ⟨B, 92, none⟩ = some (.slice (some ⟨g, 0, none⟩) 2 cp) := by
          rw [hd, show (w.drewN d).cell? ⟨B, _, none⟩ = w.cell? ⟨B, _, none⟩ from rfl, cell_of_heap HB.out.at_, bsr_at _ _ _ (by omega), h1]
        have hb0 : ∀ h, ((⟨#[92]⟩ : ByteArray)[0]'h).toNat = 92 := fun _ => rfl
        have ea : cntN s (0 + 1) = (Lib.countByte s.data.toList 92 + 0) := rfl
        have eb : cntN s 0 = (0 : Nat) := rfl
        have hsum : cntN s (0 + 1) = cntN s 0 + Lib.countByte s.data.toList 92 := by rw [ea, eb]; omega
        have hcl : Lib.countByte s.data.toList 92 ≤ s.size := by
          have h := List.count_le_length (a := (92 : UInt8)) (l := s.data.toList)
          have hl : s.data.toList.length = s.size := by simp
          unfold Lib.countByte
          omega
        have hcn : cntN s 0 ≤ 4 * s.size := by
          have hl : s.data.toList.length = s.size := by simp
          have g1 := List.count_le_length (a := (92 : UInt8)) (l := s.data.toList)
          have g2 := List.count_le_length (a := (91 : UInt8)) (l := s.data.toList)
          have g3 := List.count_le_length (a := (63 : UInt8)) (l := s.data.toList)
          rw [eb]
          try unfold Lib.countByte
          omega
        clear ea eb
        obtain ⟨m, hm⟩ : ∃ m, Lib.countByte s.data.toList 92 = m := ⟨_, rfl⟩
        obtain ⟨q, hq⟩ : ∃ q, cntN s 0 = q := ⟨_, rfl⟩
        rw [hm] at hsum hcl
        rw [hq] at hsum hcn ⊢
        have HDD := Asd.mk hd
        have HS := Asd.mk hsum
        have HM := Asd.mk hm
        clear h1 h2 h3 h4 hsum hm hq hd
        go_wp2_with fail
        refine (count_calls s 92 wr).mono ?_
        rw [HM.out]
        rintro e w1 ⟨rfl, rfl⟩
        by_cases hm0 : m = 0
        · subst hm0
          go_wp2
          go_roundg (5 - (0 + 1))
          case rel => exact ⟨⟨d, HDD.out⟩, 0 + 1, by omega, rfl, rfl, congrArg (Value.int .i64) (by have := HS.out; omega), congrArg Value.bool (decide_eq_decide.2 (by have := HS.out; omega))⟩
          case measure => omega
        · have tm : ((m : Int) != 0) = true := by simp; omega
          go_wp2
          go_quiet (fail)
          go_wp2
          go_roundg (5 - (0 + 1))
          case rel => exact ⟨⟨d + nq, by rw [HDD.out, World.drewN_drewN]⟩, 0 + 1, by omega, rfl, rfl, congrArg (Value.int .i64) (by have := HS.out; omega), congrArg Value.bool (decide_eq_true (by have := HS.out; omega)).symm⟩
          case measure => omega
      · obtain ⟨g, cp, cs, fz, h1, h2, h3, h4⟩ := HB.out.reps 91 (by simp [specials])
        have qc : wr.cell? ⟨B, 91, none⟩ = some (.slice (some ⟨g, 0, none⟩) 2 cp) := by
          rw [hd, show (w.drewN d).cell? ⟨B, _, none⟩ = w.cell? ⟨B, _, none⟩ from rfl, cell_of_heap HB.out.at_, bsr_at _ _ _ (by omega), h1]
        have hb0 : ∀ h, ((⟨#[91]⟩ : ByteArray)[0]'h).toNat = 91 := fun _ => rfl
        have ea : cntN s (1 + 1) = (Lib.countByte s.data.toList 92 + (Lib.countByte s.data.toList 91 + 0)) := rfl
        have eb : cntN s 1 = (Lib.countByte s.data.toList 92 + 0) := rfl
        have hsum : cntN s (1 + 1) = cntN s 1 + Lib.countByte s.data.toList 91 := by rw [ea, eb]; omega
        have hcl : Lib.countByte s.data.toList 91 ≤ s.size := by
          have h := List.count_le_length (a := (91 : UInt8)) (l := s.data.toList)
          have hl : s.data.toList.length = s.size := by simp
          unfold Lib.countByte
          omega
        have hcn : cntN s 1 ≤ 4 * s.size := by
          have hl : s.data.toList.length = s.size := by simp
          have g1 := List.count_le_length (a := (92 : UInt8)) (l := s.data.toList)
          have g2 := List.count_le_length (a := (91 : UInt8)) (l := s.data.toList)
          have g3 := List.count_le_length (a := (63 : UInt8)) (l := s.data.toList)
          rw [eb]
          try unfold Lib.countByte
          omega
        clear ea eb
        obtain ⟨m, hm⟩ : ∃ m, Lib.countByte s.data.toList 91 = m := ⟨_, rfl⟩
        obtain ⟨q, hq⟩ : ∃ q, cntN s 1 = q := ⟨_, rfl⟩
        rw [hm] at hsum hcl
        rw [hq] at hsum hcn ⊢
        have HDD := Asd.mk hd
        have HS := Asd.mk hsum
        have HM := Asd.mk hm
        clear h1 h2 h3 h4 hsum hm hq hd
        go_wp2_with fail
        refine (count_calls s 91 wr).mono ?_
        rw [HM.out]
        rintro e w1 ⟨rfl, rfl⟩
        by_cases hm0 : m = 0
        · subst hm0
          go_wp2
          go_roundg (5 - (1 + 1))
          case rel => exact ⟨⟨d, HDD.out⟩, 1 + 1, by omega, rfl, rfl, congrArg (Value.int .i64) (by have := HS.out; omega), congrArg Value.bool (decide_eq_decide.2 (by have := HS.out; omega))⟩
          case measure => omega
        · have tm : ((m : Int) != 0) = true := by simp; omega
          go_wp2
          go_quiet (fail)
          go_wp2
          go_roundg (5 - (1 + 1))
          case rel => exact ⟨⟨d + nq, by rw [HDD.out, World.drewN_drewN]⟩, 1 + 1, by omega, rfl, rfl, congrArg (Value.int .i64) (by have := HS.out; omega), congrArg Value.bool (decide_eq_true (by have := HS.out; omega)).symm⟩
          case measure => omega
      · obtain ⟨g, cp, cs, fz, h1, h2, h3, h4⟩ := HB.out.reps 63 (by simp [specials])
        have qc : wr.cell? ⟨B, 63, none⟩ = some (.slice (some ⟨g, 0, none⟩) 2 cp) := by
          rw [hd, show (w.drewN d).cell? ⟨B, _, none⟩ = w.cell? ⟨B, _, none⟩ from rfl, cell_of_heap HB.out.at_, bsr_at _ _ _ (by omega), h1]
        have hb0 : ∀ h, ((⟨#[63]⟩ : ByteArray)[0]'h).toNat = 63 := fun _ => rfl
        have ea : cntN s (2 + 1) = (Lib.countByte s.data.toList 92 + (Lib.countByte s.data.toList 91 + (Lib.countByte s.data.toList 63 + 0))) := rfl
        have eb : cntN s 2 = (Lib.countByte s.data.toList 92 + (Lib.countByte s.data.toList 91 + 0)) := rfl
        have hsum : cntN s (2 + 1) = cntN s 2 + Lib.countByte s.data.toList 63 := by rw [ea, eb]; omega
        have hcl : Lib.countByte s.data.toList 63 ≤ s.size := by
          have h := List.count_le_length (a := (63 : UInt8)) (l := s.data.toList)
          have hl : s.data.toList.length = s.size := by simp
          unfold Lib.countByte
          omega
        have hcn : cntN s 2 ≤ 4 * s.size := by
          have hl : s.data.toList.length = s.size := by simp
          have g1 := List.count_le_length (a := (92 : UInt8)) (l := s.data.toList)
          have g2 := List.count_le_length (a := (91 : UInt8)) (l := s.data.toList)
          have g3 := List.count_le_length (a := (63 : UInt8)) (l := s.data.toList)
          rw [eb]
          try unfold Lib.countByte
          omega
        clear ea eb
        obtain ⟨m, hm⟩ : ∃ m, Lib.countByte s.data.toList 63 = m := ⟨_, rfl⟩
        obtain ⟨q, hq⟩ : ∃ q, cntN s 2 = q := ⟨_, rfl⟩
        rw [hm] at hsum hcl
        rw [hq] at hsum hcn ⊢
        have HDD := Asd.mk hd
        have HS := Asd.mk hsum
        have HM := Asd.mk hm
        clear h1 h2 h3 h4 hsum hm hq hd
        go_wp2_with fail
        refine (count_calls s 63 wr).mono ?_
        rw [HM.out]
        rintro e w1 ⟨rfl, rfl⟩
        by_cases hm0 : m = 0
        · subst hm0
          go_wp2
          go_roundg (5 - (2 + 1))
          case rel => exact ⟨⟨d, HDD.out⟩, 2 + 1, by omega, rfl, rfl, congrArg (Value.int .i64) (by have := HS.out; omega), congrArg Value.bool (decide_eq_decide.2 (by have := HS.out; omega))⟩
          case measure => omega
        · have tm : ((m : Int) != 0) = true := by simp; omega
          go_wp2
          go_quiet (fail)
          go_wp2
          go_roundg (5 - (2 + 1))
          case rel => exact ⟨⟨d + nq, by rw [HDD.out, World.drewN_drewN]⟩, 2 + 1, by omega, rfl, rfl, congrArg (Value.int .i64) (by have := HS.out; omega), congrArg Value.bool (decide_eq_true (by have := HS.out; omega)).symm⟩
          case measure => omega
      · obtain ⟨g, cp, cs, fz, h1, h2, h3, h4⟩ := HB.out.reps 42 (by simp [specials])
        have qc : wr.cell? ⟨B, 42, none⟩ = some (.slice (some ⟨g, 0, none⟩) 2 cp) := by
          rw [hd, show (w.drewN d).cell? ⟨B, _, none⟩ = w.cell? ⟨B, _, none⟩ from rfl, cell_of_heap HB.out.at_, bsr_at _ _ _ (by omega), h1]
        have hb0 : ∀ h, ((⟨#[42]⟩ : ByteArray)[0]'h).toNat = 42 := fun _ => rfl
        have ea : cntN s (3 + 1) = (Lib.countByte s.data.toList 92 + (Lib.countByte s.data.toList 91 + (Lib.countByte s.data.toList 63 + (Lib.countByte s.data.toList 42 + 0)))) := rfl
        have eb : cntN s 3 = (Lib.countByte s.data.toList 92 + (Lib.countByte s.data.toList 91 + (Lib.countByte s.data.toList 63 + 0))) := rfl
        have hsum : cntN s (3 + 1) = cntN s 3 + Lib.countByte s.data.toList 42 := by rw [ea, eb]; omega
        have hcl : Lib.countByte s.data.toList 42 ≤ s.size := by
          have h := List.count_le_length (a := (42 : UInt8)) (l := s.data.toList)
          have hl : s.data.toList.length = s.size := by simp
          unfold Lib.countByte
          omega
        have hcn : cntN s 3 ≤ 4 * s.size := by
          have hl : s.data.toList.length = s.size := by simp
          have g1 := List.count_le_length (a := (92 : UInt8)) (l := s.data.toList)
          have g2 := List.count_le_length (a := (91 : UInt8)) (l := s.data.toList)
          have g3 := List.count_le_length (a := (63 : UInt8)) (l := s.data.toList)
          rw [eb]
          try unfold Lib.countByte
          omega
        clear ea eb
        obtain ⟨m, hm⟩ : ∃ m, Lib.countByte s.data.toList 42 = m := ⟨_, rfl⟩
        obtain ⟨q, hq⟩ : ∃ q, cntN s 3 = q := ⟨_, rfl⟩
        rw [hm] at hsum hcl
        rw [hq] at hsum hcn ⊢
        have HDD := Asd.mk hd
        have HS := Asd.mk hsum
        have HM := Asd.mk hm
        clear h1 h2 h3 h4 hsum hm hq hd
        go_wp2_with fail
        refine (count_calls s 42 wr).mono ?_
        rw [HM.out]
        rintro e w1 ⟨rfl, rfl⟩
        by_cases hm0 : m = 0
        · subst hm0
          go_wp2
          go_roundg (5 - (3 + 1))
          case rel => exact ⟨⟨d, HDD.out⟩, 3 + 1, by omega, rfl, rfl, congrArg (Value.int .i64) (by have := HS.out; omega), congrArg Value.bool (decide_eq_decide.2 (by have := HS.out; omega))⟩
          case measure => omega
        · have tm : ((m : Int) != 0) = true := by simp; omega
          go_wp2
          go_quiet (fail)
          go_wp2
          go_roundg (5 - (3 + 1))
          case rel => exact ⟨⟨d + nq, by rw [HDD.out, World.drewN_drewN]⟩, 3 + 1, by omega, rfl, rfl, congrArg (Value.int .i64) (by have := HS.out; omega), congrArg Value.bool (decide_eq_true (by have := HS.out; omega)).symm⟩
          case measure => omega
      · have hec := escL_count s
        have HEC := Asd.mk hec
        have HDC := Asd.mk (show Chg [] w wr by rw [hd]; exact (Chg.refl _ _).drewN d)
        clear hec y0 y1 y2 y3 qt2 hd
        go_wp2
        go_meet
        case rel => exact ⟨HDC, by rw [HEC.out], congrArg Value.bool (decide_eq_decide.2 (by have := HEC.out; omega))⟩
   case pos =>
    go_wp2
    go_loopg [5, 6, 10] (s.size + 1) (fun gk v5 v6 v10 wr => w = wr ∧ ∃ i : Nat, i ≤ s.size ∧ gk = s.size + 1 - i ∧ v10 = .int .i64 (i : Int) ∧ v5 = .int .i64 (((s.size + (escL s i).length - i : Nat)) : Int) ∧ v6 = .bool (decide (i < (escL s i).length)))
    case atStart => exact ⟨rfl, 0, by omega, by omega, rfl, by rw [escL_zero]; rfl, by rw [escL_zero]; rfl⟩
    case round =>
      obtain ⟨rfl, i, hi, rfl, rfl, rfl, rfl⟩ := hrel
      by_cases hlt : i < s.size
      · have hle := escL_le s i hi
        have hbn : bn s i = s[i].toNat := by unfold bn; rw [dif_pos hlt]
        have hsu := escL_succ hlt
        have b1 : ((s[i].toNat : Nat) : Int) < 256 := by have := UInt8.toNat_lt s[i]; omega
        have b0 : 0 ≤ ((s[i].toNat : Nat) : Int) := by omega
        by_cases hsp : bn s i ∈ specials
        · obtain ⟨g, cp, cs, fz, h1, h2, h3, h4⟩ := HB.out.reps _ hsp
          have qc : w.cell? ⟨B, s[i].toNat, none⟩ = some (.slice (some ⟨g, 0, none⟩) 2 cp) := by
            rw [cell_of_heap HB.out.at_, bsr_at _ _ _ (by omega), ← hbn, h1]
          have hne : ∀ W : World, (binOp .neq 35 (.slice (some ⟨g, 0, none⟩) 2 cp) (.slice none 0 0)).run Tryz.prog W = .ok (.bool true) W := fun W => Go.run_neq_slice_nil_any W 35 5 _ 2 cp 0 0 Tryz.underlying35
          rw [escB, if_pos hsp] at hsu
          have hl := congrArg List.length hsu
          rw [List.length_append] at hl
          simp only [List.length_cons, List.length_nil] at hl
          clear hsu hbn hsp h1 h2 h3 h4
          go_wp2
          go_roundg (s.size + 1 - (i + 1))
          case rel => exact ⟨rfl, i + 1, by omega, by omega, rfl, congrArg (Value.int .i64) (by omega), congrArg Value.bool (decide_eq_true (by omega)).symm⟩
          case measure => omega
        · have qc : w.cell? ⟨B, s[i].toNat, none⟩ = some (.slice none 0 0) := by
            rw [cell_of_heap HB.out.at_, bsr_at _ _ _ (by omega), ← hbn, HB.out.nils _ hsp]
          have hne : ∀ W : World, (binOp .neq 35 (.slice none 0 0) (.slice none 0 0)).run Tryz.prog W = .ok (.bool false) W := fun W => Go.run_neq_slice_nil_any W 35 5 _ 0 0 0 0 Tryz.underlying35
          rw [escB, if_neg hsp] at hsu
          have hl := congrArg List.length hsu
          rw [List.length_append] at hl
          simp only [List.length_cons, List.length_nil] at hl
          clear hsu hbn hsp
          go_wp2
          go_roundg (s.size + 1 - (i + 1))
          case rel => exact ⟨rfl, i + 1, by omega, by omega, rfl, congrArg (Value.int .i64) (by omega), congrArg Value.bool (decide_eq_decide.2 (by omega))⟩
          case measure => omega
      · obtain rfl : i = s.size := by omega
        have hle := escL_le s s.size hi
        go_wp2
        go_meet
        case rel => exact ⟨⟨Chg.refl _ _⟩, congrArg (Value.int .i64) (by omega), rfl⟩
  case rest =>
    obtain ⟨HCx, rfl, rfl⟩ := hcut
    replace HB := Asd.mk (HB.out.chg HCx.out (by simp) (by simp))
    · have hle := escL_le s s.size (Nat.le_refl _)
      obtain ⟨N, hN⟩ : ∃ N, (escL s s.size).length = N := ⟨_, rfl⟩
      rw [hN] at hle ⊢
      clear x0 x1 x2 x3 qt
      by_cases hch : s.size < N
      · have t1 : decide (s.size < N) = true := decide_eq_true hch
        have hmk := make_bytes N wc (by omega)
        go_wp2
        clear hmk
        go_loopg [13, 14] (s.size + 1) (fun gk v13 v14 wx => ∃ i : Nat, i ≤ s.size ∧ gk = s.size + 1 - i ∧ v14 = .int .i64 (i : Int) ∧ v13 = .int .i64 ((escL s i).length : Int) ∧ Asd (Chg [] wc wx) ∧ Asd (wx.heap[wc.heap.size]? = some (.cells (rowOf (escL s i) N) 5 (0, 0))))
        case atStart => exact ⟨0, by omega, by omega, rfl, by rw [escL_zero]; rfl, ⟨(Chg.refl _ _).alloc _⟩, ⟨by rw [escL_zero]; exact hp_new _ _⟩⟩
        case round =>
          obtain ⟨i, hi, rfl, rfl, rfl, HC, HW⟩ := hrel
          by_cases hlt : i < s.size
          · have hle := escL_le s i hi
            have hmo := escL_mono s (s.size - (i + 1)) (i + 1) (by omega)
            rw [show i + 1 + (s.size - (i + 1)) = s.size by omega, hN] at hmo
            have hbn : bn s i = s[i].toNat := by unfold bn; rw [dif_pos hlt]
            have hsu := escL_succ hlt
            have b1 : ((s[i].toNat : Nat) : Int) < 256 := by have := UInt8.toNat_lt s[i]; omega
            have b0 : 0 ≤ ((s[i].toNat : Nat) : Int) := by omega
            have HB2 := Asd.mk (HB.out.chg HC.out (by simp) (by simp))
            have hWlt : wc.heap.size < wr.heap.size := lt_of_heap HW.out
            by_cases hsp : bn s i ∈ specials
            · obtain ⟨g, cp, cs, fz, h1, h2, h3, h4⟩ := HB2.out.reps _ hsp
              have qc : wr.cell? ⟨B, s[i].toNat, none⟩ = some (.slice (some ⟨g, 0, none⟩) 2 cp) := by
                rw [cell_of_heap HB2.out.at_, bsr_at _ _ _ (by omega), ← hbn, h1]
              have hne : ∀ W : World, (binOp .neq 35 (.slice (some ⟨g, 0, none⟩) 2 cp) (.slice none 0 0)).run Tryz.prog W = .ok (.bool true) W := fun W => Go.run_neq_slice_nil_any W 35 5 _ 2 cp 0 0 Tryz.underlying35
              rw [escB, if_pos hsp] at hsu
              have hl := congrArg List.length hsu
              rw [List.length_append] at hl
              simp only [List.length_cons, List.length_nil] at hl
              have hjN : (escL s i).length + 2 ≤ N := by omega
              have b2 : ((escL s i).length : Int) ≤ (N : Int) := by omega
              have b3 : 0 ≤ ((escL s i).length : Int) := by omega
              have H2 := Asd.mk h2
              have H3 := Asd.mk h3
              have H4 := Asd.mk h4
              have HSu := Asd.mk hsu
              have HBN := Asd.mk hbn
              clear hsu hbn hsp h1 h2 h3 h4
              have hnl : ¬ N = (escL s i).length := by omega
              have hBlt : B < wc.heap.size := lt_of_heap HB.out.at_
              have hcp : ∀ ty, (Builtin.copy_ #[35, 35] ty #[.slice (some ⟨wc.heap.size, (escL s i).length, none⟩) (N - (escL s i).length) (N - (escL s i).length), .slice (some ⟨g, 0, none⟩) 2 cp]).run Tryz.prog wr.drew = .ok (.int .i64 2) (wr.drew.setRow wc.heap.size (rowOf (escL s (i + 1)) N)) := by
                intro ty
                have hm : 2 = Nat.min 2 (N - (escL s i).length) := by
                  have : (2 : Nat) ≤ N - (escL s i).length := by omega
                  exact (Nat.min_eq_left this).symm
                have h := run_copy_row (P := Tryz.prog) wr.drew 35 35 ty 5 wc.heap.size (escL s i).length (N - (escL s i).length) (N - (escL s i).length) ⟨g, 0, none⟩ 2 cp (rowOf (escL s i) N) 5 [byteV 92, byteV (bn s i)] Tryz.underlying35 info5s (hp_drew HW.out) hm
                  (fun j v hj => by
                    rw [addr_add, cell_of_heap (hp_drew H2.out)]
                    match j, hj with
                    | 0, hj => rw [H3.out]; exact hj
                    | 1, hj => rw [H4.out]; exact hj
                    | j + 2, hj => simp at hj)
                  (by rw [rowOf_size (by omega)]; simp; omega) (fun v hv => by simp at hv; rcases hv with rfl | rfl <;> rfl)
                rw [List.append_assoc] at h
                have e2 := rowOf_copy hjN 92 (bn s i)
                rw [← HSu.out] at e2
                rw [show (escL s i).length + ([byteV 92, byteV (bn s i)] : List Value).length = (escL s i).length + 2 from rfl, e2] at h
                exact h
              have hk1 : wr.drew.cell? ⟨B, s[i].toNat, none⟩ = some (.slice (some ⟨g, 0, none⟩) 2 cp) := qc
              have hk2 : (wr.drew.setRow wc.heap.size (rowOf (escL s (i + 1)) N)).cell? ⟨B, s[i].toNat, none⟩ = some (.slice (some ⟨g, 0, none⟩) 2 cp) := (cell_setRow_other _ _ _ _ (by simp; omega)).trans qc
              go_wp2
              go_region_held3 (fun w' => w'.cell? ⟨B, s[i].toNat, none⟩ = some (.slice (some ⟨g, 0, none⟩) 2 cp)) (first | exact hk1 | exact hk2) (first | (refine wp_copy35 (.tmp 105) (.tmp 111) rfl rfl rfl hcp ?_))
              all_goals
                go_wp2
                go_roundg (s.size + 1 - (i + 1))
                case rel => exact ⟨i + 1, by omega, by omega, rfl, congrArg (Value.int .i64) (by rw [w64 (by omega) (by omega)]; omega), ⟨(HC.out.drew).setRow (by simp) _⟩, ⟨setRow_heap _ _ _ _ _ _ (hp_drew HW.out)⟩⟩
                case measure => omega
            · have qc : wr.cell? ⟨B, s[i].toNat, none⟩ = some (.slice none 0 0) := by
                rw [cell_of_heap HB2.out.at_, bsr_at _ _ _ (by omega), ← hbn, HB2.out.nils _ hsp]
              have hne : ∀ W : World, (binOp .neq 35 (.slice none 0 0) (.slice none 0 0)).run Tryz.prog W = .ok (.bool false) W := fun W => Go.run_neq_slice_nil_any W 35 5 _ 0 0 0 0 Tryz.underlying35
              rw [escB, if_neg hsp] at hsu
              have hl := congrArg List.length hsu
              rw [List.length_append] at hl
              simp only [List.length_cons, List.length_nil] at hl
              have hjN : (escL s i).length < N := by omega
              have p0 := (cell_of_heap HW.out (escL s i).length).trans (rowOf_next hjN)
              have pf := frozen_of_heap HW.out (escL s i).length
              have b2 : ((escL s i).length : Int) < (N : Int) := by omega
              have b3 : 0 ≤ ((escL s i).length : Int) := by omega
              have hset := hp_set HW.out (escL s i).length (byteV (bn s i))
              rw [rowOf_set hjN, ← hsu] at hset
              have HSet := Asd.mk hset
              have HBN := Asd.mk hbn
              clear hsu hbn hsp hset
              go_wp2
              go_roundg (s.size + 1 - (i + 1))
              case rel => exact ⟨i + 1, by omega, by omega, rfl, congrArg (Value.int .i64) (by omega), ⟨HC.out.setCell (by simp) _⟩, ⟨by have h := HSet.out; rw [HBN.out] at h; exact h⟩⟩
              case measure => omega
          · obtain rfl : i = s.size := by omega
            have hcv := conv_out s wc.heap.size wr (by rw [hN]; exact HW.out)
            rw [hN] at hcv
            go_wp2
            go_ret
            exact ⟨rfl, HCx.out.trans HC.out⟩
      · have t1 : decide (s.size < N) = false := decide_eq_false hch
        have hes := escS_same (s := s) (by omega)
        have HES := Asd.mk hes
        clear hes
        go_wp2
        go_ret
        exact ⟨by rw [HES.out]; rfl, HCx.out⟩
end Go.Proofs.YtgkifphfibcfdaaGreatDoor.G
