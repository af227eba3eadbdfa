/- The classes of bytes: each function answers just whether a byte is of its class. Printed by classes.py. -/
import Derived.Test.YtgkifphfibcfdaaGreatDoorRu1
import Derived.Test.YtgkifphfibcfdaaGreatDoorProg
namespace Go.Proofs.YtgkifphfibcfdaaGreatDoor.G
open Go.RowKit Go.Proofs.YtgkifphfibcfdaaGreatDoor.B
set_option linter.unusedVariables false
set_option linter.unusedSimpArgs false
def alphaB (c : Int) : Bool := decide ((65 ≤ c ∧ c ≤ 90) ∨ (97 ≤ c ∧ c ≤ 122))
def digitB (c : Int) : Bool := decide ((48 ≤ c ∧ c ≤ 57))
def alnumB (c : Int) : Bool := decide ((48 ≤ c ∧ c ≤ 57) ∨ (65 ≤ c ∧ c ≤ 90) ∨ (97 ≤ c ∧ c ≤ 122))
def upperB (c : Int) : Bool := decide ((65 ≤ c ∧ c ≤ 90))
def lowerB (c : Int) : Bool := decide ((97 ≤ c ∧ c ≤ 122))
def xdigitB (c : Int) : Bool := decide ((48 ≤ c ∧ c ≤ 57) ∨ (65 ≤ c ∧ c ≤ 70) ∨ (97 ≤ c ∧ c ≤ 102))
def spaceB (c : Int) : Bool := decide ((9 ≤ c ∧ c ≤ 13) ∨ (32 ≤ c ∧ c ≤ 32))
def blankB (c : Int) : Bool := decide ((9 ≤ c ∧ c ≤ 9) ∨ (32 ≤ c ∧ c ≤ 32))
def punctB (c : Int) : Bool := decide ((33 ≤ c ∧ c ≤ 47) ∨ (58 ≤ c ∧ c ≤ 64) ∨ (91 ≤ c ∧ c ≤ 96) ∨ (123 ≤ c ∧ c ≤ 126))
def printB (c : Int) : Bool := decide ((32 ≤ c ∧ c ≤ 126))
def graphB (c : Int) : Bool := decide ((33 ≤ c ∧ c ≤ 126))
def cntrlB (c : Int) : Bool := decide ((0 ≤ c ∧ c ≤ 31) ∨ (127 ≤ c ∧ c ≤ 127))
set_option maxHeartbeats 2000000 in
theorem alpha_calls (c : Int) (w : World) (h0 : 0 ≤ c) (h1 : c ≤ 255) : Calls Tryz.prog 91 #[.int .u8 c] w fun e w' => e = .returned (.bool (alphaB c)) ∧ w' = w := by
  have hc : (0 ≤ c ∧ c ≤ 64) ∨ (65 ≤ c ∧ c ≤ 90) ∨ (91 ≤ c ∧ c ≤ 96) ∨ (97 ≤ c ∧ c ≤ 122) ∨ (123 ≤ c ∧ c ≤ 255) := by omega
  rcases hc with ⟨a, b⟩ | ⟨a, b⟩ | ⟨a, b⟩ | ⟨a, b⟩ | ⟨a, b⟩
  · have HV := Lib.hid (show alphaB c = false from decide_eq_false (by omega))
    go_enter Tryz.func91, Tryz.ntmps91
    go_wp2
    go_ret
    exact ⟨by rw [HV.out]; first | rfl | (simp; done) | (simp; omega), rfl⟩
  · have HV := Lib.hid (show alphaB c = true from decide_eq_true (by omega))
    go_enter Tryz.func91, Tryz.ntmps91
    go_wp2
    go_ret
    exact ⟨by rw [HV.out]; first | rfl | (simp; done) | (simp; omega), rfl⟩
  · have HV := Lib.hid (show alphaB c = false from decide_eq_false (by omega))
    go_enter Tryz.func91, Tryz.ntmps91
    go_wp2
    go_ret
    exact ⟨by rw [HV.out]; first | rfl | (simp; done) | (simp; omega), rfl⟩
  · have HV := Lib.hid (show alphaB c = true from decide_eq_true (by omega))
    go_enter Tryz.func91, Tryz.ntmps91
    go_wp2
    go_ret
    exact ⟨by rw [HV.out]; first | rfl | (simp; done) | (simp; omega), rfl⟩
  · have HV := Lib.hid (show alphaB c = false from decide_eq_false (by omega))
    go_enter Tryz.func91, Tryz.ntmps91
    go_wp2
    go_ret
    exact ⟨by rw [HV.out]; first | rfl | (simp; done) | (simp; omega), rfl⟩
set_option maxHeartbeats 2000000 in
theorem digit_calls (c : Int) (w : World) (h0 : 0 ≤ c) (h1 : c ≤ 255) : Calls Tryz.prog 94 #[.int .u8 c] w fun e w' => e = .returned (.bool (digitB c)) ∧ w' = w := by
  have hc : (0 ≤ c ∧ c ≤ 47) ∨ (48 ≤ c ∧ c ≤ 57) ∨ (58 ≤ c ∧ c ≤ 255) := by omega
  rcases hc with ⟨a, b⟩ | ⟨a, b⟩ | ⟨a, b⟩
  · have HV := Lib.hid (show digitB c = false from decide_eq_false (by omega))
    go_enter Tryz.func94, Tryz.ntmps94
    go_wp2
    go_ret
    exact ⟨by rw [HV.out]; first | rfl | (simp; done) | (simp; omega), rfl⟩
  · have HV := Lib.hid (show digitB c = true from decide_eq_true (by omega))
    go_enter Tryz.func94, Tryz.ntmps94
    go_wp2
    go_ret
    exact ⟨by rw [HV.out]; first | rfl | (simp; done) | (simp; omega), rfl⟩
  · have HV := Lib.hid (show digitB c = false from decide_eq_false (by omega))
    go_enter Tryz.func94, Tryz.ntmps94
    go_wp2
    go_ret
    exact ⟨by rw [HV.out]; first | rfl | (simp; done) | (simp; omega), rfl⟩
set_option maxHeartbeats 2000000 in
theorem alnum_calls (c : Int) (w : World) (h0 : 0 ≤ c) (h1 : c ≤ 255) : Calls Tryz.prog 95 #[.int .u8 c] w fun e w' => e = .returned (.bool (alnumB c)) ∧ w' = w := by
  have hc : (0 ≤ c ∧ c ≤ 47) ∨ (48 ≤ c ∧ c ≤ 57) ∨ (58 ≤ c ∧ c ≤ 64) ∨ (65 ≤ c ∧ c ≤ 90) ∨ (91 ≤ c ∧ c ≤ 96) ∨ (97 ≤ c ∧ c ≤ 122) ∨ (123 ≤ c ∧ c ≤ 255) := by omega
  rcases hc with ⟨a, b⟩ | ⟨a, b⟩ | ⟨a, b⟩ | ⟨a, b⟩ | ⟨a, b⟩ | ⟨a, b⟩ | ⟨a, b⟩
  · have HV := Lib.hid (show alnumB c = false from decide_eq_false (by omega))
    go_enter Tryz.func95, Tryz.ntmps95
    go_wp2
    go_ret
    exact ⟨by rw [HV.out]; first | rfl | (simp; done) | (simp; omega), rfl⟩
  · have HV := Lib.hid (show alnumB c = true from decide_eq_true (by omega))
    go_enter Tryz.func95, Tryz.ntmps95
    go_wp2
    go_ret
    exact ⟨by rw [HV.out]; first | rfl | (simp; done) | (simp; omega), rfl⟩
  · have HV := Lib.hid (show alnumB c = false from decide_eq_false (by omega))
    go_enter Tryz.func95, Tryz.ntmps95
    go_wp2
    go_ret
    exact ⟨by rw [HV.out]; first | rfl | (simp; done) | (simp; omega), rfl⟩
  · have HV := Lib.hid (show alnumB c = true from decide_eq_true (by omega))
    go_enter Tryz.func95, Tryz.ntmps95
    go_wp2
    go_ret
    exact ⟨by rw [HV.out]; first | rfl | (simp; done) | (simp; omega), rfl⟩
  · have HV := Lib.hid (show alnumB c = false from decide_eq_false (by omega))
    go_enter Tryz.func95, Tryz.ntmps95
    go_wp2
    go_ret
    exact ⟨by rw [HV.out]; first | rfl | (simp; done) | (simp; omega), rfl⟩
  · have HV := Lib.hid (show alnumB c = true from decide_eq_true (by omega))
    go_enter Tryz.func95, Tryz.ntmps95
    go_wp2
    go_ret
    exact ⟨by rw [HV.out]; first | rfl | (simp; done) | (simp; omega), rfl⟩
  · have HV := Lib.hid (show alnumB c = false from decide_eq_false (by omega))
    go_enter Tryz.func95, Tryz.ntmps95
    go_wp2
    go_ret
    exact ⟨by rw [HV.out]; first | rfl | (simp; done) | (simp; omega), rfl⟩
set_option maxHeartbeats 2000000 in
theorem upper_calls (c : Int) (w : World) (h0 : 0 ≤ c) (h1 : c ≤ 255) : Calls Tryz.prog 92 #[.int .u8 c] w fun e w' => e = .returned (.bool (upperB c)) ∧ w' = w := by
  have hc : (0 ≤ c ∧ c ≤ 64) ∨ (65 ≤ c ∧ c ≤ 90) ∨ (91 ≤ c ∧ c ≤ 255) := by omega
  rcases hc with ⟨a, b⟩ | ⟨a, b⟩ | ⟨a, b⟩
  · have HV := Lib.hid (show upperB c = false from decide_eq_false (by omega))
    go_enter Tryz.func92, Tryz.ntmps92
    go_wp2
    go_ret
    exact ⟨by rw [HV.out]; first | rfl | (simp; done) | (simp; omega), rfl⟩
  · have HV := Lib.hid (show upperB c = true from decide_eq_true (by omega))
    go_enter Tryz.func92, Tryz.ntmps92
    go_wp2
    go_ret
    exact ⟨by rw [HV.out]; first | rfl | (simp; done) | (simp; omega), rfl⟩
  · have HV := Lib.hid (show upperB c = false from decide_eq_false (by omega))
    go_enter Tryz.func92, Tryz.ntmps92
    go_wp2
    go_ret
    exact ⟨by rw [HV.out]; first | rfl | (simp; done) | (simp; omega), rfl⟩
set_option maxHeartbeats 2000000 in
theorem lower_calls (c : Int) (w : World) (h0 : 0 ≤ c) (h1 : c ≤ 255) : Calls Tryz.prog 93 #[.int .u8 c] w fun e w' => e = .returned (.bool (lowerB c)) ∧ w' = w := by
  have hc : (0 ≤ c ∧ c ≤ 96) ∨ (97 ≤ c ∧ c ≤ 122) ∨ (123 ≤ c ∧ c ≤ 255) := by omega
  rcases hc with ⟨a, b⟩ | ⟨a, b⟩ | ⟨a, b⟩
  · have HV := Lib.hid (show lowerB c = false from decide_eq_false (by omega))
    go_enter Tryz.func93, Tryz.ntmps93
    go_wp2
    go_ret
    exact ⟨by rw [HV.out]; first | rfl | (simp; done) | (simp; omega), rfl⟩
  · have HV := Lib.hid (show lowerB c = true from decide_eq_true (by omega))
    go_enter Tryz.func93, Tryz.ntmps93
    go_wp2
    go_ret
    exact ⟨by rw [HV.out]; first | rfl | (simp; done) | (simp; omega), rfl⟩
  · have HV := Lib.hid (show lowerB c = false from decide_eq_false (by omega))
    go_enter Tryz.func93, Tryz.ntmps93
    go_wp2
    go_ret
    exact ⟨by rw [HV.out]; first | rfl | (simp; done) | (simp; omega), rfl⟩
set_option maxHeartbeats 2000000 in
theorem xdigit_calls (c : Int) (w : World) (h0 : 0 ≤ c) (h1 : c ≤ 255) : Calls Tryz.prog 96 #[.int .u8 c] w fun e w' => e = .returned (.bool (xdigitB c)) ∧ w' = w := by
  have hc : (0 ≤ c ∧ c ≤ 47) ∨ (48 ≤ c ∧ c ≤ 57) ∨ (58 ≤ c ∧ c ≤ 64) ∨ (65 ≤ c ∧ c ≤ 70) ∨ (71 ≤ c ∧ c ≤ 96) ∨ (97 ≤ c ∧ c ≤ 102) ∨ (103 ≤ c ∧ c ≤ 255) := by omega
  rcases hc with ⟨a, b⟩ | ⟨a, b⟩ | ⟨a, b⟩ | ⟨a, b⟩ | ⟨a, b⟩ | ⟨a, b⟩ | ⟨a, b⟩
  · have HV := Lib.hid (show xdigitB c = false from decide_eq_false (by omega))
    go_enter Tryz.func96, Tryz.ntmps96
    go_wp2
    go_ret
    exact ⟨by rw [HV.out]; first | rfl | (simp; done) | (simp; omega), rfl⟩
  · have HV := Lib.hid (show xdigitB c = true from decide_eq_true (by omega))
    go_enter Tryz.func96, Tryz.ntmps96
    go_wp2
    go_ret
    exact ⟨by rw [HV.out]; first | rfl | (simp; done) | (simp; omega), rfl⟩
  · have HV := Lib.hid (show xdigitB c = false from decide_eq_false (by omega))
    go_enter Tryz.func96, Tryz.ntmps96
    go_wp2
    go_ret
    exact ⟨by rw [HV.out]; first | rfl | (simp; done) | (simp; omega), rfl⟩
  · have HV := Lib.hid (show xdigitB c = true from decide_eq_true (by omega))
    go_enter Tryz.func96, Tryz.ntmps96
    go_wp2
    go_ret
    exact ⟨by rw [HV.out]; first | rfl | (simp; done) | (simp; omega), rfl⟩
  · have HV := Lib.hid (show xdigitB c = false from decide_eq_false (by omega))
    go_enter Tryz.func96, Tryz.ntmps96
    go_wp2
    go_ret
    exact ⟨by rw [HV.out]; first | rfl | (simp; done) | (simp; omega), rfl⟩
  · have HV := Lib.hid (show xdigitB c = true from decide_eq_true (by omega))
    go_enter Tryz.func96, Tryz.ntmps96
    go_wp2
    go_ret
    exact ⟨by rw [HV.out]; first | rfl | (simp; done) | (simp; omega), rfl⟩
  · have HV := Lib.hid (show xdigitB c = false from decide_eq_false (by omega))
    go_enter Tryz.func96, Tryz.ntmps96
    go_wp2
    go_ret
    exact ⟨by rw [HV.out]; first | rfl | (simp; done) | (simp; omega), rfl⟩
set_option maxHeartbeats 2000000 in
theorem space_calls (c : Int) (w : World) (h0 : 0 ≤ c) (h1 : c ≤ 255) : Calls Tryz.prog 97 #[.int .u8 c] w fun e w' => e = .returned (.bool (spaceB c)) ∧ w' = w := by
  have hc : (0 ≤ c ∧ c ≤ 8) ∨ (9 ≤ c ∧ c ≤ 13) ∨ (14 ≤ c ∧ c ≤ 31) ∨ (32 ≤ c ∧ c ≤ 32) ∨ (33 ≤ c ∧ c ≤ 255) := by omega
  rcases hc with ⟨a, b⟩ | ⟨a, b⟩ | ⟨a, b⟩ | ⟨a, b⟩ | ⟨a, b⟩
  · have HV := Lib.hid (show spaceB c = false from decide_eq_false (by omega))
    go_enter Tryz.func97, Tryz.ntmps97
    go_wp2
    go_ret
    exact ⟨by rw [HV.out]; first | rfl | (simp; done) | (simp; omega), rfl⟩
  · have HV := Lib.hid (show spaceB c = true from decide_eq_true (by omega))
    go_enter Tryz.func97, Tryz.ntmps97
    go_wp2
    go_ret
    exact ⟨by rw [HV.out]; first | rfl | (simp; done) | (simp; omega), rfl⟩
  · have HV := Lib.hid (show spaceB c = false from decide_eq_false (by omega))
    go_enter Tryz.func97, Tryz.ntmps97
    go_wp2
    go_ret
    exact ⟨by rw [HV.out]; first | rfl | (simp; done) | (simp; omega), rfl⟩
  · have HV := Lib.hid (show spaceB c = true from decide_eq_true (by omega))
    go_enter Tryz.func97, Tryz.ntmps97
    go_wp2
    go_ret
    exact ⟨by rw [HV.out]; first | rfl | (simp; done) | (simp; omega), rfl⟩
  · have HV := Lib.hid (show spaceB c = false from decide_eq_false (by omega))
    go_enter Tryz.func97, Tryz.ntmps97
    go_wp2
    go_ret
    exact ⟨by rw [HV.out]; first | rfl | (simp; done) | (simp; omega), rfl⟩
set_option maxHeartbeats 2000000 in
theorem blank_calls (c : Int) (w : World) (h0 : 0 ≤ c) (h1 : c ≤ 255) : Calls Tryz.prog 98 #[.int .u8 c] w fun e w' => e = .returned (.bool (blankB c)) ∧ w' = w := by
  have hc : (0 ≤ c ∧ c ≤ 8) ∨ (9 ≤ c ∧ c ≤ 9) ∨ (10 ≤ c ∧ c ≤ 31) ∨ (32 ≤ c ∧ c ≤ 32) ∨ (33 ≤ c ∧ c ≤ 255) := by omega
  rcases hc with ⟨a, b⟩ | ⟨a, b⟩ | ⟨a, b⟩ | ⟨a, b⟩ | ⟨a, b⟩
  · have HV := Lib.hid (show blankB c = false from decide_eq_false (by omega))
    go_enter Tryz.func98, Tryz.ntmps98
    go_wp2
    go_ret
    exact ⟨by rw [HV.out]; first | rfl | (simp; done) | (simp; omega), rfl⟩
  · have HV := Lib.hid (show blankB c = true from decide_eq_true (by omega))
    go_enter Tryz.func98, Tryz.ntmps98
    go_wp2
    go_ret
    exact ⟨by rw [HV.out]; first | rfl | (simp; done) | (simp; omega), rfl⟩
  · have HV := Lib.hid (show blankB c = false from decide_eq_false (by omega))
    go_enter Tryz.func98, Tryz.ntmps98
    go_wp2
    go_ret
    exact ⟨by rw [HV.out]; first | rfl | (simp; done) | (simp; omega), rfl⟩
  · have HV := Lib.hid (show blankB c = true from decide_eq_true (by omega))
    go_enter Tryz.func98, Tryz.ntmps98
    go_wp2
    go_ret
    exact ⟨by rw [HV.out]; first | rfl | (simp; done) | (simp; omega), rfl⟩
  · have HV := Lib.hid (show blankB c = false from decide_eq_false (by omega))
    go_enter Tryz.func98, Tryz.ntmps98
    go_wp2
    go_ret
    exact ⟨by rw [HV.out]; first | rfl | (simp; done) | (simp; omega), rfl⟩
set_option maxHeartbeats 2000000 in
theorem punct_calls (c : Int) (w : World) (h0 : 0 ≤ c) (h1 : c ≤ 255) : Calls Tryz.prog 99 #[.int .u8 c] w fun e w' => e = .returned (.bool (punctB c)) ∧ w' = w := by
  have hc : (0 ≤ c ∧ c ≤ 32) ∨ (33 ≤ c ∧ c ≤ 47) ∨ (48 ≤ c ∧ c ≤ 57) ∨ (58 ≤ c ∧ c ≤ 64) ∨ (65 ≤ c ∧ c ≤ 90) ∨ (91 ≤ c ∧ c ≤ 96) ∨ (97 ≤ c ∧ c ≤ 122) ∨ (123 ≤ c ∧ c ≤ 126) ∨ (127 ≤ c ∧ c ≤ 255) := by omega
  rcases hc with ⟨a, b⟩ | ⟨a, b⟩ | ⟨a, b⟩ | ⟨a, b⟩ | ⟨a, b⟩ | ⟨a, b⟩ | ⟨a, b⟩ | ⟨a, b⟩ | ⟨a, b⟩
  · have HV := Lib.hid (show punctB c = false from decide_eq_false (by omega))
    go_enter Tryz.func99, Tryz.ntmps99
    go_wp2
    go_ret
    exact ⟨by rw [HV.out]; first | rfl | (simp; done) | (simp; omega), rfl⟩
  · have HV := Lib.hid (show punctB c = true from decide_eq_true (by omega))
    go_enter Tryz.func99, Tryz.ntmps99
    go_wp2
    go_ret
    exact ⟨by rw [HV.out]; first | rfl | (simp; done) | (simp; omega), rfl⟩
  · have HV := Lib.hid (show punctB c = false from decide_eq_false (by omega))
    go_enter Tryz.func99, Tryz.ntmps99
    go_wp2
    go_ret
    exact ⟨by rw [HV.out]; first | rfl | (simp; done) | (simp; omega), rfl⟩
  · have HV := Lib.hid (show punctB c = true from decide_eq_true (by omega))
    go_enter Tryz.func99, Tryz.ntmps99
    go_wp2
    go_ret
    exact ⟨by rw [HV.out]; first | rfl | (simp; done) | (simp; omega), rfl⟩
  · have HV := Lib.hid (show punctB c = false from decide_eq_false (by omega))
    go_enter Tryz.func99, Tryz.ntmps99
    go_wp2
    go_ret
    exact ⟨by rw [HV.out]; first | rfl | (simp; done) | (simp; omega), rfl⟩
  · have HV := Lib.hid (show punctB c = true from decide_eq_true (by omega))
    go_enter Tryz.func99, Tryz.ntmps99
    go_wp2
    go_ret
    exact ⟨by rw [HV.out]; first | rfl | (simp; done) | (simp; omega), rfl⟩
  · have HV := Lib.hid (show punctB c = false from decide_eq_false (by omega))
    go_enter Tryz.func99, Tryz.ntmps99
    go_wp2
    go_ret
    exact ⟨by rw [HV.out]; first | rfl | (simp; done) | (simp; omega), rfl⟩
  · have HV := Lib.hid (show punctB c = true from decide_eq_true (by omega))
    go_enter Tryz.func99, Tryz.ntmps99
    go_wp2
    go_ret
    exact ⟨by rw [HV.out]; first | rfl | (simp; done) | (simp; omega), rfl⟩
  · have HV := Lib.hid (show punctB c = false from decide_eq_false (by omega))
    go_enter Tryz.func99, Tryz.ntmps99
    go_wp2
    go_ret
    exact ⟨by rw [HV.out]; first | rfl | (simp; done) | (simp; omega), rfl⟩
set_option maxHeartbeats 2000000 in
theorem print_calls (c : Int) (w : World) (h0 : 0 ≤ c) (h1 : c ≤ 255) : Calls Tryz.prog 101 #[.int .u8 c] w fun e w' => e = .returned (.bool (printB c)) ∧ w' = w := by
  have hc : (0 ≤ c ∧ c ≤ 31) ∨ (32 ≤ c ∧ c ≤ 32) ∨ (33 ≤ c ∧ c ≤ 126) ∨ (127 ≤ c ∧ c ≤ 255) := by omega
  rcases hc with ⟨a, b⟩ | ⟨a, b⟩ | ⟨a, b⟩ | ⟨a, b⟩
  · have HV := Lib.hid (show printB c = false from decide_eq_false (by omega))
    go_enter Tryz.func101, Tryz.ntmps101
    go_wp2
    go_ret
    exact ⟨by rw [HV.out]; first | rfl | (simp; done) | (simp; omega), rfl⟩
  · have HV := Lib.hid (show printB c = true from decide_eq_true (by omega))
    go_enter Tryz.func101, Tryz.ntmps101
    go_wp2
    go_ret
    exact ⟨by rw [HV.out]; first | rfl | (simp; done) | (simp; omega), rfl⟩
  · have HV := Lib.hid (show printB c = true from decide_eq_true (by omega))
    go_enter Tryz.func101, Tryz.ntmps101
    go_wp2
    go_ret
    exact ⟨by rw [HV.out]; first | rfl | (simp; done) | (simp; omega), rfl⟩
  · have HV := Lib.hid (show printB c = false from decide_eq_false (by omega))
    go_enter Tryz.func101, Tryz.ntmps101
    go_wp2
    go_ret
    exact ⟨by rw [HV.out]; first | rfl | (simp; done) | (simp; omega), rfl⟩
set_option maxHeartbeats 2000000 in
theorem graph_calls (c : Int) (w : World) (h0 : 0 ≤ c) (h1 : c ≤ 255) : Calls Tryz.prog 100 #[.int .u8 c] w fun e w' => e = .returned (.bool (graphB c)) ∧ w' = w := by
  have hc : (0 ≤ c ∧ c ≤ 32) ∨ (33 ≤ c ∧ c ≤ 126) ∨ (127 ≤ c ∧ c ≤ 255) := by omega
  rcases hc with ⟨a, b⟩ | ⟨a, b⟩ | ⟨a, b⟩
  · have HV := Lib.hid (show graphB c = false from decide_eq_false (by omega))
    go_enter Tryz.func100, Tryz.ntmps100
    go_wp2
    go_ret
    exact ⟨by rw [HV.out]; first | rfl | (simp; done) | (simp; omega), rfl⟩
  · have HV := Lib.hid (show graphB c = true from decide_eq_true (by omega))
    go_enter Tryz.func100, Tryz.ntmps100
    go_wp2
    go_ret
    exact ⟨by rw [HV.out]; first | rfl | (simp; done) | (simp; omega), rfl⟩
  · have HV := Lib.hid (show graphB c = false from decide_eq_false (by omega))
    go_enter Tryz.func100, Tryz.ntmps100
    go_wp2
    go_ret
    exact ⟨by rw [HV.out]; first | rfl | (simp; done) | (simp; omega), rfl⟩
set_option maxHeartbeats 2000000 in
theorem cntrl_calls (c : Int) (w : World) (h0 : 0 ≤ c) (h1 : c ≤ 255) : Calls Tryz.prog 102 #[.int .u8 c] w fun e w' => e = .returned (.bool (cntrlB c)) ∧ w' = w := by
  have hc : (0 ≤ c ∧ c ≤ 31) ∨ (32 ≤ c ∧ c ≤ 126) ∨ (127 ≤ c ∧ c ≤ 127) ∨ (128 ≤ c ∧ c ≤ 255) := by omega
  rcases hc with ⟨a, b⟩ | ⟨a, b⟩ | ⟨a, b⟩ | ⟨a, b⟩
  · have HV := Lib.hid (show cntrlB c = true from decide_eq_true (by omega))
    go_enter Tryz.func102, Tryz.ntmps102
    go_wp2
    go_ret
    exact ⟨by rw [HV.out]; first | rfl | (simp; done) | (simp; omega), rfl⟩
  · have HV := Lib.hid (show cntrlB c = false from decide_eq_false (by omega))
    go_enter Tryz.func102, Tryz.ntmps102
    go_wp2
    go_ret
    exact ⟨by rw [HV.out]; first | rfl | (simp; done) | (simp; omega), rfl⟩
  · have HV := Lib.hid (show cntrlB c = true from decide_eq_true (by omega))
    go_enter Tryz.func102, Tryz.ntmps102
    go_wp2
    go_ret
    exact ⟨by rw [HV.out]; first | rfl | (simp; done) | (simp; omega), rfl⟩
  · have HV := Lib.hid (show cntrlB c = false from decide_eq_false (by omega))
    go_enter Tryz.func102, Tryz.ntmps102
    go_wp2
    go_ret
    exact ⟨by rw [HV.out]; first | rfl | (simp; done) | (simp; omega), rfl⟩
end Go.Proofs.YtgkifphfibcfdaaGreatDoor.G
