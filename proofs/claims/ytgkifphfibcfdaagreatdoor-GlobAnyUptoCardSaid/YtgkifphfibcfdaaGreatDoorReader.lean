/- The reader of a pattern: starts, byte. -/
import Derived.Test.YtgkifphfibcfdaaGreatDoorProg
import Derived.Test.YtgkifphfibcfdaaGreatDoorBase
namespace Go.Proofs.YtgkifphfibcfdaaGreatDoor.G
open Go.RowKit Go.Proofs.YtgkifphfibcfdaaGreatDoor.B
set_option linter.unusedVariables false

def startsB (s p : ByteArray) : Bool := decide (p.size ≤ s.size) && ((s.extract 0 p.size).toList == p.toList)
set_option maxHeartbeats 1000000 in
theorem hasPrefix_calls (s p : ByteArray) (w : World) (hs : s.size ≤ 9223372036854775807) (hp : p.size ≤ 9223372036854775807) :
    Calls Tryz.prog 64 #[.string s, .string p] w fun e w' => e = .returned (.bool (startsB s p)) ∧ w' = w := by
  by_cases h : p.size ≤ s.size
  · have h1 : decide (p.size ≤ s.size) = true := decide_eq_true h
    have hh : startsB s p = ((s.extract 0 p.size).toList == p.toList) := by unfold startsB; rw [h1]; rfl
    have HH := Lib.hid hh
    clear hh
    go_enter Tryz.func64, Tryz.ntmps64
    go_wp2
    go_ret
    exact ⟨by rw [HH.out]; rfl, rfl⟩
  · have h1 : decide (p.size ≤ s.size) = false := decide_eq_false h
    have hh : startsB s p = false := by unfold startsB; rw [h1]; rfl
    have HH := Lib.hid hh
    clear hh
    go_enter Tryz.func64, Tryz.ntmps64
    go_wp2
    go_ret
    exact ⟨by rw [HH.out]; rfl, rfl⟩

/-- The reader in memory: its text, its place. -/
def RdAt (w : World) (b : Nat) (s : ByteArray) (i : Nat) : Prop := w.heap[b]? = some (.cells #[.string s, .int .i64 (i : Int)] 63 (0, 0))
theorem RdAt.c0 {w : World} {b : Nat} {s : ByteArray} {i : Nat} (h : RdAt w b s i) : w.cell? ⟨b, 0, none⟩ = some (.string s) := cell_of_heap h 0
theorem RdAt.c1 {w : World} {b : Nat} {s : ByteArray} {i : Nat} (h : RdAt w b s i) : w.cell? ⟨b, 1, none⟩ = some (.int .i64 (i : Int)) := cell_of_heap h 1
theorem RdAt.f1 {w : World} {b : Nat} {s : ByteArray} {i : Nat} (h : RdAt w b s i) : w.frozen? ⟨b, 1, none⟩ = false := frozen_of_heap h 1

def startsAt (s : ByteArray) (i : Nat) (p : ByteArray) : Bool := startsB (s.extract i s.size) p
set_option maxHeartbeats 1000000 in
theorem starts_calls (b : Nat) (s : ByteArray) (i : Nat) (p : ByteArray) (w : World) (hb : RdAt w b s i) (hi : i ≤ s.size) (hs : s.size ≤ 1048576) (hp : p.size ≤ 1048576) :
    Calls Tryz.prog 45 #[.pointer (some ⟨b, 0, none⟩), .string p] w fun e w' => e = .returned (.bool (startsAt s i p)) ∧ ∃ n, w' = w.drewN n := by
  have h0 := hb.c0
  have h1 := hb.c1
  clear hb
  go_enter Tryz.func45, Tryz.ntmps45
  go_wp2
  go_quiet ((go_at_call 64; exact Calls.quiet_of_same (hasPrefix_calls _ _ _ (by simp; omega) (by omega))))
  go_wp2
  go_ret
  exact ⟨rfl, _, rfl⟩

def bs1 (c : UInt8) : ByteArray := ⟨#[c]⟩
/-- A byte of a text, as a number. -/
def bn (s : ByteArray) (i : Nat) : Nat := if h : i < s.size then (s[i]'h).toNat else 0
theorem bn_le (s : ByteArray) (i : Nat) : bn s i ≤ 255 := by
  unfold bn
  split
  · have := UInt8.toNat_lt (s[i]); omega
  · omega
/-- The place of the byte that is taken: behind a backslash, if one stands there. -/
def bytePlace (s : ByteArray) (i : Nat) : Nat := if startsAt s i ⟨#[92]⟩ = true then i + 1 else i
theorem startsAt_in {s : ByteArray} {i : Nat} {c : UInt8} (h : startsAt s i ⟨#[c]⟩ = true) : i < s.size := by
  unfold startsAt startsB at h
  simp only [Bool.and_eq_true, decide_eq_true_eq, ByteArray.size_extract] at h
  have : (⟨#[c]⟩ : ByteArray).size = 1 := rfl
  omega
set_option maxHeartbeats 1000000 in
theorem byte_yes (b : Nat) (s : ByteArray) (i : Nat) (w : World) (hb : RdAt w b s i) (hi : i ≤ s.size) (hs : s.size ≤ 1048576) (hin : bytePlace s i < s.size) :
    Calls Tryz.prog 28 #[.pointer (some ⟨b, 0, none⟩)] w fun e w' => e = .returned (.tuple #[.int .u8 (bn s (bytePlace s i) : Int), .bool true]) ∧ Chg [b] w w' ∧ RdAt w' b s (bytePlace s i + 1) := by
  have HB := Asd.mk hb
  have hj : bytePlace s i = if startsAt s i ⟨#[92]⟩ = true then i + 1 else i := rfl
  obtain ⟨j, hjj⟩ : ∃ j, bytePlace s i = j := ⟨_, rfl⟩
  rw [hjj] at hin hj ⊢
  have hbt : (s[j]'hin).toNat = bn s j := by unfold bn; rw [dif_pos hin]
  have h0 := hb.c0
  have h1 := hb.c1
  have f1 := hb.f1
  clear hb hjj
  cases he : startsAt s i ⟨#[92]⟩ with
  | true =>
    rw [he, if_pos rfl] at hj
    subst hj
    have HT := Lib.hid hbt
    have HE := Lib.hid he
    clear he hbt
    go_enter Tryz.func28, Tryz.ntmps28
    go_wp2_with (go_at_call 45; refine (starts_calls b s i _ _ HB.out hi hs (by decide)).mono ?_; rw [HE.out]; rintro e w' ⟨rfl, n, rfl⟩)
    go_quiet (fail)
    go_wp2
    have k1 : IntKind.i64.wrap ((i : Int) + 1) = (i : Int) + 1 := w64 (by omega) (by omega)
    have k2 : 0 ≤ (i : Int) + 1 := by omega
    have k3 : ((i : Int) + 1).toNat = i + 1 := by omega
    go_quiet (fail)
    go_wp2
    go_ret2
    refine ⟨by rw [← HT.out]; rfl, (((((Chg.refl _ _).drewN _).setCell (by simp) _).drewN _).setCell (by simp) _).drewN _, ?_⟩
    exact hp_drewN (hp_set (hp_drewN (hp_set (hp_drewN HB.out _) _ _) _) _ _) _
  | false =>
    rw [he, if_neg (by decide)] at hj
    have hj2 := hj.symm
    subst hj2
    clear hj
    have HT := Lib.hid hbt
    have HE := Lib.hid he
    clear he hbt
    go_enter Tryz.func28, Tryz.ntmps28
    go_wp2_with (go_at_call 45; refine (starts_calls b s i _ _ HB.out hi hs (by decide)).mono ?_; rw [HE.out]; rintro e w' ⟨rfl, n, rfl⟩)
    go_quiet (fail)
    go_wp2
    have k1 : IntKind.i64.wrap (i : Int) = (i : Int) := w64 (by omega) (by omega)
    have k2 : 0 ≤ (i : Int) := by omega
    have k3 : ((i : Int)).toNat = i := by omega
    go_quiet (fail)
    go_wp2
    go_ret2
    refine ⟨by rw [← HT.out]; rfl, (((Chg.refl _ _).drewN _).setCell (by simp) _).drewN _, ?_⟩
    exact hp_drewN (hp_set (hp_drewN HB.out _) _ _) _
set_option maxHeartbeats 1000000 in
theorem byte_no (b : Nat) (s : ByteArray) (i : Nat) (w : World) (hb : RdAt w b s i) (hi : i ≤ s.size) (hs : s.size ≤ 1048576) (hin : s.size ≤ bytePlace s i) :
    Calls Tryz.prog 28 #[.pointer (some ⟨b, 0, none⟩)] w fun e w' => e = .returned (.tuple #[.int .u8 0, .bool false]) ∧ Chg [b] w w' ∧ RdAt w' b s (bytePlace s i) := by
  have HB := Asd.mk hb
  have hj : bytePlace s i = if startsAt s i ⟨#[92]⟩ = true then i + 1 else i := rfl
  obtain ⟨j, hjj⟩ : ∃ j, bytePlace s i = j := ⟨_, rfl⟩
  rw [hjj] at hin hj ⊢
  have h0 := hb.c0
  have h1 := hb.c1
  have f1 := hb.f1
  clear hb hjj
  cases he : startsAt s i ⟨#[92]⟩ with
  | true =>
    rw [he, if_pos rfl] at hj
    subst hj
    have HE := Lib.hid he
    clear he
    go_enter Tryz.func28, Tryz.ntmps28
    go_wp2_with (go_at_call 45; refine (starts_calls b s i _ _ HB.out hi hs (by decide)).mono ?_; rw [HE.out]; rintro e w' ⟨rfl, n, rfl⟩)
    go_quiet (fail)
    go_wp2
    go_ret2
    refine ⟨rfl, ((((Chg.refl _ _).drewN _).setCell (by simp) _).drewN _), ?_⟩
    exact hp_drewN (hp_set (hp_drewN HB.out _) _ _) _
  | false =>
    rw [he, if_neg (by decide)] at hj
    have hj2 := hj.symm
    subst hj2
    clear hj
    have HE := Lib.hid he
    clear he
    go_enter Tryz.func28, Tryz.ntmps28
    go_wp2_with (go_at_call 45; refine (starts_calls b s i _ _ HB.out hi hs (by decide)).mono ?_; rw [HE.out]; rintro e w' ⟨rfl, n, rfl⟩)
    go_quiet (fail)
    go_wp2
    go_ret2
    refine ⟨rfl, ((Chg.refl _ _).drewN _).drewN _, ?_⟩
    exact hp_drewN (hp_drewN HB.out _) _
end Go.Proofs.YtgkifphfibcfdaaGreatDoor.G
