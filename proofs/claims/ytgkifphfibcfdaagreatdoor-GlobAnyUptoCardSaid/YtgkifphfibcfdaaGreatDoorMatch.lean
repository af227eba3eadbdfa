/- (*Glob).Match: the walk, by a plain function with rounds. -/
import Derived.Test.YtgkifphfibcfdaaGreatDoorPart
import Derived.Deep.LoopGhost
namespace Go.Proofs.YtgkifphfibcfdaaGreatDoor.G
open Go.RowKit Go.Proofs.YtgkifphfibcfdaaGreatDoor.B
set_option linter.unusedVariables false
/-- A part: a star, or the bytes that it takes. -/
abbrev PartV := Bool × (Nat → Bool)
/-- A row of parts in memory. -/
def PartsAt (w : World) (A : Option Addr) (L : List PartV) : Prop :=
  ∀ p, (h : p < L.length) → ∃ g, A = some ⟨g, 0, none⟩ ∧ ∀ j, j < 257 → w.cell? ⟨g, p * 257 + j, none⟩ = (cellsOf (L[p]'h).1 (L[p]'h).2)[j]?
/-- A pattern in memory. -/
def GlobAt (w : World) (gp : Nat) (L : List PartV) : Prop := ∃ A c, w.heap[gp]? = some (.cells #[.slice A L.length c] 60 (0, 0)) ∧ PartsAt w A L ∧ L.length ≤ 1048576
theorem PartsAt.any {w : World} {A : Option Addr} {L : List PartV} (h : PartsAt w A L) (p : Nat) (hp : p < L.length) : ∃ g, A = some ⟨g, 0, none⟩ ∧ w.cell? ⟨g, p * 257, none⟩ = some (.bool (L[p]'hp).1) ∧
    ∀ c, c < 256 → w.cell? ⟨g, p * 257 + 1 + c, none⟩ = some (.bool ((L[p]'hp).2 c)) := by
  obtain ⟨g, hA, hc⟩ := h p hp
  refine ⟨g, hA, ?_, fun c hlt => ?_⟩
  · have := hc 0 (by omega)
    rw [cellsOf_0, Nat.add_zero] at this
    exact this
  · have := hc (1 + c) (by omega)
    rw [cellsOf_at _ _ _ hlt, ← Nat.add_assoc] at this
    exact this
def anyAt (L : List PartV) (p : Nat) : Bool := match L[p]? with | some x => x.1 | none => false
def takesAt (L : List PartV) (p c : Nat) : Bool := match L[p]? with | some x => x.2 c | none => false
theorem anyAt_in {L : List PartV} {p : Nat} (h : p < L.length) : anyAt L p = (L[p]'h).1 := by simp [anyAt, List.getElem?_eq_getElem h]
theorem takesAt_in {L : List PartV} {p : Nat} (h : p < L.length) (c : Nat) : takesAt L p c = (L[p]'h).2 c := by simp [takesAt, List.getElem?_eq_getElem h]
theorem anyAt_out {L : List PartV} {p : Nat} (h : ¬ p < L.length) : anyAt L p = false := by simp [anyAt, List.getElem?_eq_none (Nat.le_of_not_lt h)]
theorem takesAt_out {L : List PartV} {p : Nat} (h : ¬ p < L.length) (c : Nat) : takesAt L p c = false := by simp [takesAt, List.getElem?_eq_none (Nat.le_of_not_lt h)]
/-- The stars at the end are passed by. -/
def mtail (L : List PartV) : Nat → Nat → Option Bool
  | 0, _ => none
  | k + 1, p => if anyAt L p = true then mtail L k (p + 1) else some (decide (p = L.length))
/-- Match's rounds: st: the last star's place and one (0: none), f: from, p: the part, i: the byte. -/
def mrun (L : List PartV) (s : ByteArray) : Nat → Nat → Nat → Nat → Nat → Option Bool
  | 0, _, _, _, _ => none
  | k + 1, st, f, p, i =>
    if i < s.size then
      if anyAt L p = true then mrun L s k (p + 1) i (p + 1) i
      else if takesAt L p (bn s i) = true then mrun L s k st f (p + 1) (i + 1)
      else if 0 < st then mrun L s k st (f + 1) st (f + 1)
      else some false
    else mtail L k p
set_option maxRecDepth 100000 in
set_option maxHeartbeats 4000000 in
theorem match_calls (gp : Nat) (L : List PartV) (s : ByteArray) (k : Nat) (r : Bool) (w : World) (hg : GlobAt w gp L) (hs : s.size ≤ 16777216) (h : mrun L s k 0 0 0 0 = some r) :
    Calls Tryz.prog 15 #[.pointer (some ⟨gp, 0, none⟩), .string s] w fun e w' => e = .returned (.bool r) ∧ ∃ n, w' = w.drewN n := by
  obtain ⟨A, c, hh, hP, hL⟩ := hg
  have c0 : w.cell? ⟨gp, 0, none⟩ = some (.slice A L.length c) := cell_of_heap hh 0
  have HP := Asd.mk hP
  have H := Asd.mk h
  clear hh hP h
  go_enter Tryz.func15, Tryz.ntmps15
  go_wp2
  go_loopg [5, 6, 7, 8] k (fun gk v5 v6 v7 v8 wr => ∃ st f p i : Nat, v5 = .int .i64 ((st : Int) - 1) ∧ v6 = .int .i64 f ∧ v7 = .int .i64 p ∧ v8 = .int .i64 i ∧ Asd (mrun L s gk st f p i = some r) ∧ st ≤ L.length ∧ f ≤ s.size ∧ p ≤ L.length ∧ i ≤ s.size ∧ f ≤ i ∧ ∃ n, wr = w.drewN n)
  case atStart => exact ⟨0, 0, 0, 0, rfl, rfl, rfl, rfl, H, by omega, by omega, by omega, by omega, by omega, 0, rfl⟩
  case round =>
    obtain ⟨st, f, p, i, rfl, rfl, rfl, rfl, HR, b1, b2, b3, b4, b5, n, rfl⟩ := hrel
    cases gk with
    | zero => exact absurd HR.out (by simp [mrun])
    | succ k =>
      by_cases hi : i < s.size
      · by_cases hp : p < L.length
        · obtain ⟨g, hA, ca, ct⟩ := HP.out.any p hp
          subst hA
          have hbn : bn s i = s[i].toNat := by unfold bn; rw [dif_pos hi]
          have t1 := ct (bn s i) (by have := bn_le s i; omega)
          rw [hbn] at t1
          clear ct
          have x1 : ((s[i].toNat : Nat) : Int) < 256 := by have := UInt8.toNat_lt s[i]; omega
          have x0 : 0 ≤ ((s[i].toNat : Nat) : Int) := by omega
          cases ha : (L[p]'hp).1 with
          | true =>
            rw [ha] at ca
            have hn : mrun L s k (p + 1) i (p + 1) i = some r := by
              have := HR.out
              simp only [mrun] at this
              rw [if_pos hi, anyAt_in hp, ha, if_pos rfl] at this
              exact this
            have HN := Asd.mk hn
            clear hn ha hbn
            go_wp2
            go_roundg k
            case rel => exact ⟨p + 1, i, p + 1, i, congrArg (Value.int .i64) (by omega), rfl, by go_num, rfl, HN, by omega, by omega, by omega, by omega, by omega, _, rfl⟩
            case measure => omega
          | false =>
            rw [ha] at ca
            have p1 : decide ((p : Int) < (L.length : Int)) = true := decide_eq_true (by omega)
            have i1 : (i : Int) < (s.size : Int) := by omega
            cases ht : (L[p]'hp).2 (bn s i) with
            | true =>
              rw [← hbn, ht] at t1
              rw [hbn] at t1
              have hn : mrun L s k st f (p + 1) (i + 1) = some r := by
                have := HR.out
                simp only [mrun] at this
                rw [if_pos hi, anyAt_in hp, ha, if_neg (by decide), takesAt_in hp, ht, if_pos rfl] at this
                exact this
              have HN := Asd.mk hn
              clear hn ha ht hbn
              go_wp2
              go_quiet (fail)
              go_wp2
              go_roundg k
              case rel => exact ⟨st, f, p + 1, i + 1, rfl, rfl, by go_num, by go_num, HN, by omega, by omega, by omega, by omega, by omega, _, rfl⟩
              case measure => omega
            | false =>
              rw [← hbn, ht] at t1
              rw [hbn] at t1
              have hn : (if 0 < st then mrun L s k st (f + 1) st (f + 1) else some false) = some r := by
                have := HR.out
                simp only [mrun] at this
                rw [if_pos hi, anyAt_in hp, ha, if_neg (by decide), takesAt_in hp, ht, if_neg (by decide)] at this
                exact this
              by_cases hst : 0 < st
              · rw [if_pos hst] at hn
                have HN := Asd.mk hn
                clear hn ha ht hbn
                go_wp2
                go_quiet (fail)
                go_wp2
                go_roundg k
                case rel => exact ⟨st, f + 1, st, f + 1, rfl, by go_num, congrArg (Value.int .i64) (by omega), by go_num, HN, by omega, by omega, by omega, by omega, by omega, _, rfl⟩
                case measure => omega
              · rw [if_neg hst] at hn
                obtain rfl := Option.some.inj hn
                obtain rfl : st = 0 := by omega
                clear hn ha ht hbn
                go_wp2
                go_quiet (fail)
                go_wp2
                go_ret
                exact ⟨rfl, _, rfl⟩
        · have p1 : decide ((p : Int) < (L.length : Int)) = false := decide_eq_false (by omega)
          have hn : (if 0 < st then mrun L s k st (f + 1) st (f + 1) else some false) = some r := by
            have := HR.out
            simp only [mrun] at this
            rw [if_pos hi, anyAt_out hp, if_neg (by decide), takesAt_out hp, if_neg (by decide)] at this
            exact this
          by_cases hst : 0 < st
          · rw [if_pos hst] at hn
            have HN := Asd.mk hn
            clear hn
            go_wp2
            go_quiet (fail)
            go_wp2
            go_roundg k
            case rel => exact ⟨st, f + 1, st, f + 1, rfl, by go_num, congrArg (Value.int .i64) (by omega), by go_num, HN, by omega, by omega, by omega, by omega, by omega, _, rfl⟩
            case measure => omega
          · rw [if_neg hst] at hn
            obtain rfl := Option.some.inj hn
            obtain rfl : st = 0 := by omega
            clear hn
            go_wp2
            go_quiet (fail)
            go_wp2
            go_ret
            exact ⟨rfl, _, rfl⟩
      · have hn : mtail L k p = some r := by
          have := HR.out
          simp only [mrun] at this
          rw [if_neg hi] at this
          exact this
        have HN := Asd.mk hn
        clear hn
        go_wp2
        obtain ⟨wo, hwo⟩ : ∃ wo : World, wo = w.drewN n := ⟨_, rfl⟩
        go_loopg [7] k (fun gk v7 wr => ∃ p : Nat, v7 = .int .i64 p ∧ Asd (mtail L gk p = some r) ∧ p ≤ L.length ∧ ∃ n, wr = w.drewN n)
        case atStart => exact ⟨p, rfl, HN, by omega, n, rfl⟩
        case round =>
          obtain ⟨p, rfl, HR, b3, n, rfl⟩ := hrel
          cases gk with
          | zero => exact absurd HR.out (by simp [mtail])
          | succ k =>
            by_cases hp : p < L.length
            · obtain ⟨g, hA, ca, ct⟩ := HP.out.any p hp
              subst hA
              clear ct
              have hn := HR.out
              simp only [mtail] at hn
              rw [anyAt_in hp] at hn
              cases ha : (L[p]'hp).1 with
              | true =>
                rw [ha] at ca hn
                rw [if_pos rfl] at hn
                have HN := Asd.mk hn
                clear hn ha
                go_wp2
                go_roundg k
                case rel => exact ⟨p + 1, by go_num, HN, by omega, _, rfl⟩
                case measure => omega
              | false =>
                rw [ha] at ca hn
                rw [if_neg (by decide), decide_eq_false (by omega)] at hn
                obtain rfl := Option.some.inj hn
                have e1 : ((p : Int) == (L.length : Int)) = false := beq_eq_false_iff_ne.mpr (by omega)
                clear hn ha
                go_wp2
                go_ret
                exact ⟨rfl, _, rfl⟩
            · have hn := HR.out
              simp only [mtail] at hn
              obtain rfl : p = L.length := by omega
              rw [anyAt_out hp, if_neg (by decide), decide_eq_true rfl] at hn
              obtain rfl := Option.some.inj hn
              clear hn
              go_wp2
              go_ret
              exact ⟨rfl, _, rfl⟩
end Go.Proofs.YtgkifphfibcfdaaGreatDoor.G
