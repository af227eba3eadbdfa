/- Merged out of these texts: Part, Match, Mean, StrRow, RCls0, RCls1. -/
import Derived.Test.YtgkifphfibcfdaaGreatDoorRu1
import Derived.Test.YtgkifphfibcfdaaGreatDoorRu2
import Derived.Test.YtgkifphfibcfdaaGreatDoorRuClasses
import Derived.Deep.LoopGhost
/- A part of a pattern in memory: 257 cells, told by a function; the twelve classes by their number. -/
namespace Go.Proofs.YtgkifphfibcfdaaGreatDoor.G
open Go.RowKit Go.Proofs.YtgkifphfibcfdaaGreatDoor.B
set_option linter.unusedVariables false

def cellsOf (a : Bool) (T : Nat → Bool) : Array Value := ((Value.bool a) :: (List.range 256).map fun i => Value.bool (T i)).toArray
theorem cellsOf_size (a : Bool) (T : Nat → Bool) : (cellsOf a T).size = 257 := by simp [cellsOf]
theorem cellsOf_0 (a : Bool) (T : Nat → Bool) : (cellsOf a T)[0]? = some (.bool a) := by simp [cellsOf]
theorem cellsOf_at (a : Bool) (T : Nat → Bool) (i : Nat) (h : i < 256) : (cellsOf a T)[1 + i]? = some (.bool (T i)) := by
  have : 1 + i = i + 1 := by omega
  rw [this]
  simp [cellsOf, h]
def upd (T : Nat → Bool) (i : Nat) (v : Bool) : Nat → Bool := fun j => if j = i then v else T j
theorem cellsOf_congr (a : Bool) {T U : Nat → Bool} (h : ∀ i, i < 256 → T i = U i) : cellsOf a T = cellsOf a U := by
  unfold cellsOf
  congr 2
  refine List.map_congr_left fun i hi => ?_
  rw [h i (by simpa using hi)]
theorem cellsOf_set (a : Bool) (T : Nat → Bool) (i : Nat) (v : Bool) : (cellsOf a T).setIfInBounds (1 + i) (.bool v) = cellsOf a (upd T i v) := by
  apply Array.ext_getElem?
  intro j
  rw [Array.getElem?_setIfInBounds]
  by_cases hj : 1 + i = j
  · subst hj
    rw [if_pos rfl, cellsOf_size]
    by_cases hi : i < 256
    · rw [if_pos (by omega), cellsOf_at _ _ _ hi]; simp [upd]
    · rw [if_neg (by omega)]; rw [Array.getElem?_eq_none (by rw [cellsOf_size]; omega)]
  · rw [if_neg hj]
    rcases Nat.eq_zero_or_pos j with rfl | hp
    · rw [cellsOf_0, cellsOf_0]
    · obtain ⟨k, rfl⟩ : ∃ k, j = 1 + k := ⟨j - 1, by omega⟩
      by_cases hk : k < 256
      · rw [cellsOf_at _ _ _ hk, cellsOf_at _ _ _ hk]
        simp only [upd]
        rw [if_neg (by omega)]
      · rw [Array.getElem?_eq_none (by rw [cellsOf_size]; omega), Array.getElem?_eq_none (by rw [cellsOf_size]; omega)]
theorem cellsOf_set0 (a b : Bool) (T : Nat → Bool) : (cellsOf a T).setIfInBounds 0 (.bool b) = cellsOf b T := by
  simp [cellsOf]
theorem cellsOf_one (a : Bool) (T : Nat → Bool) : (cellsOf a T).all (·.oneCell') = true := by
  rw [Array.all_eq_true_iff_forall_mem]
  intro v hv
  simp only [cellsOf, List.mem_toArray, List.mem_cons, List.mem_map] at hv
  rcases hv with rfl | ⟨i, _, rfl⟩ <;> rfl
theorem size66 (a : Bool) (T : Nat → Bool) : (Tryz.prog.info? 66).map (·.size) = some (cellsOf a T).size := by
  rw [cellsOf_size]
  kernel_rfl
theorem zero66 : Tryz.zeroCells66 = cellsOf false (fun _ => false) := by kernel_rfl
/-- A part in memory. -/
def PartAt (w : World) (c : Nat) (a : Bool) (T : Nat → Bool) : Prop := w.heap[c]? = some (.cells (cellsOf a T) 66 (0, 0))
theorem PartAt.cell {w : World} {c : Nat} {a : Bool} {T : Nat → Bool} (h : PartAt w c a T) (i : Nat) (hi : i < 256) : w.cell? ⟨c, 1 + i, none⟩ = some (.bool (T i)) :=
  (cell_of_heap h _).trans (cellsOf_at a T i hi)
theorem PartAt.frozen {w : World} {c : Nat} {a : Bool} {T : Nat → Bool} (h : PartAt w c a T) (i : Nat) : w.frozen? ⟨c, i, none⟩ = false := frozen_of_heap h _
theorem PartAt.set {w : World} {c : Nat} {a : Bool} {T : Nat → Bool} (h : PartAt w c a T) (i : Nat) (v : Bool) : PartAt (w.setCell ⟨c, 1 + i, none⟩ (.bool v)) c a (upd T i v) := by
  have := hp_set h (1 + i) (.bool v)
  rw [cellsOf_set] at this
  exact this
theorem PartAt.congr {w : World} {c : Nat} {a : Bool} {T U : Nat → Bool} (h : PartAt w c a T) (e : ∀ i, i < 256 → T i = U i) : PartAt w c a U := by
  unfold PartAt at *
  rw [← cellsOf_congr a e]
  exact h

def cname (k : Nat) : ByteArray := match k with
  | 0 => ⟨#[97, 108, 112, 104, 97]⟩ | 1 => ⟨#[100, 105, 103, 105, 116]⟩ | 2 => ⟨#[97, 108, 110, 117, 109]⟩ | 3 => ⟨#[117, 112, 112, 101, 114]⟩
  | 4 => ⟨#[108, 111, 119, 101, 114]⟩ | 5 => ⟨#[120, 100, 105, 103, 105, 116]⟩ | 6 => ⟨#[115, 112, 97, 99, 101]⟩ | 7 => ⟨#[98, 108, 97, 110, 107]⟩
  | 8 => ⟨#[112, 117, 110, 99, 116]⟩ | 9 => ⟨#[112, 114, 105, 110, 116]⟩ | 10 => ⟨#[103, 114, 97, 112, 104]⟩ | _ => ⟨#[99, 110, 116, 114, 108]⟩
def cfid (k : Nat) : Nat := match k with
  | 0 => 91 | 1 => 94 | 2 => 95 | 3 => 92 | 4 => 93 | 5 => 96 | 6 => 97 | 7 => 98 | 8 => 99 | 9 => 101 | 10 => 100 | _ => 102
def chas (k : Nat) (c : Int) : Bool := match k with
  | 0 => alphaB c | 1 => digitB c | 2 => alnumB c | 3 => upperB c | 4 => lowerB c | 5 => xdigitB c | 6 => spaceB c | 7 => blankB c | 8 => punctB c | 9 => printB c | 10 => graphB c | _ => cntrlB c
theorem twelve {p : Nat → Prop} (k : Nat) (hk : k < 12) (h0 : p 0) (h1 : p 1) (h2 : p 2) (h3 : p 3) (h4 : p 4) (h5 : p 5) (h6 : p 6) (h7 : p 7) (h8 : p 8) (h9 : p 9) (h10 : p 10) (h11 : p 11) : p k := by
  rcases (show k = 0 ∨ k = 1 ∨ k = 2 ∨ k = 3 ∨ k = 4 ∨ k = 5 ∨ k = 6 ∨ k = 7 ∨ k = 8 ∨ k = 9 ∨ k = 10 ∨ k = 11 by omega) with h | h | h | h | h | h | h | h | h | h | h | h <;> subst h <;> assumption
theorem cls_name (k : Nat) (hk : k < 12) : clsCells[k * 2]? = some (.string (cname k)) := twelve (p := fun k => clsCells[k * 2]? = some (.string (cname k))) k hk rfl rfl rfl rfl rfl rfl rfl rfl rfl rfl rfl rfl
theorem cls_func (k : Nat) (hk : k < 12) : clsCells[k * 2 + 1]? = some (.func (.func (cfid k)) #[] #[]) := twelve (p := fun k => clsCells[k * 2 + 1]? = some (.func (.func (cfid k)) #[] #[])) k hk rfl rfl rfl rfl rfl rfl rfl rfl rfl rfl rfl rfl
theorem chas_calls (k : Nat) (hk : k < 12) (c : Int) (w : World) (h0 : 0 ≤ c) (h1 : c ≤ 255) : Calls Tryz.prog (cfid k) #[.int .u8 c] w fun e w' => e = .returned (.bool (chas k c)) ∧ w' = w :=
  twelve (p := fun k => Calls Tryz.prog (cfid k) #[.int .u8 c] w fun e w' => e = .returned (.bool (chas k c)) ∧ w' = w) k hk (alpha_calls c w h0 h1) (digit_calls c w h0 h1) (alnum_calls c w h0 h1) (upper_calls c w h0 h1) (lower_calls c w h0 h1) (xdigit_calls c w h0 h1) (space_calls c w h0 h1) (blank_calls c w h0 h1) (punct_calls c w h0 h1) (print_calls c w h0 h1) (graph_calls c w h0 h1) (cntrl_calls c w h0 h1)
theorem call_cfid (k : Nat) (hk : k < 12) (args : Array Value) (W : World) : (callFunc (cfid k) args).run Tryz.prog W = .ok (.enter (cfid k) args) W :=
  twelve (p := fun k => (callFunc (cfid k) args).run Tryz.prog W = .ok (.enter (cfid k) args) W) k hk (by kernel_rfl) (by kernel_rfl) (by kernel_rfl) (by kernel_rfl) (by kernel_rfl) (by kernel_rfl) (by kernel_rfl) (by kernel_rfl) (by kernel_rfl) (by kernel_rfl) (by kernel_rfl) (by kernel_rfl)
/-- A class as it is written: [:name:]. -/
def cpat (k : Nat) : ByteArray := (⟨#[91, 58]⟩ : ByteArray) ++ cname k ++ (⟨#[58, 93]⟩ : ByteArray)
theorem cname_size (k : Nat) : (cname k).size ≤ 6 := by unfold cname; split <;> decide
theorem cpat_len (k : Nat) : (cpat k).size = 2 + (cname k).size + 2 := by
  unfold cpat
  rw [ByteArray.size_append, ByteArray.size_append]
  rfl
theorem cpat_size (k : Nat) : (cpat k).size ≤ 10 := by
  have := cname_size k
  have h1 : (⟨#[91, 58]⟩ : ByteArray).size = 2 := rfl
  have h2 : (⟨#[58, 93]⟩ : ByteArray).size = 2 := rfl
  unfold cpat
  rw [ByteArray.size_append, ByteArray.size_append]
  omega
end Go.Proofs.YtgkifphfibcfdaaGreatDoor.G
/- (*Glob).Match: the walk, by a plain function with rounds. -/
namespace Go.Proofs.YtgkifphfibcfdaaGreatDoor.G
open Go.RowKit Go.Proofs.YtgkifphfibcfdaaGreatDoor.B
set_option linter.unusedVariables false
/-- A part: a star, or the bytes that it takes. -/
abbrev PartV := Bool × (Nat → Bool)
/-- A row of parts in memory. -/
def PartsAt (w : World) (A : Option Addr) (L : List PartV) : Prop :=
  ∀ p, (h : p < L.length) → ∃ g, A = some ⟨g, 0, none⟩ ∧ ∀ j, j < 257 → w.cell? ⟨g, p * 257 + j, none⟩ = (cellsOf (L[p]'h).1 (L[p]'h).2)[j]?
/-- A pattern in memory. -/
def GlobAt (w : World) (gp : Nat) (L : List PartV) : Prop := ∃ A c, w.heap[gp]? = some (.cells #[.slice A L.length c] 60 (0, 0)) ∧ PartsAt w A L ∧ L.length ≤ 1048576
theorem PartsAt.any {w : World} {A : Option Addr} {L : List PartV} (h : PartsAt w A L) (p : Nat) (hp : p < L.length) : ∃ g, A = some ⟨g, 0, none⟩ ∧ w.cell? ⟨g, p * 257, none⟩ = some (.bool (L[p]'hp).1) ∧
    ∀ c, c < 256 → w.cell? ⟨g, p * 257 + 1 + c, none⟩ = some (.bool ((L[p]'hp).2 c)) := by
  obtain ⟨g, hA, hc⟩ := h p hp
  refine ⟨g, hA, ?_, fun c hlt => ?_⟩
  · have := hc 0 (by omega)
    rw [cellsOf_0, Nat.add_zero] at this
    exact this
  · have := hc (1 + c) (by omega)
    rw [cellsOf_at _ _ _ hlt, ← Nat.add_assoc] at this
    exact this
def anyAt (L : List PartV) (p : Nat) : Bool := match L[p]? with | some x => x.1 | none => false
def takesAt (L : List PartV) (p c : Nat) : Bool := match L[p]? with | some x => x.2 c | none => false
theorem anyAt_in {L : List PartV} {p : Nat} (h : p < L.length) : anyAt L p = (L[p]'h).1 := by simp [anyAt, List.getElem?_eq_getElem h]
theorem takesAt_in {L : List PartV} {p : Nat} (h : p < L.length) (c : Nat) : takesAt L p c = (L[p]'h).2 c := by simp [takesAt, List.getElem?_eq_getElem h]
theorem anyAt_out {L : List PartV} {p : Nat} (h : ¬ p < L.length) : anyAt L p = false := by simp [anyAt, List.getElem?_eq_none (Nat.le_of_not_lt h)]
theorem takesAt_out {L : List PartV} {p : Nat} (h : ¬ p < L.length) (c : Nat) : takesAt L p c = false := by simp [takesAt, List.getElem?_eq_none (Nat.le_of_not_lt h)]
/-- The stars at the end are passed by. -/
def mtail (L : List PartV) : Nat → Nat → Option Bool
  | 0, _ => none
  | k + 1, p => if anyAt L p = true then mtail L k (p + 1) else some (decide (p = L.length))
/-- Match's rounds: st: the last star's place and one (0: none), f: from, p: the part, i: the byte. -/
def mrun (L : List PartV) (s : ByteArray) : Nat → Nat → Nat → Nat → Nat → Option Bool
  | 0, _, _, _, _ => none
  | k + 1, st, f, p, i =>
    if i < s.size then
      if anyAt L p = true then mrun L s k (p + 1) i (p + 1) i
      else if takesAt L p (bn s i) = true then mrun L s k st f (p + 1) (i + 1)
      else if 0 < st then mrun L s k st (f + 1) st (f + 1)
      else some false
    else mtail L k p
set_option maxRecDepth 100000 in
set_option maxHeartbeats 4000000 in
theorem match_calls (gp : Nat) (L : List PartV) (s : ByteArray) (k : Nat) (r : Bool) (w : World) (hg : GlobAt w gp L) (hs : s.size ≤ 16777216) (h : mrun L s k 0 0 0 0 = some r) :
    Calls Tryz.prog 15 #[.pointer (some ⟨gp, 0, none⟩), .string s] w fun e w' => e = .returned (.bool r) ∧ ∃ n, w' = w.drewN n := by
  obtain ⟨A, c, hh, hP, hL⟩ := hg
  have c0 : w.cell? ⟨gp, 0, none⟩ = some (.slice A L.length c) := cell_of_heap hh 0
  have HP := Asd.mk hP
  have H := Asd.mk h
  clear hh hP h
  go_enter Tryz.func15, Tryz.ntmps15
  go_wp2
  go_loopg [5, 6, 7, 8] k (fun gk v5 v6 v7 v8 wr => ∃ st f p i : Nat, v5 = .int .i64 ((st : Int) - 1) ∧ v6 = .int .i64 f ∧ v7 = .int .i64 p ∧ v8 = .int .i64 i ∧ Asd (mrun L s gk st f p i = some r) ∧ st ≤ L.length ∧ f ≤ s.size ∧ p ≤ L.length ∧ i ≤ s.size ∧ f ≤ i ∧ ∃ n, wr = w.drewN n)
  case atStart => exact ⟨0, 0, 0, 0, rfl, rfl, rfl, rfl, H, by omega, by omega, by omega, by omega, by omega, 0, rfl⟩
  case round =>
    obtain ⟨st, f, p, i, rfl, rfl, rfl, rfl, HR, b1, b2, b3, b4, b5, n, rfl⟩ := hrel
    cases gk with
    | zero => exact absurd HR.out (by simp [mrun])
    | succ k =>
      by_cases hi : i < s.size
      · by_cases hp : p < L.length
        · obtain ⟨g, hA, ca, ct⟩ := HP.out.any p hp
          subst hA
          have hbn : bn s i = s[i].toNat := by unfold bn; rw [dif_pos hi]
          have t1 := ct (bn s i) (by have := bn_le s i; omega)
          rw [hbn] at t1
          clear ct
          have x1 : ((s[i].toNat : Nat) : Int) < 256 := by have := UInt8.toNat_lt s[i]; omega
          have x0 : 0 ≤ ((s[i].toNat : Nat) : Int) := by omega
          cases ha : (L[p]'hp).1 with
          | true =>
            rw [ha] at ca
            have hn : mrun L s k (p + 1) i (p + 1) i = some r := by
              have := HR.out
              simp only [mrun] at this
              rw [if_pos hi, anyAt_in hp, ha, if_pos rfl] at this
              exact this
            have HN := Asd.mk hn
            clear hn ha hbn
            go_wp2
            go_roundg k
            case rel => exact ⟨p + 1, i, p + 1, i, congrArg (Value.int .i64) (by omega), rfl, by go_num, rfl, HN, by omega, by omega, by omega, by omega, by omega, _, rfl⟩
            case measure => omega
          | false =>
            rw [ha] at ca
            have p1 : decide ((p : Int) < (L.length : Int)) = true := decide_eq_true (by omega)
            have i1 : (i : Int) < (s.size : Int) := by omega
            cases ht : (L[p]'hp).2 (bn s i) with
            | true =>
              rw [← hbn, ht] at t1
              rw [hbn] at t1
              have hn : mrun L s k st f (p + 1) (i + 1) = some r := by
                have := HR.out
                simp only [mrun] at this
                rw [if_pos hi, anyAt_in hp, ha, if_neg (by decide), takesAt_in hp, ht, if_pos rfl] at this
                exact this
              have HN := Asd.mk hn
              clear hn ha ht hbn
              go_wp2
              go_quiet (fail)
              go_wp2
              go_roundg k
              case rel => exact ⟨st, f, p + 1, i + 1, rfl, rfl, by go_num, by go_num, HN, by omega, by omega, by omega, by omega, by omega, _, rfl⟩
              case measure => omega
            | false =>
              rw [← hbn, ht] at t1
              rw [hbn] at t1
              have hn : (if 0 < st then mrun L s k st (f + 1) st (f + 1) else some false) = some r := by
                have := HR.out
                simp only [mrun] at this
                rw [if_pos hi, anyAt_in hp, ha, if_neg (by decide), takesAt_in hp, ht, if_neg (by decide)] at this
                exact this
              by_cases hst : 0 < st
              · rw [if_pos hst] at hn
                have HN := Asd.mk hn
                clear hn ha ht hbn
                go_wp2
                go_quiet (fail)
                go_wp2
                go_roundg k
                case rel => exact ⟨st, f + 1, st, f + 1, rfl, by go_num, congrArg (Value.int .i64) (by omega), by go_num, HN, by omega, by omega, by omega, by omega, by omega, _, rfl⟩
                case measure => omega
              · rw [if_neg hst] at hn
                obtain rfl := Option.some.inj hn
                obtain rfl : st = 0 := by omega
                clear hn ha ht hbn
                go_wp2
                go_quiet (fail)
                go_wp2
                go_ret
                exact ⟨rfl, _, rfl⟩
        · have p1 : decide ((p : Int) < (L.length : Int)) = false := decide_eq_false (by omega)
          have hn : (if 0 < st then mrun L s k st (f + 1) st (f + 1) else some false) = some r := by
            have := HR.out
            simp only [mrun] at this
            rw [if_pos hi, anyAt_out hp, if_neg (by decide), takesAt_out hp, if_neg (by decide)] at this
            exact this
          by_cases hst : 0 < st
          · rw [if_pos hst] at hn
            have HN := Asd.mk hn
            clear hn
            go_wp2
            go_quiet (fail)
            go_wp2
            go_roundg k
            case rel => exact ⟨st, f + 1, st, f + 1, rfl, by go_num, congrArg (Value.int .i64) (by omega), by go_num, HN, by omega, by omega, by omega, by omega, by omega, _, rfl⟩
            case measure => omega
          · rw [if_neg hst] at hn
            obtain rfl := Option.some.inj hn
            obtain rfl : st = 0 := by omega
            clear hn
            go_wp2
            go_quiet (fail)
            go_wp2
            go_ret
            exact ⟨rfl, _, rfl⟩
      · have hn : mtail L k p = some r := by
          have := HR.out
          simp only [mrun] at this
          rw [if_neg hi] at this
          exact this
        have HN := Asd.mk hn
        clear hn
        go_wp2
        obtain ⟨wo, hwo⟩ : ∃ wo : World, wo = w.drewN n := ⟨_, rfl⟩
        go_loopg [7] k (fun gk v7 wr => ∃ p : Nat, v7 = .int .i64 p ∧ Asd (mtail L gk p = some r) ∧ p ≤ L.length ∧ ∃ n, wr = w.drewN n)
        case atStart => exact ⟨p, rfl, HN, by omega, n, rfl⟩
        case round =>
          obtain ⟨p, rfl, HR, b3, n, rfl⟩ := hrel
          cases gk with
          | zero => exact absurd HR.out (by simp [mtail])
          | succ k =>
            by_cases hp : p < L.length
            · obtain ⟨g, hA, ca, ct⟩ := HP.out.any p hp
              subst hA
              clear ct
              have hn := HR.out
              simp only [mtail] at hn
              rw [anyAt_in hp] at hn
              cases ha : (L[p]'hp).1 with
              | true =>
                rw [ha] at ca hn
                rw [if_pos rfl] at hn
                have HN := Asd.mk hn
                clear hn ha
                go_wp2
                go_roundg k
                case rel => exact ⟨p + 1, by go_num, HN, by omega, _, rfl⟩
                case measure => omega
              | false =>
                rw [ha] at ca hn
                rw [if_neg (by decide), decide_eq_false (by omega)] at hn
                obtain rfl := Option.some.inj hn
                have e1 : ((p : Int) == (L.length : Int)) = false := beq_eq_false_iff_ne.mpr (by omega)
                clear hn ha
                go_wp2
                go_ret
                exact ⟨rfl, _, rfl⟩
            · have hn := HR.out
              simp only [mtail] at hn
              obtain rfl : p = L.length := by omega
              rw [anyAt_out hp, if_neg (by decide), decide_eq_true rfl] at hn
              obtain rfl := Option.some.inj hn
              clear hn
              go_wp2
              go_ret
              exact ⟨rfl, _, rfl⟩
end Go.Proofs.YtgkifphfibcfdaaGreatDoor.G
/- What a row of parts means, on lists; Match's rounds answer it. -/
namespace Go.Proofs.YtgkifphfibcfdaaGreatDoor.G
open Go.RowKit Go.Proofs.YtgkifphfibcfdaaGreatDoor.B
set_option linter.unusedVariables false
/-- A text as a list of numbers. -/
def bl (s : ByteArray) : List Nat := (List.range s.size).map (bn s)
theorem bl_length (s : ByteArray) : (bl s).length = s.size := by simp [bl]
theorem bl_drop {s : ByteArray} {i : Nat} (h : i < s.size) : (bl s).drop i = bn s i :: (bl s).drop (i + 1) := by
  rw [List.drop_eq_getElem_cons (by rw [bl_length]; exact h)]
  simp [bl]
theorem bl_drop_end {s : ByteArray} {i : Nat} (h : s.size ≤ i) : (bl s).drop i = [] := List.drop_eq_nil_of_le (by rw [bl_length]; exact h)
def anyTail (f : List Nat → Bool) : List Nat → Bool
  | [] => f []
  | c :: r => f (c :: r) || anyTail f r
/-- Parts mean a list of bytes. -/
def mt : List PartV → List Nat → Bool
  | [], s => s.isEmpty
  | x :: L, s => if x.1 = true then anyTail (mt L) s else match s with | [] => false | c :: r => x.2 c && mt L r
theorem anyTail_iff (f : List Nat → Bool) : ∀ s : List Nat, anyTail f s = true ↔ ∃ j, j ≤ s.length ∧ f (s.drop j) = true
  | [] => by simp [anyTail]
  | c :: r => by
    simp only [anyTail, Bool.or_eq_true, anyTail_iff f r]
    constructor
    · rintro (h | ⟨j, h1, h2⟩)
      · exact ⟨0, by simp, h⟩
      · exact ⟨j + 1, by simpa using h1, h2⟩
    · rintro ⟨j, h1, h2⟩
      cases j with
      | zero => exact .inl h2
      | succ j => exact .inr ⟨j, by simpa using h1, h2⟩
theorem mt_star {x : PartV} (L : List PartV) (s : List Nat) (h : x.1 = true) : mt (x :: L) s = true ↔ ∃ j, j ≤ s.length ∧ mt L (s.drop j) = true := by
  simp only [mt]
  rw [if_pos h, anyTail_iff]
theorem mt_one_nil {x : PartV} (L : List PartV) (h : x.1 = false) : mt (x :: L) [] = false := by simp [mt, h]
theorem mt_one {x : PartV} (L : List PartV) (c : Nat) (r : List Nat) (h : x.1 = false) : mt (x :: L) (c :: r) = (x.2 c && mt L r) := by simp [mt, h]
/-- Parts one behind the other mean lists one behind the other. -/
theorem mt_append (B : List PartV) : ∀ (A : List PartV) (s : List Nat), mt (A ++ B) s = true ↔ ∃ j, j ≤ s.length ∧ mt A (s.take j) = true ∧ mt B (s.drop j) = true
  | [], s => by
    constructor
    · intro h
      exact ⟨0, by simp, by simp [mt], by simpa using h⟩
    · rintro ⟨j, h1, h2, h3⟩
      have : j = 0 := by
        simp only [mt, List.isEmpty_iff, List.take_eq_nil_iff] at h2
        rcases h2 with h2 | h2
        · exact h2
        · subst h2; simpa using h1
      subst this
      simpa using h3
  | x :: A, s => by
    cases hx : x.1 with
    | true =>
      rw [List.cons_append, mt_star _ _ hx]
      constructor
      · rintro ⟨i, h1, h2⟩
        obtain ⟨j, h3, h4, h5⟩ := (mt_append B A _).1 h2
        rw [List.length_drop] at h3
        refine ⟨i + j, by omega, (mt_star _ _ hx).2 ⟨i, ?_, ?_⟩, ?_⟩
        · rw [List.length_take]; omega
        · rw [List.drop_take]
          have : i + j - i = j := by omega
          rw [this]; exact h4
        · rw [List.drop_drop] at h5; exact h5
      · rintro ⟨m, h1, h2, h3⟩
        obtain ⟨i, h4, h5⟩ := (mt_star _ _ hx).1 h2
        rw [List.length_take] at h4
        refine ⟨i, by omega, (mt_append B A _).2 ⟨m - i, ?_, ?_, ?_⟩⟩
        · rw [List.length_drop]; omega
        · rw [List.drop_take] at h5; exact h5
        · rw [List.drop_drop]
          have : i + (m - i) = m := by omega
          rw [this]; exact h3
    | false =>
      cases s with
      | nil =>
        rw [List.cons_append, mt_one_nil _ hx]
        constructor
        · intro h; cases h
        · rintro ⟨j, h1, h2, h3⟩
          rw [List.take_nil, mt_one_nil _ hx] at h2
          cases h2
      | cons c r =>
        rw [List.cons_append, mt_one _ _ _ hx, Bool.and_eq_true, mt_append B A r]
        constructor
        · rintro ⟨h0, j, h1, h2, h3⟩
          exact ⟨j + 1, by simpa using h1, by rw [List.take_succ_cons, mt_one _ _ _ hx, h0, h2]; rfl, h3⟩
        · rintro ⟨j, h1, h2, h3⟩
          cases j with
          | zero => rw [List.take_zero, mt_one_nil _ hx] at h2; cases h2
          | succ j =>
            rw [List.take_succ_cons, mt_one _ _ _ hx, Bool.and_eq_true] at h2
            exact ⟨h2.1, j, by simpa using h1, h2.2, h3⟩
/-- The parts from p on mean the bytes from i on. -/
def mean (L : List PartV) (s : ByteArray) (p i : Nat) : Bool := mt (L.drop p) ((bl s).drop i)
theorem mean_end (L : List PartV) (s : ByteArray) {p i : Nat} (hp : L.length ≤ p) : mean L s p i = decide (s.size ≤ i) := by
  unfold mean
  rw [List.drop_eq_nil_of_le hp]
  by_cases h : s.size ≤ i
  · rw [bl_drop_end h]; simp [mt, h]
  · rw [bl_drop (by omega)]; simp [mt, h]
theorem drop_part {L : List PartV} {p : Nat} (h : p < L.length) : L.drop p = L[p] :: L.drop (p + 1) := List.drop_eq_getElem_cons h
theorem mean_star {L : List PartV} {s : ByteArray} {p i : Nat} (hi : i ≤ s.size) (ha : anyAt L p = true) : mean L s p i = true ↔ ∃ j, i ≤ j ∧ j ≤ s.size ∧ mean L s (p + 1) j = true := by
  by_cases hp : p < L.length
  · rw [anyAt_in hp] at ha
    unfold mean
    rw [drop_part hp, mt_star _ _ ha]
    rw [List.length_drop, bl_length]
    constructor
    · rintro ⟨j, h1, h2⟩
      rw [List.drop_drop] at h2
      exact ⟨i + j, by omega, by omega, h2⟩
    · rintro ⟨j, h1, h2, h3⟩
      refine ⟨j - i, by omega, ?_⟩
      rw [List.drop_drop]
      have : i + (j - i) = j := by omega
      rw [this]; exact h3
  · rw [anyAt_out hp] at ha; cases ha
theorem mean_one {L : List PartV} {s : ByteArray} {p i : Nat} (hi : i < s.size) (ha : anyAt L p = false) : mean L s p i = (takesAt L p (bn s i) && mean L s (p + 1) (i + 1)) := by
  by_cases hp : p < L.length
  · rw [anyAt_in hp] at ha
    rw [takesAt_in hp]
    unfold mean
    rw [drop_part hp, bl_drop hi, mt_one _ _ _ ha]
  · rw [takesAt_out hp, mean_end _ _ (by omega)]
    simp; omega
theorem mean_one_end {L : List PartV} {s : ByteArray} {p i : Nat} (hp : p < L.length) (hi : s.size ≤ i) (ha : anyAt L p = false) : mean L s p i = false := by
  rw [anyAt_in hp] at ha
  unfold mean
  rw [drop_part hp, bl_drop_end hi, mt_one_nil _ ha]
theorem mtail_mean (L : List PartV) (s : ByteArray) : ∀ (m p : Nat), L.length - p = m → p ≤ L.length → ∃ k, mtail L k p = some (mean L s p s.size) := by
  intro m
  induction m with
  | zero =>
    intro p h1 h2
    have hp : p = L.length := by omega
    subst hp
    refine ⟨1, ?_⟩
    simp only [mtail]
    rw [anyAt_out (by omega), mean_end _ _ (Nat.le_refl _)]
    simp
  | succ m ih =>
    intro p h1 h2
    cases ha : anyAt L p with
    | true =>
      obtain ⟨k, hk⟩ := ih (p + 1) (by omega) (by omega)
      refine ⟨k + 1, ?_⟩
      simp only [mtail]
      rw [if_pos ha, hk]
      congr 1
      apply Bool.eq_iff_iff.2
      rw [mean_star (Nat.le_refl _) ha]
      constructor
      · intro h; exact ⟨_, Nat.le_refl _, Nat.le_refl _, h⟩
      · rintro ⟨j, h3, h4, h5⟩
        obtain rfl : j = s.size := by omega
        exact h5
    | false =>
      refine ⟨1, ?_⟩
      simp only [mtail]
      rw [ha, mean_one_end (by omega) (Nat.le_refl _) ha]
      simp
      omega
/-- Parts without a star take a byte each. -/
theorem mean_seg {L : List PartV} {s : ByteArray} : ∀ (d st j : Nat), st + d ≤ L.length → j ≤ s.size → (∀ q, st ≤ q → q < st + d → anyAt L q = false) → mean L s st j = true → j + d ≤ s.size ∧ mean L s (st + d) (j + d) = true := by
  intro d
  induction d with
  | zero => intro st j _ hj _ h; exact ⟨hj, h⟩
  | succ d ih =>
    intro st j h1 hj hq h
    have ha := hq st (Nat.le_refl _) (by omega)
    by_cases hlt : j < s.size
    · rw [mean_one hlt ha, Bool.and_eq_true] at h
      have := ih (st + 1) (j + 1) (by omega) (by omega) (fun q a b => hq q (by omega) (by omega)) h.2
      refine ⟨by omega, ?_⟩
      have e1 : st + 1 + d = st + (d + 1) := by omega
      have e2 : j + 1 + d = j + (d + 1) := by omega
      rw [e1, e2] at this
      exact this.2
    · rw [mean_one_end (by omega) (by omega) ha] at h; cases h
/-- Match's rounds answer what the parts mean. -/
theorem mrun_mean (L : List PartV) (s : ByteArray) (R : Bool) (st f p i : Nat) (h1 : st ≤ p) (h2 : p ≤ L.length) (h3 : f ≤ i) (h4 : i ≤ s.size) (h5 : st = 0 → mean L s p i = R)
    (h6 : 0 < st → p - st = i - f ∧ (∀ q, st ≤ q → q < p → anyAt L q = false) ∧ mean L s st f = mean L s p i ∧ (R = true ↔ ∃ j, f ≤ j ∧ j ≤ s.size ∧ mean L s st j = true)) : ∃ k, mrun L s k st f p i = some R := by
  by_cases hi : i < s.size
  · cases ha : anyAt L p with
    | true =>
      have hp : p < L.length := by
        apply Classical.byContradiction
        intro h
        rw [anyAt_out h] at ha; cases ha
      have hR : R = true ↔ ∃ j, i ≤ j ∧ j ≤ s.size ∧ mean L s (p + 1) j = true := by
        rw [← mean_star h4 ha]
        rcases Nat.eq_zero_or_pos st with h0 | h0
        · rw [h5 h0]
        · obtain ⟨g1, g2, g3, g4⟩ := h6 h0
          rw [g4]
          constructor
          · rintro ⟨j, a1, a2, a3⟩
            obtain ⟨b1, b2⟩ := mean_seg (p - st) st j (by omega) a2 (fun q c1 c2 => g2 q c1 (by omega)) a3
            have e : st + (p - st) = p := Nat.add_sub_cancel' h1
            rw [e] at b2
            obtain ⟨j', c1, c2, c3⟩ := (mean_star b1 ha).1 b2
            exact (mean_star h4 ha).2 ⟨j', by omega, c2, c3⟩
          · intro h
            exact ⟨f, Nat.le_refl _, by omega, by rw [g3]; exact h⟩
      obtain ⟨k, hk⟩ := mrun_mean L s R (p + 1) i (p + 1) i (Nat.le_refl _) (by omega) (Nat.le_refl _) h4 (fun h => by omega)
        (fun _ => ⟨by omega, fun q a b => by omega, rfl, hR⟩)
      refine ⟨k + 1, ?_⟩
      simp only [mrun]
      rw [if_pos hi, if_pos ha]
      exact hk
    | false =>
      cases ht : takesAt L p (bn s i) with
      | true =>
        have hp : p < L.length := by
          apply Classical.byContradiction
          intro h
          rw [takesAt_out h] at ht; cases ht
        have hm := mean_one hi ha
        rw [ht, Bool.true_and] at hm
        obtain ⟨k, hk⟩ := mrun_mean L s R st f (p + 1) (i + 1) (by omega) (by omega) (by omega) (by omega) (fun h => by rw [← hm]; exact h5 h)
          (fun h => by
            obtain ⟨g1, g2, g3, g4⟩ := h6 h
            refine ⟨by clear g4 g2 g3 h5 h6; omega, fun q a b => ?_, by rw [g3, hm], g4⟩
            by_cases hq : q = p
            · rw [hq]; exact ha
            · exact g2 q a (by omega))
        refine ⟨k + 1, ?_⟩
        simp only [mrun]
        rw [if_pos hi, if_neg (by rw [ha]; simp), if_pos ht]
        exact hk
      | false =>
        have hm := mean_one hi ha
        rw [ht, Bool.false_and] at hm
        by_cases h0 : 0 < st
        · obtain ⟨g1, g2, g3, g4⟩ := h6 h0
          obtain ⟨k, hk⟩ := mrun_mean L s R st (f + 1) st (f + 1) (Nat.le_refl _) (by omega) (Nat.le_refl _) (by omega) (fun h => by omega)
            (fun _ => ⟨by omega, fun q a b => by omega, rfl, by
              rw [g4]
              constructor
              · rintro ⟨j, a1, a2, a3⟩
                refine ⟨j, ?_, a2, a3⟩
                rcases Nat.eq_or_lt_of_le a1 with he | hl
                · subst he
                  rw [g3, hm] at a3; cases a3
                · exact hl
              · rintro ⟨j, a1, a2, a3⟩
                exact ⟨j, by omega, a2, a3⟩⟩)
          refine ⟨k + 1, ?_⟩
          simp only [mrun]
          rw [if_pos hi, if_neg (by rw [ha]; simp), if_neg (by rw [ht]; simp), if_pos h0]
          exact hk
        · refine ⟨1, ?_⟩
          simp only [mrun]
          rw [if_pos hi, if_neg (by rw [ha]; simp), if_neg (by rw [ht]; simp), if_neg h0, ← h5 (by omega), hm]
  · obtain rfl : i = s.size := by omega
    obtain ⟨k, hk⟩ := mtail_mean L s _ p rfl h2
    refine ⟨k + 1, ?_⟩
    simp only [mrun]
    rw [if_neg hi, hk]
    congr 1
    rcases Nat.eq_zero_or_pos st with h0 | h0
    · exact h5 h0
    · obtain ⟨g1, g2, g3, g4⟩ := h6 h0
      apply Bool.eq_iff_iff.2
      rw [g4]
      constructor
      · intro h
        exact ⟨f, Nat.le_refl _, h3, by rw [g3]; exact h⟩
      · rintro ⟨j, a1, a2, a3⟩
        obtain ⟨b1, b2⟩ := mean_seg (p - st) st j (by omega) a2 (fun q c1 c2 => g2 q c1 (by omega)) a3
        obtain rfl : j = f := by omega
        rw [← g3]; exact a3
  termination_by (L.length + 1 - st, s.size + 1 - f, s.size + 1 - i)
  decreasing_by
    all_goals (first | (apply Prod.Lex.left; omega) | (apply Prod.Lex.right; apply Prod.Lex.left; omega) | (apply Prod.Lex.right; apply Prod.Lex.right; omega))
/-- Match's answer, with some fuel. -/
theorem mrun_start (L : List PartV) (s : ByteArray) : ∃ k, mrun L s k 0 0 0 0 = some (mt L (bl s)) :=
  mrun_mean L s _ 0 0 0 0 (Nat.le_refl _) (by omega) (Nat.le_refl _) (by omega) (fun _ => rfl) (fun h => by omega)
/-- A prefix of the parts and one more, on beginnings of a list. -/
theorem mt_snoc_star {x : PartV} (L : List PartV) (s : List Nat) (h : x.1 = true) : mt (L ++ [x]) s = true ↔ ∃ j, j ≤ s.length ∧ mt L (s.take j) = true := by
  rw [mt_append]
  constructor
  · rintro ⟨j, h1, h2, h3⟩; exact ⟨j, h1, h2⟩
  · rintro ⟨j, h1, h2⟩
    exact ⟨j, h1, h2, (mt_star _ _ h).2 ⟨(s.drop j).length, Nat.le_refl _, by simp only [mt, List.isEmpty_iff]; exact List.drop_eq_nil_of_le (Nat.le_refl _)⟩⟩
theorem mt_snoc_one {x : PartV} (L : List PartV) (s : List Nat) (c : Nat) (h : x.1 = false) : mt (L ++ [x]) (s ++ [c]) = (mt L s && x.2 c) := by
  apply Bool.eq_iff_iff.2
  rw [mt_append, Bool.and_eq_true]
  have h1 : ∀ r : List Nat, mt [x] r = true ↔ ∃ b, r = [b] ∧ x.2 b = true := by
    intro r
    cases r with
    | nil => rw [mt_one_nil _ h]; simp
    | cons b r =>
      rw [mt_one _ _ _ h, Bool.and_eq_true]
      simp only [mt, List.isEmpty_iff, List.cons.injEq]
      constructor
      · rintro ⟨a1, a2⟩; exact ⟨b, ⟨rfl, a2⟩, a1⟩
      · rintro ⟨b', ⟨rfl, a2⟩, a1⟩; exact ⟨a1, a2⟩
  constructor
  · rintro ⟨j, h2, h3, h4⟩
    obtain ⟨b, hb, hx⟩ := (h1 _).1 h4
    have hl := congrArg List.length hb
    simp only [List.length_drop, List.length_append, List.length_cons, List.length_nil] at hl h2
    obtain rfl : j = s.length := by omega
    rw [List.take_left'  rfl] at h3
    rw [List.drop_left' rfl] at hb
    simp only [List.cons.injEq, and_true] at hb
    subst hb
    exact ⟨h3, hx⟩
  · rintro ⟨h2, h3⟩
    exact ⟨s.length, by simp, by rw [List.take_left' rfl]; exact h2, by rw [List.drop_left' rfl]; exact (h1 _).2 ⟨c, rfl, h3⟩⟩
theorem mt_snoc_one_nil {x : PartV} (L : List PartV) (h : x.1 = false) : mt (L ++ [x]) [] = false := by
  apply Bool.eq_false_iff.2
  intro hm
  obtain ⟨j, h1, h2, h3⟩ := (mt_append _ _ _).1 hm
  rw [List.drop_nil, mt_one_nil _ h] at h3
  cases h3
end Go.Proofs.YtgkifphfibcfdaaGreatDoor.G
/- A row of strings that one makes, or reads; a text's pieces. -/
namespace Go.Proofs.YtgkifphfibcfdaaGreatDoor.G
open Go.RowKit Go.Proofs.YtgkifphfibcfdaaGreatDoor.B
set_option linter.unusedVariables false
theorem wpList_append9 {ops : Array Oper} {rest : List Oper} {o : Oper} {a : Act} {w : World} {Q : Exit → Act → World → Prop} (hgd : o.guard = none) (s x : Operand)
    (ho : o.op = .call { callee := .builtin .append, args := #[s, x], argTypes := #[41, 41] }) (base : Nat) (v : Value) (L : List ByteArray) (hs : a.eval s = v) (hown : w.ownsRow base 9 1 v L.length (L.map Value.string))
    (p : ByteArray) (g : Nat) (hx : a.eval x = .slice (some ⟨g, 0, none⟩) 1 1) (hg : w.heap[g]? = some (.cells #[.string p] 9 (0, 0))) (hL : L.length ≤ 16777216) (hb : base ≤ w.heap.size)
    (h : ∀ v' w', w'.ownsRow base 9 1 v' (L ++ [p]).length ((L ++ [p]).map Value.string) → w.grownBy w' v.ownBlock → wpList Tryz.prog ops Q rest (a.put o.dst v') w') : wpList Tryz.prog ops Q (o :: rest) a w := by
  obtain ⟨ie, h1, h2, h3, h4⟩ := info9'
  refine wpList_append_own _ hgd s x 41 ho base 9 ie _ 1 16 Tryz.underlying41 h1 h2 h3 h4 rfl (by decide) v L.length (L.map Value.string) hs hown ⟨g, 0, none⟩ 1 1 [.string p] hx rfl ?_ (fun u hu => by simp at hu; subst hu; rfl) ?_ ?_ hb ?_
  · intro j u hu
    have h0 : j = 0 := by
      cases j with
      | zero => rfl
      | succ j => simp at hu
    subst h0
    have e : (⟨g, 0, none⟩ : Addr).add 0 = ⟨g, 0, none⟩ := rfl
    rw [e, cell_of_heap hg]
    simpa using hu
  · unfold maxLen; omega
  · omega
  · intro v' w' q1 q2 q3
    refine h v' w' ?_ q2
    rw [List.length_append, List.map_append]
    exact q1
/-- A row of strings in memory. -/
def StrL (w : World) (v : Value) (L : List ByteArray) : Prop := ∃ A c, v = .slice A L.length c ∧ ∀ i, (h : i < L.length) → ∃ a, A = some a ∧ w.cell? (a.add i) = some (.string (L[i]'h))
theorem StrL.chg {w w' : World} {v : Value} {L : List ByteArray} (h : StrL w v L) (hc : Chg [] w w') : StrL w' v L := by
  obtain ⟨A, c, hv, h1⟩ := h
  refine ⟨A, c, hv, fun i hi => ?_⟩
  obtain ⟨a, h2, h3⟩ := h1 i hi
  exact ⟨a, h2, (hc.below.cell (World.block_lt_of_cell? w _ h3)).trans h3⟩
theorem strL_of_own {w : World} {base : Nat} {v : Value} {L : List ByteArray} (h : w.ownsRow base 9 1 v L.length (L.map Value.string)) : StrL w v L := by
  obtain ⟨h1, h2⟩ := h
  rcases h2 with ⟨rfl, h0⟩ | ⟨g, cap, cur, rfl, hb, hg, hn, hc, hsz, ht⟩
  · exact ⟨none, 0, by rw [h0], fun p hp => by omega⟩
  · refine ⟨_, cap, rfl, fun i hi => ⟨_, rfl, ?_⟩⟩
    have e : (⟨g, 0, none⟩ : Addr).add i = ⟨g, i, none⟩ := by
      unfold Addr.add
      split
      · subst_vars; rfl
      · simp
    rw [e, cell_of_heap hg]
    have h3 : (cur.toList.take (L.length * 1))[i]? = (L.map Value.string)[i]? := by rw [ht]
    rw [List.getElem?_take_of_lt (by omega), List.getElem?_map, List.getElem?_eq_getElem hi] at h3
    simpa using h3
/-- What stands between the bytes c of a text, from byte i on (the piece begins at f). -/
def pieces (c : Nat) (s : ByteArray) : Nat → Nat → Nat → List ByteArray
  | 0, f, i => [s.extract f i]
  | k + 1, f, i => if bn s i = c then s.extract f i :: pieces c s k (i + 1) (i + 1) else pieces c s k f (i + 1)
def spl (c : Nat) (s : ByteArray) : List ByteArray := pieces c s s.size 0 0
theorem pieces_len (c : Nat) (s : ByteArray) : ∀ k f i, 1 ≤ (pieces c s k f i).length ∧ (pieces c s k f i).length ≤ k + 1
  | 0, f, i => by simp [pieces]
  | k + 1, f, i => by
    simp only [pieces]
    split
    · have := pieces_len c s k (i + 1) (i + 1)
      rw [List.length_cons]; omega
    · have := pieces_len c s k f (i + 1); omega
theorem spl_len (c : Nat) (s : ByteArray) : 1 ≤ (spl c s).length ∧ (spl c s).length ≤ s.size + 1 := pieces_len c s _ _ _
theorem pieces_go {c : Nat} {s : ByteArray} {i f : Nat} (h : i < s.size) : pieces c s (s.size - i) f i = if bn s i = c then s.extract f i :: pieces c s (s.size - (i + 1)) (i + 1) (i + 1) else pieces c s (s.size - (i + 1)) f (i + 1) := by
  rw [show s.size - i = (s.size - (i + 1)) + 1 by omega]
  rfl
theorem pieces_end {c : Nat} {s : ByteArray} {f : Nat} : pieces c s (s.size - s.size) f s.size = [s.extract f s.size] := by
  rw [Nat.sub_self]
  rfl
end Go.Proofs.YtgkifphfibcfdaaGreatDoor.G
/- The reference's class. Printed by rcls.py. -/
namespace Go.Proofs.YtgkifphfibcfdaaGreatDoor.G
open Go.RowKit Go.Proofs.YtgkifphfibcfdaaGreatDoor.B
set_option linter.unusedVariables false
set_option linter.unusedSimpArgs false
set_option maxRecDepth 100000 in
set_option maxHeartbeats 4000000 in
theorem ralpha_calls (c : Int) (w : World) (h0 : 0 ≤ c) (h1 : c ≤ 255) : Calls Tryz.prog 49 #[.string ⟨#[97, 108, 112, 104, 97]⟩, .int .i64 c] w fun e w' => e = .returned (.tuple #[.bool (alphaB c), .bool true]) ∧ w' = w := by
  have e0 : ((⟨#[97, 108, 112, 104, 97]⟩ : ByteArray).toList == (⟨#[97, 108, 112, 104, 97]⟩ : ByteArray).toList) = true := by kernel_rfl
  have hc : (0 ≤ c ∧ c ≤ 47) ∨ (48 ≤ c ∧ c ≤ 57) ∨ (58 ≤ c ∧ c ≤ 64) ∨ (65 ≤ c ∧ c ≤ 90) ∨ (91 ≤ c ∧ c ≤ 96) ∨ (97 ≤ c ∧ c ≤ 122) ∨ (123 ≤ c ∧ c ≤ 255) := by omega
  rcases hc with ⟨a, b⟩ | ⟨a, b⟩ | ⟨a, b⟩ | ⟨a, b⟩ | ⟨a, b⟩ | ⟨a, b⟩ | ⟨a, b⟩
  · have HV := Lib.hid (show alphaB c = false from decide_eq_false (by omega))
    go_enter Tryz.func49, Tryz.ntmps49
    go_wp2
    go_ret2
    exact ⟨by rw [HV.out]; first | rfl | (simp; done) | (simp; omega), rfl⟩
  · have HV := Lib.hid (show alphaB c = false from decide_eq_false (by omega))
    go_enter Tryz.func49, Tryz.ntmps49
    go_wp2
    go_ret2
    exact ⟨by rw [HV.out]; first | rfl | (simp; done) | (simp; omega), rfl⟩
  · have HV := Lib.hid (show alphaB c = false from decide_eq_false (by omega))
    go_enter Tryz.func49, Tryz.ntmps49
    go_wp2
    go_ret2
    exact ⟨by rw [HV.out]; first | rfl | (simp; done) | (simp; omega), rfl⟩
  · have HV := Lib.hid (show alphaB c = true from decide_eq_true (by omega))
    go_enter Tryz.func49, Tryz.ntmps49
    go_wp2
    go_ret2
    exact ⟨by rw [HV.out]; first | rfl | (simp; done) | (simp; omega), rfl⟩
  · have HV := Lib.hid (show alphaB c = false from decide_eq_false (by omega))
    go_enter Tryz.func49, Tryz.ntmps49
    go_wp2
    go_ret2
    exact ⟨by rw [HV.out]; first | rfl | (simp; done) | (simp; omega), rfl⟩
  · have HV := Lib.hid (show alphaB c = true from decide_eq_true (by omega))
    go_enter Tryz.func49, Tryz.ntmps49
    go_wp2
    go_ret2
    exact ⟨by rw [HV.out]; first | rfl | (simp; done) | (simp; omega), rfl⟩
  · have HV := Lib.hid (show alphaB c = false from decide_eq_false (by omega))
    go_enter Tryz.func49, Tryz.ntmps49
    go_wp2
    go_ret2
    exact ⟨by rw [HV.out]; first | rfl | (simp; done) | (simp; omega), rfl⟩
set_option maxRecDepth 100000 in
set_option maxHeartbeats 4000000 in
theorem rdigit_calls (c : Int) (w : World) (h0 : 0 ≤ c) (h1 : c ≤ 255) : Calls Tryz.prog 49 #[.string ⟨#[100, 105, 103, 105, 116]⟩, .int .i64 c] w fun e w' => e = .returned (.tuple #[.bool (digitB c), .bool true]) ∧ w' = w := by
  have e0 : ((⟨#[100, 105, 103, 105, 116]⟩ : ByteArray).toList == (⟨#[97, 108, 112, 104, 97]⟩ : ByteArray).toList) = false := by kernel_rfl
  have e1 : ((⟨#[100, 105, 103, 105, 116]⟩ : ByteArray).toList == (⟨#[100, 105, 103, 105, 116]⟩ : ByteArray).toList) = true := by kernel_rfl
  have hc : (0 ≤ c ∧ c ≤ 47) ∨ (48 ≤ c ∧ c ≤ 57) ∨ (58 ≤ c ∧ c ≤ 64) ∨ (65 ≤ c ∧ c ≤ 90) ∨ (91 ≤ c ∧ c ≤ 96) ∨ (97 ≤ c ∧ c ≤ 122) ∨ (123 ≤ c ∧ c ≤ 255) := by omega
  rcases hc with ⟨a, b⟩ | ⟨a, b⟩ | ⟨a, b⟩ | ⟨a, b⟩ | ⟨a, b⟩ | ⟨a, b⟩ | ⟨a, b⟩
  · have HV := Lib.hid (show digitB c = false from decide_eq_false (by omega))
    go_enter Tryz.func49, Tryz.ntmps49
    go_wp2
    go_ret2
    exact ⟨by rw [HV.out]; first | rfl | (simp; done) | (simp; omega), rfl⟩
  · have HV := Lib.hid (show digitB c = true from decide_eq_true (by omega))
    go_enter Tryz.func49, Tryz.ntmps49
    go_wp2
    go_ret2
    exact ⟨by rw [HV.out]; first | rfl | (simp; done) | (simp; omega), rfl⟩
  · have HV := Lib.hid (show digitB c = false from decide_eq_false (by omega))
    go_enter Tryz.func49, Tryz.ntmps49
    go_wp2
    go_ret2
    exact ⟨by rw [HV.out]; first | rfl | (simp; done) | (simp; omega), rfl⟩
  · have HV := Lib.hid (show digitB c = false from decide_eq_false (by omega))
    go_enter Tryz.func49, Tryz.ntmps49
    go_wp2
    go_ret2
    exact ⟨by rw [HV.out]; first | rfl | (simp; done) | (simp; omega), rfl⟩
  · have HV := Lib.hid (show digitB c = false from decide_eq_false (by omega))
    go_enter Tryz.func49, Tryz.ntmps49
    go_wp2
    go_ret2
    exact ⟨by rw [HV.out]; first | rfl | (simp; done) | (simp; omega), rfl⟩
  · have HV := Lib.hid (show digitB c = false from decide_eq_false (by omega))
    go_enter Tryz.func49, Tryz.ntmps49
    go_wp2
    go_ret2
    exact ⟨by rw [HV.out]; first | rfl | (simp; done) | (simp; omega), rfl⟩
  · have HV := Lib.hid (show digitB c = false from decide_eq_false (by omega))
    go_enter Tryz.func49, Tryz.ntmps49
    go_wp2
    go_ret2
    exact ⟨by rw [HV.out]; first | rfl | (simp; done) | (simp; omega), rfl⟩
set_option maxRecDepth 100000 in
set_option maxHeartbeats 4000000 in
theorem ralnum_calls (c : Int) (w : World) (h0 : 0 ≤ c) (h1 : c ≤ 255) : Calls Tryz.prog 49 #[.string ⟨#[97, 108, 110, 117, 109]⟩, .int .i64 c] w fun e w' => e = .returned (.tuple #[.bool (alnumB c), .bool true]) ∧ w' = w := by
  have e0 : ((⟨#[97, 108, 110, 117, 109]⟩ : ByteArray).toList == (⟨#[97, 108, 112, 104, 97]⟩ : ByteArray).toList) = false := by kernel_rfl
  have e1 : ((⟨#[97, 108, 110, 117, 109]⟩ : ByteArray).toList == (⟨#[100, 105, 103, 105, 116]⟩ : ByteArray).toList) = false := by kernel_rfl
  have e2 : ((⟨#[97, 108, 110, 117, 109]⟩ : ByteArray).toList == (⟨#[97, 108, 110, 117, 109]⟩ : ByteArray).toList) = true := by kernel_rfl
  have hc : (0 ≤ c ∧ c ≤ 47) ∨ (48 ≤ c ∧ c ≤ 57) ∨ (58 ≤ c ∧ c ≤ 64) ∨ (65 ≤ c ∧ c ≤ 90) ∨ (91 ≤ c ∧ c ≤ 96) ∨ (97 ≤ c ∧ c ≤ 122) ∨ (123 ≤ c ∧ c ≤ 255) := by omega
  rcases hc with ⟨a, b⟩ | ⟨a, b⟩ | ⟨a, b⟩ | ⟨a, b⟩ | ⟨a, b⟩ | ⟨a, b⟩ | ⟨a, b⟩
  · have HV := Lib.hid (show alnumB c = false from decide_eq_false (by omega))
    go_enter Tryz.func49, Tryz.ntmps49
    go_wp2
    go_ret2
    exact ⟨by rw [HV.out]; first | rfl | (simp; done) | (simp; omega), rfl⟩
  · have HV := Lib.hid (show alnumB c = true from decide_eq_true (by omega))
    go_enter Tryz.func49, Tryz.ntmps49
    go_wp2
    go_ret2
    exact ⟨by rw [HV.out]; first | rfl | (simp; done) | (simp; omega), rfl⟩
  · have HV := Lib.hid (show alnumB c = false from decide_eq_false (by omega))
    go_enter Tryz.func49, Tryz.ntmps49
    go_wp2
    go_ret2
    exact ⟨by rw [HV.out]; first | rfl | (simp; done) | (simp; omega), rfl⟩
  · have HV := Lib.hid (show alnumB c = true from decide_eq_true (by omega))
    go_enter Tryz.func49, Tryz.ntmps49
    go_wp2
    go_ret2
    exact ⟨by rw [HV.out]; first | rfl | (simp; done) | (simp; omega), rfl⟩
  · have HV := Lib.hid (show alnumB c = false from decide_eq_false (by omega))
    go_enter Tryz.func49, Tryz.ntmps49
    go_wp2
    go_ret2
    exact ⟨by rw [HV.out]; first | rfl | (simp; done) | (simp; omega), rfl⟩
  · have HV := Lib.hid (show alnumB c = true from decide_eq_true (by omega))
    go_enter Tryz.func49, Tryz.ntmps49
    go_wp2
    go_ret2
    exact ⟨by rw [HV.out]; first | rfl | (simp; done) | (simp; omega), rfl⟩
  · have HV := Lib.hid (show alnumB c = false from decide_eq_false (by omega))
    go_enter Tryz.func49, Tryz.ntmps49
    go_wp2
    go_ret2
    exact ⟨by rw [HV.out]; first | rfl | (simp; done) | (simp; omega), rfl⟩
set_option maxRecDepth 100000 in
set_option maxHeartbeats 4000000 in
theorem rupper_calls (c : Int) (w : World) (h0 : 0 ≤ c) (h1 : c ≤ 255) : Calls Tryz.prog 49 #[.string ⟨#[117, 112, 112, 101, 114]⟩, .int .i64 c] w fun e w' => e = .returned (.tuple #[.bool (upperB c), .bool true]) ∧ w' = w := by
  have e0 : ((⟨#[117, 112, 112, 101, 114]⟩ : ByteArray).toList == (⟨#[97, 108, 112, 104, 97]⟩ : ByteArray).toList) = false := by kernel_rfl
  have e1 : ((⟨#[117, 112, 112, 101, 114]⟩ : ByteArray).toList == (⟨#[100, 105, 103, 105, 116]⟩ : ByteArray).toList) = false := by kernel_rfl
  have e2 : ((⟨#[117, 112, 112, 101, 114]⟩ : ByteArray).toList == (⟨#[97, 108, 110, 117, 109]⟩ : ByteArray).toList) = false := by kernel_rfl
  have e3 : ((⟨#[117, 112, 112, 101, 114]⟩ : ByteArray).toList == (⟨#[117, 112, 112, 101, 114]⟩ : ByteArray).toList) = true := by kernel_rfl
  have hc : (0 ≤ c ∧ c ≤ 47) ∨ (48 ≤ c ∧ c ≤ 57) ∨ (58 ≤ c ∧ c ≤ 64) ∨ (65 ≤ c ∧ c ≤ 90) ∨ (91 ≤ c ∧ c ≤ 96) ∨ (97 ≤ c ∧ c ≤ 122) ∨ (123 ≤ c ∧ c ≤ 255) := by omega
  rcases hc with ⟨a, b⟩ | ⟨a, b⟩ | ⟨a, b⟩ | ⟨a, b⟩ | ⟨a, b⟩ | ⟨a, b⟩ | ⟨a, b⟩
  · have HV := Lib.hid (show upperB c = false from decide_eq_false (by omega))
    go_enter Tryz.func49, Tryz.ntmps49
    go_wp2
    go_ret2
    exact ⟨by rw [HV.out]; first | rfl | (simp; done) | (simp; omega), rfl⟩
  · have HV := Lib.hid (show upperB c = false from decide_eq_false (by omega))
    go_enter Tryz.func49, Tryz.ntmps49
    go_wp2
    go_ret2
    exact ⟨by rw [HV.out]; first | rfl | (simp; done) | (simp; omega), rfl⟩
  · have HV := Lib.hid (show upperB c = false from decide_eq_false (by omega))
    go_enter Tryz.func49, Tryz.ntmps49
    go_wp2
    go_ret2
    exact ⟨by rw [HV.out]; first | rfl | (simp; done) | (simp; omega), rfl⟩
  · have HV := Lib.hid (show upperB c = true from decide_eq_true (by omega))
    go_enter Tryz.func49, Tryz.ntmps49
    go_wp2
    go_ret2
    exact ⟨by rw [HV.out]; first | rfl | (simp; done) | (simp; omega), rfl⟩
  · have HV := Lib.hid (show upperB c = false from decide_eq_false (by omega))
    go_enter Tryz.func49, Tryz.ntmps49
    go_wp2
    go_ret2
    exact ⟨by rw [HV.out]; first | rfl | (simp; done) | (simp; omega), rfl⟩
  · have HV := Lib.hid (show upperB c = false from decide_eq_false (by omega))
    go_enter Tryz.func49, Tryz.ntmps49
    go_wp2
    go_ret2
    exact ⟨by rw [HV.out]; first | rfl | (simp; done) | (simp; omega), rfl⟩
  · have HV := Lib.hid (show upperB c = false from decide_eq_false (by omega))
    go_enter Tryz.func49, Tryz.ntmps49
    go_wp2
    go_ret2
    exact ⟨by rw [HV.out]; first | rfl | (simp; done) | (simp; omega), rfl⟩
set_option maxRecDepth 100000 in
set_option maxHeartbeats 4000000 in
theorem rlower_calls (c : Int) (w : World) (h0 : 0 ≤ c) (h1 : c ≤ 255) : Calls Tryz.prog 49 #[.string ⟨#[108, 111, 119, 101, 114]⟩, .int .i64 c] w fun e w' => e = .returned (.tuple #[.bool (lowerB c), .bool true]) ∧ w' = w := by
  have e0 : ((⟨#[108, 111, 119, 101, 114]⟩ : ByteArray).toList == (⟨#[97, 108, 112, 104, 97]⟩ : ByteArray).toList) = false := by kernel_rfl
  have e1 : ((⟨#[108, 111, 119, 101, 114]⟩ : ByteArray).toList == (⟨#[100, 105, 103, 105, 116]⟩ : ByteArray).toList) = false := by kernel_rfl
  have e2 : ((⟨#[108, 111, 119, 101, 114]⟩ : ByteArray).toList == (⟨#[97, 108, 110, 117, 109]⟩ : ByteArray).toList) = false := by kernel_rfl
  have e3 : ((⟨#[108, 111, 119, 101, 114]⟩ : ByteArray).toList == (⟨#[117, 112, 112, 101, 114]⟩ : ByteArray).toList) = false := by kernel_rfl
  have e4 : ((⟨#[108, 111, 119, 101, 114]⟩ : ByteArray).toList == (⟨#[108, 111, 119, 101, 114]⟩ : ByteArray).toList) = true := by kernel_rfl
  have hc : (0 ≤ c ∧ c ≤ 47) ∨ (48 ≤ c ∧ c ≤ 57) ∨ (58 ≤ c ∧ c ≤ 64) ∨ (65 ≤ c ∧ c ≤ 90) ∨ (91 ≤ c ∧ c ≤ 96) ∨ (97 ≤ c ∧ c ≤ 122) ∨ (123 ≤ c ∧ c ≤ 255) := by omega
  rcases hc with ⟨a, b⟩ | ⟨a, b⟩ | ⟨a, b⟩ | ⟨a, b⟩ | ⟨a, b⟩ | ⟨a, b⟩ | ⟨a, b⟩
  · have HV := Lib.hid (show lowerB c = false from decide_eq_false (by omega))
    go_enter Tryz.func49, Tryz.ntmps49
    go_wp2
    go_ret2
    exact ⟨by rw [HV.out]; first | rfl | (simp; done) | (simp; omega), rfl⟩
  · have HV := Lib.hid (show lowerB c = false from decide_eq_false (by omega))
    go_enter Tryz.func49, Tryz.ntmps49
    go_wp2
    go_ret2
    exact ⟨by rw [HV.out]; first | rfl | (simp; done) | (simp; omega), rfl⟩
  · have HV := Lib.hid (show lowerB c = false from decide_eq_false (by omega))
    go_enter Tryz.func49, Tryz.ntmps49
    go_wp2
    go_ret2
    exact ⟨by rw [HV.out]; first | rfl | (simp; done) | (simp; omega), rfl⟩
  · have HV := Lib.hid (show lowerB c = false from decide_eq_false (by omega))
    go_enter Tryz.func49, Tryz.ntmps49
    go_wp2
    go_ret2
    exact ⟨by rw [HV.out]; first | rfl | (simp; done) | (simp; omega), rfl⟩
  · have HV := Lib.hid (show lowerB c = false from decide_eq_false (by omega))
    go_enter Tryz.func49, Tryz.ntmps49
    go_wp2
    go_ret2
    exact ⟨by rw [HV.out]; first | rfl | (simp; done) | (simp; omega), rfl⟩
  · have HV := Lib.hid (show lowerB c = true from decide_eq_true (by omega))
    go_enter Tryz.func49, Tryz.ntmps49
    go_wp2
    go_ret2
    exact ⟨by rw [HV.out]; first | rfl | (simp; done) | (simp; omega), rfl⟩
  · have HV := Lib.hid (show lowerB c = false from decide_eq_false (by omega))
    go_enter Tryz.func49, Tryz.ntmps49
    go_wp2
    go_ret2
    exact ⟨by rw [HV.out]; first | rfl | (simp; done) | (simp; omega), rfl⟩
end Go.Proofs.YtgkifphfibcfdaaGreatDoor.G
/- The reference's class. Printed by rcls.py. -/
namespace Go.Proofs.YtgkifphfibcfdaaGreatDoor.G
open Go.RowKit Go.Proofs.YtgkifphfibcfdaaGreatDoor.B
set_option linter.unusedVariables false
set_option linter.unusedSimpArgs false
set_option maxRecDepth 100000 in
set_option maxHeartbeats 4000000 in
theorem rxdigit_calls (c : Int) (w : World) (h0 : 0 ≤ c) (h1 : c ≤ 255) : Calls Tryz.prog 49 #[.string ⟨#[120, 100, 105, 103, 105, 116]⟩, .int .i64 c] w fun e w' => e = .returned (.tuple #[.bool (xdigitB c), .bool true]) ∧ w' = w := by
  have e0 : ((⟨#[120, 100, 105, 103, 105, 116]⟩ : ByteArray).toList == (⟨#[97, 108, 112, 104, 97]⟩ : ByteArray).toList) = false := by kernel_rfl
  have e1 : ((⟨#[120, 100, 105, 103, 105, 116]⟩ : ByteArray).toList == (⟨#[100, 105, 103, 105, 116]⟩ : ByteArray).toList) = false := by kernel_rfl
  have e2 : ((⟨#[120, 100, 105, 103, 105, 116]⟩ : ByteArray).toList == (⟨#[97, 108, 110, 117, 109]⟩ : ByteArray).toList) = false := by kernel_rfl
  have e3 : ((⟨#[120, 100, 105, 103, 105, 116]⟩ : ByteArray).toList == (⟨#[117, 112, 112, 101, 114]⟩ : ByteArray).toList) = false := by kernel_rfl
  have e4 : ((⟨#[120, 100, 105, 103, 105, 116]⟩ : ByteArray).toList == (⟨#[108, 111, 119, 101, 114]⟩ : ByteArray).toList) = false := by kernel_rfl
  have e5 : ((⟨#[120, 100, 105, 103, 105, 116]⟩ : ByteArray).toList == (⟨#[120, 100, 105, 103, 105, 116]⟩ : ByteArray).toList) = true := by kernel_rfl
  have hc : (0 ≤ c ∧ c ≤ 47) ∨ (48 ≤ c ∧ c ≤ 57) ∨ (58 ≤ c ∧ c ≤ 64) ∨ (65 ≤ c ∧ c ≤ 70) ∨ (71 ≤ c ∧ c ≤ 90) ∨ (91 ≤ c ∧ c ≤ 96) ∨ (97 ≤ c ∧ c ≤ 102) ∨ (103 ≤ c ∧ c ≤ 122) ∨ (123 ≤ c ∧ c ≤ 255) := by omega
  rcases hc with ⟨a, b⟩ | ⟨a, b⟩ | ⟨a, b⟩ | ⟨a, b⟩ | ⟨a, b⟩ | ⟨a, b⟩ | ⟨a, b⟩ | ⟨a, b⟩ | ⟨a, b⟩
  · have HV := Lib.hid (show xdigitB c = false from decide_eq_false (by omega))
    go_enter Tryz.func49, Tryz.ntmps49
    go_wp2
    go_ret2
    exact ⟨by rw [HV.out]; first | rfl | (simp; done) | (simp; omega), rfl⟩
  · have HV := Lib.hid (show xdigitB c = true from decide_eq_true (by omega))
    go_enter Tryz.func49, Tryz.ntmps49
    go_wp2
    go_ret2
    exact ⟨by rw [HV.out]; first | rfl | (simp; done) | (simp; omega), rfl⟩
  · have HV := Lib.hid (show xdigitB c = false from decide_eq_false (by omega))
    go_enter Tryz.func49, Tryz.ntmps49
    go_wp2
    go_ret2
    exact ⟨by rw [HV.out]; first | rfl | (simp; done) | (simp; omega), rfl⟩
  · have HV := Lib.hid (show xdigitB c = true from decide_eq_true (by omega))
    go_enter Tryz.func49, Tryz.ntmps49
    go_wp2
    go_ret2
    exact ⟨by rw [HV.out]; first | rfl | (simp; done) | (simp; omega), rfl⟩
  · have HV := Lib.hid (show xdigitB c = false from decide_eq_false (by omega))
    go_enter Tryz.func49, Tryz.ntmps49
    go_wp2
    go_ret2
    exact ⟨by rw [HV.out]; first | rfl | (simp; done) | (simp; omega), rfl⟩
  · have HV := Lib.hid (show xdigitB c = false from decide_eq_false (by omega))
    go_enter Tryz.func49, Tryz.ntmps49
    go_wp2
    go_ret2
    exact ⟨by rw [HV.out]; first | rfl | (simp; done) | (simp; omega), rfl⟩
  · have HV := Lib.hid (show xdigitB c = true from decide_eq_true (by omega))
    go_enter Tryz.func49, Tryz.ntmps49
    go_wp2
    go_ret2
    exact ⟨by rw [HV.out]; first | rfl | (simp; done) | (simp; omega), rfl⟩
  · have HV := Lib.hid (show xdigitB c = false from decide_eq_false (by omega))
    go_enter Tryz.func49, Tryz.ntmps49
    go_wp2
    go_ret2
    exact ⟨by rw [HV.out]; first | rfl | (simp; done) | (simp; omega), rfl⟩
  · have HV := Lib.hid (show xdigitB c = false from decide_eq_false (by omega))
    go_enter Tryz.func49, Tryz.ntmps49
    go_wp2
    go_ret2
    exact ⟨by rw [HV.out]; first | rfl | (simp; done) | (simp; omega), rfl⟩
set_option maxRecDepth 100000 in
set_option maxHeartbeats 4000000 in
theorem rspace_calls (c : Int) (w : World) (h0 : 0 ≤ c) (h1 : c ≤ 255) : Calls Tryz.prog 49 #[.string ⟨#[115, 112, 97, 99, 101]⟩, .int .i64 c] w fun e w' => e = .returned (.tuple #[.bool (spaceB c), .bool true]) ∧ w' = w := by
  have e0 : ((⟨#[115, 112, 97, 99, 101]⟩ : ByteArray).toList == (⟨#[97, 108, 112, 104, 97]⟩ : ByteArray).toList) = false := by kernel_rfl
  have e1 : ((⟨#[115, 112, 97, 99, 101]⟩ : ByteArray).toList == (⟨#[100, 105, 103, 105, 116]⟩ : ByteArray).toList) = false := by kernel_rfl
  have e2 : ((⟨#[115, 112, 97, 99, 101]⟩ : ByteArray).toList == (⟨#[97, 108, 110, 117, 109]⟩ : ByteArray).toList) = false := by kernel_rfl
  have e3 : ((⟨#[115, 112, 97, 99, 101]⟩ : ByteArray).toList == (⟨#[117, 112, 112, 101, 114]⟩ : ByteArray).toList) = false := by kernel_rfl
  have e4 : ((⟨#[115, 112, 97, 99, 101]⟩ : ByteArray).toList == (⟨#[108, 111, 119, 101, 114]⟩ : ByteArray).toList) = false := by kernel_rfl
  have e5 : ((⟨#[115, 112, 97, 99, 101]⟩ : ByteArray).toList == (⟨#[120, 100, 105, 103, 105, 116]⟩ : ByteArray).toList) = false := by kernel_rfl
  have e6 : ((⟨#[115, 112, 97, 99, 101]⟩ : ByteArray).toList == (⟨#[115, 112, 97, 99, 101]⟩ : ByteArray).toList) = true := by kernel_rfl
  have hc : (0 ≤ c ∧ c ≤ 8) ∨ (9 ≤ c ∧ c ≤ 13) ∨ (14 ≤ c ∧ c ≤ 31) ∨ (32 ≤ c ∧ c ≤ 32) ∨ (33 ≤ c ∧ c ≤ 47) ∨ (48 ≤ c ∧ c ≤ 57) ∨ (58 ≤ c ∧ c ≤ 64) ∨ (65 ≤ c ∧ c ≤ 90) ∨ (91 ≤ c ∧ c ≤ 96) ∨ (97 ≤ c ∧ c ≤ 122) ∨ (123 ≤ c ∧ c ≤ 255) := by omega
  rcases hc with ⟨a, b⟩ | ⟨a, b⟩ | ⟨a, b⟩ | ⟨a, b⟩ | ⟨a, b⟩ | ⟨a, b⟩ | ⟨a, b⟩ | ⟨a, b⟩ | ⟨a, b⟩ | ⟨a, b⟩ | ⟨a, b⟩
  · have HV := Lib.hid (show spaceB c = false from decide_eq_false (by omega))
    go_enter Tryz.func49, Tryz.ntmps49
    go_wp2
    go_ret2
    exact ⟨by rw [HV.out]; first | rfl | (simp; done) | (simp; omega), rfl⟩
  · have HV := Lib.hid (show spaceB c = true from decide_eq_true (by omega))
    go_enter Tryz.func49, Tryz.ntmps49
    go_wp2
    go_ret2
    exact ⟨by rw [HV.out]; first | rfl | (simp; done) | (simp; omega), rfl⟩
  · have HV := Lib.hid (show spaceB c = false from decide_eq_false (by omega))
    go_enter Tryz.func49, Tryz.ntmps49
    go_wp2
    go_ret2
    exact ⟨by rw [HV.out]; first | rfl | (simp; done) | (simp; omega), rfl⟩
  · obtain rfl : c = 32 := by omega
    have HV := Lib.hid (show spaceB 32 = true from decide_eq_true (by omega))
    clear a b h0 h1
    go_enter Tryz.func49, Tryz.ntmps49
    go_wp2
    go_ret2
    exact ⟨by rw [HV.out]; first | rfl | (simp; done), rfl⟩
  · have HV := Lib.hid (show spaceB c = false from decide_eq_false (by omega))
    go_enter Tryz.func49, Tryz.ntmps49
    go_wp2
    go_ret2
    exact ⟨by rw [HV.out]; first | rfl | (simp; done) | (simp; omega), rfl⟩
  · have HV := Lib.hid (show spaceB c = false from decide_eq_false (by omega))
    go_enter Tryz.func49, Tryz.ntmps49
    go_wp2
    go_ret2
    exact ⟨by rw [HV.out]; first | rfl | (simp; done) | (simp; omega), rfl⟩
  · have HV := Lib.hid (show spaceB c = false from decide_eq_false (by omega))
    go_enter Tryz.func49, Tryz.ntmps49
    go_wp2
    go_ret2
    exact ⟨by rw [HV.out]; first | rfl | (simp; done) | (simp; omega), rfl⟩
  · have HV := Lib.hid (show spaceB c = false from decide_eq_false (by omega))
    go_enter Tryz.func49, Tryz.ntmps49
    go_wp2
    go_ret2
    exact ⟨by rw [HV.out]; first | rfl | (simp; done) | (simp; omega), rfl⟩
  · have HV := Lib.hid (show spaceB c = false from decide_eq_false (by omega))
    go_enter Tryz.func49, Tryz.ntmps49
    go_wp2
    go_ret2
    exact ⟨by rw [HV.out]; first | rfl | (simp; done) | (simp; omega), rfl⟩
  · have HV := Lib.hid (show spaceB c = false from decide_eq_false (by omega))
    go_enter Tryz.func49, Tryz.ntmps49
    go_wp2
    go_ret2
    exact ⟨by rw [HV.out]; first | rfl | (simp; done) | (simp; omega), rfl⟩
  · have HV := Lib.hid (show spaceB c = false from decide_eq_false (by omega))
    go_enter Tryz.func49, Tryz.ntmps49
    go_wp2
    go_ret2
    exact ⟨by rw [HV.out]; first | rfl | (simp; done) | (simp; omega), rfl⟩
end Go.Proofs.YtgkifphfibcfdaaGreatDoor.G
