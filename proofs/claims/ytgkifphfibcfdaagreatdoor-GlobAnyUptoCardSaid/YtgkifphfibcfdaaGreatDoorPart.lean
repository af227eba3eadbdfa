/- A part of a pattern in memory: 257 cells, told by a function; the twelve classes by their number. -/
import Derived.Test.YtgkifphfibcfdaaGreatDoorBase
import Derived.Test.YtgkifphfibcfdaaGreatDoorTable
import Derived.Test.YtgkifphfibcfdaaGreatDoorClasses
import Derived.Test.YtgkifphfibcfdaaGreatDoorReader
namespace Go.Proofs.YtgkifphfibcfdaaGreatDoor.G
open Go.RowKit Go.Proofs.YtgkifphfibcfdaaGreatDoor.B
set_option linter.unusedVariables false

def cellsOf (a : Bool) (T : Nat → Bool) : Array Value := ((Value.bool a) :: (List.range 256).map fun i => Value.bool (T i)).toArray
theorem cellsOf_size (a : Bool) (T : Nat → Bool) : (cellsOf a T).size = 257 := by simp [cellsOf]
theorem cellsOf_0 (a : Bool) (T : Nat → Bool) : (cellsOf a T)[0]? = some (.bool a) := by simp [cellsOf]
theorem cellsOf_at (a : Bool) (T : Nat → Bool) (i : Nat) (h : i < 256) : (cellsOf a T)[1 + i]? = some (.bool (T i)) := by
  have : 1 + i = i + 1 := by omega
  rw [this]
  simp [cellsOf, h]
def upd (T : Nat → Bool) (i : Nat) (v : Bool) : Nat → Bool := fun j => if j = i then v else T j
theorem cellsOf_congr (a : Bool) {T U : Nat → Bool} (h : ∀ i, i < 256 → T i = U i) : cellsOf a T = cellsOf a U := by
  unfold cellsOf
  congr 2
  refine List.map_congr_left fun i hi => ?_
  rw [h i (by simpa using hi)]
theorem cellsOf_set (a : Bool) (T : Nat → Bool) (i : Nat) (v : Bool) : (cellsOf a T).setIfInBounds (1 + i) (.bool v) = cellsOf a (upd T i v) := by
  apply Array.ext_getElem?
  intro j
  rw [Array.getElem?_setIfInBounds]
  by_cases hj : 1 + i = j
  · subst hj
    rw [if_pos rfl, cellsOf_size]
    by_cases hi : i < 256
    · rw [if_pos (by omega), cellsOf_at _ _ _ hi]; simp [upd]
    · rw [if_neg (by omega)]; rw [Array.getElem?_eq_none (by rw [cellsOf_size]; omega)]
  · rw [if_neg hj]
    rcases Nat.eq_zero_or_pos j with rfl | hp
    · rw [cellsOf_0, cellsOf_0]
    · obtain ⟨k, rfl⟩ : ∃ k, j = 1 + k := ⟨j - 1, by omega⟩
      by_cases hk : k < 256
      · rw [cellsOf_at _ _ _ hk, cellsOf_at _ _ _ hk]
        simp only [upd]
        rw [if_neg (by omega)]
      · rw [Array.getElem?_eq_none (by rw [cellsOf_size]; omega), Array.getElem?_eq_none (by rw [cellsOf_size]; omega)]
theorem cellsOf_set0 (a b : Bool) (T : Nat → Bool) : (cellsOf a T).setIfInBounds 0 (.bool b) = cellsOf b T := by
  simp [cellsOf]
theorem cellsOf_one (a : Bool) (T : Nat → Bool) : (cellsOf a T).all (·.oneCell') = true := by
  rw [Array.all_eq_true_iff_forall_mem]
  intro v hv
  simp only [cellsOf, List.mem_toArray, List.mem_cons, List.mem_map] at hv
  rcases hv with rfl | ⟨i, _, rfl⟩ <;> rfl
theorem size66 (a : Bool) (T : Nat → Bool) : (Tryz.prog.info? 66).map (·.size) = some (cellsOf a T).size := by
  rw [cellsOf_size]
  kernel_rfl
theorem zero66 : Tryz.zeroCells66 = cellsOf false (fun _ => false) := by kernel_rfl
/-- A part in memory. -/
def PartAt (w : World) (c : Nat) (a : Bool) (T : Nat → Bool) : Prop := w.heap[c]? = some (.cells (cellsOf a T) 66 (0, 0))
theorem PartAt.cell {w : World} {c : Nat} {a : Bool} {T : Nat → Bool} (h : PartAt w c a T) (i : Nat) (hi : i < 256) : w.cell? ⟨c, 1 + i, none⟩ = some (.bool (T i)) :=
  (cell_of_heap h _).trans (cellsOf_at a T i hi)
theorem PartAt.frozen {w : World} {c : Nat} {a : Bool} {T : Nat → Bool} (h : PartAt w c a T) (i : Nat) : w.frozen? ⟨c, i, none⟩ = false := frozen_of_heap h _
theorem PartAt.set {w : World} {c : Nat} {a : Bool} {T : Nat → Bool} (h : PartAt w c a T) (i : Nat) (v : Bool) : PartAt (w.setCell ⟨c, 1 + i, none⟩ (.bool v)) c a (upd T i v) := by
  have := hp_set h (1 + i) (.bool v)
  rw [cellsOf_set] at this
  exact this
theorem PartAt.congr {w : World} {c : Nat} {a : Bool} {T U : Nat → Bool} (h : PartAt w c a T) (e : ∀ i, i < 256 → T i = U i) : PartAt w c a U := by
  unfold PartAt at *
  rw [← cellsOf_congr a e]
  exact h

def cname (k : Nat) : ByteArray := match k with
  | 0 => ⟨#[97, 108, 112, 104, 97]⟩ | 1 => ⟨#[100, 105, 103, 105, 116]⟩ | 2 => ⟨#[97, 108, 110, 117, 109]⟩ | 3 => ⟨#[117, 112, 112, 101, 114]⟩
  | 4 => ⟨#[108, 111, 119, 101, 114]⟩ | 5 => ⟨#[120, 100, 105, 103, 105, 116]⟩ | 6 => ⟨#[115, 112, 97, 99, 101]⟩ | 7 => ⟨#[98, 108, 97, 110, 107]⟩
  | 8 => ⟨#[112, 117, 110, 99, 116]⟩ | 9 => ⟨#[112, 114, 105, 110, 116]⟩ | 10 => ⟨#[103, 114, 97, 112, 104]⟩ | _ => ⟨#[99, 110, 116, 114, 108]⟩
def cfid (k : Nat) : Nat := match k with
  | 0 => 91 | 1 => 94 | 2 => 95 | 3 => 92 | 4 => 93 | 5 => 96 | 6 => 97 | 7 => 98 | 8 => 99 | 9 => 101 | 10 => 100 | _ => 102
def chas (k : Nat) (c : Int) : Bool := match k with
  | 0 => alphaB c | 1 => digitB c | 2 => alnumB c | 3 => upperB c | 4 => lowerB c | 5 => xdigitB c | 6 => spaceB c | 7 => blankB c | 8 => punctB c | 9 => printB c | 10 => graphB c | _ => cntrlB c
theorem twelve {p : Nat → Prop} (k : Nat) (hk : k < 12) (h0 : p 0) (h1 : p 1) (h2 : p 2) (h3 : p 3) (h4 : p 4) (h5 : p 5) (h6 : p 6) (h7 : p 7) (h8 : p 8) (h9 : p 9) (h10 : p 10) (h11 : p 11) : p k := by
  rcases (show k = 0 ∨ k = 1 ∨ k = 2 ∨ k = 3 ∨ k = 4 ∨ k = 5 ∨ k = 6 ∨ k = 7 ∨ k = 8 ∨ k = 9 ∨ k = 10 ∨ k = 11 by omega) with h | h | h | h | h | h | h | h | h | h | h | h <;> subst h <;> assumption
theorem cls_name (k : Nat) (hk : k < 12) : clsCells[k * 2]? = some (.string (cname k)) := twelve (p := fun k => clsCells[k * 2]? = some (.string (cname k))) k hk rfl rfl rfl rfl rfl rfl rfl rfl rfl rfl rfl rfl
theorem cls_func (k : Nat) (hk : k < 12) : clsCells[k * 2 + 1]? = some (.func (.func (cfid k)) #[] #[]) := twelve (p := fun k => clsCells[k * 2 + 1]? = some (.func (.func (cfid k)) #[] #[])) k hk rfl rfl rfl rfl rfl rfl rfl rfl rfl rfl rfl rfl
theorem chas_calls (k : Nat) (hk : k < 12) (c : Int) (w : World) (h0 : 0 ≤ c) (h1 : c ≤ 255) : Calls Tryz.prog (cfid k) #[.int .u8 c] w fun e w' => e = .returned (.bool (chas k c)) ∧ w' = w :=
  twelve (p := fun k => Calls Tryz.prog (cfid k) #[.int .u8 c] w fun e w' => e = .returned (.bool (chas k c)) ∧ w' = w) k hk (alpha_calls c w h0 h1) (digit_calls c w h0 h1) (alnum_calls c w h0 h1) (upper_calls c w h0 h1) (lower_calls c w h0 h1) (xdigit_calls c w h0 h1) (space_calls c w h0 h1) (blank_calls c w h0 h1) (punct_calls c w h0 h1) (print_calls c w h0 h1) (graph_calls c w h0 h1) (cntrl_calls c w h0 h1)
theorem call_cfid (k : Nat) (hk : k < 12) (args : Array Value) (W : World) : (callFunc (cfid k) args).run Tryz.prog W = .ok (.enter (cfid k) args) W :=
  twelve (p := fun k => (callFunc (cfid k) args).run Tryz.prog W = .ok (.enter (cfid k) args) W) k hk (by kernel_rfl) (by kernel_rfl) (by kernel_rfl) (by kernel_rfl) (by kernel_rfl) (by kernel_rfl) (by kernel_rfl) (by kernel_rfl) (by kernel_rfl) (by kernel_rfl) (by kernel_rfl) (by kernel_rfl)
/-- A class as it is written: [:name:]. -/
def cpat (k : Nat) : ByteArray := (⟨#[91, 58]⟩ : ByteArray) ++ cname k ++ (⟨#[58, 93]⟩ : ByteArray)
theorem cname_size (k : Nat) : (cname k).size ≤ 6 := by unfold cname; split <;> decide
theorem cpat_len (k : Nat) : (cpat k).size = 2 + (cname k).size + 2 := by
  unfold cpat
  rw [ByteArray.size_append, ByteArray.size_append]
  rfl
theorem cpat_size (k : Nat) : (cpat k).size ≤ 10 := by
  have := cname_size k
  have h1 : (⟨#[91, 58]⟩ : ByteArray).size = 2 := rfl
  have h2 : (⟨#[58, 93]⟩ : ByteArray).size = 2 := rfl
  unfold cpat
  rw [ByteArray.size_append, ByteArray.size_append]
  omega
end Go.Proofs.YtgkifphfibcfdaaGreatDoor.G
