/- Merged out of these texts: NameW, NameB, NameC, Parts, ILaid. -/
import Derived.Test.YthojofeocjmglaaGreatDoorDk2
import Derived.Lib.OthersKept
import Derived.Laws.RangeAny
import Derived.Lib.DecodeN
import Derived.Scope
import Derived.Test.YthojofeocjmglaaGreatDoorRows
import Derived.Test.YthojofeocjmglaaGreatDoorDk1
import Derived.WalkKit
import Derived.ProofKit
import Derived.OpenShut
import Derived.ShutString
import Derived.Below
import Derived.Deep.DeepHandedRow
import Derived.LaidHandle
import Derived.Lib.SmallJoins
import Derived.JoinedCond
import Derived.Lay
/- Has a text a slash or a zero byte: the library's ContainsAny at all bytes; the program's Name. -/
namespace Go.Proofs.YthojofeocjmglaaGreatDoor.I
open Go.RowKit Go.Proofs.YthojofeocjmglaaGreatDoor.B Go.Sort
set_option linter.unusedVariables false
/-- The bytes that no name has. -/
def sz : ByteArray := ⟨#[47, 0]⟩
set_option maxRecDepth 100000 in
set_option maxHeartbeats 8000000 in
theorem indexrune_bad (w : World) : Calls Tryz.prog 143 #[.string ⟨#[47, 0]⟩, .int .i32 65533] w fun e w' => e = .returned (.int .i64 (-1)) ∧ Chg [] w w' := by
  have hr := fun (w : World) => run_range_string (P := Tryz.prog) w 9 ⟨#[47, 0]⟩ Tryz.underlying9
  go_enter Tryz.func143, Tryz.ntmps143
  go_wp2
  go_loopg [5, 6] 2 (fun g _ _ wx => ∃ i : Nat, i + g = 2 ∧ wx = w.iter ⟨#[47, 0]⟩ i)
  case atStart => exact ⟨0, rfl, rfl⟩
  case round =>
    obtain ⟨i, hi, rfl⟩ := hrel
    have hsz : (⟨#[47, 0]⟩ : ByteArray).size = 2 := rfl
    match gk, hi with
    | 0, hi =>
      obtain rfl : i = 2 := by omega
      have hnx := fun ty => run_next_end (P := Tryz.prog) w ⟨#[47, 0]⟩ 2 ty (by rw [hsz]; omega)
      go_wp2
      go_ret
      exact ⟨rfl, (Chg.refl _ _).alloc _⟩
    | 1, hi =>
      obtain rfl : i = 1 := by omega
      have hnx := fun ty => run_next_ascii (P := Tryz.prog) w ⟨#[47, 0]⟩ 1 ty (by rw [hsz]; omega) (by show (0 : UInt8).toNat < 128; decide)
      rw [show ((⟨#[47, 0]⟩ : ByteArray)[1]'(by rw [hsz]; omega)).toNat = 0 from rfl] at hnx
      go_wp2
      go_roundg 0
      case measure => omega
      case rel => exact ⟨2, rfl, rfl⟩
    | 2, hi =>
      obtain rfl : i = 0 := by omega
      have hnx := fun ty => run_next_ascii (P := Tryz.prog) w ⟨#[47, 0]⟩ 0 ty (by rw [hsz]; omega) (by show (47 : UInt8).toNat < 128; decide)
      rw [show ((⟨#[47, 0]⟩ : ByteArray)[0]'(by rw [hsz]; omega)).toNat = 47 from rfl] at hnx
      go_wp2
      go_roundg 1
      case measure => omega
      case rel => exact ⟨1, rfl, rfl⟩
    | g + 3, hi => omega
theorem conv_rune (c : Int) (W : World) : (convert 21 9 (.int .i32 c)).run Tryz.prog W = .ok (.string (Utf8.encode c)) W := by kernel_rfl
theorem encode_two {c : Nat} (h1 : 128 ≤ c) (h2 : c < 2048) : ∃ x y : UInt8, Utf8.encode (c : Int) = ⟨#[x, y]⟩ ∧ 128 ≤ y.toNat := by
  have hv : Utf8.valid (c : Int) = true := by unfold Utf8.valid; simp; omega
  refine ⟨UInt8.ofNat (0xC0 + c / 64), UInt8.ofNat (0x80 + c % 64), ?_, ?_⟩
  · unfold Utf8.encode
    simp only [hv, if_true, Int.toNat_natCast]
    rw [if_neg (by omega), if_pos h2]
  · rw [UInt8.toNat_ofNat']
    omega
theorem encode_more {c : Nat} (h2 : 2048 ≤ c) (hv : Lib.validRune (c : Int) = true) : (Utf8.encode (c : Int)).size = 3 ∨ (Utf8.encode (c : Int)).size = 4 := by
  unfold Utf8.encode
  simp only
  split
  · simp only [Int.toNat_natCast]
    rw [if_neg (by omega), if_neg (by omega)]
    split
    · exact .inl rfl
    · exact .inr rfl
  · exact .inl rfl
set_option maxRecDepth 100000 in
set_option maxHeartbeats 8000000 in
theorem indexrune_far (c : Nat) (h1 : 128 ≤ c) (hv : Lib.validRune (c : Int) = true) (hn : c ≠ 65533) (w : World) : Calls Tryz.prog 143 #[.string ⟨#[47, 0]⟩, .int .i32 (c : Int)] w fun e w' => e = .returned (.int .i64 (-1)) ∧ Chg [] w w' := by
  have t1 : ¬ ((c : Int) < 128) := by omega
  have t2 : ((c : Int) == 65533) = false := by simp; omega
  have HV := Asd.mk hv
  have hcv := fun W => conv_rune (c : Int) W
  by_cases h2 : c < 2048
  · obtain ⟨x, y, hE, hy⟩ := encode_two h1 h2
    rw [hE] at hcv
    have t3 : ((0 : Int) == (y.toNat : Int)) = false := by simp; omega
    have t4 : ((0 : Int) != (y.toNat : Int)) = true := by simp; omega
    clear hv hE h1 h2
    go_enter Tryz.func143, Tryz.ntmps143
    go_wp2_with fail
    refine (Tryz.utf8_ValidRune (c : Int) w).mono ?_
    rintro e w1 ⟨rfl, rfl⟩
    rw [HV.out]
    go_wp2
    refine wp_scope_straight ?_
    go_wp2
    go_loopg [9, 10] 1 (fun gk v9 v10 wx => w1 = wx ∧ gk = 1 ∧ v9 = .int .i64 1 ∧ v10 = .int .i64 0)
    case atStart => exact ⟨rfl, rfl, rfl, rfl⟩
    case round =>
      obtain ⟨rfl, rfl, rfl, rfl⟩ := hrel
      go_wp2
      first | refine wp_scope_straight ?_ | skip
      go_upto_region 6 with fail
      go_quiet (fail)
      have t5 : (((((⟨#[47, 0]⟩ : ByteArray)[1]'(by decide)).toNat : Nat) : Int) != (((⟨#[x, y]⟩ : ByteArray)[1]'(by show 1 < 2; omega)).toNat : Nat)) = true := t4
      have kw : IntKind.i64.wrap 2 = 2 := by decide
      have hib := fun (W : World) => show Calls Tryz.prog 165 #[.string ByteArray.empty, .int .u8 ((((⟨#[x, y]⟩ : ByteArray)[1]'(by show 1 < 2; omega)).toNat : Nat) : Int)] W fun e w' => e = .returned (.int .i64 (-1)) ∧ w' = W from Tryz.strings_IndexByte ByteArray.empty _ W
      go_upto_region 7 with fail
      have cI := quiet_of (w := w1.drewN nq) (fun W (hW : Chg [] (w1.drewN nq) W) => (hib W).mono fun e w' h => ⟨h.1, by rw [h.2]; exact Chg.refl _ _⟩)
      refine wp_region_quiet_below (by kernel_rfl) (by kernel_rfl) ?_
      repeat (quiet_step ((go_at_call 165; exact cI _ _)))
      refine wpQuiet_nil ?_
      rintro w' ⟨q, rfl⟩
      go_wp2
      rw [Exit.noGoto_ret, inBlock_ret, then_ret, inBlock_ret, then_ret, Exit.noGoto_ret]
      go_ret
      exact ⟨rfl, ((Chg.refl _ _).drewN nq).trans (chg_regrown _ _ _)⟩
  · have hE := encode_more (show 2048 ≤ c by omega) hv
    obtain ⟨E, hEe⟩ : ∃ E, Utf8.encode (c : Int) = E := ⟨_, rfl⟩
    rw [hEe] at hE hcv
    clear hv h1 h2 hEe
    rcases hE with hk | hk
    · go_enter Tryz.func143, Tryz.ntmps143
      go_wp2_with fail
      refine (Tryz.utf8_ValidRune (c : Int) w).mono ?_
      rintro e w1 ⟨rfl, rfl⟩
      rw [HV.out]
      go_wp2
      refine wp_scope_straight ?_
      go_wp2
      go_loopg [9, 10] 1 (fun gk v9 v10 wx => w1 = wx ∧ gk = 1 ∧ v9 = .int .i64 2 ∧ v10 = .int .i64 0)
      case atStart => exact ⟨rfl, rfl, rfl, rfl⟩
      case round =>
        obtain ⟨rfl, rfl, rfl, rfl⟩ := hrel
        go_wp2
        rw [Exit.noGoto_ret]
        go_ret
        exact ⟨rfl, Chg.refl _ _⟩
    · go_enter Tryz.func143, Tryz.ntmps143
      go_wp2_with fail
      refine (Tryz.utf8_ValidRune (c : Int) w).mono ?_
      rintro e w1 ⟨rfl, rfl⟩
      rw [HV.out]
      go_wp2
      refine wp_scope_straight ?_
      go_wp2
      go_loopg [9, 10] 1 (fun gk v9 v10 wx => w1 = wx ∧ gk = 1 ∧ v9 = .int .i64 3 ∧ v10 = .int .i64 0)
      case atStart => exact ⟨rfl, rfl, rfl, rfl⟩
      case round =>
        obtain ⟨rfl, rfl, rfl, rfl⟩ := hrel
        go_wp2
        rw [Exit.noGoto_ret]
        go_ret
        exact ⟨rfl, Chg.refl _ _⟩
/-- Has a text a slash or a zero byte? -/
def badB (l : List UInt8) : Bool := l.any fun b => b == 47 || b == 0
theorem contains_bad (b : UInt8) : (⟨#[47, 0]⟩ : ByteArray).data.toList.contains b = (b == 47 || b == 0) := by
  show ([47, 0] : List UInt8).contains b = _
  rw [List.contains_cons, List.contains_cons]
  simp only [List.contains_nil, Bool.or_false]
def bnI (s : ByteArray) (i : Nat) : Nat := if h : i < s.size then (s[i]'h).toNat else 0
theorem get_bnI {s : ByteArray} {i : Nat} (h : i < s.size) : (s.get! i).toNat = bnI s i := by
  unfold bnI
  rw [dif_pos h]
  have : s.get! i = s[i] := by
    show s.data[i]! = s.data[i]
    exact getElem!_pos s.data i h
  rw [this]
theorem dec_wide {s : ByteArray} {pos : Nat} (h : pos < s.size) (hb : 128 ≤ bnI s pos) : 128 ≤ (Utf8.decode s pos).1 ∧ Lib.validRune ((Utf8.decode s pos).1 : Int) = true ∧ 1 ≤ (Utf8.decode s pos).2 ∧ pos + (Utf8.decode s pos).2 ≤ s.size ∧ ∀ k, pos ≤ k → k < pos + (Utf8.decode s pos).2 → 128 ≤ bnI s k := by
  have hv : ∀ r : Nat, (r < 55296 ∨ 57343 < r ∧ r ≤ 1114111) → Lib.validRune (r : Int) = true := fun r hr => by
    unfold Lib.validRune
    exact decide_eq_true (by omega)
  rw [Lib.decode_at, get_bnI h]
  have hlt : ∀ k, (s.get! k).toNat < 256 := fun k => (s.get! k).toNat_lt
  have q1 := hlt (pos + 1); have q2 := hlt (pos + 2); have q3 := hlt (pos + 3)
  have q0 : bnI s pos < 256 := by rw [← get_bnI h]; exact hlt pos
  have c1 : ∀ j, j < s.size - pos → (s.get! (pos + j)).toNat / 64 = 2 → 128 ≤ bnI s (pos + j) := fun j hj h2 => by
    rw [get_bnI (by omega)] at h2
    omega
  have one : (128 ≤ 65533 ∧ Lib.validRune ((65533 : Nat) : Int) = true ∧ 1 ≤ 1 ∧ pos + 1 ≤ s.size ∧ ∀ k, pos ≤ k → k < pos + 1 → 128 ≤ bnI s k) := ⟨by omega, hv _ (by omega), Nat.le_refl _, h, fun k k1 k2 => by
    obtain rfl : k = pos := by omega
    exact hb⟩
  unfold Lib.decodeN
  rw [if_neg (by omega)]
  split
  · rename_i e1
    split
    · rename_i e2
      refine ⟨e2, hv _ (by simp only; omega), by simp, by simp only; omega, fun k k1 k2 => ?_⟩
      simp only at k2
      rcases (show k = pos ∨ k = pos + 1 by omega) with rfl | rfl
      · exact hb
      · exact c1 1 (by omega) e1.2.2
    · exact one
  · split
    · rename_i e1
      split
      · rename_i e2
        refine ⟨by simp only; omega, hv _ (by simp only; omega), by simp, by simp only; omega, fun k k1 k2 => ?_⟩
        simp only at k2
        rcases (show k = pos ∨ k = pos + 1 ∨ k = pos + 2 by omega) with rfl | rfl | rfl
        · exact hb
        · exact c1 1 (by omega) e1.2.1.2
        · exact c1 2 (by omega) e1.2.2.2
      · exact one
    · split
      · rename_i e1
        split
        · rename_i e2
          refine ⟨by simp only; omega, hv _ (by simp only; omega), by simp, by simp only; omega, fun k k1 k2 => ?_⟩
          simp only at k2
          rcases (show k = pos ∨ k = pos + 1 ∨ k = pos + 2 ∨ k = pos + 3 by omega) with rfl | rfl | rfl | rfl
          · exact hb
          · exact c1 1 (by omega) e1.2.1.2
          · exact c1 2 (by omega) e1.2.2.1.2
          · exact c1 3 (by omega) e1.2.2.2.2
        · exact one
      · exact one
theorem indexAny_bad : ∀ l : List UInt8, decide (0 ≤ Lib.indexAny l (⟨#[47, 0]⟩ : ByteArray).data.toList) = badB l
  | [] => rfl
  | b :: l => by
    have ih := indexAny_bad l
    unfold badB at ih ⊢
    rw [List.any_cons, ← ih, ← contains_bad b]
    have hge := Lib.indexAny_ge (⟨#[47, 0]⟩ : ByteArray).data.toList l
    show decide (0 ≤ if (⟨#[47, 0]⟩ : ByteArray).data.toList.contains b then (0 : Int) else if Lib.indexAny l (⟨#[47, 0]⟩ : ByteArray).data.toList == -1 then -1 else Lib.indexAny l (⟨#[47, 0]⟩ : ByteArray).data.toList + 1) = _
    cases (⟨#[47, 0]⟩ : ByteArray).data.toList.contains b with
    | true => rfl
    | false =>
      simp only [Bool.false_eq_true, if_false, Bool.false_or]
      by_cases h : Lib.indexAny l (⟨#[47, 0]⟩ : ByteArray).data.toList = -1
      · rw [h]; rfl
      · rw [show (Lib.indexAny l (⟨#[47, 0]⟩ : ByteArray).data.toList == -1) = false from beq_eq_false_iff_ne.2 h]
        rw [if_neg (show ¬ (false = true) by decide)]
        generalize Lib.indexAny l (⟨#[47, 0]⟩ : ByteArray).data.toList = a at hge h ⊢
        apply decide_eq_decide.2
        constructor <;> intro _ <;> omega
theorem Chg.iterAt {L : List Nat} {a b : World} (h : Chg L a b) {k : Nat} (hk : k < a.heap.size → k ∈ L) (s : ByteArray) (pos : Nat) : Chg L a (b.iterAt k s pos) :=
  ⟨h.os, h.tape, h.output, by
    show a.heap.size ≤ (b.heap.setIfInBounds k _).size
    simpa using h.size, fun i hi hn => by
    show (b.heap.setIfInBounds k _)[i]? = _
    rw [Array.getElem?_setIfInBounds_ne (by rintro rfl; exact hn (hk hi))]
    exact h.block i hi hn⟩
theorem bad_all {s : ByteArray} (h : ∀ j, j < s.size → bnI s j ≠ 47 ∧ bnI s j ≠ 0) : badB s.data.toList = false := by
  unfold badB
  rw [List.any_eq_false]
  intro b hb
  obtain ⟨i, hi, he⟩ := List.getElem_of_mem hb
  have hi2 : i < s.size := by simpa using hi
  have h1 := h i hi2
  have h2 : bnI s i = b.toNat := by
    unfold bnI
    rw [dif_pos hi2, ← he]
    rfl
  rw [h2] at h1
  simp only [Bool.or_eq_true, beq_iff_eq, not_or]
  exact ⟨fun e => h1.1 (by rw [e]; rfl), fun e => h1.2 (by rw [e]; rfl)⟩
theorem bad_one {s : ByteArray} {j : Nat} (hj : j < s.size) (h : bnI s j = 47 ∨ bnI s j = 0) : badB s.data.toList = true := by
  unfold badB
  rw [List.any_eq_true]
  have hl : j < s.data.toList.length := by simpa using hj
  refine ⟨s.data.toList[j], List.getElem_mem hl, ?_⟩
  have h2 : bnI s j = (s.data.toList[j]).toNat := by
    unfold bnI
    rw [dif_pos hj]
    rfl
  rw [h2] at h
  simp only [Bool.or_eq_true, beq_iff_eq]
  rcases h with h | h
  · exact .inl (UInt8.toNat_inj.1 h)
  · exact .inr (UInt8.toNat_inj.1 h)
theorem decide_ascii_bnI {s : ByteArray} {pos : Nat} (h : pos < s.size) (hb : bnI s pos < 128) : Utf8.decode s pos = (bnI s pos, 1) := by
  have e : bnI s pos = (s[pos]'h).toNat := by unfold bnI; rw [dif_pos h]
  rw [e] at hb ⊢
  exact decode_ascii s pos h hb
theorem index_sz {r : Nat} (h : r < 128) : Lib.indexByte (⟨#[47, 0]⟩ : ByteArray).data.toList ((r : Int)).toNat.toUInt8 = if r = 47 then 0 else if r = 0 then 1 else -1 := by
  have h2 : ((r : Int)).toNat.toUInt8.toNat = r := by
    rw [Int.toNat_natCast, Nat.toUInt8_eq, UInt8.toNat_ofNat']
    omega
  generalize ((r : Int)).toNat.toUInt8 = c at h2
  subst h2
  by_cases h47 : c = 47
  · subst h47; rfl
  · by_cases h0 : c = 0
    · subst h0; rfl
    · rw [if_neg (fun e => h47 (UInt8.toNat_inj.1 (e.trans rfl : c.toNat = (47 : UInt8).toNat))), if_neg (fun e => h0 (UInt8.toNat_inj.1 (e.trans rfl : c.toNat = (0 : UInt8).toNat)))]
      show Lib.indexByte [47, 0] c = -1
      simp [Lib.indexByte, Ne.symm h47, Ne.symm h0]
end Go.Proofs.YthojofeocjmglaaGreatDoor.I
/- Has a text a slash or a zero byte: the library's IndexAny, ContainsAny at all bytes; the program's Name. -/
namespace Go.Proofs.YthojofeocjmglaaGreatDoor.I
open Go.RowKit Go.Proofs.YthojofeocjmglaaGreatDoor.B Go.Sort
set_option linter.unusedVariables false
set_option maxRecDepth 100000 in
set_option maxHeartbeats 8000000 in
theorem indexany_short (s : ByteArray) (w : World) (h8 : s.size ≤ 8) : Calls Tryz.prog 113 #[.string s, .string ⟨#[47, 0]⟩] w fun e w' => ∃ n : Int, e = .returned (.int .i64 n) ∧ decide (0 ≤ n) = badB s.data.toList ∧ Chg [] w w' := by
  have h8z : decide ((8 : Int) < (s.size : Int)) = false := decide_eq_false (by omega)
  have hr := fun (w : World) => run_range_string (P := Tryz.prog) w 9 s Tryz.underlying9
  have hU := Asd.mk (fun W => Tryz.strings_shouldUseASCIISet (s.size : Int) W)
  go_enter Tryz.func113, Tryz.ntmps113
  go_wp2_with fail
  refine (hU.out w).mono ?_
  rintro e w1 ⟨rfl, rfl⟩
  rw [h8z]
  go_wp2
  go_loopg [9, 10] s.size (fun gk _ _ wx => ∃ pos : Nat, pos ≤ s.size ∧ gk = s.size - pos ∧ Asd (wx.heap[w1.heap.size]? = some (.stringIter s pos)) ∧ Asd (Chg [] w1 wx) ∧ Asd (∀ j, j < pos → bnI s j ≠ 47 ∧ bnI s j ≠ 0))
  case atStart => exact ⟨0, by omega, by omega, ⟨hp_new _ _⟩, ⟨(Chg.refl _ _).alloc _⟩, ⟨fun j hj => absurd hj (by omega)⟩⟩
  case round =>
    obtain ⟨pos, hp, rfl, HI, HC, HN⟩ := hrel
    by_cases hlt : pos < s.size
    · have hnx := fun ty => Lib.run_next_any_at (P := Tryz.prog) wr w1.heap.size s pos ty HI.out hlt
      obtain ⟨X, hX⟩ : ∃ X, Utf8.decode s pos = X := ⟨_, rfl⟩
      obtain ⟨r, wd⟩ := X
      rw [hX] at hnx
      simp only at hnx
      have hge := hlt
      by_cases hb : bnI s pos < 128
      · have hd := decide_ascii_bnI hlt hb
        rw [hX] at hd
        simp only [Prod.mk.injEq] at hd
        obtain ⟨hr1, rfl⟩ := hd
        have hI1 := Lib.iterAt_heap wr w1.heap.size s pos (pos + 1) HI.out
        have HC1 := Asd.mk (Chg.iterAt HC.out (k := w1.heap.size) (by omega) s (pos + 1))
        have HI1 := Asd.mk hI1
        have hcall := fun W => Tryz.strings_IndexRune_ascii ⟨#[47, 0]⟩ (r : Int) W (by omega) (by omega)
        have hix : Lib.indexByte (⟨#[47, 0]⟩ : ByteArray).data.toList ((r : Int)).toNat.toUInt8 = if r = 47 then 0 else if r = 0 then 1 else -1 := index_sz (by omega)
        rw [hix] at hcall
        have HCall := Asd.mk hcall
        have HR1 := Asd.mk hr1
        clear hX hI1 hcall hix hr
        by_cases hbad : bnI s pos = 47 ∨ bnI s pos = 0
        · have HB := Asd.mk (bad_one hlt hbad)
          have hsel : (if r = 47 then (0 : Int) else if r = 0 then 1 else -1) = 0 ∨ (if r = 47 then (0 : Int) else if r = 0 then 1 else -1) = 1 := by
            rw [hr1]
            rcases hbad with h | h
            · rw [h]; exact .inl rfl
            · rw [h]; exact .inr rfl
          clear hbad hr1
          rcases hsel with hq | hq
          · have hc := HCall.out
            rw [hq] at hc
            have HCall2 := Asd.mk hc
            clear hc hq
            go_wp2_with fail
            refine (HCall2.out _).mono ?_
            rintro e w2 ⟨rfl, rfl⟩
            go_wp2
            go_ret
            exact ⟨_, rfl, by rw [HB.out]; exact decide_eq_true (by omega), HC1.out⟩
          · have hc := HCall.out
            rw [hq] at hc
            have HCall2 := Asd.mk hc
            clear hc hq
            go_wp2_with fail
            refine (HCall2.out _).mono ?_
            rintro e w2 ⟨rfl, rfl⟩
            go_wp2
            go_ret
            exact ⟨_, rfl, by rw [HB.out]; exact decide_eq_true (by omega), HC1.out⟩
        · have HN2 := Asd.mk (show ∀ j, j < pos + 1 → bnI s j ≠ 47 ∧ bnI s j ≠ 0 from fun j hj => by
            by_cases e : j = pos
            · rw [e]; omega
            · exact HN.out j (by omega))
          have hq : (if r = 47 then (0 : Int) else if r = 0 then 1 else -1) = -1 := by
            rw [hr1, if_neg (by omega), if_neg (by omega)]
          have hc := HCall.out
          rw [hq] at hc
          have HCall2 := Asd.mk hc
          clear hc hq hbad hr1
          go_wp2_with fail
          refine (HCall2.out _).mono ?_
          rintro e w2 ⟨rfl, rfl⟩
          go_wp2
          go_roundg (s.size - (pos + 1))
          case rel => exact ⟨pos + 1, by omega, rfl, HI1, HC1, HN2⟩
          case measure => omega
      · obtain ⟨d1, d2, d3, d4, d5⟩ := dec_wide hlt (by omega)
        rw [hX] at d1 d2 d3 d4 d5
        simp only at d1 d2 d3 d4 d5
        have hI1 := Lib.iterAt_heap wr w1.heap.size s pos (pos + wd) HI.out
        have HC1 := Asd.mk (Chg.iterAt HC.out (k := w1.heap.size) (by omega) s (pos + wd))
        have HI1 := Asd.mk hI1
        have HN2 := Asd.mk (show ∀ j, j < pos + wd → bnI s j ≠ 47 ∧ bnI s j ≠ 0 from fun j hj => by
          by_cases e : pos ≤ j
          · have := d5 j e hj; omega
          · exact HN.out j (by omega))
        have HCall := Asd.mk (show ∀ W, Calls Tryz.prog 143 #[.string ⟨#[47, 0]⟩, .int .i32 (r : Int)] W fun e w' => e = .returned (.int .i64 (-1)) ∧ Chg [] W w' from fun W => by
          by_cases e : r = 65533
          · subst e; exact indexrune_bad W
          · exact indexrune_far r d1 d2 e W)
        clear hX hI1 hr d1 d2 d5 hb
        go_wp2_with fail
        refine (HCall.out _).mono ?_
        rintro e w2 ⟨rfl, hC2⟩
        have HC2 := Asd.mk (HC1.out.trans hC2)
        have HI2 := Asd.mk (hC2.heap HI1.out (by simp))
        clear hC2
        go_wp2
        go_roundg (s.size - (pos + wd))
        case rel => exact ⟨pos + wd, by omega, rfl, HI2, HC2, HN2⟩
        case measure => omega
    · obtain rfl : pos = s.size := by omega
      have hnx := fun ty => Lib.run_next_end_at (P := Tryz.prog) wr w1.heap.size s s.size ty HI.out (by omega)
      have HB := Asd.mk (bad_all HN.out)
      clear hr
      go_wp2
      go_ret
      exact ⟨_, rfl, by rw [HB.out]; rfl, HC.out⟩
end Go.Proofs.YthojofeocjmglaaGreatDoor.I
/- The program's Name. -/
namespace Go.Proofs.YthojofeocjmglaaGreatDoor.I
open Go.RowKit Go.Proofs.YthojofeocjmglaaGreatDoor.B Go.Sort
set_option linter.unusedVariables false
theorem zero_ascii (w : World) : (zeroValue 199).run Tryz.prog w = .ok (.agg (Array.replicate 256 (.bool false))) w := by kernel_rfl
theorem indexany_calls (s : ByteArray) (w : World) (hs : s.size < 4294967281) : Calls Tryz.prog 113 #[.string s, .string ⟨#[47, 0]⟩] w fun e w' => ∃ n : Int, e = .returned (.int .i64 n) ∧ decide (0 ≤ n) = badB s.data.toList ∧ Chg [] w w' := by
  by_cases h8 : s.size ≤ 8
  · exact indexany_short s w h8
  · refine (Tryz.strings_IndexAny_long zero_ascii s ⟨#[47, 0]⟩ w (by decide) (by omega) hs (by decide) (fun j b hb => ?_)).mono ?_
    · match j with
      | 0 => simp at hb; subst hb; decide
      | 1 => simp at hb; subst hb; decide
      | j + 2 => simp at hb
    · rintro e w' ⟨rfl, rfl⟩
      exact ⟨_, rfl, indexAny_bad _, ((Chg.refl _ _).alloc _).alloc _⟩
set_option maxRecDepth 100000 in
set_option maxHeartbeats 8000000 in
theorem contains_calls (s : ByteArray) (w : World) (hs : s.size < 4294967281) : Calls Tryz.prog 160 #[.string s, .string ⟨#[47, 0]⟩] w fun e w' => e = .returned (.bool (badB s.data.toList)) ∧ Chg [] w w' := by
  have H := Asd.mk (indexany_calls s w hs)
  go_enter Tryz.func160, Tryz.ntmps160
  go_wp2_with fail
  refine H.out.mono ?_
  rintro e w1 ⟨n, rfl, hn, hC⟩
  have HC := Asd.mk hC
  clear hC
  have HN := Asd.mk hn
  clear hn
  go_wp2
  go_ret
  exact ⟨by rw [← HN.out]; rfl, HC.out⟩
def errI (n : Nat) : Value := .iface 88 (.int .i64 (n : Int))
/-- The answer of Name. -/
def nameV (n : Nm) : Value := if okNm n = true then .nilIface else .iface 88 (.int .i64 30)
theorem toList_nb (n : Nm) : (nb n).toList = n := by rw [ByteArray.toList_eq, list_nb]
theorem bad_ok {n : Nm} : okNm n = true ↔ n ≠ [] ∧ n.length ≤ 255 ∧ n ≠ [46] ∧ n ≠ [46, 46] ∧ badB n = false := by
  unfold okNm badB
  rw [decide_eq_true_eq, List.any_eq_false]
  constructor
  · rintro ⟨h1, h2, h3, h4, h5, h6⟩
    refine ⟨h1, h2, h3, h4, fun b hb => ?_⟩
    simp only [Bool.or_eq_true, beq_iff_eq, not_or]
    exact ⟨fun e => h5 (by rw [← e]; exact hb), fun e => h6 (by rw [← e]; exact hb)⟩
  · rintro ⟨h1, h2, h3, h4, h5⟩
    refine ⟨h1, h2, h3, h4, fun hm => ?_, fun hm => ?_⟩
    · exact absurd (h5 _ hm) (by decide)
    · exact absurd (h5 _ hm) (by decide)
set_option maxRecDepth 100000 in
set_option maxHeartbeats 8000000 in
theorem name_calls (n : Nm) (w : World) (hs : n.length ≤ 4194304) : Calls Tryz.prog 140 #[.string (nb n)] w fun e w' => e = .returned (nameV n) ∧ Chg [] w w' := by
  have hz := nb_size n
  have htl := toList_nb n
  have H := Asd.mk (contains_calls (nb n) w (by omega))
  rw [list_nb] at H
  obtain ⟨s, hS⟩ : ∃ s, nb n = s := ⟨_, rfl⟩
  rw [hS] at hz htl H ⊢
  have hC0 := Chg.refl [] w
  clear hS
  by_cases h0 : n = []
  · have HV := Asd.mk (show nameV n = .iface 88 (.int .i64 30) by unfold nameV; rw [if_neg]; rw [bad_ok]; rintro ⟨h, _⟩; exact h h0)
    have te : s.toList.isEmpty = true := by rw [htl, h0]; rfl
    clear htl h0 hz
    go_enter Tryz.func140, Tryz.ntmps140
    go_wp2
    go_ret
    exact ⟨by rw [HV.out]; rfl, hC0⟩
  · have te : s.toList.isEmpty = false := by rw [htl]; cases n with | nil => exact absurd rfl h0 | cons _ _ => rfl
    by_cases h1 : 255 < n.length
    · have HV := Asd.mk (show nameV n = .iface 88 (.int .i64 30) by unfold nameV; rw [if_neg]; rw [bad_ok]; rintro ⟨_, h, _⟩; omega)
      have k1 : (255 : Int) < (s.size : Int) := by omega
      clear htl h0 hz
      go_enter Tryz.func140, Tryz.ntmps140
      go_wp2
      go_ret
      exact ⟨by rw [HV.out]; rfl, hC0⟩
    · have k1 : ¬ (255 : Int) < (s.size : Int) := by omega
      by_cases h2 : n = [46]
      · have HV := Asd.mk (show nameV n = .iface 88 (.int .i64 30) by unfold nameV; rw [if_neg]; rw [bad_ok]; rintro ⟨_, _, h, _⟩; exact h h2)
        have t2 : (s.toList == [46]) = true := by rw [htl, h2]; rfl
        clear htl h0 hz h2
        go_enter Tryz.func140, Tryz.ntmps140
        go_wp2
        go_ret
        exact ⟨by rw [HV.out]; rfl, hC0⟩
      · have t2 : (s.toList == [46]) = false := by rw [htl]; exact beq_eq_false_iff_ne.2 h2
        by_cases h3 : n = [46, 46]
        · have HV := Asd.mk (show nameV n = .iface 88 (.int .i64 30) by unfold nameV; rw [if_neg]; rw [bad_ok]; rintro ⟨_, _, _, h, _⟩; exact h h3)
          have t3 : (s.toList == [46, 46]) = true := by rw [htl, h3]; rfl
          clear htl h0 hz h2 h3
          go_enter Tryz.func140, Tryz.ntmps140
          go_wp2
          go_ret
          exact ⟨by rw [HV.out]; rfl, hC0⟩
        · have t3 : (s.toList == [46, 46]) = false := by rw [htl]; exact beq_eq_false_iff_ne.2 h3
          cases hb : badB n with
          | true =>
            have HV := Asd.mk (show nameV n = .iface 88 (.int .i64 30) by unfold nameV; rw [if_neg]; rw [bad_ok]; rintro ⟨_, _, _, _, h⟩; rw [hb] at h; cases h)
            have h := H.out
            rw [hb] at h
            have HH := Asd.mk h
            clear htl h0 hz h2 h3 H h hb
            go_enter Tryz.func140, Tryz.ntmps140
            go_wp2_with fail
            refine HH.out.mono ?_
            rintro e w1 ⟨rfl, hC⟩
            have HC := Asd.mk hC
            clear hC
            go_wp2
            go_ret
            exact ⟨by rw [HV.out]; rfl, HC.out⟩
          | false =>
            have HV := Asd.mk (show nameV n = .nilIface by unfold nameV; rw [if_pos]; rw [bad_ok]; exact ⟨h0, by omega, h2, h3, hb⟩)
            have h := H.out
            rw [hb] at h
            have HH := Asd.mk h
            clear htl h0 hz h2 h3 H h hb
            go_enter Tryz.func140, Tryz.ntmps140
            go_wp2_with fail
            refine HH.out.mono ?_
            rintro e w1 ⟨rfl, hC⟩
            have HC := Asd.mk hC
            clear hC
            go_wp2
            go_ret
            exact ⟨by rw [HV.out]; rfl, HC.out⟩
end Go.Proofs.YthojofeocjmglaaGreatDoor.I
/- The program's Parts: the walk. -/
namespace Go.Proofs.YthojofeocjmglaaGreatDoor.I
open Go.RowKit Go.Proofs.YthojofeocjmglaaGreatDoor.B Go.Sort
set_option linter.unusedVariables false
/-- internal/bytealg.MaxLen is a number. -/
def MaxLenAt (w : World) : Prop := ∃ m : Int, w.cell? ⟨1, 0, none⟩ = some (.int .i64 m)
theorem MaxLenAt.chg {w w' : World} (h : MaxLenAt w) (hc : Chg [] w w') : MaxLenAt w' := by
  obtain ⟨m, hm⟩ := h
  exact ⟨m, (hc.below.cell (World.block_lt_of_cell? w _ hm)).trans hm⟩
/-- What Parts leaves: a row of names (nil, where there is none), or an error. -/
def PartsPost (R : Except Nat Pth) (e : Ending) (w' : World) : Prop := match R with
  | .ok p => (p = [] ∧ e = .returned (.tuple #[.slice none 0 0, .nilIface])) ∨ (p ≠ [] ∧ ∃ g, e = .returned (.tuple #[.slice (some ⟨g, 0, none⟩) p.length p.length, .nilIface]) ∧ NmR w' g 0 p)
  | .error n => e = .returned (.tuple #[.slice none 0 0, .iface 88 (.int .i64 (n : Int))])
theorem nameV_ok {n : Nm} (h : okNm n = true) : nameV n = .nilIface := if_pos h
theorem nameV_bad {n : Nm} (h : okNm n = false) : nameV n = .iface 88 (.int .i64 30) := if_neg (by rw [h]; decide)
theorem spL_size (c : UInt8) : ∀ (l : List UInt8) (p : List UInt8), p ∈ spL c l → p.length ≤ l.length
  | [], p, h => by simp [spL] at h; rw [h]; simp
  | b :: l, p, h => by
    simp only [spL] at h
    have ih := spL_size c l
    by_cases hb : b = c
    · rw [if_pos hb] at h
      rcases List.mem_cons.1 h with rfl | h
      · simp
      · have := ih p h; rw [List.length_cons]; omega
    · rw [if_neg hb] at h
      cases hs : spL c l with
      | nil => exact absurd hs (spL_ne c l)
      | cons q r =>
        rw [hs] at h ih
        simp only [glue] at h
        rcases List.mem_cons.1 h with rfl | h
        · have := ih q (by simp); simp; omega
        · have := ih p (by simp [h]); rw [List.length_cons]; omega
theorem spL_count (c : UInt8) : ∀ l : List UInt8, (spL c l).length ≤ l.length + 1
  | [] => by simp [spL]
  | b :: l => by
    have ih := spL_count c l
    simp only [spL]
    by_cases hb : b = c
    · rw [if_pos hb]; simp; omega
    · rw [if_neg hb]
      cases hs : spL c l with
      | nil => exact absurd hs (spL_ne c l)
      | cons q r => rw [hs] at ih; simp [glue] at ih ⊢; omega
set_option maxRecDepth 100000 in
set_option maxHeartbeats 8000000 in
theorem parts_calls (s : ByteArray) (w : World) (hm : MaxLenAt w) (hs : s.size ≤ 4294967280) : Calls Tryz.prog 105 #[.string s] w fun e w' => PartsPost (partsF s) e w' ∧ Chg [] w w' := by
  have hC0 := Chg.refl [] w
  by_cases h1 : 4096 < s.size
  · have HP := Asd.mk (show partsF s = .error 2 by unfold partsF; rw [if_pos h1])
    have k1 : (4096 : Int) < (s.size : Int) := by omega
    clear h1
    go_enter Tryz.func105, Tryz.ntmps105
    go_wp2
    go_ret2
    exact ⟨by rw [HP.out]; exact rfl, hC0⟩
  · have k1 : ¬ (4096 : Int) < (s.size : Int) := by omega
    by_cases h0 : s.size = 0
    · have HP := Asd.mk (show partsF s = .ok [] by unfold partsF; rw [if_neg h1, if_pos h0])
      have te : s.toList.isEmpty = true := by
        rw [ByteArray.toList_eq]
        have : s.data.toList.length = 0 := by simpa using h0
        rw [List.length_eq_zero_iff.1 this]; rfl
      clear h1 h0
      go_enter Tryz.func105, Tryz.ntmps105
      go_wp2
      go_ret2
      exact ⟨by rw [HP.out]; exact .inl ⟨rfl, rfl⟩, hC0⟩
    · have te : s.toList.isEmpty = false := by
        rw [ByteArray.toList_eq]
        cases hl : s.data.toList with
        | nil => exact absurd (by have := congrArg List.length hl; simpa using this) h0
        | cons _ _ => rfl
      obtain ⟨l, hl⟩ : ∃ l, spL 47 s.data.toList = l := ⟨_, rfl⟩
      have hsp : Calls Tryz.prog 139 #[.string s, .string ⟨#[47]⟩] w fun e w' => e = .returned (.slice (some ⟨w.heap.size, 0, none⟩) l.length l.length) ∧ w' = w.alloc (.cells ((l.map fun n => Value.string (nb n)).toArray) 9) := by
        obtain ⟨m, hm⟩ := hm
        refine (Tryz.strings_Split s ⟨#[47]⟩ m w (by omega) hm (Nat.le_refl 1)).mono ?_
        rintro e w' ⟨rfl, rfl⟩
        rw [split_len, split_nb, hl, List.map_map]
        exact ⟨rfl, rfl⟩
      have hlne : l ≠ [] := by rw [← hl]; exact spL_ne 47 _
      have hln : ∀ n ∈ l, n.length ≤ 4096 := fun n hn => by
        have := spL_size 47 s.data.toList n (by rw [hl]; exact hn)
        have h2 : s.data.toList.length = s.size := by simp
        omega
      have hlc : l.length ≤ 4097 := by
        have := spL_count 47 s.data.toList
        have h2 : s.data.toList.length = s.size := by simp
        rw [hl] at this
        omega
      have HPF := Asd.mk (show partsF s = if l.all okNm = false then .error 30 else if 64 < l.length then .error 2 else .ok l by unfold partsF; rw [if_neg h1, if_neg h0, hl])
      have HSp := Asd.mk hsp
      have hal : Chg [] w (w.alloc (.cells ((l.map fun n => Value.string (nb n)).toArray) 9)) := hC0.alloc _
      have hro : NmR (w.alloc (.cells ((l.map fun n => Value.string (nb n)).toArray) 9)) w.heap.size 0 l := ⟨_, hp_new _ _, fun i hi => by
        rw [Nat.zero_add]
        simp [List.getElem?_eq_getElem hi]⟩
      have HAl := Asd.mk hal
      have HRo := Asd.mk hro
      have HLn := Asd.mk hln
      clear hsp hal hro hl h1 h0 hm hln hC0
      go_enter Tryz.func105, Tryz.ntmps105
      go_wp2_with fail
      refine HSp.out.mono ?_
      rintro e w1 ⟨rfl, hw1⟩
      have HC1 := Asd.mk (show Chg [] w w1 by rw [hw1]; exact HAl.out)
      have HR1 := Asd.mk (show NmR w1 w.heap.size 0 l by rw [hw1]; exact HRo.out)
      obtain ⟨g, hg⟩ : ∃ g, w.heap.size = g := ⟨_, rfl⟩
      rw [hg] at HR1 ⊢
      clear hw1 HSp HAl HRo
      go_wp2
      go_loopg [17] (l.length + 1) (fun gk v17 wx => ∃ i : Nat, i ≤ l.length ∧ gk = l.length + 1 - i ∧ v17 = .int .i64 (i : Int) ∧ Asd (∀ n ∈ l.take i, okNm n = true) ∧ Asd (Chg [] w1 wx))
      case atStart => exact ⟨0, by omega, rfl, rfl, ⟨by simp⟩, ⟨Chg.refl _ _⟩⟩
      case round =>
        obtain ⟨i, hi, rfl, rfl, HO, HC⟩ := hrel
        by_cases hlt : i < l.length
        · obtain ⟨n, hn⟩ : ∃ n, l[i] = n := ⟨_, rfl⟩
          have hcell : wr.cell? ⟨g, i, none⟩ = some (.string (nb n)) := by
            have h := (HR1.out.keep HC.out (by simp)).cell hlt
            rw [Nat.zero_add, hn] at h
            exact h
          have k2 : (i : Int) < (l.length : Int) := by omega
          have hcall := name_calls n wr (by have := HLn.out n (by rw [← hn]; exact List.getElem_mem hlt); omega)
          cases hok : okNm n with
          | true =>
            rw [nameV_ok hok] at hcall
            have HCall := Asd.mk hcall
            have HO2 := Asd.mk (show ∀ m ∈ l.take (i + 1), okNm m = true by
              intro m hm
              rw [List.take_succ_eq_append_getElem hlt, List.mem_append] at hm
              rcases hm with hm | hm
              · exact HO.out m hm
              · simp at hm; rw [hm, hn]; exact hok)
            clear hn hcall hok HO
            go_wp2_with fail
            refine HCall.out.mono ?_
            rintro e w2 ⟨rfl, hC2⟩
            have HC2 := Asd.mk (HC.out.trans hC2)
            clear hC2
            go_wp2
            go_roundg (l.length + 1 - (i + 1))
            case rel => exact ⟨i + 1, by omega, by omega, by go_num, HO2, HC2⟩
            case measure => omega
          | false =>
            rw [nameV_bad hok] at hcall
            have HCall := Asd.mk hcall
            have HP := Asd.mk (show partsF s = .error 30 by
              rw [HPF.out, if_pos]
              rw [List.all_eq_false]
              exact ⟨n, by rw [← hn]; exact List.getElem_mem hlt, by rw [hok]; decide⟩)
            clear hn hcall hok HO
            go_wp2_with fail
            refine HCall.out.mono ?_
            rintro e w2 ⟨rfl, hC2⟩
            have HC2 := Asd.mk (HC1.out.trans (HC.out.trans hC2))
            clear hC2
            go_wp2
            go_ret2
            exact ⟨by rw [HP.out]; exact rfl, HC2.out⟩
        · obtain rfl : i = l.length := by omega
          have hall : l.all okNm = true := by
            rw [List.all_eq_true]
            have := HO.out
            rw [List.take_length] at this
            exact this
          have HC2 := Asd.mk (HC1.out.trans HC.out)
          have HR2 := Asd.mk (HR1.out.keep HC.out (by simp))
          by_cases h64 : 64 < l.length
          · have k3 : (64 : Int) < (l.length : Int) := by omega
            have HP := Asd.mk (show partsF s = .error 2 by rw [HPF.out, if_neg (by rw [hall]; decide), if_pos h64])
            clear hall HO
            go_wp2
            go_ret2
            exact ⟨by rw [HP.out]; exact rfl, HC2.out⟩
          · have k3 : ¬ (64 : Int) < (l.length : Int) := by omega
            have HP := Asd.mk (show partsF s = .ok l by rw [HPF.out, if_neg (by rw [hall]; decide), if_neg h64])
            clear hall HO
            go_wp2
            go_ret2
            exact ⟨by rw [HP.out]; exact .inr ⟨hlne, g, rfl, HR2.out⟩, HC2.out⟩
end Go.Proofs.YthojofeocjmglaaGreatDoor.I
/- The listed variables of the rows: a world that meets them; internal/bytealg.MaxLen is a number. -/
namespace Go.Proofs.YthojofeocjmglaaGreatDoor.I
open Go.ChangeShapes Go.WideShapes Go.ChangeAt Go.RowKit Go.Proofs.YthojofeocjmglaaGreatDoor.B
set_option linter.unusedVariables false
abbrev laidOne {H : Type} : List (String × DataW H) := [("errors.errorType", Rows.laid_errors_errorType)]
abbrev laidTwo : List (String × DataW Unit) := [("unicode/utf8.acceptRanges", Rows.laid_unicode_utf8_acceptRanges), ("unicode/utf8.first", Rows.laid_unicode_utf8_first)]
abbrev laidThree : List (String × DataW Unit) := [("unicode/utf8.acceptRanges", Rows.laid_unicode_utf8_acceptRanges), ("errors.errorType", Rows.laid_errors_errorType), ("unicode/utf8.first", Rows.laid_unicode_utf8_first)]
theorem laidOut : laidOutB Tryz.prog = true := by kernel_rfl
theorem own : ownKnob Tryz.prog.godebug = none := by kernel_rfl
theorem et : Tryz.prog.globalNamed "errors.errorType" = some 0 := by kernel_rfl
theorem rt : (Tryz.prog.cutTypes.find? (·.1 == "internal/reflectlite.rtype")).map (·.2) = some 170 := by kernel_rfl
theorem oneRow : ((List.range Tryz.prog.types.size).filter fun t => Tryz.prog.rowNamed t [101, 114, 114, 111, 114]) = [27] := by kernel_rfl
/-- What the row's list gives a walk. -/
theorem errType_of_laid {W : World} (h : laidMetH Tryz.prog laidOne W) : ErrType W := by
  have h' : laidMet Tryz.prog [] W ∧ handlesMet Tryz.prog laidOne W := h
  obtain ⟨name, u, ty, e1, e2, e3, e4, e5⟩ := h'.2 _ (List.mem_singleton.2 rfl)
  have en : name = [101, 114, 114, 111, 114] := (Option.some.inj e1).symm
  subst en
  obtain rfl := Option.some.inj (rt.symm.trans e2)
  have hm : ty ∈ (List.range Tryz.prog.types.size).filter fun t => Tryz.prog.rowNamed t [101, 114, 114, 111, 114] := List.mem_filter.2 ⟨List.mem_range.2 e3, e4⟩
  rw [oneRow] at hm
  obtain rfl := List.mem_singleton.1 hm
  have hh : typeHandle Tryz.prog 27 = .pointer (some ⟨4, 27, none⟩) := by kernel_rfl
  rw [hh] at e5
  simpa [ErrType] using World.var?_cell et e5 0
/-- A world that meets it: the settled one, the variable's cell laid. -/
noncomputable def laidWorld (os : Os) : World :=
  { World.holding Tryz.prog os ⟨#[], #[], []⟩ with heap := (World.holding Tryz.prog os ⟨#[], #[], []⟩).heap.modify 0 fun
      | .cells _ t frozen => .cells #[.iface 170 (.agg #[.pointer (some ⟨4, 27, none⟩)])] t frozen
      | o => o }
theorem errType_of_three {W : World} (h : laidMetH Tryz.prog laidThree W) : ErrType W := by
  have h' : laidMet Tryz.prog laidTwo W ∧ handlesMet Tryz.prog laidOne W := h
  exact errType_of_laid (show laidMet Tryz.prog [] W ∧ handlesMet Tryz.prog laidOne W from ⟨laidMet_nil _ _, h'.2⟩)
set_option maxRecDepth 100000 in
theorem maxLen_of_shaped {W : World} (h : W.ShapedOpen Tryz.prog) : MaxLenAt W := by
  obtain ⟨cs, hh, hs, hr⟩ := h.1 1 #[.int .i64 0] 3 (of_decide_eq_true (by kernel_rfl)) (by kernel_rfl)
  obtain ⟨ts, hts, hlen, hall⟩ := hr (by kernel_rfl)
  have hc : Tryz.prog.cellTypes Tryz.prog.depth 3 = some [3] := by kernel_rfl
  rw [hc] at hts
  obtain rfl := Option.some.inj hts
  have h1 : 0 < cs.size := by rw [hs]; decide
  obtain ⟨u, hu', hok⟩ := hall 0 cs[0] (by simp [h1])
  have hu3 : u = 3 := by simpa using hu'.symm
  subst hu3
  have hcell : W.cell? ⟨1, 0, none⟩ = some cs[0] := by simp [World.cell?, hh, h1]
  unfold MaxLenAt
  rw [hcell]
  unfold Cell.ok at hok
  rw [Tryz.underlying3] at hok
  cases hv : cs[0] <;> rw [hv] at hok <;> first | (simp at hok; done) | skip
  obtain ⟨rfl, _⟩ := hok
  exact ⟨_, rfl⟩
noncomputable def laidWorld3 (os : Os) : World := (laidWorld os).layVars Tryz.prog laidTwo
theorem laidWorld3_os (os : Os) : (laidWorld3 os).os = os := World.layVars_os _ _ _
theorem laid_met3 (os : Os) (args : Array Value) : laidMetH Tryz.prog laidThree ((laidWorld3 os).forCall (fun _ _ => 0) ⟨#[], args, []⟩).memory :=
  laidMetH_of_parts
    (laidMet_layVars (w0 := laidWorld os) ["unicode/utf8.acceptRanges", "unicode/utf8.first"] [] (by simp [World.memory, World.forCall, Input.heap]; rfl) (by kernel_rfl) (by kernel_rfl) LaidIn.none)
    (by kernel_rfl)
end Go.Proofs.YthojofeocjmglaaGreatDoor.I
