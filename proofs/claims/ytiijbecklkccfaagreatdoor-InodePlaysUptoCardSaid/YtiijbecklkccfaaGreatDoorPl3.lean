/- Merged out of these texts: NameB, NameC, Parts, ILaid, IRow, Way. -/
import Derived.Test.YtiijbecklkccfaaGreatDoorPl2
import Derived.Test.YtiijbecklkccfaaGreatDoorRows
import Derived.Test.YtiijbecklkccfaaGreatDoorPl1
import Derived.WalkKit
import Derived.ProofKit
import Derived.OpenShut
import Derived.ShutString
import Derived.Below
import Derived.Deep.DeepHandedRow
import Derived.LaidHandle
import Derived.Lib.SmallJoins
import Derived.JoinedCond
import Derived.Lay
import Derived.Great.BuildSlice
import Derived.Great.FillDense
/- Has a text a slash or a zero byte: the library's IndexAny, ContainsAny at all bytes; the program's Name. -/
namespace Go.Proofs.YtiijbecklkccfaaGreatDoor.I
open Go.RowKit Go.Proofs.YtiijbecklkccfaaGreatDoor.B Go.Sort
set_option linter.unusedVariables false
set_option maxRecDepth 100000 in
set_option maxHeartbeats 8000000 in
theorem indexany_short (s : ByteArray) (w : World) (h8 : s.size ≤ 8) : Calls Tryz.prog 108 #[.string s, .string ⟨#[47, 0]⟩] w fun e w' => ∃ n : Int, e = .returned (.int .i64 n) ∧ decide (0 ≤ n) = badB s.data.toList ∧ Chg [] w w' := by
  have h8z : decide ((8 : Int) < (s.size : Int)) = false := decide_eq_false (by omega)
  have hr := fun (w : World) => run_range_string (P := Tryz.prog) w 9 s Tryz.underlying9
  have hU := Asd.mk (fun W => Tryz.strings_shouldUseASCIISet (s.size : Int) W)
  go_enter Tryz.func108, Tryz.ntmps108
  go_wp2_with fail
  refine (hU.out w).mono ?_
  rintro e w1 ⟨rfl, rfl⟩
  rw [h8z]
  go_wp2
  go_loopg [9, 10] s.size (fun gk _ _ wx => ∃ pos : Nat, pos ≤ s.size ∧ gk = s.size - pos ∧ Asd (wx.heap[w1.heap.size]? = some (.stringIter s pos)) ∧ Asd (Chg [] w1 wx) ∧ Asd (∀ j, j < pos → bnI s j ≠ 47 ∧ bnI s j ≠ 0))
  case atStart => exact ⟨0, by omega, by omega, ⟨hp_new _ _⟩, ⟨(Chg.refl _ _).alloc _⟩, ⟨fun j hj => absurd hj (by omega)⟩⟩
  case round =>
    obtain ⟨pos, hp, rfl, HI, HC, HN⟩ := hrel
    by_cases hlt : pos < s.size
    · have hnx := fun ty => Lib.run_next_any_at (P := Tryz.prog) wr w1.heap.size s pos ty HI.out hlt
      obtain ⟨X, hX⟩ : ∃ X, Utf8.decode s pos = X := ⟨_, rfl⟩
      obtain ⟨r, wd⟩ := X
      rw [hX] at hnx
      simp only at hnx
      have hge := hlt
      by_cases hb : bnI s pos < 128
      · have hd := decide_ascii_bnI hlt hb
        rw [hX] at hd
        simp only [Prod.mk.injEq] at hd
        obtain ⟨hr1, rfl⟩ := hd
        have hI1 := Lib.iterAt_heap wr w1.heap.size s pos (pos + 1) HI.out
        have HC1 := Asd.mk (Chg.iterAt HC.out (k := w1.heap.size) (by omega) s (pos + 1))
        have HI1 := Asd.mk hI1
        have hcall := fun W => Tryz.strings_IndexRune_ascii ⟨#[47, 0]⟩ (r : Int) W (by omega) (by omega)
        have hix : Lib.indexByte (⟨#[47, 0]⟩ : ByteArray).data.toList ((r : Int)).toNat.toUInt8 = if r = 47 then 0 else if r = 0 then 1 else -1 := index_sz (by omega)
        rw [hix] at hcall
        have HCall := Asd.mk hcall
        have HR1 := Asd.mk hr1
        clear hX hI1 hcall hix hr
        by_cases hbad : bnI s pos = 47 ∨ bnI s pos = 0
        · have HB := Asd.mk (bad_one hlt hbad)
          have hsel : (if r = 47 then (0 : Int) else if r = 0 then 1 else -1) = 0 ∨ (if r = 47 then (0 : Int) else if r = 0 then 1 else -1) = 1 := by
            rw [hr1]
            rcases hbad with h | h
            · rw [h]; exact .inl rfl
            · rw [h]; exact .inr rfl
          clear hbad hr1
          rcases hsel with hq | hq
          · have hc := HCall.out
            rw [hq] at hc
            have HCall2 := Asd.mk hc
            clear hc hq
            go_wp2_with fail
            refine (HCall2.out _).mono ?_
            rintro e w2 ⟨rfl, rfl⟩
            go_wp2
            go_ret
            exact ⟨_, rfl, by rw [HB.out]; exact decide_eq_true (by omega), HC1.out⟩
          · have hc := HCall.out
            rw [hq] at hc
            have HCall2 := Asd.mk hc
            clear hc hq
            go_wp2_with fail
            refine (HCall2.out _).mono ?_
            rintro e w2 ⟨rfl, rfl⟩
            go_wp2
            go_ret
            exact ⟨_, rfl, by rw [HB.out]; exact decide_eq_true (by omega), HC1.out⟩
        · have HN2 := Asd.mk (show ∀ j, j < pos + 1 → bnI s j ≠ 47 ∧ bnI s j ≠ 0 from fun j hj => by
            by_cases e : j = pos
            · rw [e]; omega
            · exact HN.out j (by omega))
          have hq : (if r = 47 then (0 : Int) else if r = 0 then 1 else -1) = -1 := by
            rw [hr1, if_neg (by omega), if_neg (by omega)]
          have hc := HCall.out
          rw [hq] at hc
          have HCall2 := Asd.mk hc
          clear hc hq hbad hr1
          go_wp2_with fail
          refine (HCall2.out _).mono ?_
          rintro e w2 ⟨rfl, rfl⟩
          go_wp2
          go_roundg (s.size - (pos + 1))
          case rel => exact ⟨pos + 1, by omega, rfl, HI1, HC1, HN2⟩
          case measure => omega
      · obtain ⟨d1, d2, d3, d4, d5⟩ := dec_wide hlt (by omega)
        rw [hX] at d1 d2 d3 d4 d5
        simp only at d1 d2 d3 d4 d5
        have hI1 := Lib.iterAt_heap wr w1.heap.size s pos (pos + wd) HI.out
        have HC1 := Asd.mk (Chg.iterAt HC.out (k := w1.heap.size) (by omega) s (pos + wd))
        have HI1 := Asd.mk hI1
        have HN2 := Asd.mk (show ∀ j, j < pos + wd → bnI s j ≠ 47 ∧ bnI s j ≠ 0 from fun j hj => by
          by_cases e : pos ≤ j
          · have := d5 j e hj; omega
          · exact HN.out j (by omega))
        have HCall := Asd.mk (show ∀ W, Calls Tryz.prog 122 #[.string ⟨#[47, 0]⟩, .int .i32 (r : Int)] W fun e w' => e = .returned (.int .i64 (-1)) ∧ Chg [] W w' from fun W => by
          by_cases e : r = 65533
          · subst e; exact indexrune_bad W
          · exact indexrune_far r d1 d2 e W)
        clear hX hI1 hr d1 d2 d5 hb
        go_wp2_with fail
        refine (HCall.out _).mono ?_
        rintro e w2 ⟨rfl, hC2⟩
        have HC2 := Asd.mk (HC1.out.trans hC2)
        have HI2 := Asd.mk (hC2.heap HI1.out (by simp))
        clear hC2
        go_wp2
        go_roundg (s.size - (pos + wd))
        case rel => exact ⟨pos + wd, by omega, rfl, HI2, HC2, HN2⟩
        case measure => omega
    · obtain rfl : pos = s.size := by omega
      have hnx := fun ty => Lib.run_next_end_at (P := Tryz.prog) wr w1.heap.size s s.size ty HI.out (by omega)
      have HB := Asd.mk (bad_all HN.out)
      clear hr
      go_wp2
      go_ret
      exact ⟨_, rfl, by rw [HB.out]; rfl, HC.out⟩
end Go.Proofs.YtiijbecklkccfaaGreatDoor.I
/- The program's Name. -/
namespace Go.Proofs.YtiijbecklkccfaaGreatDoor.I
open Go.RowKit Go.Proofs.YtiijbecklkccfaaGreatDoor.B Go.Sort
set_option linter.unusedVariables false
theorem zero_ascii (w : World) : (zeroValue 176).run Tryz.prog w = .ok (.agg (Array.replicate 256 (.bool false))) w := by kernel_rfl
theorem indexany_calls (s : ByteArray) (w : World) (hs : s.size < 4294967281) : Calls Tryz.prog 108 #[.string s, .string ⟨#[47, 0]⟩] w fun e w' => ∃ n : Int, e = .returned (.int .i64 n) ∧ decide (0 ≤ n) = badB s.data.toList ∧ Chg [] w w' := by
  by_cases h8 : s.size ≤ 8
  · exact indexany_short s w h8
  · refine (Tryz.strings_IndexAny_long zero_ascii s ⟨#[47, 0]⟩ w (by decide) (by omega) hs (by decide) (fun j b hb => ?_)).mono ?_
    · match j with
      | 0 => simp at hb; subst hb; decide
      | 1 => simp at hb; subst hb; decide
      | j + 2 => simp at hb
    · rintro e w' ⟨rfl, rfl⟩
      exact ⟨_, rfl, indexAny_bad _, ((Chg.refl _ _).alloc _).alloc _⟩
set_option maxRecDepth 100000 in
set_option maxHeartbeats 8000000 in
theorem contains_calls (s : ByteArray) (w : World) (hs : s.size < 4294967281) : Calls Tryz.prog 92 #[.string s, .string ⟨#[47, 0]⟩] w fun e w' => e = .returned (.bool (badB s.data.toList)) ∧ Chg [] w w' := by
  have H := Asd.mk (indexany_calls s w hs)
  go_enter Tryz.func92, Tryz.ntmps92
  go_wp2_with fail
  refine H.out.mono ?_
  rintro e w1 ⟨n, rfl, hn, hC⟩
  have HC := Asd.mk hC
  clear hC
  have HN := Asd.mk hn
  clear hn
  go_wp2
  go_ret
  exact ⟨by rw [← HN.out]; rfl, HC.out⟩
def errI (n : Nat) : Value := .iface 71 (.int .i64 (n : Int))
/-- The answer of Name. -/
def nameV (n : Nm) : Value := if okNm n = true then .nilIface else .iface 71 (.int .i64 30)
theorem toList_nb (n : Nm) : (nb n).toList = n := by rw [ByteArray.toList_eq, list_nb]
theorem bad_ok {n : Nm} : okNm n = true ↔ n ≠ [] ∧ n.length ≤ 255 ∧ n ≠ [46] ∧ n ≠ [46, 46] ∧ badB n = false := by
  unfold okNm badB
  rw [decide_eq_true_eq, List.any_eq_false]
  constructor
  · rintro ⟨h1, h2, h3, h4, h5, h6⟩
    refine ⟨h1, h2, h3, h4, fun b hb => ?_⟩
    simp only [Bool.or_eq_true, beq_iff_eq, not_or]
    exact ⟨fun e => h5 (by rw [← e]; exact hb), fun e => h6 (by rw [← e]; exact hb)⟩
  · rintro ⟨h1, h2, h3, h4, h5⟩
    refine ⟨h1, h2, h3, h4, fun hm => ?_, fun hm => ?_⟩
    · exact absurd (h5 _ hm) (by decide)
    · exact absurd (h5 _ hm) (by decide)
set_option maxRecDepth 100000 in
set_option maxHeartbeats 8000000 in
theorem name_calls (n : Nm) (w : World) (hs : n.length ≤ 4194304) : Calls Tryz.prog 81 #[.string (nb n)] w fun e w' => e = .returned (nameV n) ∧ Chg [] w w' := by
  have hz := nb_size n
  have htl := toList_nb n
  have H := Asd.mk (contains_calls (nb n) w (by omega))
  rw [list_nb] at H
  obtain ⟨s, hS⟩ : ∃ s, nb n = s := ⟨_, rfl⟩
  rw [hS] at hz htl H ⊢
  have hC0 := Chg.refl [] w
  clear hS
  by_cases h0 : n = []
  · have HV := Asd.mk (show nameV n = .iface 71 (.int .i64 30) by unfold nameV; rw [if_neg]; rw [bad_ok]; rintro ⟨h, _⟩; exact h h0)
    have te : s.toList.isEmpty = true := by rw [htl, h0]; rfl
    clear htl h0 hz
    go_enter Tryz.func81, Tryz.ntmps81
    go_wp2
    go_ret
    exact ⟨by rw [HV.out]; rfl, hC0⟩
  · have te : s.toList.isEmpty = false := by rw [htl]; cases n with | nil => exact absurd rfl h0 | cons _ _ => rfl
    by_cases h1 : 255 < n.length
    · have HV := Asd.mk (show nameV n = .iface 71 (.int .i64 30) by unfold nameV; rw [if_neg]; rw [bad_ok]; rintro ⟨_, h, _⟩; omega)
      have k1 : (255 : Int) < (s.size : Int) := by omega
      clear htl h0 hz
      go_enter Tryz.func81, Tryz.ntmps81
      go_wp2
      go_ret
      exact ⟨by rw [HV.out]; rfl, hC0⟩
    · have k1 : ¬ (255 : Int) < (s.size : Int) := by omega
      by_cases h2 : n = [46]
      · have HV := Asd.mk (show nameV n = .iface 71 (.int .i64 30) by unfold nameV; rw [if_neg]; rw [bad_ok]; rintro ⟨_, _, h, _⟩; exact h h2)
        have t2 : (s.toList == [46]) = true := by rw [htl, h2]; rfl
        clear htl h0 hz h2
        go_enter Tryz.func81, Tryz.ntmps81
        go_wp2
        go_ret
        exact ⟨by rw [HV.out]; rfl, hC0⟩
      · have t2 : (s.toList == [46]) = false := by rw [htl]; exact beq_eq_false_iff_ne.2 h2
        by_cases h3 : n = [46, 46]
        · have HV := Asd.mk (show nameV n = .iface 71 (.int .i64 30) by unfold nameV; rw [if_neg]; rw [bad_ok]; rintro ⟨_, _, _, h, _⟩; exact h h3)
          have t3 : (s.toList == [46, 46]) = true := by rw [htl, h3]; rfl
          clear htl h0 hz h2 h3
          go_enter Tryz.func81, Tryz.ntmps81
          go_wp2
          go_ret
          exact ⟨by rw [HV.out]; rfl, hC0⟩
        · have t3 : (s.toList == [46, 46]) = false := by rw [htl]; exact beq_eq_false_iff_ne.2 h3
          cases hb : badB n with
          | true =>
            have HV := Asd.mk (show nameV n = .iface 71 (.int .i64 30) by unfold nameV; rw [if_neg]; rw [bad_ok]; rintro ⟨_, _, _, _, h⟩; rw [hb] at h; cases h)
            have h := H.out
            rw [hb] at h
            have HH := Asd.mk h
            clear htl h0 hz h2 h3 H h hb
            go_enter Tryz.func81, Tryz.ntmps81
            go_wp2_with fail
            refine HH.out.mono ?_
            rintro e w1 ⟨rfl, hC⟩
            have HC := Asd.mk hC
            clear hC
            go_wp2
            go_ret
            exact ⟨by rw [HV.out]; rfl, HC.out⟩
          | false =>
            have HV := Asd.mk (show nameV n = .nilIface by unfold nameV; rw [if_pos]; rw [bad_ok]; exact ⟨h0, by omega, h2, h3, hb⟩)
            have h := H.out
            rw [hb] at h
            have HH := Asd.mk h
            clear htl h0 hz h2 h3 H h hb
            go_enter Tryz.func81, Tryz.ntmps81
            go_wp2_with fail
            refine HH.out.mono ?_
            rintro e w1 ⟨rfl, hC⟩
            have HC := Asd.mk hC
            clear hC
            go_wp2
            go_ret
            exact ⟨by rw [HV.out]; rfl, HC.out⟩
end Go.Proofs.YtiijbecklkccfaaGreatDoor.I
/- The program's Parts: the walk. -/
namespace Go.Proofs.YtiijbecklkccfaaGreatDoor.I
open Go.RowKit Go.Proofs.YtiijbecklkccfaaGreatDoor.B Go.Sort
set_option linter.unusedVariables false
/-- internal/bytealg.MaxLen is a number. -/
def MaxLenAt (w : World) : Prop := ∃ m : Int, w.cell? ⟨1, 0, none⟩ = some (.int .i64 m)
theorem MaxLenAt.chg {w w' : World} (h : MaxLenAt w) (hc : Chg [] w w') : MaxLenAt w' := by
  obtain ⟨m, hm⟩ := h
  exact ⟨m, (hc.below.cell (World.block_lt_of_cell? w _ hm)).trans hm⟩
/-- What Parts leaves: a row of names (nil, where there is none), or an error. -/
def PartsPost (R : Except Nat Pth) (e : Ending) (w' : World) : Prop := match R with
  | .ok p => (p = [] ∧ e = .returned (.tuple #[.slice none 0 0, .nilIface])) ∨ (p ≠ [] ∧ ∃ g, e = .returned (.tuple #[.slice (some ⟨g, 0, none⟩) p.length p.length, .nilIface]) ∧ NmR w' g 0 p)
  | .error n => e = .returned (.tuple #[.slice none 0 0, .iface 71 (.int .i64 (n : Int))])
theorem nameV_ok {n : Nm} (h : okNm n = true) : nameV n = .nilIface := if_pos h
theorem nameV_bad {n : Nm} (h : okNm n = false) : nameV n = .iface 71 (.int .i64 30) := if_neg (by rw [h]; decide)
theorem spL_size (c : UInt8) : ∀ (l : List UInt8) (p : List UInt8), p ∈ spL c l → p.length ≤ l.length
  | [], p, h => by simp [spL] at h; rw [h]; simp
  | b :: l, p, h => by
    simp only [spL] at h
    have ih := spL_size c l
    by_cases hb : b = c
    · rw [if_pos hb] at h
      rcases List.mem_cons.1 h with rfl | h
      · simp
      · have := ih p h; rw [List.length_cons]; omega
    · rw [if_neg hb] at h
      cases hs : spL c l with
      | nil => exact absurd hs (spL_ne c l)
      | cons q r =>
        rw [hs] at h ih
        simp only [glue] at h
        rcases List.mem_cons.1 h with rfl | h
        · have := ih q (by simp); simp; omega
        · have := ih p (by simp [h]); rw [List.length_cons]; omega
theorem spL_count (c : UInt8) : ∀ l : List UInt8, (spL c l).length ≤ l.length + 1
  | [] => by simp [spL]
  | b :: l => by
    have ih := spL_count c l
    simp only [spL]
    by_cases hb : b = c
    · rw [if_pos hb]; simp; omega
    · rw [if_neg hb]
      cases hs : spL c l with
      | nil => exact absurd hs (spL_ne c l)
      | cons q r => rw [hs] at ih; simp [glue] at ih ⊢; omega
set_option maxRecDepth 100000 in
set_option maxHeartbeats 8000000 in
theorem parts_calls (s : ByteArray) (w : World) (hm : MaxLenAt w) (hs : s.size ≤ 4294967280) : Calls Tryz.prog 56 #[.string s] w fun e w' => PartsPost (partsF s) e w' ∧ Chg [] w w' := by
  have hC0 := Chg.refl [] w
  by_cases h1 : 4096 < s.size
  · have HP := Asd.mk (show partsF s = .error 2 by unfold partsF; rw [if_pos h1])
    have k1 : (4096 : Int) < (s.size : Int) := by omega
    clear h1
    go_enter Tryz.func56, Tryz.ntmps56
    go_wp2
    go_ret2
    exact ⟨by rw [HP.out]; exact rfl, hC0⟩
  · have k1 : ¬ (4096 : Int) < (s.size : Int) := by omega
    by_cases h0 : s.size = 0
    · have HP := Asd.mk (show partsF s = .ok [] by unfold partsF; rw [if_neg h1, if_pos h0])
      have te : s.toList.isEmpty = true := by
        rw [ByteArray.toList_eq]
        have : s.data.toList.length = 0 := by simpa using h0
        rw [List.length_eq_zero_iff.1 this]; rfl
      clear h1 h0
      go_enter Tryz.func56, Tryz.ntmps56
      go_wp2
      go_ret2
      exact ⟨by rw [HP.out]; exact .inl ⟨rfl, rfl⟩, hC0⟩
    · have te : s.toList.isEmpty = false := by
        rw [ByteArray.toList_eq]
        cases hl : s.data.toList with
        | nil => exact absurd (by have := congrArg List.length hl; simpa using this) h0
        | cons _ _ => rfl
      obtain ⟨l, hl⟩ : ∃ l, spL 47 s.data.toList = l := ⟨_, rfl⟩
      have hsp : Calls Tryz.prog 80 #[.string s, .string ⟨#[47]⟩] w fun e w' => e = .returned (.slice (some ⟨w.heap.size, 0, none⟩) l.length l.length) ∧ w' = w.alloc (.cells ((l.map fun n => Value.string (nb n)).toArray) 9) := by
        obtain ⟨m, hm⟩ := hm
        refine (Tryz.strings_Split s ⟨#[47]⟩ m w (by omega) hm (Nat.le_refl 1)).mono ?_
        rintro e w' ⟨rfl, rfl⟩
        rw [split_len, split_nb, hl, List.map_map]
        exact ⟨rfl, rfl⟩
      have hlne : l ≠ [] := by rw [← hl]; exact spL_ne 47 _
      have hln : ∀ n ∈ l, n.length ≤ 4096 := fun n hn => by
        have := spL_size 47 s.data.toList n (by rw [hl]; exact hn)
        have h2 : s.data.toList.length = s.size := by simp
        omega
      have hlc : l.length ≤ 4097 := by
        have := spL_count 47 s.data.toList
        have h2 : s.data.toList.length = s.size := by simp
        rw [hl] at this
        omega
      have HPF := Asd.mk (show partsF s = if l.all okNm = false then .error 30 else if 64 < l.length then .error 2 else .ok l by unfold partsF; rw [if_neg h1, if_neg h0, hl])
      have HSp := Asd.mk hsp
      have hal : Chg [] w (w.alloc (.cells ((l.map fun n => Value.string (nb n)).toArray) 9)) := hC0.alloc _
      have hro : NmR (w.alloc (.cells ((l.map fun n => Value.string (nb n)).toArray) 9)) w.heap.size 0 l := ⟨_, hp_new _ _, fun i hi => by
        rw [Nat.zero_add]
        simp [List.getElem?_eq_getElem hi]⟩
      have HAl := Asd.mk hal
      have HRo := Asd.mk hro
      have HLn := Asd.mk hln
      clear hsp hal hro hl h1 h0 hm hln hC0
      go_enter Tryz.func56, Tryz.ntmps56
      go_wp2_with fail
      refine HSp.out.mono ?_
      rintro e w1 ⟨rfl, hw1⟩
      have HC1 := Asd.mk (show Chg [] w w1 by rw [hw1]; exact HAl.out)
      have HR1 := Asd.mk (show NmR w1 w.heap.size 0 l by rw [hw1]; exact HRo.out)
      obtain ⟨g, hg⟩ : ∃ g, w.heap.size = g := ⟨_, rfl⟩
      rw [hg] at HR1 ⊢
      clear hw1 HSp HAl HRo
      go_wp2
      go_loopg [17] (l.length + 1) (fun gk v17 wx => ∃ i : Nat, i ≤ l.length ∧ gk = l.length + 1 - i ∧ v17 = .int .i64 (i : Int) ∧ Asd (∀ n ∈ l.take i, okNm n = true) ∧ Asd (Chg [] w1 wx))
      case atStart => exact ⟨0, by omega, rfl, rfl, ⟨by simp⟩, ⟨Chg.refl _ _⟩⟩
      case round =>
        obtain ⟨i, hi, rfl, rfl, HO, HC⟩ := hrel
        by_cases hlt : i < l.length
        · obtain ⟨n, hn⟩ : ∃ n, l[i] = n := ⟨_, rfl⟩
          have hcell : wr.cell? ⟨g, i, none⟩ = some (.string (nb n)) := by
            have h := (HR1.out.keep HC.out (by simp)).cell hlt
            rw [Nat.zero_add, hn] at h
            exact h
          have k2 : (i : Int) < (l.length : Int) := by omega
          have hcall := name_calls n wr (by have := HLn.out n (by rw [← hn]; exact List.getElem_mem hlt); omega)
          cases hok : okNm n with
          | true =>
            rw [nameV_ok hok] at hcall
            have HCall := Asd.mk hcall
            have HO2 := Asd.mk (show ∀ m ∈ l.take (i + 1), okNm m = true by
              intro m hm
              rw [List.take_succ_eq_append_getElem hlt, List.mem_append] at hm
              rcases hm with hm | hm
              · exact HO.out m hm
              · simp at hm; rw [hm, hn]; exact hok)
            clear hn hcall hok HO
            go_wp2_with fail
            refine HCall.out.mono ?_
            rintro e w2 ⟨rfl, hC2⟩
            have HC2 := Asd.mk (HC.out.trans hC2)
            clear hC2
            go_wp2
            go_roundg (l.length + 1 - (i + 1))
            case rel => exact ⟨i + 1, by omega, by omega, by go_num, HO2, HC2⟩
            case measure => omega
          | false =>
            rw [nameV_bad hok] at hcall
            have HCall := Asd.mk hcall
            have HP := Asd.mk (show partsF s = .error 30 by
              rw [HPF.out, if_pos]
              rw [List.all_eq_false]
              exact ⟨n, by rw [← hn]; exact List.getElem_mem hlt, by rw [hok]; decide⟩)
            clear hn hcall hok HO
            go_wp2_with fail
            refine HCall.out.mono ?_
            rintro e w2 ⟨rfl, hC2⟩
            have HC2 := Asd.mk (HC1.out.trans (HC.out.trans hC2))
            clear hC2
            go_wp2
            go_ret2
            exact ⟨by rw [HP.out]; exact rfl, HC2.out⟩
        · obtain rfl : i = l.length := by omega
          have hall : l.all okNm = true := by
            rw [List.all_eq_true]
            have := HO.out
            rw [List.take_length] at this
            exact this
          have HC2 := Asd.mk (HC1.out.trans HC.out)
          have HR2 := Asd.mk (HR1.out.keep HC.out (by simp))
          by_cases h64 : 64 < l.length
          · have k3 : (64 : Int) < (l.length : Int) := by omega
            have HP := Asd.mk (show partsF s = .error 2 by rw [HPF.out, if_neg (by rw [hall]; decide), if_pos h64])
            clear hall HO
            go_wp2
            go_ret2
            exact ⟨by rw [HP.out]; exact rfl, HC2.out⟩
          · have k3 : ¬ (64 : Int) < (l.length : Int) := by omega
            have HP := Asd.mk (show partsF s = .ok l by rw [HPF.out, if_neg (by rw [hall]; decide), if_neg h64])
            clear hall HO
            go_wp2
            go_ret2
            exact ⟨by rw [HP.out]; exact .inr ⟨hlne, g, rfl, HR2.out⟩, HC2.out⟩
end Go.Proofs.YtiijbecklkccfaaGreatDoor.I
/- The listed variables of the rows: a world that meets them; internal/bytealg.MaxLen is a number. -/
namespace Go.Proofs.YtiijbecklkccfaaGreatDoor.I
open Go.ChangeShapes Go.WideShapes Go.ChangeAt Go.RowKit Go.Proofs.YtiijbecklkccfaaGreatDoor.B
set_option linter.unusedVariables false
abbrev laidOne {H : Type} : List (String × DataW H) := [("errors.errorType", Rows.laid_errors_errorType)]
abbrev laidTwo : List (String × DataW Unit) := [("unicode/utf8.acceptRanges", Rows.laid_unicode_utf8_acceptRanges), ("unicode/utf8.first", Rows.laid_unicode_utf8_first)]
abbrev laidThree : List (String × DataW Unit) := [("unicode/utf8.acceptRanges", Rows.laid_unicode_utf8_acceptRanges), ("errors.errorType", Rows.laid_errors_errorType), ("unicode/utf8.first", Rows.laid_unicode_utf8_first)]
theorem laidOut : laidOutB Tryz.prog = true := by kernel_rfl
theorem own : ownKnob Tryz.prog.godebug = none := by kernel_rfl
theorem et : Tryz.prog.globalNamed "errors.errorType" = some 0 := by kernel_rfl
theorem rt : (Tryz.prog.cutTypes.find? (·.1 == "internal/reflectlite.rtype")).map (·.2) = some 134 := by kernel_rfl
theorem oneRow : ((List.range Tryz.prog.types.size).filter fun t => Tryz.prog.rowNamed t [101, 114, 114, 111, 114]) = [27] := by kernel_rfl
/-- What the row's list gives a walk. -/
theorem errType_of_laid {W : World} (h : laidMetH Tryz.prog laidOne W) : ErrType W := by
  have h' : laidMet Tryz.prog [] W ∧ handlesMet Tryz.prog laidOne W := h
  obtain ⟨name, u, ty, e1, e2, e3, e4, e5⟩ := h'.2 _ (List.mem_singleton.2 rfl)
  have en : name = [101, 114, 114, 111, 114] := (Option.some.inj e1).symm
  subst en
  obtain rfl := Option.some.inj (rt.symm.trans e2)
  have hm : ty ∈ (List.range Tryz.prog.types.size).filter fun t => Tryz.prog.rowNamed t [101, 114, 114, 111, 114] := List.mem_filter.2 ⟨List.mem_range.2 e3, e4⟩
  rw [oneRow] at hm
  obtain rfl := List.mem_singleton.1 hm
  have hh : typeHandle Tryz.prog 27 = .pointer (some ⟨4, 27, none⟩) := by kernel_rfl
  rw [hh] at e5
  simpa [ErrType] using World.var?_cell et e5 0
/-- A world that meets it: the settled one, the variable's cell laid. -/
noncomputable def laidWorld (os : Os) : World :=
  { World.holding Tryz.prog os ⟨#[], #[], []⟩ with heap := (World.holding Tryz.prog os ⟨#[], #[], []⟩).heap.modify 0 fun
      | .cells _ t frozen => .cells #[.iface 134 (.agg #[.pointer (some ⟨4, 27, none⟩)])] t frozen
      | o => o }
theorem errType_of_three {W : World} (h : laidMetH Tryz.prog laidThree W) : ErrType W := by
  have h' : laidMet Tryz.prog laidTwo W ∧ handlesMet Tryz.prog laidOne W := h
  exact errType_of_laid (show laidMet Tryz.prog [] W ∧ handlesMet Tryz.prog laidOne W from ⟨laidMet_nil _ _, h'.2⟩)
set_option maxRecDepth 100000 in
theorem maxLen_of_shaped {W : World} (h : W.ShapedOpen Tryz.prog) : MaxLenAt W := by
  obtain ⟨cs, hh, hs, hr⟩ := h.1 1 #[.int .i64 0] 3 (of_decide_eq_true (by kernel_rfl)) (by kernel_rfl)
  obtain ⟨ts, hts, hlen, hall⟩ := hr (by kernel_rfl)
  have hc : Tryz.prog.cellTypes Tryz.prog.depth 3 = some [3] := by kernel_rfl
  rw [hc] at hts
  obtain rfl := Option.some.inj hts
  have h1 : 0 < cs.size := by rw [hs]; decide
  obtain ⟨u, hu', hok⟩ := hall 0 cs[0] (by simp [h1])
  have hu3 : u = 3 := by simpa using hu'.symm
  subst hu3
  have hcell : W.cell? ⟨1, 0, none⟩ = some cs[0] := by simp [World.cell?, hh, h1]
  unfold MaxLenAt
  rw [hcell]
  unfold Cell.ok at hok
  rw [Tryz.underlying3] at hok
  cases hv : cs[0] <;> rw [hv] at hok <;> first | (simp at hok; done) | skip
  obtain ⟨rfl, _⟩ := hok
  exact ⟨_, rfl⟩
noncomputable def laidWorld3 (os : Os) : World := (laidWorld os).layVars Tryz.prog laidTwo
theorem laidWorld3_os (os : Os) : (laidWorld3 os).os = os := World.layVars_os _ _ _
theorem laid_met3 (os : Os) (args : Array Value) : laidMetH Tryz.prog laidThree ((laidWorld3 os).forCall (fun _ _ => 0) ⟨#[], args, []⟩).memory :=
  laidMetH_of_parts
    (laidMet_layVars (w0 := laidWorld os) ["unicode/utf8.acceptRanges", "unicode/utf8.first"] [] (by simp [World.memory, World.forCall, Input.heap]; rfl) (by kernel_rfl) (by kernel_rfl) LaidIn.none)
    (by kernel_rfl)
end Go.Proofs.YtiijbecklkccfaaGreatDoor.I
/- A row of strings that one makes, or reads. -/
namespace Go.Proofs.YtiijbecklkccfaaGreatDoor.I
open Go.RowKit Go.Proofs.YtiijbecklkccfaaGreatDoor.B
set_option linter.unusedVariables false
theorem info9 : (Tryz.prog.info? 9).map (fun i => (i.zero, i.size, i.bytes)) = some (some (.string ⟨#[]⟩), 1, 16) := by kernel_rfl
theorem info9' : ∃ ie, Tryz.prog.info? 9 = some ie ∧ ie.zero = some (.string ⟨#[]⟩) ∧ ie.size = 1 ∧ ie.bytes = 16 := by
  cases hie : Tryz.prog.info? 9 with
  | none => have := info9; rw [hie] at this; cases this
  | some ie =>
    have h := info9
    rw [hie] at h
    simp only [Option.map_some, Option.some.injEq, Prod.mk.injEq] at h
    exact ⟨ie, rfl, h.1, h.2.1, h.2.2⟩
theorem buildStr (s : ByteArray) (w : World) : (Instr.buildSlice 42 1 #[(0, .string s)]).run Tryz.prog w = .ok (.slice (some ⟨w.heap.size, 0, none⟩) 1 1) (w.alloc (.cells #[.string s] 9)) := by
  obtain ⟨ie, h1, h2, h3, h4⟩ := info9'
  refine Go.run_buildSlice w 42 9 1 _ _ ie _ Tryz.underlying42 h1 h2 (by rw [h3]; decide) (by rw [h3]; decide) ?_
  rw [h3]
  have := Great.fill_whole (s := 1) (by omega) [.string s] ((Array.range (1 * 1)).map ((Value.string ⟨#[]⟩).cells[· % (Value.string ⟨#[]⟩).cells.size]!)) (by simp [Value.cells]) (by simp)
  simpa [Value.cells] using this
theorem wp_buildStr (s : ByteArray) {o : Oper} {a : Act} {w : World} {K : Act → World → Prop} {Q : Exit → Act → World → Prop} (x : Operand) (ho : o.op = .buildSlice 42 1 #[(0, x)]) (hx : a.eval x = .string s)
    (h : K (a.put o.dst (.slice (some ⟨w.heap.size, 0, none⟩) 1 1)) (w.alloc (.cells #[.string s] 9))) : o.wp Tryz.prog a w K Q := by
  unfold Oper.wp execOp
  simp only [ho, List.map_toArray, List.map_cons, List.map_nil, hx, Sem.run_bind, buildStr, Result.andThen_ok]
  exact h
theorem wpList_buildStr {ops : Array Oper} {rest : List Oper} {o : Oper} {a : Act} {w : World} {Q : Exit → Act → World → Prop} (hgd : o.guard = none) (s : ByteArray) (n : Nat) (hn : w.heap.size = n) (x : Operand) (ho : o.op = .buildSlice 42 1 #[(0, x)]) (hx : a.eval x = .string s)
    (h : wpList Tryz.prog ops Q rest (a.put o.dst (.slice (some ⟨n, 0, none⟩) 1 1)) (w.alloc (.cells #[.string s] 9))) : wpList Tryz.prog ops Q (o :: rest) a w :=
  wpList_plain hgd fun _ hK => wp_buildStr s x ho hx (hK _ _ (by subst hn; exact h))
theorem wpList_append9 {ops : Array Oper} {rest : List Oper} {o : Oper} {a : Act} {w : World} {Q : Exit → Act → World → Prop} (hgd : o.guard = none) (s x : Operand)
    (ho : o.op = .call { callee := .builtin .append, args := #[s, x], argTypes := #[42, 42] }) (base : Nat) (v : Value) (L : List ByteArray) (hs : a.eval s = v) (hown : w.ownsRow base 9 1 v L.length (L.map Value.string))
    (p : ByteArray) (g : Nat) (hx : a.eval x = .slice (some ⟨g, 0, none⟩) 1 1) (hg : w.heap[g]? = some (.cells #[.string p] 9 (0, 0))) (hL : L.length ≤ 16777216) (hb : base ≤ w.heap.size)
    (h : ∀ v' w', w'.ownsRow base 9 1 v' (L ++ [p]).length ((L ++ [p]).map Value.string) → w.grownBy w' v.ownBlock → wpList Tryz.prog ops Q rest (a.put o.dst v') w') : wpList Tryz.prog ops Q (o :: rest) a w := by
  obtain ⟨ie, h1, h2, h3, h4⟩ := info9'
  refine wpList_append_own _ hgd s x 42 ho base 9 ie _ 1 16 Tryz.underlying42 h1 h2 h3 h4 rfl (by decide) v L.length (L.map Value.string) hs hown ⟨g, 0, none⟩ 1 1 [.string p] hx rfl ?_ (fun u hu => by simp at hu; subst hu; rfl) ?_ ?_ hb ?_
  · intro j u hu
    have h0 : j = 0 := by
      cases j with
      | zero => rfl
      | succ j => simp at hu
    subst h0
    have e : (⟨g, 0, none⟩ : Addr).add 0 = ⟨g, 0, none⟩ := rfl
    rw [e, cell_of_heap hg]
    simpa using hu
  · unfold maxLen; omega
  · omega
  · intro v' w' q1 q2 q3
    refine h v' w' ?_ q2
    rw [List.length_append, List.map_append]
    exact q1
/-- A row of strings in memory. -/
def StrL (w : World) (v : Value) (L : List ByteArray) : Prop := ∃ A c, v = .slice A L.length c ∧ ∀ i, (h : i < L.length) → ∃ a, A = some a ∧ w.cell? (a.add i) = some (.string (L[i]'h))
theorem StrL.chg {w w' : World} {v : Value} {L : List ByteArray} (h : StrL w v L) (hc : Chg [] w w') : StrL w' v L := by
  obtain ⟨A, c, hv, h1⟩ := h
  refine ⟨A, c, hv, fun i hi => ?_⟩
  obtain ⟨a, h2, h3⟩ := h1 i hi
  exact ⟨a, h2, (hc.below.cell (World.block_lt_of_cell? w _ h3)).trans h3⟩
theorem strL_of_own {w : World} {base : Nat} {v : Value} {L : List ByteArray} (h : w.ownsRow base 9 1 v L.length (L.map Value.string)) : StrL w v L := by
  obtain ⟨h1, h2⟩ := h
  rcases h2 with ⟨rfl, h0⟩ | ⟨g, cap, cur, rfl, hb, hg, hn, hc, hsz, ht⟩
  · exact ⟨none, 0, by rw [h0], fun p hp => by omega⟩
  · refine ⟨_, cap, rfl, fun i hi => ⟨_, rfl, ?_⟩⟩
    have e : (⟨g, 0, none⟩ : Addr).add i = ⟨g, i, none⟩ := by
      unfold Addr.add
      split
      · subst_vars; rfl
      · simp
    rw [e, cell_of_heap hg]
    have h3 : (cur.toList.take (L.length * 1))[i]? = (L.map Value.string)[i]? := by rw [ht]
    rw [List.getElem?_take_of_lt (by omega), List.getElem?_map, List.getElem?_eq_getElem hi] at h3
    simpa using h3
theorem chg_rgrown {L : List Nat} {a b c : World} {row : Option Nat} (h : Chg L a b) (k : b.grownBy c row) (hr : ∀ g, row = some g → g < a.heap.size → g ∈ L) : Chg L a c :=
  ⟨k.os.trans h.os, k.tape.trans h.tape, k.output.trans h.output, Nat.le_trans h.size k.size, fun i hi hn =>
    (k.block i (Nat.lt_of_lt_of_le hi h.size) (fun e => hn (hr i e.symm hi))).trans (h.block i hi hn)⟩
theorem grown_chg {w wr w' : World} {base : Nat} {t : TypeId} {z n : Nat} {v : Value} {l : List Value} (hc : Chg [] w wr) (ho : wr.ownsRow base t z v n l) (hb : w.heap.size ≤ base) (hg : wr.grownBy w' v.ownBlock) : Chg [] w w' :=
  chg_rgrown hc hg (fun g e hk => by have := (ho.lt g e).1; omega)
end Go.Proofs.YtiijbecklkccfaaGreatDoor.I
/- The program's way: the walk. -/
namespace Go.Proofs.YtiijbecklkccfaaGreatDoor.I
open Go.RowKit Go.Proofs.YtiijbecklkccfaaGreatDoor.B
set_option linter.unusedVariables false
def wayPost (fs : FS) (A : Pth → Nat) (p : Pth) (e : Ending) : Prop := match wayE fs p with
  | none => e = .returned (.tuple #[(.agg #[.pointer (dirA A p), .string (lastS p), .pointer (kidA fs A p)]), .nilIface])
  | some n => e = .returned (.tuple #[(.agg #[.pointer none, .string ⟨#[]⟩, .pointer none]), .iface 71 (.int .i64 (n : Int))])
theorem size_place (a b c : Value) : (Tryz.prog.info? 79).map (·.size) = some (#[a, b, c]).size := by kernel_rfl
set_option maxRecDepth 100000 in
set_option maxHeartbeats 16000000 in
theorem way_calls (L : List Nat) (t : Nat) (fs : FS) (by' nd : Nat) (A M : Pth → Nat) (p : Pth) (g c : Nat) (w : World) (hT : TabAt w L t fs by' nd A M) (hg : FsOk fs) (hp : p ≠ []) (hN : NmR w g 0 p) (hl : p.length ≤ 65) (hc : p.length ≤ c) :
    Calls Tryz.prog 57 #[(.pointer (some ⟨t, 0, none⟩)), .slice (some ⟨g, 0, none⟩) p.length c] w fun e w' => wayPost fs A p e ∧ Chg [] w w' := by
  obtain ⟨m, hm⟩ : ∃ m, p.length = m + 1 := ⟨p.length - 1, by have := List.length_pos_iff.2 hp; omega⟩
  obtain ⟨R, hR⟩ : ∃ R, wayE fs p = R := ⟨_, rfl⟩
  have k6 : IntKind.i64.wrap (m : Int) = (m : Int) := w64 (by omega) (by omega)
  have HT := Asd.mk hT
  have HN := Asd.mk hN
  have HG := Asd.mk hg
  have HR := Asd.mk hR
  have t0 : (((m : Int) + 1) == 0) = false := by simp; omega
  have HC := Asd.mk (show Chg [] w (w.alloc (.cells #[.pointer none, .string ⟨#[]⟩, .pointer none] 79)) from (Chg.refl _ _).alloc _)
  have HT1 := Asd.mk (HT.out.keep0 HC.out)
  have HN1 := Asd.mk (HN.out.keep HC.out (by simp))
  have r0 : ((w.alloc (.cells #[.pointer none, .string ⟨#[]⟩, .pointer none] 79))).cell? ⟨t, 0, none⟩ = some (.pointer (some ⟨A [], 0, none⟩)) := cell_of_heap HT1.out.tab 0
  rw [hm]
  clear hT hN hg hR
  go_enter Tryz.func57, Tryz.ntmps57
  have k2 : (m : Int) ≤ (m : Int) + 1 := by omega
  have k3 : (m : Int) ≤ (c : Int) := by omega
  clear HT HN
  go_wp2
  go_loopg [6, 29] (m + 1) (fun gk v6 v29 wx => (w.alloc (.cells #[.pointer none, .string ⟨#[]⟩, .pointer none] 79)) = wx ∧ ∃ i : Nat, i ≤ m ∧ gk = m + 1 - i ∧ v29 = .int .i64 (i : Int) ∧ v6 = (.pointer (some ⟨A (p.take i), 0, none⟩)) ∧ Asd (wayFrom fs (p.take i) (p.drop i) = R) ∧ Asd (∃ x, fs.at (p.take i) = some x ∧ x.kind = 2))
  case atStart => exact ⟨rfl, 0, by omega, rfl, rfl, by rw [List.take_zero], ⟨by rw [List.take_zero, List.drop_zero]; exact HR.out⟩, ⟨_, rfl, rfl⟩⟩
  case round =>
    obtain ⟨rfl, i, hi, rfl, rfl, rfl, HWy, HD⟩ := hrel
    have hip : i < p.length := by omega
    obtain ⟨n, hn⟩ : ∃ n, p[i] = n := ⟨_, rfl⟩
    obtain ⟨x, hx, hxk⟩ := HD.out
    have hcell : ((w.alloc (.cells #[.pointer none, .string ⟨#[]⟩, .pointer none] 79))).cell? ⟨g, i, none⟩ = some (.string (nb n)) := by
      have h := HN1.out.cell hip
      rw [Nat.zero_add, hn] at h
      exact h
    have hno := HT1.out.node _ _ hx
    rw [if_pos hxk] at hno
    have c2 : ((w.alloc (.cells #[.pointer none, .string ⟨#[]⟩, .pointer none] 79))).cell? ⟨A (p.take i), 2, none⟩ = some (.map (some (M (p.take i)))) := cell_of_heap hno 2
    have hlook := look_kid HT1.out hx hxk n
    have htk : p.take i ++ [n] = p.take (i + 1) := by rw [List.take_succ_eq_append_getElem hip, hn]
    by_cases hlt : i < m
    · have k1 : (i : Int) < (m : Int) := by omega
      obtain ⟨n2, r, hdr⟩ : ∃ n2 r, p.drop i = n :: n2 :: r := by
        have h1 := List.drop_eq_getElem_cons (l := p) (i := i) (by omega)
        have h2 := List.drop_eq_getElem_cons (l := p) (i := i + 1) (by omega)
        rw [h2, hn] at h1
        exact ⟨_, _, h1⟩
      have hw := HWy.out
      rw [hdr] at hw
      simp only [wayFrom] at hw
      have hdr2 : p.drop (i + 1) = n2 :: r := by
        have : p.drop (i + 1) = (p.drop i).drop 1 := by rw [List.drop_drop]
        rw [this, hdr]; rfl
      rw [htk] at hw hlook
      unfold kidA at hlook
      cases hy : fs.at (p.take (i + 1)) with
      | none =>
        rw [hy] at hw hlook
        simp only at hw
        rw [show (none : Option Nd).map (fun _ => (⟨A (p.take (i + 1)), 0, none⟩ : Addr)) = none from rfl] at hlook
        have HP := Asd.mk (show wayPost fs A p (.returned (.tuple #[(.agg #[.pointer none, .string ⟨#[]⟩, .pointer none]), .iface 71 (.int .i64 200)])) by unfold wayPost; rw [HR.out, ← hw]; rfl)
        clear hw hy hdr hdr2 htk hn hx hxk HWy HD hno
        go_wp2
        refine bodyPost_ret (results_row_tmp rfl _ _ w.heap.size 79 _ (0, 0) _ rfl (hp_new _ _) Tryz.underlying79 rfl (size_place _ _ _)) rfl ?_
        exact ⟨HP.out, (Chg.refl _ _).alloc _⟩
      | some y =>
        rw [hy] at hw hlook
        simp only at hw
        rw [show (some y).map (fun _ => (⟨A (p.take (i + 1)), 0, none⟩ : Addr)) = some ⟨A (p.take (i + 1)), 0, none⟩ from rfl] at hlook
        have hno2 := HT1.out.node _ _ hy
        have y0 : ((w.alloc (.cells #[.pointer none, .string ⟨#[]⟩, .pointer none] 79))).cell? ⟨A (p.take (i + 1)), 0, none⟩ = some (.int .i64 (y.kind : Int)) := cell_of_heap hno2 0
        have hkk := HG.out.kind _ _ hy
        by_cases h1 : y.kind = 1
        · rw [if_pos h1] at hw
          rw [h1] at y0
          have HP := Asd.mk (show wayPost fs A p (.returned (.tuple #[(.agg #[.pointer none, .string ⟨#[]⟩, .pointer none]), .iface 71 (.int .i64 203)])) by unfold wayPost; rw [HR.out, ← hw]; rfl)
          clear hw hy hdr hdr2 htk hn hx hxk HWy HD hno hno2 hkk h1
          go_wp2
          refine bodyPost_ret (results_row_tmp rfl _ _ w.heap.size 79 _ (0, 0) _ rfl (hp_new _ _) Tryz.underlying79 rfl (size_place _ _ _)) rfl ?_
          exact ⟨HP.out, (Chg.refl _ _).alloc _⟩
        · rw [if_neg h1] at hw
          by_cases h3 : y.kind = 3
          · rw [if_pos h3] at hw
            rw [h3] at y0
            have HP := Asd.mk (show wayPost fs A p (.returned (.tuple #[(.agg #[.pointer none, .string ⟨#[]⟩, .pointer none]), .iface 71 (.int .i64 204)])) by unfold wayPost; rw [HR.out, ← hw]; rfl)
            clear hw hy hdr hdr2 htk hn hx hxk HWy HD hno hno2 hkk h1 h3
            go_wp2
            refine bodyPost_ret (results_row_tmp rfl _ _ w.heap.size 79 _ (0, 0) _ rfl (hp_new _ _) Tryz.underlying79 rfl (size_place _ _ _)) rfl ?_
            exact ⟨HP.out, (Chg.refl _ _).alloc _⟩
          · rw [if_neg h3] at hw
            have h2 : y.kind = 2 := by omega
            rw [h2] at y0
            have HW2 := Asd.mk (show wayFrom fs (p.take (i + 1)) (p.drop (i + 1)) = R by rw [hdr2]; exact hw)
            have HD2 := Asd.mk (show ∃ x, fs.at (p.take (i + 1)) = some x ∧ x.kind = 2 from ⟨y, hy, h2⟩)
            clear hw hy hdr hdr2 htk hn hx hxk HWy HD hno hno2 hkk h1 h3 h2
            go_wp2
            go_roundg (m + 1 - (i + 1))
            case rel => exact ⟨rfl, i + 1, by omega, by omega, by go_num, rfl, HW2, HD2⟩
            case measure => omega
    · obtain rfl : i = m := by omega
      have hdr : p.drop i = [n] := by
        have h1 := List.drop_eq_getElem_cons (l := p) (i := i) (by omega)
        have h2 : p.drop (i + 1) = [] := List.drop_eq_nil_of_le (by omega)
        rw [hn, h2] at h1
        exact h1
      have hw := HWy.out
      rw [hdr] at hw
      simp only [wayFrom] at hw
      have htp : p.take (i + 1) = p := List.take_of_length_le (by omega)
      rw [htp] at htk
      have hdl : p.dropLast = p.take i := by rw [List.dropLast_eq_take, hm, Nat.add_sub_cancel]
      have hgl : p.getLastD [] = n := by
        rw [← htk]; simp
      rw [htk] at hlook
      have HP := Asd.mk (show wayPost fs A p (.returned (.tuple #[(.agg #[.pointer (dirA A p), .string (lastS p), .pointer (kidA fs A p)]), .nilIface])) by unfold wayPost; rw [HR.out, ← hw])
      have HPV := Asd.mk (show dirA A p = some ⟨A (p.take i), 0, none⟩ ∧ lastS p = nb n from ⟨by unfold dirA; rw [if_neg hp, hdl], by unfold lastS; rw [if_neg hp, hgl]⟩)
      obtain ⟨ka, hka⟩ : ∃ a, kidA fs A p = a := ⟨_, rfl⟩
      rw [hka] at hlook
      have HKA := Asd.mk hka
      clear hw hdr htk htp hdl hgl hn hx hxk HWy HD hno hka
      have kq : ((i : Int) + 1 - 1) = (i : Int) := by omega
      go_wp2
      refine bodyPost_ret (results_row_tmp rfl _ _ w.heap.size 79 _ (0, 0) _ rfl (hp_new _ _) Tryz.underlying79 rfl (size_place _ _ _)) rfl ?_
      exact ⟨by rw [← HKA.out, ← HPV.out.1, ← HPV.out.2]; exact HP.out, (Chg.refl _ _).alloc _⟩
set_option maxRecDepth 100000 in
set_option maxHeartbeats 16000000 in
theorem way_root (L : List Nat) (t : Nat) (fs : FS) (by' nd : Nat) (A M : Pth → Nat) (w : World) (hT : TabAt w L t fs by' nd A M) :
    Calls Tryz.prog 57 #[(.pointer (some ⟨t, 0, none⟩)), .slice none 0 0] w fun e w' => wayPost fs A [] e ∧ Chg [] w w' := by
  have HC := Asd.mk (show Chg [] w (w.alloc (.cells #[.pointer none, .string ⟨#[]⟩, .pointer none] 79)) from (Chg.refl _ _).alloc _)
  have HT1 := Asd.mk (hT.keep0 HC.out)
  have r0 : ((w.alloc (.cells #[.pointer none, .string ⟨#[]⟩, .pointer none] 79))).cell? ⟨t, 0, none⟩ = some (.pointer (some ⟨A [], 0, none⟩)) := cell_of_heap HT1.out.tab 0
  clear hT
  go_enter Tryz.func57, Tryz.ntmps57
  go_wp2
  refine bodyPost_ret (results_row_tmp rfl _ _ w.heap.size 79 _ (0, 0) _ rfl (hp_new _ _) Tryz.underlying79 rfl (size_place _ _ _)) rfl ?_
  exact ⟨by unfold wayPost wayE; simp only [wayFrom, dirA, lastS, kidA, at_root, if_true, Option.map_some]; rfl, (Chg.refl _ _).alloc _⟩
end Go.Proofs.YtiijbecklkccfaaGreatDoor.I
