/- GlobEither: the walk. Printed by either.py. -/
import Derived.Test.YtgkifphfibcfdaaGreatDoorWorks
import Derived.Test.YtgkifphfibcfdaaGreatDoorRMatch
import Derived.Test.YtgkifphfibcfdaaGreatDoorRComp
import Derived.Test.YtgkifphfibcfdaaGreatDoorOneByte
import Derived.Test.YtgkifphfibcfdaaGreatDoorEitherMean
import Derived.Deep.CutRange
import Derived.Deep.CutBlock
namespace Go.Proofs.YtgkifphfibcfdaaGreatDoor.G
open Go.RowKit Go.Proofs.YtgkifphfibcfdaaGreatDoor.B
set_option linter.unusedVariables false
theorem x_first (s : ByteArray) : 0 < ((⟨#[120]⟩ : ByteArray) ++ s).size ∧ bn ((⟨#[120]⟩ : ByteArray) ++ s) 0 = 120 := by
  have h : bn ((⟨#[120]⟩ : ByteArray) ++ s) 0 = 120 := (pre_append ⟨#[120]⟩ s).at_ 0 (by decide)
  have h1 : (⟨#[120]⟩ : ByteArray).size = 1 := rfl
  refine ⟨?_, h⟩
  rw [ByteArray.size_append, h1]; omega
theorem empty_of {s : ByteArray} (h : ¬ 0 < s.size) : s = ⟨#[]⟩ := by
  have h0 : s.size = 0 := by omega
  apply ByteArray.ext
  exact Array.eq_empty_of_size_eq_zero h0
set_option maxRecDepth 100000 in
set_option maxHeartbeats 16000000 in
theorem either_calls (set name : ByteArray) (w : World) (hE : ErrType w) (hs : set.size ≤ 1048576) (hn : name.size ≤ 1048576) :
    Calls Tryz.prog 7 #[.string set, .string name] w fun e w' => e = .returned (.bool true) ∧ Chg [] w w' := by
  have HE := Asd.mk hE
  clear hE
  go_enter Tryz.func7, Tryz.ntmps7
  go_upto_region 1 with fail
  go_cut [26] from 15 to 26 (fun v26 wx => w = wx ∧ ∃ cc : Bool, v26 = .bool cc ∧ Asd (cc = true ∨ (0 < set.size ∧ bn set 0 ≠ 33 ∧ bn set 0 ≠ 94)))
  case first =>
    by_cases hz : 0 < set.size
    · have b0 : bn set 0 = set[0].toNat := by unfold bn; rw [dif_pos hz]
      have te : (set.toList == []) = false := by
        apply Bool.eq_false_iff.2
        intro h
        rw [beq_iff_eq, ByteArray.toList_eq] at h
        have h2 := congrArg List.length h
        have h3 : set.data.toList.length = set.size := by simp
        simp only [List.length_nil] at h2
        omega
      by_cases h33 : bn set 0 = 33
      · have t5 : (((set[0].toNat : Nat) : Int) == 33) = true := by rw [← b0, h33]; rfl
        clear b0 h33
        go_wp2
        go_meet
        case rel => exact ⟨rfl, _, rfl, ⟨.inl rfl⟩⟩
      · have t5 : (((set[0].toNat : Nat) : Int) == 33) = false := by rw [← b0]; simp; omega
        by_cases h94 : bn set 0 = 94
        · have t6 : (((set[0].toNat : Nat) : Int) == 94) = true := by rw [← b0, h94]; rfl
          clear b0 h33 h94
          go_wp2
          go_meet
          case rel => exact ⟨rfl, _, rfl, ⟨.inl rfl⟩⟩
        · have t6 : (((set[0].toNat : Nat) : Int) == 94) = false := by rw [← b0]; simp; omega
          have HH := Asd.mk (show 0 < set.size ∧ bn set 0 ≠ 33 ∧ bn set 0 ≠ 94 from ⟨hz, h33, h94⟩)
          clear b0 h33 h94
          go_wp2
          go_meet
          case rel => exact ⟨rfl, _, rfl, ⟨.inr HH.out⟩⟩
    · obtain rfl := empty_of hz
      clear hz hs
      go_wp2
      go_meet
      case rel => exact ⟨rfl, _, rfl, ⟨.inl rfl⟩⟩
  case rest =>
    obtain ⟨rfl, cc, rfl, HCC⟩ := hcut
    go_upto_if 26 with fail
    go_cut [0] from 27 to 28 (fun v0 wx => w = wx ∧ ∃ S : ByteArray, v0 = .string S ∧ S.size ≤ 1048577 ∧ Asd (0 < S.size ∧ bn S 0 ≠ 33 ∧ bn S 0 ≠ 94))
    case first =>
      cases cc with
      | true =>
        go_wp2
        go_meet
        case rel =>
          have hx := x_first set
          have h1 : (⟨#[120]⟩ : ByteArray).size = 1 := rfl
          exact ⟨rfl, _, rfl, by rw [ByteArray.size_append, h1]; omega, ⟨hx.1, by omega, by omega⟩⟩
      | false =>
        have HX := Asd.mk (show 0 < set.size ∧ bn set 0 ≠ 33 ∧ bn set 0 ≠ 94 from by
          rcases HCC.out with h | h
          · cases h
          · exact h)
        go_wp2
        go_meet
        case rel => exact ⟨rfl, set, rfl, by omega, HX⟩
    case rest =>
      obtain ⟨rfl, S, rfl, hS, HX⟩ := hcut
      clear HCC hs
      obtain ⟨S1, hS1⟩ : ∃ X, (⟨#[91]⟩ : ByteArray) ++ S ++ ⟨#[93]⟩ = X := ⟨_, rfl⟩
      obtain ⟨S2, hS2⟩ : ∃ X, (⟨#[91, 33]⟩ : ByteArray) ++ S ++ ⟨#[93]⟩ = X := ⟨_, rfl⟩
      obtain ⟨S3, hS3⟩ : ∃ X, (⟨#[91, 94]⟩ : ByteArray) ++ S ++ ⟨#[93]⟩ = X := ⟨_, rfl⟩
      have q1 : (⟨#[91]⟩ : ByteArray).size = 1 := rfl
      have q2 : (⟨#[91, 33]⟩ : ByteArray).size = 2 := rfl
      have q3 : (⟨#[91, 94]⟩ : ByteArray).size = 2 := rfl
      have q4 : (⟨#[93]⟩ : ByteArray).size = 1 := rfl
      have z1 : S1.size = S.size + 2 := by rw [← hS1, ByteArray.size_append, ByteArray.size_append]; omega
      have z2 : S2.size = S.size + 3 := by rw [← hS2, ByteArray.size_append, ByteArray.size_append]; omega
      have z3 : S3.size = S.size + 3 := by rw [← hS3, ByteArray.size_append, ByteArray.size_append]; omega
      have hall : ∀ x : PartV, parts S1 = some [x] → x.1 = false ∧ parts S2 = some [((false, fun t => !(x.2 t)) : PartV)] ∧ parts S3 = some [((false, fun t => !(x.2 t)) : PartV)] := fun x hp => by
        rw [← hS1] at hp
        rw [← hS2, ← hS3]
        exact either_all HX.out.1 HX.out.2.1 HX.out.2.2 hp
      have HAll := Asd.mk hall
      clear q1 q2 q3 q4 hall HX
      by_cases hlong : 1024 < S1.size
      · go_wp2_with fail
        refine (rcompile_long S1 w hlong (by omega)).mono ?_
        rintro e w2 ⟨rfl, hw2⟩
        have HC2 := Asd.mk (show Chg [] w w2 by rw [hw2]; exact Chg.refl _ _)
        clear hw2
        go_wp2_with fail
        refine (works_calls w2 (HE.out.chg HC2.out)).mono ?_
        rintro e w99 ⟨rfl, hC99⟩
        have HC99 := Asd.mk (HC2.out.trans hC99)
        clear hC99
        go_wp2
        go_ret
        exact ⟨rfl, HC99.out⟩
      · have hR := rcompile_parts S1 w (by omega)
        cases hpar : parts S1 with
        | none =>
          rw [hpar] at hR
          have HR := Asd.mk hR
          clear hR
          go_wp2_with fail
          refine HR.out.mono ?_
          rintro e w2 ⟨hC2, rfl⟩
          have HC2 := Asd.mk hC2
          clear hC2 HR
          go_wp2_with fail
          refine (works_calls w2 (HE.out.chg HC2.out)).mono ?_
          rintro e w99 ⟨rfl, hC99⟩
          have HC99 := Asd.mk (HC2.out.trans hC99)
          clear hC99
          go_wp2
          go_ret
          exact ⟨rfl, HC99.out⟩
        | some L =>
          rw [hpar] at hR
          have HR := Asd.mk hR
          have HPar := Asd.mk hpar
          clear hR hpar
          by_cases h1 : L.length = 1
          · by_cases h1000 : 1000 < S.size
            · have l1 : ((L.length : Int) != 1) = false := by simp; omega
              have l2 : decide (1000 < (S.size : Int)) = true := decide_eq_true (by omega)
              go_wp2_with fail
              refine HR.out.mono ?_
              rintro e w2 ⟨hC2, A, c, rfl, hP2, hL⟩
              have HC2 := Asd.mk hC2
              clear hC2 HR hP2
              go_wp2_with fail
              refine (works_calls w2 (HE.out.chg HC2.out)).mono ?_
              rintro e w99 ⟨rfl, hC99⟩
              have HC99 := Asd.mk (HC2.out.trans hC99)
              clear hC99
              go_wp2
              go_ret
              exact ⟨rfl, HC99.out⟩
            · obtain ⟨x, hx⟩ : ∃ x, L = [x] := List.length_eq_one_iff.1 h1
              subst hx
              have l2 : decide (1000 < (S.size : Int)) = false := decide_eq_false (by omega)
              obtain ⟨hx1, hy2, hy3⟩ := HAll.out x HPar.out
              obtain ⟨y, hy⟩ : ∃ y : PartV, y = ((false, fun t => !(x.2 t)) : PartV) := ⟨_, rfl⟩
              rw [← hy] at hy2 hy3
              have hy1 : y.1 = false := by rw [hy]
              have hyx : ∀ t, y.2 t = !(x.2 t) := fun t => by rw [hy]
              have HXN := Asd.mk hx1
              have HYN := Asd.mk hy1
              have HYX := Asd.mk hyx
              have K1 := fun W : World => compile_parts S1 W (by omega)
              have K2 := fun W : World => compile_parts S2 W (by omega)
              have K3 := fun W : World => compile_parts S3 W (by omega)
              rw [HPar.out] at K1
              rw [hy2] at K2
              rw [hy3] at K3
              have HK1 := Asd.mk K1
              have HK2 := Asd.mk K2
              have HK3 := Asd.mk K3
              clear K1 K2 K3 hx1 hy1 hyx hy2 hy3 hy HAll HPar
              go_wp2_with fail
              refine HR.out.mono ?_
              rintro e w2 ⟨hC2, A, c, rfl, hP2, hL⟩
              have HC2 := Asd.mk hC2
              clear hC2 HR hP2 hL h1
              go_wp2_with fail
              refine (HK1.out w2).mono ?_
              rintro e w3 ⟨gp, rfl, hC3, hG3⟩
              have HC3 := Asd.mk (HC2.out.trans hC3)
              have HG3 := Asd.mk hG3
              clear hC3 hG3
              go_wp2_with fail
              refine (HK2.out w3).mono ?_
              rintro e w4 ⟨gh, rfl, hC4, hH4⟩
              have HC4 := Asd.mk (HC3.out.trans hC4)
              have HG4 := Asd.mk (HG3.out.chg hC4)
              have HH4 := Asd.mk hH4
              clear hC4 hH4
              go_wp2_with fail
              refine (HK3.out w4).mono ?_
              rintro e w5 ⟨gk3, rfl, hC5, hK5⟩
              have HC5 := Asd.mk (HC4.out.trans hC5)
              have HG5 := Asd.mk (HG4.out.chg hC5)
              have HH5 := Asd.mk (HH4.out.chg hC5)
              have HI5 := Asd.mk hK5
              clear hC5 hK5 HK1 HK2 HK3
              clear z2 z3 hS1 hS2 hS3
              go_wp2
              go_loopg [13] 257 (fun gk v13 wx => ∃ b : Nat, b ≤ 256 ∧ gk = 257 - b ∧ v13 = .int .i64 (b : Int) ∧ Asd (Chg [] w wx) ∧ Asd (GlobAt wx gp [x]) ∧ Asd (GlobAt wx gh [y]) ∧ Asd (GlobAt wx gk3 [y]))
              case atStart => exact ⟨0, by omega, rfl, rfl, HC5, HG5, HH5, HI5⟩
              case round =>
                obtain ⟨b, hb, rfl, rfl, HC6, HG6, HH6, HI6⟩ := hrel
                by_cases hlt : b < 256
                · cases hq : x.2 b with
                  | true =>
                    have M1 := Asd.mk (show mt [x] (bl (oneB b)) = true by rw [bl_one hlt, mt_single HXN.out]; exact hq)
                    have M2 := Asd.mk (show mt [y] (bl (oneB b)) = false by rw [bl_one hlt, mt_single HYN.out, HYX.out, hq]; rfl)
                    clear hq
                    have hcv := conv_one hlt (wr.alloc (.cells #[.int .u8 (b : Int)] 5)) wr.heap.size (hp_new _ _)
                    have hw8 := wrap8 hlt
                    have hA : Chg [] wr (wr.alloc (.cells #[.int .u8 (b : Int)] 5)) := (Chg.refl [] wr).alloc _
                    have HC7 := Asd.mk (HC6.out.trans hA)
                    have HG7 := Asd.mk (HG6.out.chg hA)
                    have HH7 := Asd.mk (HH6.out.chg hA)
                    have HI7 := Asd.mk (HI6.out.chg hA)
                    clear hA
                    go_wp2_with fail
                    refine (match_mt gp _ (oneB b) _ HG7.out (by rw [oneB_size]; omega)).mono ?_
                    rw [M1.out]
                    clear hcv hw8
                    rintro e w8 ⟨rfl, nn, hw⟩
                    have hC : Chg [] (wr.alloc (.cells #[.int .u8 (b : Int)] 5)) w8 := by rw [hw]; exact (Chg.refl _ _).drewN nn
                    have HC8 := Asd.mk (HC7.out.trans hC)
                    have HG8 := Asd.mk (HG7.out.chg hC)
                    have HH8 := Asd.mk (HH7.out.chg hC)
                    have HI8 := Asd.mk (HI7.out.chg hC)
                    clear hw hC
                    go_wp2_with fail
                    refine (match_mt gh _ (oneB b) _ HH8.out (by rw [oneB_size]; omega)).mono ?_
                    rw [M2.out]
                    rintro e w9 ⟨rfl, nn, hw⟩
                    have hC : Chg [] w8 w9 := by rw [hw]; exact (Chg.refl _ _).drewN nn
                    have HC9 := Asd.mk (HC8.out.trans hC)
                    have HG9 := Asd.mk (HG8.out.chg hC)
                    have HH9 := Asd.mk (HH8.out.chg hC)
                    have HI9 := Asd.mk (HI8.out.chg hC)
                    clear hw hC
                    go_wp2_with fail
                    refine (match_mt gh _ (oneB b) _ HH9.out (by rw [oneB_size]; omega)).mono ?_
                    rw [M2.out]
                    rintro e w10 ⟨rfl, nn, hw⟩
                    have hC : Chg [] w9 w10 := by rw [hw]; exact (Chg.refl _ _).drewN nn
                    have HC10 := Asd.mk (HC9.out.trans hC)
                    have HG10 := Asd.mk (HG9.out.chg hC)
                    have HH10 := Asd.mk (HH9.out.chg hC)
                    have HI10 := Asd.mk (HI9.out.chg hC)
                    clear hw hC
                    go_wp2_with fail
                    refine (match_mt gk3 _ (oneB b) _ HI10.out (by rw [oneB_size]; omega)).mono ?_
                    rw [M2.out]
                    rintro e w11 ⟨rfl, nn, hw⟩
                    have hC : Chg [] w10 w11 := by rw [hw]; exact (Chg.refl _ _).drewN nn
                    have HC11 := Asd.mk (HC10.out.trans hC)
                    have HG11 := Asd.mk (HG10.out.chg hC)
                    have HH11 := Asd.mk (HH10.out.chg hC)
                    have HI11 := Asd.mk (HI10.out.chg hC)
                    clear hw hC
                    go_wp2
                    go_roundg (257 - (b + 1))
                    case rel => exact ⟨b + 1, by omega, rfl, by go_num, HC11, HG11, HH11, HI11⟩
                    case measure => omega
                  | false =>
                    have M1 := Asd.mk (show mt [x] (bl (oneB b)) = false by rw [bl_one hlt, mt_single HXN.out]; exact hq)
                    have M2 := Asd.mk (show mt [y] (bl (oneB b)) = true by rw [bl_one hlt, mt_single HYN.out, HYX.out, hq]; rfl)
                    clear hq
                    have hcv := conv_one hlt (wr.alloc (.cells #[.int .u8 (b : Int)] 5)) wr.heap.size (hp_new _ _)
                    have hw8 := wrap8 hlt
                    have hA : Chg [] wr (wr.alloc (.cells #[.int .u8 (b : Int)] 5)) := (Chg.refl [] wr).alloc _
                    have HC7 := Asd.mk (HC6.out.trans hA)
                    have HG7 := Asd.mk (HG6.out.chg hA)
                    have HH7 := Asd.mk (HH6.out.chg hA)
                    have HI7 := Asd.mk (HI6.out.chg hA)
                    clear hA
                    go_wp2_with fail
                    refine (match_mt gp _ (oneB b) _ HG7.out (by rw [oneB_size]; omega)).mono ?_
                    rw [M1.out]
                    clear hcv hw8
                    rintro e w8 ⟨rfl, nn, hw⟩
                    have hC : Chg [] (wr.alloc (.cells #[.int .u8 (b : Int)] 5)) w8 := by rw [hw]; exact (Chg.refl _ _).drewN nn
                    have HC8 := Asd.mk (HC7.out.trans hC)
                    have HG8 := Asd.mk (HG7.out.chg hC)
                    have HH8 := Asd.mk (HH7.out.chg hC)
                    have HI8 := Asd.mk (HI7.out.chg hC)
                    clear hw hC
                    go_wp2_with fail
                    refine (match_mt gh _ (oneB b) _ HH8.out (by rw [oneB_size]; omega)).mono ?_
                    rw [M2.out]
                    rintro e w9 ⟨rfl, nn, hw⟩
                    have hC : Chg [] w8 w9 := by rw [hw]; exact (Chg.refl _ _).drewN nn
                    have HC9 := Asd.mk (HC8.out.trans hC)
                    have HG9 := Asd.mk (HG8.out.chg hC)
                    have HH9 := Asd.mk (HH8.out.chg hC)
                    have HI9 := Asd.mk (HI8.out.chg hC)
                    clear hw hC
                    go_wp2_with fail
                    refine (match_mt gh _ (oneB b) _ HH9.out (by rw [oneB_size]; omega)).mono ?_
                    rw [M2.out]
                    rintro e w10 ⟨rfl, nn, hw⟩
                    have hC : Chg [] w9 w10 := by rw [hw]; exact (Chg.refl _ _).drewN nn
                    have HC10 := Asd.mk (HC9.out.trans hC)
                    have HG10 := Asd.mk (HG9.out.chg hC)
                    have HH10 := Asd.mk (HH9.out.chg hC)
                    have HI10 := Asd.mk (HI9.out.chg hC)
                    clear hw hC
                    go_wp2_with fail
                    refine (match_mt gk3 _ (oneB b) _ HI10.out (by rw [oneB_size]; omega)).mono ?_
                    rw [M2.out]
                    rintro e w11 ⟨rfl, nn, hw⟩
                    have hC : Chg [] w10 w11 := by rw [hw]; exact (Chg.refl _ _).drewN nn
                    have HC11 := Asd.mk (HC10.out.trans hC)
                    have HG11 := Asd.mk (HG10.out.chg hC)
                    have HH11 := Asd.mk (HH10.out.chg hC)
                    have HI11 := Asd.mk (HI10.out.chg hC)
                    clear hw hC
                    go_wp2
                    go_roundg (257 - (b + 1))
                    case rel => exact ⟨b + 1, by omega, rfl, by go_num, HC11, HG11, HH11, HI11⟩
                    case measure => omega
                · obtain rfl : b = 256 := by omega
                  by_cases hn1 : name.size = 1
                  · have t1 : ((name.size : Int) == 1) = true := by rw [hn1]; rfl
                    go_wp2_with fail
                    refine (works_calls wr (HE.out.chg HC6.out)).mono ?_
                    rintro e w99 ⟨rfl, hC99⟩
                    have HC99 := Asd.mk (HC6.out.trans hC99)
                    clear hC99
                    go_wp2
                    go_ret
                    exact ⟨rfl, HC99.out⟩
                  · have t1 : ((name.size : Int) == 1) = false := by simp; omega
                    have M1 := Asd.mk (mt_other HXN.out name hn1)
                    have M2 := Asd.mk (mt_other HYN.out name hn1)
                    go_wp2_with fail
                    refine (match_mt gp _ name wr HG6.out (by omega)).mono ?_
                    rw [M1.out]
                    rintro e w7 ⟨rfl, nn, hw⟩
                    have hC : Chg [] wr w7 := by rw [hw]; exact (Chg.refl _ _).drewN nn
                    have HC7 := Asd.mk (HC6.out.trans hC)
                    have HH7 := Asd.mk (HH6.out.chg hC)
                    clear hw hC
                    go_wp2_with fail
                    refine (match_mt gh _ name w7 HH7.out (by omega)).mono ?_
                    rw [M2.out]
                    rintro e w8 ⟨rfl, nn, hw⟩
                    have HC8 := Asd.mk (show Chg [] w w8 by rw [hw]; exact HC7.out.drewN nn)
                    clear hw
                    go_wp2_with fail
                    refine (works_calls w8 (HE.out.chg HC8.out)).mono ?_
                    rintro e w99 ⟨rfl, hC99⟩
                    have HC99 := Asd.mk (HC8.out.trans hC99)
                    clear hC99
                    go_wp2
                    go_ret
                    exact ⟨rfl, HC99.out⟩
          · have l1 : ((L.length : Int) != 1) = true := by simp; omega
            go_wp2_with fail
            refine HR.out.mono ?_
            rintro e w2 ⟨hC2, A, c, rfl, hP2, hL⟩
            have HC2 := Asd.mk hC2
            clear hC2 HR hP2
            go_wp2_with fail
            refine (works_calls w2 (HE.out.chg HC2.out)).mono ?_
            rintro e w99 ⟨rfl, hC99⟩
            have HC99 := Asd.mk (HC2.out.trans hC99)
            clear hC99
            go_wp2
            go_ret
            exact ⟨rfl, HC99.out⟩
end Go.Proofs.YtgkifphfibcfdaaGreatDoor.G
