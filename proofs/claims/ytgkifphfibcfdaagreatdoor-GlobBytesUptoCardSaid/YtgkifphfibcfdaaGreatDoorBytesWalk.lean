/- GlobBytes: the walk. -/
import Derived.Test.YtgkifphfibcfdaaGreatDoorWorks
import Derived.Test.YtgkifphfibcfdaaGreatDoorRMatch
import Derived.Test.YtgkifphfibcfdaaGreatDoorRComp
import Derived.Test.YtgkifphfibcfdaaGreatDoorOneByte
import Derived.Deep.CutRange
namespace Go.Proofs.YtgkifphfibcfdaaGreatDoor.G
open Go.RowKit Go.Proofs.YtgkifphfibcfdaaGreatDoor.B
set_option linter.unusedVariables false
set_option maxRecDepth 100000 in
set_option maxHeartbeats 8000000 in
theorem bytes_calls (p : ByteArray) (w : World) (hE : ErrType w) (hp : p.size ≤ 1048576) :
    Calls Tryz.prog 4 #[.string p] w fun e w' => e = .returned (.bool true) ∧ Chg [] w w' := by
  have HE := Asd.mk hE
  clear hE
  by_cases hlong : 1024 < p.size
  · go_enter Tryz.func4, Tryz.ntmps4
    go_wp2_with fail
    refine (compile_long p w hlong (by omega)).mono ?_
    rintro e w1 ⟨rfl, hw1⟩
    have HC1 := Asd.mk (show Chg [] w w1 by rw [hw1]; exact Chg.refl _ _)
    clear hw1
    go_wp2_with fail
    refine (rcompile_long p w1 hlong (by omega)).mono ?_
    rintro e w2 ⟨rfl, hw2⟩
    have HC2 := Asd.mk (show Chg [] w w2 by rw [hw2]; exact HC1.out)
    clear hw2
    go_wp2_with fail
    refine (num_errno 2 w2 (HE.out.chg HC2.out)).mono ?_
    rintro e w4 ⟨rfl, hC4⟩
    have HC4 := Asd.mk (HC2.out.trans hC4)
    clear hC4
    go_wp2
    go_loopg [7] 1 (fun gk v7 wx => v7 = .int .i64 0 ∧ gk = 1 ∧ Asd (Chg [] w wx))
    case atStart => exact ⟨rfl, rfl, HC4⟩
    case round =>
      obtain ⟨rfl, rfl, HC7⟩ := hrel
      go_wp2_with fail
      refine (works_calls wr (HE.out.chg HC7.out)).mono ?_
      rintro e w5 ⟨rfl, hC5⟩
      have HC5 := Asd.mk (HC7.out.trans hC5)
      clear hC5
      go_wp2
      go_ret
      exact ⟨rfl, HC5.out⟩
  · cases hpar : parts p with
    | none =>
      have hcomp := compile_parts p w (by omega)
      rw [hpar] at hcomp
      have HComp := Asd.mk hcomp
      have HR := Asd.mk (fun W : World => show Calls Tryz.prog 13 #[.string p] W fun e w' => RCompPost W none e w' by rw [← hpar]; exact rcompile_parts p W (by omega))
      clear hcomp hpar
      go_enter Tryz.func4, Tryz.ntmps4
      go_wp2_with fail
      refine HComp.out.mono ?_
      rintro e w1 ⟨rfl, hC1⟩
      have HC1 := Asd.mk hC1
      clear hC1
      go_wp2_with fail
      refine (HR.out w1).mono ?_
      rintro e w2 ⟨hC2, rfl⟩
      have HC2 := Asd.mk (HC1.out.trans hC2)
      clear hC2
      go_wp2_with fail
      refine (num_errno 40 w2 (HE.out.chg HC2.out)).mono ?_
      rintro e w4 ⟨rfl, hC4⟩
      have HC4 := Asd.mk (HC2.out.trans hC4)
      clear hC4
      go_wp2
      go_loopg [7] 1 (fun gk v7 wx => v7 = .int .i64 0 ∧ gk = 1 ∧ Asd (Chg [] w wx))
      case atStart => exact ⟨rfl, rfl, HC4⟩
      case round =>
        obtain ⟨rfl, rfl, HC7⟩ := hrel
        go_wp2_with fail
        refine (works_calls wr (HE.out.chg HC7.out)).mono ?_
        rintro e w5 ⟨rfl, hC5⟩
        have HC5 := Asd.mk (HC7.out.trans hC5)
        clear hC5
        go_wp2
        go_ret
        exact ⟨rfl, HC5.out⟩
    | some L =>
      have hcomp := compile_parts p w (by omega)
      rw [hpar] at hcomp
      have HComp := Asd.mk hcomp
      have HR := Asd.mk (fun W : World => show Calls Tryz.prog 13 #[.string p] W fun e w' => RCompPost W (some L) e w' by rw [← hpar]; exact rcompile_parts p W (by omega))
      clear hcomp hpar
      go_enter Tryz.func4, Tryz.ntmps4
      go_wp2_with fail
      refine HComp.out.mono ?_
      rintro e w1 ⟨gp, rfl, hC1, hG1⟩
      have HC1 := Asd.mk hC1
      have HG1 := Asd.mk hG1
      clear hC1 hG1
      go_wp2_with fail
      refine (HR.out w1).mono ?_
      rintro e w2 ⟨hC2, A, c, rfl, hP2, hL⟩
      have HC2 := Asd.mk (HC1.out.trans hC2)
      have HG2 := Asd.mk (HG1.out.chg hC2)
      have HP2 := Asd.mk hP2
      clear hC2 hP2
      go_wp2_with fail
      refine (num_nil w2).mono ?_
      rintro e w3 ⟨rfl, hw3⟩
      subst hw3
      go_wp2
      go_loopg [7] 257 (fun gk v7 wx => ∃ b : Nat, b ≤ 256 ∧ gk = 257 - b ∧ v7 = .int .i64 (b : Int) ∧ Asd (Chg [] w wx) ∧ Asd (GlobAt wx gp L) ∧ Asd (PartsAt wx A L))
      case atStart => exact ⟨0, by omega, rfl, rfl, HC2, HG2, HP2⟩
      case round =>
        obtain ⟨b, hb, rfl, rfl, HC4, HG4, HP4⟩ := hrel
        by_cases hlt : b < 256
        · have hcv := conv_one hlt (wr.alloc (.cells #[.int .u8 (b : Int)] 5)) wr.heap.size (hp_new _ _)
          have hw8 := wrap8 hlt
          have HC5 := Asd.mk (HC4.out.alloc (.cells #[.int .u8 (b : Int)] 5))
          have HG5 := Asd.mk (HG4.out.chg ((Chg.refl [] wr).alloc (.cells #[.int .u8 (b : Int)] 5)))
          have HP5 := Asd.mk (HP4.out.chg ((Chg.refl [] wr).alloc (.cells #[.int .u8 (b : Int)] 5)))
          go_wp2_with fail
          refine (match_mt gp _ (oneB b) _ HG5.out (by rw [oneB_size]; omega)).mono ?_
          clear hcv hw8
          rintro e w4 ⟨rfl, nn, hw⟩
          have hC : Chg [] (wr.alloc (.cells #[.int .u8 (b : Int)] 5)) w4 := by rw [hw]; exact (Chg.refl _ _).drewN nn
          have HC6 := Asd.mk (HC5.out.trans hC)
          have HP6 := Asd.mk (HP5.out.chg hC)
          have HG6 := Asd.mk (HG5.out.chg hC)
          clear hw hC
          obtain ⟨q, hq⟩ : ∃ q, q = mt L (bl (oneB b)) := ⟨_, rfl⟩
          have HRM := Asd.mk (show Calls Tryz.prog 16 #[.slice A L.length c, .string (oneB b)] w4 fun e w' => e = .returned (.bool q) ∧ Chg [] w4 w' by rw [hq]; exact rmatch_calls A c L (oneB b) w4 HP6.out hL (by rw [oneB_size]; omega))
          rw [← hq]
          clear hq
          go_wp2_with fail
          refine HRM.out.mono ?_
          rintro e w5 ⟨rfl, hC7⟩
          have HC7 := Asd.mk (HC6.out.trans hC7)
          have HP7 := Asd.mk (HP6.out.chg hC7)
          have HG7 := Asd.mk (HG6.out.chg hC7)
          clear hC7 HRM
          have tb : (q != q) = false := by simp
          go_wp2
          go_roundg (257 - (b + 1))
          case rel => exact ⟨b + 1, by omega, rfl, by go_num, HC7, HG7, HP7⟩
          case measure => omega
        · obtain rfl : b = 256 := by omega
          go_wp2_with fail
          refine (works_calls wr (HE.out.chg HC4.out)).mono ?_
          rintro e w6 ⟨rfl, hC6⟩
          have HC6 := Asd.mk (HC4.out.trans hC6)
          clear hC6
          go_wp2
          go_ret
          exact ⟨rfl, HC6.out⟩
end Go.Proofs.YtgkifphfibcfdaaGreatDoor.G
