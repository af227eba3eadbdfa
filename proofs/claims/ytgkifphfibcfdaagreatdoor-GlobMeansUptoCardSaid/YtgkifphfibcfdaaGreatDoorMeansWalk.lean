/- GlobMeans: the walk. -/
import Derived.Test.YtgkifphfibcfdaaGreatDoorWorks
import Derived.Test.YtgkifphfibcfdaaGreatDoorRMatch
import Derived.Test.YtgkifphfibcfdaaGreatDoorRComp
namespace Go.Proofs.YtgkifphfibcfdaaGreatDoor.G
open Go.RowKit Go.Proofs.YtgkifphfibcfdaaGreatDoor.B
set_option linter.unusedVariables false
set_option maxRecDepth 100000 in
set_option maxHeartbeats 8000000 in
theorem means_calls (p name : ByteArray) (w : World) (hE : ErrType w) (hp : p.size ≤ 1048576) (hn : name.size ≤ 1048576) :
    Calls Tryz.prog 3 #[.string p, .string name] w fun e w' => e = .returned (.bool true) ∧ Chg [] w w' := by
  have HE := Asd.mk hE
  clear hE
  by_cases hlong : 1024 < p.size
  · go_enter Tryz.func3, Tryz.ntmps3
    go_wp2_with fail
    refine (compile_long p w hlong (by omega)).mono ?_
    rintro e w1 ⟨rfl, hw1⟩
    have HC1 := Asd.mk (show Chg [] w w1 by rw [hw1]; exact Chg.refl _ _)
    clear hw1
    go_wp2_with fail
    refine (rcompile_long p w1 hlong (by omega)).mono ?_
    rintro e w2 ⟨rfl, hw2⟩
    have HC2 := Asd.mk (show Chg [] w w2 by rw [hw2]; exact HC1.out)
    clear hw2
    go_wp2_with fail
    refine (num_errno 2 w2 (HE.out.chg HC2.out)).mono ?_
    rintro e w4 ⟨rfl, hC4⟩
    have HC4 := Asd.mk (HC2.out.trans hC4)
    clear hC4
    go_wp2_with fail
    refine (works_calls w4 (HE.out.chg HC4.out)).mono ?_
    rintro e w5 ⟨rfl, hC5⟩
    have HC5 := Asd.mk (HC4.out.trans hC5)
    clear hC5
    go_wp2
    go_ret
    exact ⟨rfl, HC5.out⟩
  · cases hpar : parts p with
    | none =>
      have hcomp := compile_parts p w (by omega)
      rw [hpar] at hcomp
      have HComp := Asd.mk hcomp
      have HR := Asd.mk (fun W : World => show Calls Tryz.prog 13 #[.string p] W fun e w' => RCompPost W none e w' by rw [← hpar]; exact rcompile_parts p W (by omega))
      clear hcomp hpar
      go_enter Tryz.func3, Tryz.ntmps3
      go_wp2_with fail
      refine HComp.out.mono ?_
      rintro e w1 ⟨rfl, hC1⟩
      have HC1 := Asd.mk hC1
      clear hC1
      go_wp2_with fail
      refine (HR.out w1).mono ?_
      rintro e w2 ⟨hC2, rfl⟩
      have HC2 := Asd.mk (HC1.out.trans hC2)
      clear hC2
      go_wp2_with fail
      refine (num_errno 40 w2 (HE.out.chg HC2.out)).mono ?_
      rintro e w4 ⟨rfl, hC4⟩
      have HC4 := Asd.mk (HC2.out.trans hC4)
      clear hC4
      go_wp2_with fail
      refine (works_calls w4 (HE.out.chg HC4.out)).mono ?_
      rintro e w5 ⟨rfl, hC5⟩
      have HC5 := Asd.mk (HC4.out.trans hC5)
      clear hC5
      go_wp2
      go_ret
      exact ⟨rfl, HC5.out⟩
    | some L =>
      have hcomp := compile_parts p w (by omega)
      rw [hpar] at hcomp
      have HComp := Asd.mk hcomp
      have HR := Asd.mk (fun W : World => show Calls Tryz.prog 13 #[.string p] W fun e w' => RCompPost W (some L) e w' by rw [← hpar]; exact rcompile_parts p W (by omega))
      clear hcomp hpar
      go_enter Tryz.func3, Tryz.ntmps3
      go_wp2_with fail
      refine HComp.out.mono ?_
      rintro e w1 ⟨gp, rfl, hC1, hG1⟩
      have HC1 := Asd.mk hC1
      have HG1 := Asd.mk hG1
      clear hC1 hG1
      go_wp2_with fail
      refine (HR.out w1).mono ?_
      rintro e w2 ⟨hC2, A, c, rfl, hP2, hL⟩
      have HC2 := Asd.mk (HC1.out.trans hC2)
      have HG2 := Asd.mk (HG1.out.chg hC2)
      have HP2 := Asd.mk hP2
      clear hC2 hP2
      go_wp2_with fail
      refine (num_nil w2).mono ?_
      rintro e w3 ⟨rfl, hw3⟩
      subst hw3
      go_wp2_with fail
      refine (match_mt gp _ name w3 HG2.out (by omega)).mono ?_
      rintro e w4 ⟨rfl, nn, hw⟩
      have hC : Chg [] w3 w4 := by rw [hw]; exact (Chg.refl _ _).drewN nn
      have HC4 := Asd.mk (HC2.out.trans hC)
      have HP4 := Asd.mk (HP2.out.chg hC)
      clear hw hC
      obtain ⟨b, hb⟩ : ∃ b, b = mt L (bl name) := ⟨_, rfl⟩
      have HRM := Asd.mk (show Calls Tryz.prog 16 #[.slice A L.length c, .string name] w4 fun e w' => e = .returned (.bool b) ∧ Chg [] w4 w' by rw [hb]; exact rmatch_calls A c L name w4 HP4.out hL (by omega))
      rw [← hb]
      clear hb
      go_wp2_with fail
      refine HRM.out.mono ?_
      rintro e w5 ⟨rfl, hC5⟩
      have HC5 := Asd.mk (HC4.out.trans hC5)
      clear hC5
      have tb : (b == b) = true := by simp
      go_wp2_with fail
      refine (works_calls w5 (HE.out.chg HC5.out)).mono ?_
      rintro e w6 ⟨rfl, hC6⟩
      have HC6 := Asd.mk (HC5.out.trans hC6)
      clear hC6
      go_wp2
      go_ret
      exact ⟨rfl, HC6.out⟩
end Go.Proofs.YtgkifphfibcfdaaGreatDoor.G
