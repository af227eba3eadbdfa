/- GlobEscapes: the walk. -/
import Derived.Test.YtgkifphfibcfdaaGreatDoorEscMean
namespace Go.Proofs.YtgkifphfibcfdaaGreatDoor.G
open Go.RowKit Go.Proofs.YtgkifphfibcfdaaGreatDoor.B
set_option linter.unusedVariables false
set_option maxRecDepth 100000 in
set_option maxHeartbeats 8000000 in
theorem escapes_calls (name other : ByteArray) (w : World) (hE : ErrType w) (hn : name.size ≤ 1048576) (ho : other.size ≤ 1048576) :
    Calls Tryz.prog 5 #[.string name, .string other] w fun e w' => e = .returned (.bool true) ∧ Chg [] w w' := by
  have HE := Asd.mk hE
  have hsz : (escS name).size ≤ 2097152 := by
    rw [escS_size]
    have := (escL_le name name.size (Nat.le_refl _)).2
    omega
  have hpa := parts_escS name
  have hA := escape_short name w hn
  obtain ⟨p, hp⟩ : ∃ p, escS name = p := ⟨_, rfl⟩
  have hB : ∀ W : World, Calls Tryz.prog 19 #[.string name] W fun e w' => e = .returned (.string p) ∧ Chg [] W w' := fun W => by rw [← hp]; exact refescape_calls name W hn
  rw [hp] at hsz hpa hA
  have HPA := Asd.mk hpa
  have HA := Asd.mk hA
  have HB := Asd.mk hB
  have tn : (p.toList == p.toList) = true := by simp
  have tn2 : (p.toList != p.toList) = false := by simp
  clear hE hpa hA hB hp
  go_enter Tryz.func5, Tryz.ntmps5
  go_wp2_with fail
  refine HA.out.mono ?_
  rintro e w1 ⟨rfl, hC1⟩
  have HC1 := Asd.mk hC1
  clear hC1
  go_wp2_with fail
  refine (HB.out w1).mono ?_
  rintro e w2 ⟨rfl, hC2⟩
  have HC2 := Asd.mk (HC1.out.trans hC2)
  clear hC2
  by_cases hlong : 1024 < p.size
  · go_wp2_with fail
    refine (compile_long p w2 hlong (by omega)).mono ?_
    rintro e w3 ⟨rfl, rfl⟩
    go_wp2_with fail
    refine (num_errno 2 w3 (HE.out.chg HC2.out)).mono ?_
    rintro e w4 ⟨rfl, hC4⟩
    have HC4 := Asd.mk (HC2.out.trans hC4)
    clear hC4
    go_wp2_with fail
    refine (works_calls w4 (HE.out.chg HC4.out)).mono ?_
    rintro e w5 ⟨rfl, hC5⟩
    have HC5 := Asd.mk (HC4.out.trans hC5)
    clear hC5
    go_wp2
    go_ret
    exact ⟨rfl, HC5.out⟩
  · have hcomp := compile_parts p w2 (by omega)
    rw [HPA.out] at hcomp
    have HComp := Asd.mk hcomp
    have M1 := Asd.mk (show mt ((bl name).map single) (bl name) = true by rw [mt_escS]; simp)
    have M2 := Asd.mk (mt_escS name other)
    clear hcomp
    go_wp2_with fail
    refine HComp.out.mono ?_
    rintro e w3 ⟨gp, rfl, hC3, hG3⟩
    have HC3 := Asd.mk (HC2.out.trans hC3)
    have HG3 := Asd.mk hG3
    clear hC3 hG3
    go_wp2_with fail
    refine (match_mt gp _ name w3 HG3.out (by omega)).mono ?_
    rw [M1.out]
    rintro e w4 ⟨rfl, nn, hw⟩
    have hC : Chg [] w3 w4 := by rw [hw]; exact (Chg.refl _ _).drewN nn
    have HC4 := Asd.mk (HC3.out.trans hC)
    have HG4 := Asd.mk (HG3.out.chg hC)
    clear hw hC
    go_wp2_with fail
    refine (match_mt gp _ other w4 HG4.out (by omega)).mono ?_
    rw [M2.out]
    cases hq : (name.toList == other.toList) with
    | true =>
      rintro e w5 ⟨rfl, nn, hw⟩
      have HC5 := Asd.mk (show Chg [] w w5 by rw [hw]; exact HC4.out.drewN nn)
      clear hw
      go_wp2_with fail
      refine (works_calls w5 (HE.out.chg HC5.out)).mono ?_
      rintro e w6 ⟨rfl, hC6⟩
      have HC6 := Asd.mk (HC5.out.trans hC6)
      clear hC6
      go_wp2
      go_ret
      exact ⟨rfl, HC6.out⟩
    | false =>
      rintro e w5 ⟨rfl, nn, hw⟩
      have HC5 := Asd.mk (show Chg [] w w5 by rw [hw]; exact HC4.out.drewN nn)
      clear hw
      go_wp2_with fail
      refine (works_calls w5 (HE.out.chg HC5.out)).mono ?_
      rintro e w6 ⟨rfl, hC6⟩
      have HC6 := Asd.mk (HC5.out.trans hC6)
      clear hC6
      go_wp2
      go_ret
      exact ⟨rfl, HC6.out⟩
end Go.Proofs.YtgkifphfibcfdaaGreatDoor.G
