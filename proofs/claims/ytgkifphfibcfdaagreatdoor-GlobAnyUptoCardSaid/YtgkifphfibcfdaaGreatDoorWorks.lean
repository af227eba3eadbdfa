/- works: the head of the glob statements. -/
import Derived.Test.YtgkifphfibcfdaaGreatDoorCompile
import Derived.Test.YtgkifphfibcfdaaGreatDoorMean
import Derived.Test.YtgkifphfibcfdaaGreatDoorEsc
import Derived.Test.YtgkifphfibcfdaaGreatDoorNum
namespace Go.Proofs.YtgkifphfibcfdaaGreatDoor.G
open Go.RowKit Go.Proofs.YtgkifphfibcfdaaGreatDoor.B
set_option linter.unusedVariables false
theorem PartsAt.chg {w w' : World} {A : Option Addr} {L : List PartV} (h : PartsAt w A L) (hc : Chg [] w w') : PartsAt w' A L := by
  intro p hp
  obtain ⟨g, hA, hj⟩ := h p hp
  refine ⟨g, hA, fun j hjl => ?_⟩
  have h1 := hj j hjl
  obtain ⟨v, hv⟩ : ∃ v, (cellsOf (L[p]'hp).1 (L[p]'hp).2)[j]? = some v := ⟨_, Array.getElem?_eq_getElem (by rw [cellsOf_size]; exact hjl)⟩
  rw [hv] at h1 ⊢
  exact (hc.below.cell (p := ⟨g, p * 257 + j, none⟩) (World.block_lt_of_cell? w _ h1)).trans h1
theorem GlobAt.chg {w w' : World} {gp : Nat} {L : List PartV} (h : GlobAt w gp L) (hc : Chg [] w w') : GlobAt w' gp L := by
  obtain ⟨A, c, h1, h2, h3⟩ := h
  exact ⟨A, c, hc.heap h1 (by simp), h2.chg hc, h3⟩
theorem match_mt (gp : Nat) (L : List PartV) (s : ByteArray) (w : World) (hg : GlobAt w gp L) (hs : s.size ≤ 16777216) :
    Calls Tryz.prog 15 #[.pointer (some ⟨gp, 0, none⟩), .string s] w fun e w' => e = .returned (.bool (mt L (bl s))) ∧ ∃ n, w' = w.drewN n := by
  obtain ⟨k, hk⟩ := mrun_start L s
  exact match_calls gp L s k _ w hg hs hk
theorem compile_parts (s : ByteArray) (w : World) (hs : s.size ≤ 1024) : Calls Tryz.prog 12 #[.string s] w fun e w' => CompPost w (parts s) e w' := compile_calls s w hs _ _ (crun_parts s)
def pat1 : ByteArray := ⟨#[42, 46, 91, 97, 45, 99, 111, 93]⟩
def pat2 : ByteArray := ⟨#[91, 97]⟩
theorem pat1_means : ∃ L, parts pat1 = some L ∧ mt L (bl ⟨#[120, 46, 111]⟩) = true ∧ mt L (bl ⟨#[46, 98]⟩) = true ∧ mt L (bl ⟨#[120, 46, 100]⟩) = false := by
  have h : (match parts pat1 with | some L => mt L (bl ⟨#[120, 46, 111]⟩) && mt L (bl ⟨#[46, 98]⟩) && !mt L (bl ⟨#[120, 46, 100]⟩) | none => false) = true := by kernel_rfl
  cases hp : parts pat1 with
  | none => rw [hp] at h; cases h
  | some L =>
    rw [hp] at h
    simp only [Bool.and_eq_true, Bool.not_eq_true'] at h
    exact ⟨L, rfl, h.1.1, h.1.2, h.2⟩
theorem pat2_none : parts pat2 = none := by kernel_rfl
theorem esc1 : escS ⟨#[97, 42]⟩ = ⟨#[97, 92, 42]⟩ := by kernel_rfl
set_option maxRecDepth 100000 in
set_option maxHeartbeats 4000000 in
theorem works_calls (w : World) (hE : ErrType w) : Calls Tryz.prog 17 #[] w fun e w' => e = .returned (.bool true) ∧ Chg [] w w' := by
  obtain ⟨L, hL, m1, m2, m3⟩ := pat1_means
  have h1 := compile_parts pat1 w (by decide)
  rw [hL] at h1
  have H1 := Asd.mk h1
  have M1 := Asd.mk m1
  have M2 := Asd.mk m2
  have M3 := Asd.mk m3
  have HE := Asd.mk hE
  clear h1 m1 m2 m3 hL hE
  go_enter Tryz.func17, Tryz.ntmps17
  go_wp2_with fail
  refine H1.out.mono ?_
  rintro e w1 ⟨gp, rfl, hC1, hG1⟩
  have h2 := compile_parts pat2 w1 (by decide)
  rw [pat2_none] at h2
  have H2 := Asd.mk h2
  have HC1 := Asd.mk hC1
  have HG1 := Asd.mk hG1
  clear h2 hC1 hG1 H1
  go_wp2_with fail
  refine H2.out.mono ?_
  rintro e w2 ⟨rfl, hC2⟩
  have HG2 := Asd.mk (HG1.out.chg hC2)
  have HC2 := Asd.mk (HC1.out.trans hC2)
  clear H2 hC2 HG1 HC1
  go_wp2_with fail
  refine (num_errno 40 w2 (HE.out.chg HC2.out)).mono ?_
  rintro e w3 ⟨rfl, hC3⟩
  have HG3 := Asd.mk (HG2.out.chg hC3)
  have HC3 := Asd.mk (HC2.out.trans hC3)
  clear HG2 HC2 hC3
  go_wp2_with fail
  refine (match_mt gp L ⟨#[120, 46, 111]⟩ w3 HG3.out (by decide)).mono ?_
  rw [M1.out]
  rintro e w4 ⟨rfl, n4, hw4⟩
  have HG4 := Asd.mk (show GlobAt w4 gp L by rw [hw4]; exact HG3.out.chg ((Chg.refl [] _).drewN n4))
  have HC4 := Asd.mk (show Chg [] w w4 by rw [hw4]; exact HC3.out.drewN n4)
  clear hw4
  go_wp2_with fail
  refine (match_mt gp L ⟨#[46, 98]⟩ _ HG4.out (by decide)).mono ?_
  rw [M2.out]
  rintro e w5 ⟨rfl, n5, hw5⟩
  have HG5 := Asd.mk (show GlobAt w5 gp L by rw [hw5]; exact HG4.out.chg ((Chg.refl [] _).drewN n5))
  have HC5 := Asd.mk (show Chg [] w w5 by rw [hw5]; exact HC4.out.drewN n5)
  clear hw5
  go_wp2_with fail
  refine (match_mt gp L ⟨#[120, 46, 100]⟩ _ HG5.out (by decide)).mono ?_
  rw [M3.out]
  rintro e w6 ⟨rfl, n6, hw6⟩
  have HC6 := Asd.mk (show Chg [] w w6 by rw [hw6]; exact HC5.out.drewN n6)
  clear hw6
  go_wp2_with fail
  refine (escape_short ⟨#[97, 42]⟩ _ (by decide)).mono ?_
  rw [esc1]
  rintro e w7 ⟨rfl, hC7⟩
  have HC7 := Asd.mk (HC6.out.trans hC7)
  clear hC7
  go_wp2
  go_ret
  exact ⟨rfl, HC7.out⟩
end Go.Proofs.YtgkifphfibcfdaaGreatDoor.G
