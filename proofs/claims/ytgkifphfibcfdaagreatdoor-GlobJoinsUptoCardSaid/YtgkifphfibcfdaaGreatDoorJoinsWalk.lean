/- GlobJoins: the walk. Printed by joins.py. -/
import Derived.Test.YtgkifphfibcfdaaGreatDoorWorks
import Derived.Test.YtgkifphfibcfdaaGreatDoorJoin
namespace Go.Proofs.YtgkifphfibcfdaaGreatDoor.G
open Go.RowKit Go.Proofs.YtgkifphfibcfdaaGreatDoor.B
set_option linter.unusedVariables false
/-- What Compile answers to any text. -/
def CompEnd (s : ByteArray) (w : World) (e : Ending) (w' : World) : Prop :=
  Chg [] w w' ∧ ((∃ L gp, s.size ≤ 1024 ∧ parts s = some L ∧ e = .returned (.tuple #[.pointer (some ⟨gp, 0, none⟩), .nilIface]) ∧ GlobAt w' gp L) ∨
    (∃ n, e = .returned (.tuple #[.pointer none, .iface 57 (.int .i64 n)]) ∧ ((1024 < s.size ∧ n = 2) ∨ (s.size ≤ 1024 ∧ parts s = none ∧ n = 40))))
theorem compile_any (s : ByteArray) (w : World) (hs : s.size ≤ 9223372036854775807) : Calls Tryz.prog 12 #[.string s] w fun e w' => CompEnd s w e w' := by
  by_cases h : s.size ≤ 1024
  · refine (compile_parts s w h).mono ?_
    intro e w' hp
    cases hq : parts s with
    | none =>
      rw [hq] at hp
      exact ⟨hp.2, .inr ⟨40, hp.1, .inr ⟨h, hq, rfl⟩⟩⟩
    | some L =>
      rw [hq] at hp
      obtain ⟨gp, h1, h2, h3⟩ := hp
      exact ⟨h2, .inl ⟨L, gp, h, hq, h1, h3⟩⟩
  · refine (compile_long s w (by omega) hs).mono ?_
    rintro e w' ⟨h1, rfl⟩
    exact ⟨Chg.refl _ _, .inr ⟨2, h1, .inl ⟨by omega, rfl⟩⟩⟩
def FourAt (w : World) (b : Nat) (P Q X Y : ByteArray) : Prop := w.heap[b]? = some (.cells #[.string P, .string Q, .string X, .string Y] 38 (0, 0))
set_option maxRecDepth 100000 in
set_option maxHeartbeats 8000000 in
theorem joins_calls (P Q X Y : ByteArray) (w : World) (hE : ErrType w) (hP : P.size ≤ 1048576) (hQ : Q.size ≤ 1048576) (hX : X.size ≤ 1048576) (hY : Y.size ≤ 1048576) :
    Calls Tryz.prog 6 #[.agg #[.string P, .string Q, .string X, .string Y]] w fun e w' => e = .returned (.bool true) ∧ Chg [] w w' := by
  have HE := Asd.mk hE
  clear hE
  have HC0 := Asd.mk (show Chg [] w (w.alloc (.cells #[.string P, .string Q, .string X, .string Y] 38)) from (Chg.refl _ _).alloc _)
  have HF0 := Asd.mk (show FourAt (w.alloc (.cells #[.string P, .string Q, .string X, .string Y] 38)) w.heap.size P Q X Y from hp_new _ _)
  go_enter Tryz.func6, Tryz.ntmps6
  have k00 := cell_of_heap HF0.out 0
  have k01 := cell_of_heap HF0.out 1
  have k02 := cell_of_heap HF0.out 2
  have k03 := cell_of_heap HF0.out 3
  go_wp2_with fail
  refine (compile_any P _ (by omega)).mono ?_
  rintro e w1 ⟨hC, hA⟩
  have HF1 := Asd.mk (show FourAt w1 w.heap.size P Q X Y from hC.heap HF0.out (by simp))
  have HC1 := Asd.mk (HC0.out.trans hC)
  clear hC
  clear k00 k01 k02 k03
  rcases hA with ⟨A, gp, hs1, hpA, rfl, hGA⟩ | ⟨n, rfl, _⟩
  case inr =>
    have k10 := cell_of_heap HF1.out 0
    have k11 := cell_of_heap HF1.out 1
    have k12 := cell_of_heap HF1.out 2
    have k13 := cell_of_heap HF1.out 3
    go_wp2_with fail
    refine (compile_any Q _ (by omega)).mono ?_
    rintro e w2 ⟨hC, hA⟩
    have HF2 := Asd.mk (show FourAt w2 w.heap.size P Q X Y from hC.heap HF1.out (by simp))
    have HC2 := Asd.mk (HC1.out.trans hC)
    clear hC
    clear k10 k11 k12 k13
    have k20 := cell_of_heap HF2.out 0
    have k21 := cell_of_heap HF2.out 1
    have k22 := cell_of_heap HF2.out 2
    have k23 := cell_of_heap HF2.out 3
    rcases hA with ⟨B, gq, _, _, rfl, _⟩ | ⟨m, rfl, _⟩
    · go_wp2_with fail
      refine (works_calls w2 (HE.out.chg HC2.out)).mono ?_
      rintro e w9 ⟨rfl, hC9⟩
      have HC9 := Asd.mk (HC2.out.trans hC9)
      clear hC9
      go_wp2
      go_ret
      exact ⟨rfl, HC9.out⟩
    · go_wp2_with fail
      refine (works_calls w2 (HE.out.chg HC2.out)).mono ?_
      rintro e w9 ⟨rfl, hC9⟩
      have HC9 := Asd.mk (HC2.out.trans hC9)
      clear hC9
      go_wp2
      go_ret
      exact ⟨rfl, HC9.out⟩
  have HGA1 := Asd.mk hGA
  have HpA := Asd.mk hpA
  clear hGA hpA
  have k10 := cell_of_heap HF1.out 0
  have k11 := cell_of_heap HF1.out 1
  have k12 := cell_of_heap HF1.out 2
  have k13 := cell_of_heap HF1.out 3
  go_wp2_with fail
  refine (compile_any Q _ (by omega)).mono ?_
  rintro e w2 ⟨hC, hA⟩
  have HGA2 := Asd.mk (HGA1.out.chg hC)
  have HF2 := Asd.mk (show FourAt w2 w.heap.size P Q X Y from hC.heap HF1.out (by simp))
  have HC2 := Asd.mk (HC1.out.trans hC)
  clear hC
  clear k10 k11 k12 k13
  have k20 := cell_of_heap HF2.out 0
  have k21 := cell_of_heap HF2.out 1
  have k22 := cell_of_heap HF2.out 2
  have k23 := cell_of_heap HF2.out 3
  rcases hA with ⟨B, gq, hs2, hpB, rfl, hGB⟩ | ⟨n, rfl, _⟩
  case inr =>
    go_wp2_with fail
    refine (works_calls w2 (HE.out.chg HC2.out)).mono ?_
    rintro e w9 ⟨rfl, hC9⟩
    have HC9 := Asd.mk (HC2.out.trans hC9)
    clear hC9
    go_wp2
    go_ret
    exact ⟨rfl, HC9.out⟩
  have HGB2 := Asd.mk hGB
  have HpB := Asd.mk hpB
  clear hGB hpB
  by_cases hlen : 1022 < P.size + Q.size
  · have t1 : decide (1022 < P.size + Q.size) = true := decide_eq_true hlen
    go_wp2_with fail
    refine (works_calls w2 (HE.out.chg HC2.out)).mono ?_
    rintro e w9 ⟨rfl, hC9⟩
    have HC9 := Asd.mk (HC2.out.trans hC9)
    clear hC9
    go_wp2
    go_ret
    exact ⟨rfl, HC9.out⟩
  have t1 : decide (1022 < P.size + Q.size) = false := decide_eq_false hlen
  have hw := parts_append HpA.out HpB.out
  have hv := parts_wide HpA.out
  have hvs : ((⟨#[42]⟩ : ByteArray) ++ P ++ ⟨#[42]⟩).size = P.size + 2 := by
    rw [ByteArray.size_append, ByteArray.size_append]
    have h1 : (⟨#[42]⟩ : ByteArray).size = 1 := rfl
    omega
  obtain ⟨V, hVe⟩ : ∃ V, V = (⟨#[42]⟩ : ByteArray) ++ P ++ ⟨#[42]⟩ := ⟨_, rfl⟩
  rw [← hVe] at hv hvs
  have HW := Asd.mk hw
  have HV := Asd.mk hv
  clear hw hv
  go_wp2_with fail
  refine (compile_parts (P ++ Q) _ (by rw [ByteArray.size_append]; omega)).mono ?_
  rw [HW.out]
  rintro e w3 ⟨gr, rfl, hC, hG⟩
  have HGA3 := Asd.mk (HGA2.out.chg hC)
  have HGB3 := Asd.mk (HGB2.out.chg hC)
  have HGR3 := Asd.mk hG
  clear hG
  have HF3 := Asd.mk (show FourAt w3 w.heap.size P Q X Y from hC.heap HF2.out (by simp))
  have HC3 := Asd.mk (HC2.out.trans hC)
  clear hC
  clear k20 k21 k22 k23
  have k30 := cell_of_heap HF3.out 0
  have k31 := cell_of_heap HF3.out 1
  have k32 := cell_of_heap HF3.out 2
  have k33 := cell_of_heap HF3.out 3
  go_wp2_with fail
  rw [← hVe]
  refine (compile_parts V _ (by omega)).mono ?_
  rw [HV.out]
  rintro e w4 ⟨gs, rfl, hC, hG⟩
  have HGA4 := Asd.mk (HGA3.out.chg hC)
  have HGB4 := Asd.mk (HGB3.out.chg hC)
  have HGR4 := Asd.mk (HGR3.out.chg hC)
  have HGS4 := Asd.mk hG
  clear hG
  have HF4 := Asd.mk (show FourAt w4 w.heap.size P Q X Y from hC.heap HF3.out (by simp))
  have HC4 := Asd.mk (HC3.out.trans hC)
  clear hC
  clear k30 k31 k32 k33
  have k40 := cell_of_heap HF4.out 0
  have k41 := cell_of_heap HF4.out 1
  have k42 := cell_of_heap HF4.out 2
  have k43 := cell_of_heap HF4.out 3
  obtain ⟨U1, hU1⟩ : ∃ U, U = X ++ Y := ⟨_, rfl⟩
  obtain ⟨U2, hU2⟩ : ∃ U, U = Y ++ X ++ Y := ⟨_, rfl⟩
  have s1 : U1.size = X.size + Y.size := by rw [hU1, ByteArray.size_append]
  have s2 : U2.size = Y.size + X.size + Y.size := by rw [hU2, ByteArray.size_append, ByteArray.size_append]
  cases m1 : mt A (bl X) with
  | false =>
    have M1 := Asd.mk m1
    clear m1
    go_wp2_with fail
    refine (match_mt gp A X w4 HGA4.out (by omega)).mono ?_
    rw [M1.out]
    rintro e w5 ⟨rfl, nn, hw⟩
    have hC : Chg [] w4 w5 := by rw [hw]; exact (Chg.refl _ _).drewN nn
    clear hw
    have HGA5 := Asd.mk (HGA4.out.chg hC)
    have HGB5 := Asd.mk (HGB4.out.chg hC)
    have HGR5 := Asd.mk (HGR4.out.chg hC)
    have HGS5 := Asd.mk (HGS4.out.chg hC)
    have HF5 := Asd.mk (show FourAt w5 w.heap.size P Q X Y from hC.heap HF4.out (by simp))
    have HC5 := Asd.mk (HC4.out.trans hC)
    clear hC
    clear k40 k41 k42 k43
    have k50 := cell_of_heap HF5.out 0
    have k51 := cell_of_heap HF5.out 1
    have k52 := cell_of_heap HF5.out 2
    have k53 := cell_of_heap HF5.out 3
    go_wp2_with fail
    refine (match_mt gp A X w5 HGA5.out (by omega)).mono ?_
    rw [M1.out]
    rintro e w6 ⟨rfl, nn, hw⟩
    have hC : Chg [] w5 w6 := by rw [hw]; exact (Chg.refl _ _).drewN nn
    clear hw
    have HGA6 := Asd.mk (HGA5.out.chg hC)
    have HGB6 := Asd.mk (HGB5.out.chg hC)
    have HGR6 := Asd.mk (HGR5.out.chg hC)
    have HGS6 := Asd.mk (HGS5.out.chg hC)
    have HF6 := Asd.mk (show FourAt w6 w.heap.size P Q X Y from hC.heap HF5.out (by simp))
    have HC6 := Asd.mk (HC5.out.trans hC)
    clear hC
    clear k50 k51 k52 k53
    have k60 := cell_of_heap HF6.out 0
    have k61 := cell_of_heap HF6.out 1
    have k62 := cell_of_heap HF6.out 2
    have k63 := cell_of_heap HF6.out 3
    go_wp2_with fail
    refine (works_calls w6 (HE.out.chg HC6.out)).mono ?_
    rintro e w9 ⟨rfl, hC9⟩
    have HC9 := Asd.mk (HC6.out.trans hC9)
    clear hC9
    go_wp2
    go_ret
    exact ⟨rfl, HC9.out⟩
  | true =>
    have hwd := mt_wide (y := bl Y) (z := bl Y) m1
    rw [← bl_append, ← bl_append, ← hU2] at hwd
    have HWD := Asd.mk hwd
    cases m2 : mt B (bl Y) with
    | false =>
      have M1 := Asd.mk m1
      have M2 := Asd.mk m2
      clear m1 m2 hwd
      go_wp2_with fail
      refine (match_mt gp A X w4 HGA4.out (by omega)).mono ?_
      rw [M1.out]
      rintro e w5 ⟨rfl, nn, hw⟩
      have hC : Chg [] w4 w5 := by rw [hw]; exact (Chg.refl _ _).drewN nn
      clear hw
      have HGA5 := Asd.mk (HGA4.out.chg hC)
      have HGB5 := Asd.mk (HGB4.out.chg hC)
      have HGR5 := Asd.mk (HGR4.out.chg hC)
      have HGS5 := Asd.mk (HGS4.out.chg hC)
      have HF5 := Asd.mk (show FourAt w5 w.heap.size P Q X Y from hC.heap HF4.out (by simp))
      have HC5 := Asd.mk (HC4.out.trans hC)
      clear hC
      clear k40 k41 k42 k43
      have k50 := cell_of_heap HF5.out 0
      have k51 := cell_of_heap HF5.out 1
      have k52 := cell_of_heap HF5.out 2
      have k53 := cell_of_heap HF5.out 3
      go_wp2_with fail
      refine (match_mt gq B Y w5 HGB5.out (by omega)).mono ?_
      rw [M2.out]
      rintro e w6 ⟨rfl, nn, hw⟩
      have hC : Chg [] w5 w6 := by rw [hw]; exact (Chg.refl _ _).drewN nn
      clear hw
      have HGA6 := Asd.mk (HGA5.out.chg hC)
      have HGB6 := Asd.mk (HGB5.out.chg hC)
      have HGR6 := Asd.mk (HGR5.out.chg hC)
      have HGS6 := Asd.mk (HGS5.out.chg hC)
      have HF6 := Asd.mk (show FourAt w6 w.heap.size P Q X Y from hC.heap HF5.out (by simp))
      have HC6 := Asd.mk (HC5.out.trans hC)
      clear hC
      clear k50 k51 k52 k53
      have k60 := cell_of_heap HF6.out 0
      have k61 := cell_of_heap HF6.out 1
      have k62 := cell_of_heap HF6.out 2
      have k63 := cell_of_heap HF6.out 3
      go_wp2_with fail
      refine (match_mt gp A X w6 HGA6.out (by omega)).mono ?_
      rw [M1.out]
      rintro e w7 ⟨rfl, nn, hw⟩
      have hC : Chg [] w6 w7 := by rw [hw]; exact (Chg.refl _ _).drewN nn
      clear hw
      have HGA7 := Asd.mk (HGA6.out.chg hC)
      have HGB7 := Asd.mk (HGB6.out.chg hC)
      have HGR7 := Asd.mk (HGR6.out.chg hC)
      have HGS7 := Asd.mk (HGS6.out.chg hC)
      have HF7 := Asd.mk (show FourAt w7 w.heap.size P Q X Y from hC.heap HF6.out (by simp))
      have HC7 := Asd.mk (HC6.out.trans hC)
      clear hC
      clear k60 k61 k62 k63
      have k70 := cell_of_heap HF7.out 0
      have k71 := cell_of_heap HF7.out 1
      have k72 := cell_of_heap HF7.out 2
      have k73 := cell_of_heap HF7.out 3
      go_wp2_with fail
      rw [← hU2]
      refine (match_mt gs ([((true, noneT) : PartV)] ++ A ++ [((true, noneT) : PartV)]) U2 w7 HGS7.out (by omega)).mono ?_
      rw [HWD.out]
      rintro e w8 ⟨rfl, nn, hw⟩
      have hC : Chg [] w7 w8 := by rw [hw]; exact (Chg.refl _ _).drewN nn
      clear hw
      have HGA8 := Asd.mk (HGA7.out.chg hC)
      have HGB8 := Asd.mk (HGB7.out.chg hC)
      have HGR8 := Asd.mk (HGR7.out.chg hC)
      have HGS8 := Asd.mk (HGS7.out.chg hC)
      have HF8 := Asd.mk (show FourAt w8 w.heap.size P Q X Y from hC.heap HF7.out (by simp))
      have HC8 := Asd.mk (HC7.out.trans hC)
      clear hC
      clear k70 k71 k72 k73
      have k80 := cell_of_heap HF8.out 0
      have k81 := cell_of_heap HF8.out 1
      have k82 := cell_of_heap HF8.out 2
      have k83 := cell_of_heap HF8.out 3
      go_wp2_with fail
      refine (works_calls w8 (HE.out.chg HC8.out)).mono ?_
      rintro e w9 ⟨rfl, hC9⟩
      have HC9 := Asd.mk (HC8.out.trans hC9)
      clear hC9
      go_wp2
      go_ret
      exact ⟨rfl, HC9.out⟩
    | true =>
      have hj := mt_join m1 m2
      rw [← bl_append, ← hU1] at hj
      have HJ := Asd.mk hj
      have M1 := Asd.mk m1
      have M2 := Asd.mk m2
      clear m1 m2 hwd hj
      go_wp2_with fail
      refine (match_mt gp A X w4 HGA4.out (by omega)).mono ?_
      rw [M1.out]
      rintro e w5 ⟨rfl, nn, hw⟩
      have hC : Chg [] w4 w5 := by rw [hw]; exact (Chg.refl _ _).drewN nn
      clear hw
      have HGA5 := Asd.mk (HGA4.out.chg hC)
      have HGB5 := Asd.mk (HGB4.out.chg hC)
      have HGR5 := Asd.mk (HGR4.out.chg hC)
      have HGS5 := Asd.mk (HGS4.out.chg hC)
      have HF5 := Asd.mk (show FourAt w5 w.heap.size P Q X Y from hC.heap HF4.out (by simp))
      have HC5 := Asd.mk (HC4.out.trans hC)
      clear hC
      clear k40 k41 k42 k43
      have k50 := cell_of_heap HF5.out 0
      have k51 := cell_of_heap HF5.out 1
      have k52 := cell_of_heap HF5.out 2
      have k53 := cell_of_heap HF5.out 3
      go_wp2_with fail
      refine (match_mt gq B Y w5 HGB5.out (by omega)).mono ?_
      rw [M2.out]
      rintro e w6 ⟨rfl, nn, hw⟩
      have hC : Chg [] w5 w6 := by rw [hw]; exact (Chg.refl _ _).drewN nn
      clear hw
      have HGA6 := Asd.mk (HGA5.out.chg hC)
      have HGB6 := Asd.mk (HGB5.out.chg hC)
      have HGR6 := Asd.mk (HGR5.out.chg hC)
      have HGS6 := Asd.mk (HGS5.out.chg hC)
      have HF6 := Asd.mk (show FourAt w6 w.heap.size P Q X Y from hC.heap HF5.out (by simp))
      have HC6 := Asd.mk (HC5.out.trans hC)
      clear hC
      clear k50 k51 k52 k53
      have k60 := cell_of_heap HF6.out 0
      have k61 := cell_of_heap HF6.out 1
      have k62 := cell_of_heap HF6.out 2
      have k63 := cell_of_heap HF6.out 3
      go_wp2_with fail
      rw [← hU1]
      refine (match_mt gr (A ++ B) U1 w6 HGR6.out (by omega)).mono ?_
      rw [HJ.out]
      rintro e w7 ⟨rfl, nn, hw⟩
      have hC : Chg [] w6 w7 := by rw [hw]; exact (Chg.refl _ _).drewN nn
      clear hw
      have HGA7 := Asd.mk (HGA6.out.chg hC)
      have HGB7 := Asd.mk (HGB6.out.chg hC)
      have HGR7 := Asd.mk (HGR6.out.chg hC)
      have HGS7 := Asd.mk (HGS6.out.chg hC)
      have HF7 := Asd.mk (show FourAt w7 w.heap.size P Q X Y from hC.heap HF6.out (by simp))
      have HC7 := Asd.mk (HC6.out.trans hC)
      clear hC
      clear k60 k61 k62 k63
      have k70 := cell_of_heap HF7.out 0
      have k71 := cell_of_heap HF7.out 1
      have k72 := cell_of_heap HF7.out 2
      have k73 := cell_of_heap HF7.out 3
      go_wp2_with fail
      refine (match_mt gp A X w7 HGA7.out (by omega)).mono ?_
      rw [M1.out]
      rintro e w8 ⟨rfl, nn, hw⟩
      have hC : Chg [] w7 w8 := by rw [hw]; exact (Chg.refl _ _).drewN nn
      clear hw
      have HGA8 := Asd.mk (HGA7.out.chg hC)
      have HGB8 := Asd.mk (HGB7.out.chg hC)
      have HGR8 := Asd.mk (HGR7.out.chg hC)
      have HGS8 := Asd.mk (HGS7.out.chg hC)
      have HF8 := Asd.mk (show FourAt w8 w.heap.size P Q X Y from hC.heap HF7.out (by simp))
      have HC8 := Asd.mk (HC7.out.trans hC)
      clear hC
      clear k70 k71 k72 k73
      have k80 := cell_of_heap HF8.out 0
      have k81 := cell_of_heap HF8.out 1
      have k82 := cell_of_heap HF8.out 2
      have k83 := cell_of_heap HF8.out 3
      go_wp2_with fail
      rw [← hU2]
      refine (match_mt gs ([((true, noneT) : PartV)] ++ A ++ [((true, noneT) : PartV)]) U2 w8 HGS8.out (by omega)).mono ?_
      rw [HWD.out]
      rintro e w10 ⟨rfl, nn, hw⟩
      have hC : Chg [] w8 w10 := by rw [hw]; exact (Chg.refl _ _).drewN nn
      clear hw
      have HGA10 := Asd.mk (HGA8.out.chg hC)
      have HGB10 := Asd.mk (HGB8.out.chg hC)
      have HGR10 := Asd.mk (HGR8.out.chg hC)
      have HGS10 := Asd.mk (HGS8.out.chg hC)
      have HF10 := Asd.mk (show FourAt w10 w.heap.size P Q X Y from hC.heap HF8.out (by simp))
      have HC10 := Asd.mk (HC8.out.trans hC)
      clear hC
      clear k80 k81 k82 k83
      have k100 := cell_of_heap HF10.out 0
      have k101 := cell_of_heap HF10.out 1
      have k102 := cell_of_heap HF10.out 2
      have k103 := cell_of_heap HF10.out 3
      go_wp2_with fail
      refine (works_calls w10 (HE.out.chg HC10.out)).mono ?_
      rintro e w9 ⟨rfl, hC9⟩
      have HC9 := Asd.mk (HC10.out.trans hC9)
      clear hC9
      go_wp2
      go_ret
      exact ⟨rfl, HC9.out⟩
end Go.Proofs.YtgkifphfibcfdaaGreatDoor.G
