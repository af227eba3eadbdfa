/- Merged out of these texts: RMake, RCreate, RLink. -/
import Derived.Test.YtiijbecklkccfaaGreatDoorPl17
/- The reference's Make and Create. -/
namespace Go.Proofs.YtiijbecklkccfaaGreatDoor.I
open Go.RowKit Go.Proofs.YtiijbecklkccfaaGreatDoor.B Go.Sort
set_option linter.unusedVariables false
attribute [local go_sem high] field_kind
variable {w : World} {K : Nat} {v : Value} {G : FS} {bb nn : Nat}
set_option maxRecDepth 100000 in
set_option maxHeartbeats 16000000 in
theorem make20_calls (h : RAt w K v G bb nn) (hK : K ≤ w.heap.size) (s : ByteArray) (hs : s.size ≤ 1048576) :
    Calls Tryz.prog 43 #[.agg #[v, .int .i64 (bb : Int), .int .i64 (nn : Int)], .string s] w fun e w' => RPost w K v bb nn (makeF G bb nn s) e w' := by
  obtain ⟨wa, w0, hwa, hw0, hX⟩ := box2_start w v bb nn
  have HX := Asd.mk hX
  have HR := Asd.mk h
  have HR0 := Asd.mk (h.chg hX.chg)
  have HK := Asd.mk hK
  have HW := Asd.mk (wayA HR0.out s hs)
  obtain ⟨R, hR⟩ : ∃ R, makeF G bb nn s = R := ⟨_, rfl⟩
  rw [hR]
  have HRR := Asd.mk hR
  have b0 := cell_of_heap HX.out.b1 0; have b1 := cell_of_heap HX.out.b1 1; have b2 := cell_of_heap HX.out.b1 2
  clear h hX hK hs hR
  cases hs : atE G s with
  | error n =>
    have HRn := Asd.mk (show R = (n, G) by rw [← HRR.out]; unfold makeF; rw [hs])
    have hn := atE_pos hs
    have k1 : ¬ (n : Int) = 0 := by omega
    rw [wayN_err hs] at HW
    clear hs hn HRR
    (go_enter Tryz.func43, Tryz.ntmps43)
    go_wp2_with fail
    refine HW.out.mono ?_
    rintro e w1 ⟨rfl, hC⟩
    have HX1 := Asd.mk (HX.out.on hC)
    clear hC HW HX b0 b1 b2 hwa hw0
    have b0 := cell_of_heap HX1.out.b1 0; have b1 := cell_of_heap HX1.out.b1 1; have b2 := cell_of_heap HX1.out.b1 2
    go_wp2_with (first | (refine wpList_store_row (o := ⟨none, _, _, _, _, _⟩) rfl 56 (.tmp 4) (.tmp 13) rfl wa.heap.size _ rfl rfl 56 _ HX1.out.b2 (size_tab _ _ _) rfl (one_tabv HR.out.row _ _) ?_))
    refine bodyPost_ret (results_row_tmp rfl _ _ wa.heap.size 56 _ (0, 0) _ rfl (setRow_heap _ _ _ _ _ _ HX1.out.b2) Tryz.underlying56 rfl (size_tab _ _ _)) rfl ?_
    exact keep_post n HR.out HX1.out.chg (Nat.le_of_lt HX1.out.lt) _ HRn.out
  | ok p =>
    have hp := atE_parts hs
    have hok := partsF_ok hp
    rw [wayN_ok hs] at HW
    have hst := tx_parts hp
    subst hst
    have HOk := Asd.mk hok
    obtain ⟨T, hT⟩ : ∃ T, tx p = T := ⟨_, rfl⟩
    rw [hT] at HW ⊢
    cases hx : G.at p with
    | some x =>
      have HRn := Asd.mk (show R = (201, G) by rw [← HRR.out]; unfold makeF; rw [hs]; simp only; rw [hx]; rfl)
      have hk := HR.out.ok.kind _ _ hx
      have HA := Asd.mk (fun W (hC : Chg [] w W) => at_someA (HR.out.chg hC) hx)
      rw [hT] at HA
      have k1 : ¬ (x.kind : Int) = 0 := by omega
      obtain ⟨kd, Z⟩ := x
      simp only at HA k1
      clear hs hp hok hT hx hk HRR
      (go_enter Tryz.func43, Tryz.ntmps43)
      go_wp2_with fail
      refine HW.out.mono ?_
      rintro e w1 ⟨rfl, hC⟩
      have HX1 := Asd.mk (HX.out.on hC)
      clear hC HW HX b0 b1 b2 hwa hw0
      have b0 := cell_of_heap HX1.out.b1 0; have b1 := cell_of_heap HX1.out.b1 1; have b2 := cell_of_heap HX1.out.b1 2
      go_wp2_with fail
      refine (HA.out _ HX1.out.chg).mono ?_
      rintro e w2 ⟨rfl, hC⟩
      have HX2 := Asd.mk (HX1.out.on hC)
      clear hC HA HX1 b0 b1 b2
      have b0 := cell_of_heap HX2.out.b1 0; have b1 := cell_of_heap HX2.out.b1 1; have b2 := cell_of_heap HX2.out.b1 2
      go_wp2_with (first | (refine wpList_store_row (o := ⟨none, _, _, _, _, _⟩) rfl 56 (.tmp 4) (.tmp 21) rfl wa.heap.size _ rfl rfl 56 _ HX2.out.b2 (size_tab _ _ _) rfl (one_tabv HR.out.row _ _) ?_))
      refine bodyPost_ret (results_row_tmp rfl _ _ wa.heap.size 56 _ (0, 0) _ rfl (setRow_heap _ _ _ _ _ _ HX2.out.b2) Tryz.underlying56 rfl (size_tab _ _ _)) rfl ?_
      exact keep_post 201 HR.out HX2.out.chg (Nat.le_of_lt HX2.out.lt) _ HRn.out
    | none =>
      have hp0 := at_ne_root hx
      have HA := Asd.mk (fun W (hC : Chg [] w W) => at_noneA (HR.out.chg hC) HOk.out hx)
      rw [hT] at HA
      have hF : R = putF G bb nn p ⟨2, ⟨#[]⟩⟩ := by rw [← HRR.out]; unfold makeF; rw [hs]; simp only; rw [hx, if_neg (by simp)]
      have HRm := Asd.mk (fun W (hC : Chg [] w W) => (roomA (HR.out.chg hC) 0 1 (by omega) (by omega) : Calls Tryz.prog 73 #[.agg #[v, .int .i64 (bb : Int), .int .i64 (nn : Int)], .int .i64 0, .int .i64 1] W fun e w' => e = .returned (.bool (decide (usedF G + 0 ≤ bb ∧ G.length + 1 ≤ nn))) ∧ Chg [] W w'))
      clear hp hok HRR
      by_cases hfull : usedF G + 0 ≤ bb ∧ G.length + 1 ≤ nn
      · have HE := Asd.mk (show Eqv R.2 (withF G p 2 ⟨#[]⟩) ∧ R.1 = 0 by
          have h1 : R = (0, G ++ [(p, ⟨2, ⟨#[]⟩⟩)]) := by
            rw [hF]; unfold putF
            rw [if_neg (fun e => (put_free (x := (⟨2, ⟨#[]⟩⟩ : Nd)) rfl).1 e hfull)]
          have hg := makeF_keep HR.out.ok HR.out.room (tx p)
          have h2 : makeF G bb nn (tx p) = R := by rw [hF]; unfold makeF; rw [hs]; simp only; rw [hx, if_neg (by simp)]
          rw [h2] at hg
          refine ⟨eqv_of_at hg.1 (okRow_with (okRow_of HR.out.ok) HOk.out hp0 (by omega) _) fun r => ?_, by rw [h1]⟩
          rw [h1, at_put _ hp0 hx, at_with _ hp0]
          rfl)
        rw [decide_eq_true hfull] at HRm
        have HWi := Asd.mk (fun W (hC : Chg [] w W) => (withA (bb := bb) (nn := nn) (HR.out.chg hC).row (okRow_of HR.out.ok) (by have := HR.out.num; omega) HOk.out ⟨#[]⟩ 2 ⟨#[]⟩ (by omega) : Calls Tryz.prog 74 #[.agg #[v, .int .i64 (bb : Int), .int .i64 (nn : Int)], .string (tx p), .agg #[.string ⟨#[]⟩, .int .i64 2, .string ⟨#[]⟩]] W fun e w' => ∃ v', e = .returned (.agg #[v', .int .i64 (bb : Int), .int .i64 (nn : Int)]) ∧ RowE w' W.heap.size v' (rowE (withF G p 2 ⟨#[]⟩)) ∧ Chg [] W w'))
        rw [hT] at HWi
        clear hs hT hx hF hfull
        (go_enter Tryz.func43, Tryz.ntmps43)
        go_wp2_with fail
        refine HW.out.mono ?_
        rintro e w1 ⟨rfl, hC⟩
        have HX1 := Asd.mk (HX.out.on hC)
        clear hC HW HX b0 b1 b2 hwa hw0
        have b0 := cell_of_heap HX1.out.b1 0; have b1 := cell_of_heap HX1.out.b1 1; have b2 := cell_of_heap HX1.out.b1 2
        go_wp2_with fail
        refine (HA.out _ HX1.out.chg).mono ?_
        rintro e w2 ⟨rfl, hC⟩
        have HX2 := Asd.mk (HX1.out.on hC)
        clear hC HA HX1 b0 b1 b2
        have b0 := cell_of_heap HX2.out.b1 0; have b1 := cell_of_heap HX2.out.b1 1; have b2 := cell_of_heap HX2.out.b1 2
        go_wp2_with fail
        refine (HRm.out _ HX2.out.chg).mono ?_
        rintro e w3 ⟨rfl, hC⟩
        have HX3 := Asd.mk (HX2.out.on hC)
        clear hC HRm HX2 b0 b1 b2
        have b0 := cell_of_heap HX3.out.b1 0; have b1 := cell_of_heap HX3.out.b1 1; have b2 := cell_of_heap HX3.out.b1 2
        go_wp2_with fail
        refine (HWi.out _ HX3.out.chg).mono ?_
        rintro e w4 ⟨v', rfl, hV, hC⟩
        have HX4 := Asd.mk (HX3.out.on hC)
        have HV := Asd.mk hV
        have HL := Asd.mk (lt_of_heap HX3.out.b2)
        clear hC HWi HX3 b0 b1 b2 hV
        go_wp2_with (first | (refine wpList_store_row (o := ⟨none, _, _, _, _, _⟩) rfl 56 (.tmp 4) (.tmp 30) rfl wa.heap.size _ rfl rfl 56 _ HX4.out.b2 (size_tab _ _ _) rfl (one_tabv HV.out _ _) ?_))
        refine bodyPost_ret (results_row_tmp rfl _ _ wa.heap.size 56 _ (0, 0) _ rfl (setRow_heap _ _ _ _ _ _ HX4.out.b2) Tryz.underlying56 rfl (size_tab _ _ _)) rfl ?_
        exact new_post 0 HE.out.2 HE.out.1 HV.out HX4.out.chg (Nat.le_of_lt HX4.out.lt) HL.out HK.out _
      · have HRn := Asd.mk (show R = (206, G) by rw [hF]; unfold putF; rw [if_pos ((put_free (x := (⟨2, ⟨#[]⟩⟩ : Nd)) rfl).2 hfull)])
        rw [decide_eq_false hfull] at HRm
        clear hs hT hx hF hfull
        (go_enter Tryz.func43, Tryz.ntmps43)
        go_wp2_with fail
        refine HW.out.mono ?_
        rintro e w1 ⟨rfl, hC⟩
        have HX1 := Asd.mk (HX.out.on hC)
        clear hC HW HX b0 b1 b2 hwa hw0
        have b0 := cell_of_heap HX1.out.b1 0; have b1 := cell_of_heap HX1.out.b1 1; have b2 := cell_of_heap HX1.out.b1 2
        go_wp2_with fail
        refine (HA.out _ HX1.out.chg).mono ?_
        rintro e w2 ⟨rfl, hC⟩
        have HX2 := Asd.mk (HX1.out.on hC)
        clear hC HA HX1 b0 b1 b2
        have b0 := cell_of_heap HX2.out.b1 0; have b1 := cell_of_heap HX2.out.b1 1; have b2 := cell_of_heap HX2.out.b1 2
        go_wp2_with fail
        refine (HRm.out _ HX2.out.chg).mono ?_
        rintro e w3 ⟨rfl, hC⟩
        have HX3 := Asd.mk (HX2.out.on hC)
        clear hC HRm HX2 b0 b1 b2
        have b0 := cell_of_heap HX3.out.b1 0; have b1 := cell_of_heap HX3.out.b1 1; have b2 := cell_of_heap HX3.out.b1 2
        go_wp2_with (first | (refine wpList_store_row (o := ⟨none, _, _, _, _, _⟩) rfl 56 (.tmp 4) (.tmp 26) rfl wa.heap.size _ rfl rfl 56 _ HX3.out.b2 (size_tab _ _ _) rfl (one_tabv HR.out.row _ _) ?_))
        refine bodyPost_ret (results_row_tmp rfl _ _ wa.heap.size 56 _ (0, 0) _ rfl (setRow_heap _ _ _ _ _ _ HX3.out.b2) Tryz.underlying56 rfl (size_tab _ _ _)) rfl ?_
        exact keep_post 206 HR.out HX3.out.chg (Nat.le_of_lt HX3.out.lt) _ HRn.out
end Go.Proofs.YtiijbecklkccfaaGreatDoor.I
/- The reference's Create. -/
namespace Go.Proofs.YtiijbecklkccfaaGreatDoor.I
open Go.RowKit Go.Proofs.YtiijbecklkccfaaGreatDoor.B Go.Sort
set_option linter.unusedVariables false
attribute [local go_sem high] field_kind
variable {w : World} {K : Nat} {v : Value} {G : FS} {bb nn : Nat}
set_option maxRecDepth 100000 in
set_option maxHeartbeats 16000000 in
theorem create20_calls (h : RAt w K v G bb nn) (hK : K ≤ w.heap.size) (s : ByteArray) (hs : s.size ≤ 1048576) :
    Calls Tryz.prog 44 #[.agg #[v, .int .i64 (bb : Int), .int .i64 (nn : Int)], .string s] w fun e w' => RPost w K v bb nn (createF G bb nn s) e w' := by
  obtain ⟨wa, w0, hwa, hw0, hX⟩ := box2_start w v bb nn
  have HX := Asd.mk hX
  have HR := Asd.mk h
  have HR0 := Asd.mk (h.chg hX.chg)
  have HK := Asd.mk hK
  have HW := Asd.mk (wayA HR0.out s hs)
  obtain ⟨R, hR⟩ : ∃ R, createF G bb nn s = R := ⟨_, rfl⟩
  rw [hR]
  have HRR := Asd.mk hR
  have b0 := cell_of_heap HX.out.b1 0; have b1 := cell_of_heap HX.out.b1 1; have b2 := cell_of_heap HX.out.b1 2
  clear h hX hK hs hR
  cases hs : atE G s with
  | error n =>
    have HRn := Asd.mk (show R = (n, G) by rw [← HRR.out]; unfold createF; rw [hs])
    have hn := atE_pos hs
    have k1 : ¬ (n : Int) = 0 := by omega
    rw [wayN_err hs] at HW
    clear hs hn HRR
    (go_enter Tryz.func44, Tryz.ntmps44)
    go_wp2_with fail
    refine HW.out.mono ?_
    rintro e w1 ⟨rfl, hC⟩
    have HX1 := Asd.mk (HX.out.on hC)
    clear hC HW HX b0 b1 b2 hwa hw0
    have b0 := cell_of_heap HX1.out.b1 0; have b1 := cell_of_heap HX1.out.b1 1; have b2 := cell_of_heap HX1.out.b1 2
    go_wp2_with (first | (refine wpList_store_row (o := ⟨none, _, _, _, _, _⟩) rfl 56 (.tmp 4) (.tmp 12) rfl wa.heap.size _ rfl rfl 56 _ HX1.out.b2 (size_tab _ _ _) rfl (one_tabv HR.out.row _ _) ?_))
    refine bodyPost_ret (results_row_tmp rfl _ _ wa.heap.size 56 _ (0, 0) _ rfl (setRow_heap _ _ _ _ _ _ HX1.out.b2) Tryz.underlying56 rfl (size_tab _ _ _)) rfl ?_
    exact keep_post n HR.out HX1.out.chg (Nat.le_of_lt HX1.out.lt) _ HRn.out
  | ok p =>
    have hp := atE_parts hs
    have hok := partsF_ok hp
    rw [wayN_ok hs] at HW
    have hst := tx_parts hp
    subst hst
    have HOk := Asd.mk hok
    obtain ⟨T, hT⟩ : ∃ T, tx p = T := ⟨_, rfl⟩
    rw [hT] at HW ⊢
    have hkeep := createF_keep HR.out.ok HR.out.room (tx p)
    rw [show createF G bb nn (tx p) = R from HRR.out] at hkeep
    have HWi0 : ∀ (hp0 : p ≠ []) W (hC : Chg [] w W), Calls Tryz.prog 74 #[.agg #[v, .int .i64 (bb : Int), .int .i64 (nn : Int)], .string (tx p), .agg #[.string ⟨#[]⟩, .int .i64 1, .string ⟨#[]⟩]] W fun e w' => ∃ v', e = .returned (.agg #[v', .int .i64 (bb : Int), .int .i64 (nn : Int)]) ∧ RowE w' W.heap.size v' (rowE (withF G p 1 ⟨#[]⟩)) ∧ Chg [] W w' :=
      fun hp0 W hC => withA (bb := bb) (nn := nn) (HR.out.chg hC).row (okRow_of HR.out.ok) (by have := HR.out.num; omega) HOk.out ⟨#[]⟩ 1 ⟨#[]⟩ (by omega)
    rw [hT] at HWi0
    cases hx : G.at p with
    | some x =>
      have hRx : R = if x.kind = 2 then (202, G) else if x.kind = 3 then (204, G) else (0, setF G p ⟨1, ⟨#[]⟩⟩) := by rw [← HRR.out]; unfold createF; rw [hs]; simp only; rw [hx]
      have hk := HR.out.ok.kind _ _ hx
      have HA := Asd.mk (fun W (hC : Chg [] w W) => at_someA (HR.out.chg hC) hx)
      rw [hT] at HA
      obtain ⟨kd, Z⟩ := x
      simp only at HA hk hRx
      rcases hk with rfl | rfl | rfl
      · have hp0 : p ≠ [] := fun e => by rw [e, at_root] at hx; cases hx
        have HE := Asd.mk (show Eqv R.2 (withF G p 1 ⟨#[]⟩) ∧ R.1 = 0 by
          refine ⟨eqv_of_at hkeep.1 (okRow_with (okRow_of HR.out.ok) HOk.out hp0 (by omega) _) fun r => ?_, by rw [hRx]; rfl⟩
          rw [hRx, if_neg (by omega), if_neg (by omega), at_set _ hp0 hx, at_with _ hp0]
          rfl)
        have HWi := Asd.mk (HWi0 hp0)
        clear hs hp hok hT hx hRx HRR hkeep HWi0 hp0
        (go_enter Tryz.func44, Tryz.ntmps44)
        go_wp2_with fail; refine HW.out.mono ?_; rintro e w1 ⟨rfl, hC⟩; have HX1 := Asd.mk (HX.out.on hC); clear hC HW HX b0 b1 b2 hwa hw0; have b0 := cell_of_heap HX1.out.b1 0; have b1 := cell_of_heap HX1.out.b1 1; have b2 := cell_of_heap HX1.out.b1 2; go_wp2_with fail; refine (HA.out _ HX1.out.chg).mono ?_; rintro e w2 ⟨rfl, hC⟩; have HX2 := Asd.mk (HX1.out.on hC); clear hC HA HX1 b0 b1 b2; have b0 := cell_of_heap HX2.out.b1 0; have b1 := cell_of_heap HX2.out.b1 1; have b2 := cell_of_heap HX2.out.b1 2
        have HX3 := HX2
        go_wp2_with fail; refine (HWi.out _ HX3.out.chg).mono ?_; rintro e w4 ⟨v', rfl, hV, hC⟩; have HX4 := Asd.mk (HX3.out.on hC); have HV := Asd.mk hV; have HL := Asd.mk (lt_of_heap HX3.out.b2); clear hC HWi HX3 b0 b1 b2 hV; go_wp2_with (first | (refine wpList_store_row (o := ⟨none, _, _, _, _, _⟩) rfl 56 (.tmp 4) (.tmp 33) rfl wa.heap.size _ rfl rfl 56 _ HX4.out.b2 (size_tab _ _ _) rfl (one_tabv HV.out _ _) ?_)); refine bodyPost_ret (results_row_tmp rfl _ _ wa.heap.size 56 _ (0, 0) _ rfl (setRow_heap _ _ _ _ _ _ HX4.out.b2) Tryz.underlying56 rfl (size_tab _ _ _)) rfl ?_; exact new_post 0 HE.out.2 HE.out.1 HV.out HX4.out.chg (Nat.le_of_lt HX4.out.lt) HL.out HK.out _
      · have HRn := Asd.mk (show R = (202, G) by rw [hRx]; rfl)
        clear hs hp hok hT hx hRx HRR hkeep HWi0
        (go_enter Tryz.func44, Tryz.ntmps44)
        go_wp2_with fail; refine HW.out.mono ?_; rintro e w1 ⟨rfl, hC⟩; have HX1 := Asd.mk (HX.out.on hC); clear hC HW HX b0 b1 b2 hwa hw0; have b0 := cell_of_heap HX1.out.b1 0; have b1 := cell_of_heap HX1.out.b1 1; have b2 := cell_of_heap HX1.out.b1 2; go_wp2_with fail; refine (HA.out _ HX1.out.chg).mono ?_; rintro e w2 ⟨rfl, hC⟩; have HX2 := Asd.mk (HX1.out.on hC); clear hC HA HX1 b0 b1 b2; have b0 := cell_of_heap HX2.out.b1 0; have b1 := cell_of_heap HX2.out.b1 1; have b2 := cell_of_heap HX2.out.b1 2
        go_wp2_with (first | (refine wpList_store_row (o := ⟨none, _, _, _, _, _⟩) rfl 56 (.tmp 4) (.tmp 20) rfl wa.heap.size _ rfl rfl 56 _ HX2.out.b2 (size_tab _ _ _) rfl (one_tabv HR.out.row _ _) ?_))
        refine bodyPost_ret (results_row_tmp rfl _ _ wa.heap.size 56 _ (0, 0) _ rfl (setRow_heap _ _ _ _ _ _ HX2.out.b2) Tryz.underlying56 rfl (size_tab _ _ _)) rfl ?_
        exact keep_post 202 HR.out HX2.out.chg (Nat.le_of_lt HX2.out.lt) _ HRn.out
      · have HRn := Asd.mk (show R = (204, G) by rw [hRx]; rfl)
        clear hs hp hok hT hx hRx HRR hkeep HWi0
        (go_enter Tryz.func44, Tryz.ntmps44)
        go_wp2_with fail; refine HW.out.mono ?_; rintro e w1 ⟨rfl, hC⟩; have HX1 := Asd.mk (HX.out.on hC); clear hC HW HX b0 b1 b2 hwa hw0; have b0 := cell_of_heap HX1.out.b1 0; have b1 := cell_of_heap HX1.out.b1 1; have b2 := cell_of_heap HX1.out.b1 2; go_wp2_with fail; refine (HA.out _ HX1.out.chg).mono ?_; rintro e w2 ⟨rfl, hC⟩; have HX2 := Asd.mk (HX1.out.on hC); clear hC HA HX1 b0 b1 b2; have b0 := cell_of_heap HX2.out.b1 0; have b1 := cell_of_heap HX2.out.b1 1; have b2 := cell_of_heap HX2.out.b1 2
        go_wp2_with (first | (refine wpList_store_row (o := ⟨none, _, _, _, _, _⟩) rfl 56 (.tmp 4) (.tmp 23) rfl wa.heap.size _ rfl rfl 56 _ HX2.out.b2 (size_tab _ _ _) rfl (one_tabv HR.out.row _ _) ?_))
        refine bodyPost_ret (results_row_tmp rfl _ _ wa.heap.size 56 _ (0, 0) _ rfl (setRow_heap _ _ _ _ _ _ HX2.out.b2) Tryz.underlying56 rfl (size_tab _ _ _)) rfl ?_
        exact keep_post 204 HR.out HX2.out.chg (Nat.le_of_lt HX2.out.lt) _ HRn.out
    | none =>
      have hp0 := at_ne_root hx
      have HA := Asd.mk (fun W (hC : Chg [] w W) => at_noneA (HR.out.chg hC) HOk.out hx)
      rw [hT] at HA
      have hF : R = putF G bb nn p ⟨1, ⟨#[]⟩⟩ := by rw [← HRR.out]; unfold createF; rw [hs]; simp only; rw [hx]
      have HRm := Asd.mk (fun W (hC : Chg [] w W) => (roomA (HR.out.chg hC) 0 1 (by omega) (by omega) : Calls Tryz.prog 73 #[.agg #[v, .int .i64 (bb : Int), .int .i64 (nn : Int)], .int .i64 0, .int .i64 1] W fun e w' => e = .returned (.bool (decide (usedF G + 0 ≤ bb ∧ G.length + 1 ≤ nn))) ∧ Chg [] W w'))
      by_cases hfull : usedF G + 0 ≤ bb ∧ G.length + 1 ≤ nn
      · have HE := Asd.mk (show Eqv R.2 (withF G p 1 ⟨#[]⟩) ∧ R.1 = 0 by
          have h1 : R = (0, G ++ [(p, ⟨1, ⟨#[]⟩⟩)]) := by
            rw [hF]; unfold putF
            rw [if_neg (fun e => (put_free (x := (⟨1, ⟨#[]⟩⟩ : Nd)) rfl).1 e hfull)]
          refine ⟨eqv_of_at hkeep.1 (okRow_with (okRow_of HR.out.ok) HOk.out hp0 (by omega) _) fun r => ?_, by rw [h1]⟩
          rw [h1, at_put _ hp0 hx, at_with _ hp0]
          rfl)
        rw [decide_eq_true hfull] at HRm
        have HWi := Asd.mk (HWi0 hp0)
        clear hp hok HRR hs hT hx hF hfull hkeep HWi0 hp0
        (go_enter Tryz.func44, Tryz.ntmps44)
        go_wp2_with fail; refine HW.out.mono ?_; rintro e w1 ⟨rfl, hC⟩; have HX1 := Asd.mk (HX.out.on hC); clear hC HW HX b0 b1 b2 hwa hw0; have b0 := cell_of_heap HX1.out.b1 0; have b1 := cell_of_heap HX1.out.b1 1; have b2 := cell_of_heap HX1.out.b1 2; go_wp2_with fail; refine (HA.out _ HX1.out.chg).mono ?_; rintro e w2 ⟨rfl, hC⟩; have HX2 := Asd.mk (HX1.out.on hC); clear hC HA HX1 b0 b1 b2; have b0 := cell_of_heap HX2.out.b1 0; have b1 := cell_of_heap HX2.out.b1 1; have b2 := cell_of_heap HX2.out.b1 2
        go_wp2_with fail
        refine (HRm.out _ HX2.out.chg).mono ?_
        rintro e w3 ⟨rfl, hC⟩
        have HX3 := Asd.mk (HX2.out.on hC)
        clear hC HRm HX2 b0 b1 b2
        have b0 := cell_of_heap HX3.out.b1 0; have b1 := cell_of_heap HX3.out.b1 1; have b2 := cell_of_heap HX3.out.b1 2
        go_wp2_with fail; refine (HWi.out _ HX3.out.chg).mono ?_; rintro e w4 ⟨v', rfl, hV, hC⟩; have HX4 := Asd.mk (HX3.out.on hC); have HV := Asd.mk hV; have HL := Asd.mk (lt_of_heap HX3.out.b2); clear hC HWi HX3 b0 b1 b2 hV; go_wp2_with (first | (refine wpList_store_row (o := ⟨none, _, _, _, _, _⟩) rfl 56 (.tmp 4) (.tmp 33) rfl wa.heap.size _ rfl rfl 56 _ HX4.out.b2 (size_tab _ _ _) rfl (one_tabv HV.out _ _) ?_)); refine bodyPost_ret (results_row_tmp rfl _ _ wa.heap.size 56 _ (0, 0) _ rfl (setRow_heap _ _ _ _ _ _ HX4.out.b2) Tryz.underlying56 rfl (size_tab _ _ _)) rfl ?_; exact new_post 0 HE.out.2 HE.out.1 HV.out HX4.out.chg (Nat.le_of_lt HX4.out.lt) HL.out HK.out _
      · have HRn := Asd.mk (show R = (206, G) by rw [hF]; unfold putF; rw [if_pos ((put_free (x := (⟨1, ⟨#[]⟩⟩ : Nd)) rfl).2 hfull)])
        rw [decide_eq_false hfull] at HRm
        clear hp hok HRR hs hT hx hF hfull hkeep HWi0 hp0
        (go_enter Tryz.func44, Tryz.ntmps44)
        go_wp2_with fail; refine HW.out.mono ?_; rintro e w1 ⟨rfl, hC⟩; have HX1 := Asd.mk (HX.out.on hC); clear hC HW HX b0 b1 b2 hwa hw0; have b0 := cell_of_heap HX1.out.b1 0; have b1 := cell_of_heap HX1.out.b1 1; have b2 := cell_of_heap HX1.out.b1 2; go_wp2_with fail; refine (HA.out _ HX1.out.chg).mono ?_; rintro e w2 ⟨rfl, hC⟩; have HX2 := Asd.mk (HX1.out.on hC); clear hC HA HX1 b0 b1 b2; have b0 := cell_of_heap HX2.out.b1 0; have b1 := cell_of_heap HX2.out.b1 1; have b2 := cell_of_heap HX2.out.b1 2
        go_wp2_with fail
        refine (HRm.out _ HX2.out.chg).mono ?_
        rintro e w3 ⟨rfl, hC⟩
        have HX3 := Asd.mk (HX2.out.on hC)
        clear hC HRm HX2 b0 b1 b2
        have b0 := cell_of_heap HX3.out.b1 0; have b1 := cell_of_heap HX3.out.b1 1; have b2 := cell_of_heap HX3.out.b1 2
        go_wp2_with (first | (refine wpList_store_row (o := ⟨none, _, _, _, _, _⟩) rfl 56 (.tmp 4) (.tmp 29) rfl wa.heap.size _ rfl rfl 56 _ HX3.out.b2 (size_tab _ _ _) rfl (one_tabv HR.out.row _ _) ?_))
        refine bodyPost_ret (results_row_tmp rfl _ _ wa.heap.size 56 _ (0, 0) _ rfl (setRow_heap _ _ _ _ _ _ HX3.out.b2) Tryz.underlying56 rfl (size_tab _ _ _)) rfl ?_
        exact keep_post 206 HR.out HX3.out.chg (Nat.le_of_lt HX3.out.lt) _ HRn.out
end Go.Proofs.YtiijbecklkccfaaGreatDoor.I
/- The reference's Link. -/
namespace Go.Proofs.YtiijbecklkccfaaGreatDoor.I
open Go.RowKit Go.Proofs.YtiijbecklkccfaaGreatDoor.B Go.Sort
set_option linter.unusedVariables false
attribute [local go_sem high] field_kind
/-- May a link say so, as far as its first bytes tell? -/
def okT (g : ByteArray) (i : Nat) : Bool := (decide (g.data.toList ≠ []) && decide (g.size ≤ 4096)) && (g.data.toList.take i).all fun c => decide (c ≠ 0)
theorem okT_step (g : ByteArray) {i : Nat} (hi : i < g.size) : okT g (i + 1) = (okT g i && decide (g[i] ≠ 0)) := by
  have hl : i < g.data.toList.length := by rw [list_size]; exact hi
  have hg := list_get hi
  unfold okT
  rw [List.take_succ_eq_append_getElem hl, List.all_append]
  rw [List.getElem?_eq_getElem hl] at hg
  rw [Option.some.inj hg]
  simp [Bool.and_assoc]
theorem okT_all (g : ByteArray) : okT g g.size = true ↔ ¬ badT g := by
  unfold okT badT nulB
  rw [List.take_of_length_le (by rw [list_size]; exact Nat.le_refl _)]
  have hge := Lib.indexByte_ge g.data.toList 0
  have h0 : decide (0 ≤ Lib.indexByte g.data.toList 0) = true ↔ (0 : UInt8) ∈ g.data.toList := by
    rw [decide_eq_true_eq]
    constructor
    · intro h
      obtain ⟨i, hi⟩ : ∃ i : Nat, Lib.indexByte g.data.toList 0 = i := ⟨(Lib.indexByte g.data.toList 0).toNat, by omega⟩
      exact List.mem_of_getElem? (Lib.indexByte_some hi).1
    · intro hm
      rcases Int.lt_or_le (Lib.indexByte g.data.toList 0) 0 with h | h
      · obtain ⟨k, hk⟩ := List.getElem?_of_mem hm
        exact absurd hk (Lib.indexByte_none (by omega) k)
      · exact h
  rw [h0, Bool.and_eq_true, Bool.and_eq_true, decide_eq_true_eq, decide_eq_true_eq, List.all_eq_true, ByteArray.toList_eq]
  constructor
  · rintro ⟨⟨h1, h2⟩, h3⟩ (h | h | h)
    · exact h1 (List.isEmpty_iff.1 h)
    · omega
    · have := h3 _ h
      simp at this
  · intro h
    refine ⟨⟨fun e => h (.inl (by rw [e]; rfl)), ?_⟩, fun c hc => ?_⟩
    · rcases Nat.lt_or_ge 4096 g.size with h2 | h2
      · exact absurd (.inr (.inl h2)) h
      · exact h2
    · rw [decide_eq_true_eq]
      rintro rfl
      exact h (.inr (.inr hc))
variable {w : World} {K : Nat} {v : Value} {G : FS} {bb nn : Nat}
theorem okT_start (g : ByteArray) : okT g 0 = (decide (g.data.toList ≠ []) && decide (g.size ≤ 4096)) := by unfold okT; simp
theorem ba_ne2 (s : ByteArray) (l : List UInt8) : (s.toList != l) = decide (s.data.toList ≠ l) := by
  have h := ba_tests s l
  show (!(s.toList == l)) = _
  rw [h]
  by_cases e : s.data.toList = l
  · rw [decide_eq_true e, decide_eq_false (fun k => k e)]; rfl
  · rw [decide_eq_false e, decide_eq_true e]; rfl
set_option maxRecDepth 100000 in
set_option maxHeartbeats 16000000 in
theorem link20_calls (h : RAt w K v G bb nn) (hK : K ≤ w.heap.size) (g s : ByteArray) (hgz : g.size ≤ 1048576) (hs : s.size ≤ 1048576) :
    Calls Tryz.prog 46 #[.agg #[v, .int .i64 (bb : Int), .int .i64 (nn : Int)], .string g, .string s] w fun e w' => RPost w K v bb nn (linkF G bb nn g s) e w' := by
  obtain ⟨wa, w0, hwa, hw0, hX⟩ := box2_start w v bb nn
  have HX := Asd.mk hX
  have HR := Asd.mk h
  have HR0 := Asd.mk (h.chg hX.chg)
  have HK := Asd.mk hK
  have HW := Asd.mk (wayA HR0.out s hs)
  obtain ⟨R, hR⟩ : ∃ R, linkF G bb nn g s = R := ⟨_, rfl⟩
  rw [hR]
  have HRR := Asd.mk hR
  have t1 := ba_tests g []
  have t2 : g.toList.isEmpty = decide (g.data.toList = []) := by rw [ByteArray.toList_eq]; cases g.data.toList <;> simp
  have h0 := okT_start g
  clear h hX hK hs hR
  (go_enter Tryz.func46, Tryz.ntmps46)
  go_upto_region 1 with fail
  go_cut [8] from 11 to 17 (fun v8 wx => w0 = wx ∧ v8 = .bool (okT g 0))
  case first =>
    by_cases h1 : g.data.toList = []
    · have H1 := Asd.mk (show okT g 0 = false by rw [h0, decide_eq_false (fun k => k h1)]; rfl)
      rw [decide_eq_true h1] at t1 t2
      clear h0 h1
      go_wp2
      go_meet
      case rel => exact ⟨rfl, by rw [H1.out]⟩
    · rw [decide_eq_false h1] at t1 t2
      rw [decide_eq_true h1] at h0
      by_cases h2 : g.size ≤ 4096
      · have H1 := Asd.mk (show okT g 0 = true by rw [h0, decide_eq_true h2]; rfl)
        have k1 : (g.size : Int) ≤ 4096 := by omega
        clear h0 h1 h2
        go_wp2
        go_meet
        case rel => exact ⟨rfl, by rw [H1.out]⟩
      · have H1 := Asd.mk (show okT g 0 = false by rw [h0, decide_eq_false h2]; rfl)
        have k1 : ¬ (g.size : Int) ≤ 4096 := by omega
        clear h0 h1 h2
        go_wp2
        go_meet
        case rel => exact ⟨rfl, by rw [H1.out]⟩
  case rest =>
    obtain ⟨rfl, rfl⟩ := hcut
    clear h0 t1 t2
    go_wp2
    go_loopg [8, 9] (g.size + 1) (fun gk v8 v9 wx => w0 = wx ∧ ∃ i : Nat, i ≤ g.size ∧ gk = g.size + 1 - i ∧ v8 = .bool (okT g i) ∧ v9 = .int .i64 (i : Int))
    case atStart => exact ⟨rfl, 0, by omega, rfl, rfl, rfl⟩
    case round =>
      obtain ⟨rfl, i, hi, rfl, rfl, rfl⟩ := hrel
      by_cases hlt : i < g.size
      · have k2 : (i : Int) < (g.size : Int) := by omega
        have hst := okT_step g hlt
        cases ho : okT g i with
        | false =>
          have H1 := Asd.mk (show okT g (i + 1) = false by rw [hst, ho]; rfl)
          clear hst ho
          go_wp2
          go_roundg (g.size + 1 - (i + 1))
          case rel => exact ⟨rfl, i + 1, by omega, by omega, by rw [H1.out], by go_num⟩
          case measure => omega
        | true =>
          by_cases e1 : g[i] = 0
          · have H1 := Asd.mk (show okT g (i + 1) = false by rw [hst, decide_eq_false (fun k => k e1)]; simp)
            have t5 : (((g[i].toNat : Nat) : Int) != 0) = false := by rw [e1]; rfl
            clear hst ho e1
            go_wp2
            go_roundg (g.size + 1 - (i + 1))
            case rel => exact ⟨rfl, i + 1, by omega, by omega, by rw [H1.out], by go_num⟩
            case measure => omega
          · have H1 := Asd.mk (show okT g (i + 1) = true by rw [hst, ho, decide_eq_true e1]; rfl)
            have t5 : (((g[i].toNat : Nat) : Int) != 0) = true := by
              refine bne_iff_ne.2 fun h => e1 ?_
              apply UInt8.toNat_inj.1
              have : g[i].toNat = 0 := by omega
              rw [this]; rfl
            clear hst ho e1
            go_wp2
            go_roundg (g.size + 1 - (i + 1))
            case rel => exact ⟨rfl, i + 1, by omega, by omega, by rw [H1.out], by go_num⟩
            case measure => omega
      · have k2 : ¬ (i : Int) < (g.size : Int) := by omega
        obtain rfl : i = g.size := by omega
        have hall := okT_all g
        have b0 := cell_of_heap HX.out.b1 0; have b1 := cell_of_heap HX.out.b1 1; have b2 := cell_of_heap HX.out.b1 2
        cases ho : okT g g.size with
        | false =>
          have HRn := Asd.mk (show R = (30, G) by
            rw [← HRR.out]; unfold linkF
            rw [if_pos (Classical.byContradiction fun hb => by rw [hall.2 hb] at ho; cases ho)])
          clear hall ho HRR HW
          go_wp2_with (first | (refine wpList_store_row (o := ⟨none, _, _, _, _, _⟩) rfl 56 (.tmp 6) (.tmp 33) rfl wa.heap.size _ rfl rfl 56 _ HX.out.b2 (size_tab _ _ _) rfl (one_tabv HR.out.row _ _) ?_))
          refine bodyPost_ret (results_row_tmp rfl _ _ wa.heap.size 56 _ (0, 0) _ rfl (setRow_heap _ _ _ _ _ _ HX.out.b2) Tryz.underlying56 rfl (size_tab _ _ _)) rfl ?_
          exact keep_post 30 HR.out HX.out.chg (Nat.le_of_lt HX.out.lt) _ HRn.out
        | true =>
          have hnb := hall.1 ho
          have hRl : R = match atE G s with
            | .error n => (n, G)
            | .ok p => if (G.at p).isSome = true then (201, G) else putF G bb nn p ⟨3, g⟩ := by
            rw [← HRR.out]; unfold linkF; rw [if_neg hnb]; cases atE G s <;> rfl
          clear hall ho HRR
          cases hs : atE G s with
          | error n =>
            have HRn := Asd.mk (show R = (n, G) by rw [hRl, hs])
            have hn := atE_pos hs
            have k1 : ¬ (n : Int) = 0 := by omega
            rw [wayN_err hs] at HW
            clear hs hn hRl
            go_wp2_with fail
            refine HW.out.mono ?_
            rintro e w1 ⟨rfl, hC⟩
            have HX1 := Asd.mk (HX.out.on hC)
            clear hC HW HX b0 b1 b2
            have b0 := cell_of_heap HX1.out.b1 0; have b1 := cell_of_heap HX1.out.b1 1; have b2 := cell_of_heap HX1.out.b1 2
            go_wp2_with (first | (refine wpList_store_row (o := ⟨none, _, _, _, _, _⟩) rfl 56 (.tmp 6) (.tmp 40) rfl wa.heap.size _ rfl rfl 56 _ HX1.out.b2 (size_tab _ _ _) rfl (one_tabv HR.out.row _ _) ?_))
            refine bodyPost_ret (results_row_tmp rfl _ _ wa.heap.size 56 _ (0, 0) _ rfl (setRow_heap _ _ _ _ _ _ HX1.out.b2) Tryz.underlying56 rfl (size_tab _ _ _)) rfl ?_
            exact keep_post n HR.out HX1.out.chg (Nat.le_of_lt HX1.out.lt) _ HRn.out
          | ok p =>
            have hp := atE_parts hs
            have hok := partsF_ok hp
            rw [wayN_ok hs] at HW
            have hst := tx_parts hp
            subst hst
            have HOk := Asd.mk hok
            obtain ⟨T, hT⟩ : ∃ T, tx p = T := ⟨_, rfl⟩
            rw [hT] at HW ⊢
            rw [hs] at hRl
            simp only at hRl
            cases hx : G.at p with
            | some x =>
              have HRn := Asd.mk (show R = (201, G) by rw [hRl, hx]; rfl)
              have hk := HR.out.ok.kind _ _ hx
              have HA := Asd.mk (fun W (hC : Chg [] w W) => at_someA (HR.out.chg hC) hx)
              rw [hT] at HA
              have k1 : ¬ (x.kind : Int) = 0 := by omega
              obtain ⟨kd, Z⟩ := x
              simp only at HA k1
              clear hs hp hok hT hx hk hRl
              go_wp2_with fail
              refine HW.out.mono ?_
              rintro e w1 ⟨rfl, hC⟩
              have HX1 := Asd.mk (HX.out.on hC)
              clear hC HW HX b0 b1 b2
              have b0 := cell_of_heap HX1.out.b1 0; have b1 := cell_of_heap HX1.out.b1 1; have b2 := cell_of_heap HX1.out.b1 2
              go_wp2_with fail
              refine (HA.out _ HX1.out.chg).mono ?_
              rintro e w2 ⟨rfl, hC⟩
              have HX2 := Asd.mk (HX1.out.on hC)
              clear hC HA HX1 b0 b1 b2
              have b0 := cell_of_heap HX2.out.b1 0; have b1 := cell_of_heap HX2.out.b1 1; have b2 := cell_of_heap HX2.out.b1 2
              go_wp2_with (first | (refine wpList_store_row (o := ⟨none, _, _, _, _, _⟩) rfl 56 (.tmp 6) (.tmp 48) rfl wa.heap.size _ rfl rfl 56 _ HX2.out.b2 (size_tab _ _ _) rfl (one_tabv HR.out.row _ _) ?_))
              refine bodyPost_ret (results_row_tmp rfl _ _ wa.heap.size 56 _ (0, 0) _ rfl (setRow_heap _ _ _ _ _ _ HX2.out.b2) Tryz.underlying56 rfl (size_tab _ _ _)) rfl ?_
              exact keep_post 201 HR.out HX2.out.chg (Nat.le_of_lt HX2.out.lt) _ HRn.out
            | none =>
              have hp0 := at_ne_root hx
              have HA := Asd.mk (fun W (hC : Chg [] w W) => at_noneA (HR.out.chg hC) HOk.out hx)
              rw [hT] at HA
              have hF : R = putF G bb nn p ⟨3, g⟩ := by rw [hRl, hx, if_neg (by simp)]
              have HRm := Asd.mk (fun W (hC : Chg [] w W) => (roomA (HR.out.chg hC) g.size 1 (by omega) (by omega) : Calls Tryz.prog 73 #[.agg #[v, .int .i64 (bb : Int), .int .i64 (nn : Int)], .int .i64 (g.size : Int), .int .i64 1] W fun e w' => e = .returned (.bool (decide (usedF G + g.size ≤ bb ∧ G.length + 1 ≤ nn))) ∧ Chg [] W w'))
              by_cases hfull : usedF G + g.size ≤ bb ∧ G.length + 1 ≤ nn
              · have HE := Asd.mk (show Eqv R.2 (withF G p 3 g) ∧ R.1 = 0 by
                  have h1 : R = (0, G ++ [(p, ⟨3, g⟩)]) := by
                    rw [hF]; unfold putF
                    rw [if_neg (fun e => (put_free (x := (⟨3, g⟩ : Nd)) rfl).1 e hfull)]
                  have hg := linkF_keep HR.out.ok HR.out.room g (tx p)
                  have h2 : linkF G bb nn g (tx p) = R := by rw [hF]; unfold linkF; rw [if_neg hnb, hs]; simp only; rw [hx, if_neg (by simp)]
                  rw [h2] at hg
                  refine ⟨eqv_of_at hg.1 (okRow_with (okRow_of HR.out.ok) HOk.out hp0 (by omega) _) fun r => ?_, by rw [h1]⟩
                  rw [h1, at_put _ hp0 hx, at_with _ hp0]
                  rfl)
                rw [decide_eq_true hfull] at HRm
                have HWi := Asd.mk (fun W (hC : Chg [] w W) => (withA (bb := bb) (nn := nn) (HR.out.chg hC).row (okRow_of HR.out.ok) (by have := HR.out.num; omega) HOk.out ⟨#[]⟩ 3 g (by omega) : Calls Tryz.prog 74 #[.agg #[v, .int .i64 (bb : Int), .int .i64 (nn : Int)], .string (tx p), .agg #[.string ⟨#[]⟩, .int .i64 3, .string g]] W fun e w' => ∃ v', e = .returned (.agg #[v', .int .i64 (bb : Int), .int .i64 (nn : Int)]) ∧ RowE w' W.heap.size v' (rowE (withF G p 3 g)) ∧ Chg [] W w'))
                rw [hT] at HWi
                clear hp hok hRl hs hT hx hF hfull hnb
                go_wp2_with fail
                refine HW.out.mono ?_
                rintro e w1 ⟨rfl, hC⟩
                have HX1 := Asd.mk (HX.out.on hC)
                clear hC HW HX b0 b1 b2
                have b0 := cell_of_heap HX1.out.b1 0; have b1 := cell_of_heap HX1.out.b1 1; have b2 := cell_of_heap HX1.out.b1 2
                go_wp2_with fail
                refine (HA.out _ HX1.out.chg).mono ?_
                rintro e w2 ⟨rfl, hC⟩
                have HX2 := Asd.mk (HX1.out.on hC)
                clear hC HA HX1 b0 b1 b2
                have b0 := cell_of_heap HX2.out.b1 0; have b1 := cell_of_heap HX2.out.b1 1; have b2 := cell_of_heap HX2.out.b1 2
                go_wp2_with fail
                refine (HRm.out _ HX2.out.chg).mono ?_
                rintro e w3 ⟨rfl, hC⟩
                have HX3 := Asd.mk (HX2.out.on hC)
                clear hC HRm HX2 b0 b1 b2
                have b0 := cell_of_heap HX3.out.b1 0; have b1 := cell_of_heap HX3.out.b1 1; have b2 := cell_of_heap HX3.out.b1 2
                go_wp2_with fail
                refine (HWi.out _ HX3.out.chg).mono ?_
                rintro e w4 ⟨v', rfl, hV, hC⟩
                have HX4 := Asd.mk (HX3.out.on hC)
                have HV := Asd.mk hV
                have HL := Asd.mk (lt_of_heap HX3.out.b2)
                clear hC HWi HX3 b0 b1 b2 hV
                go_wp2_with (first | (refine wpList_store_row (o := ⟨none, _, _, _, _, _⟩) rfl 56 (.tmp 6) (.tmp 60) rfl wa.heap.size _ rfl rfl 56 _ HX4.out.b2 (size_tab _ _ _) rfl (one_tabv HV.out _ _) ?_))
                refine bodyPost_ret (results_row_tmp rfl _ _ wa.heap.size 56 _ (0, 0) _ rfl (setRow_heap _ _ _ _ _ _ HX4.out.b2) Tryz.underlying56 rfl (size_tab _ _ _)) rfl ?_
                exact new_post 0 HE.out.2 HE.out.1 HV.out HX4.out.chg (Nat.le_of_lt HX4.out.lt) HL.out HK.out _
              · have HRn := Asd.mk (show R = (206, G) by rw [hF]; unfold putF; rw [if_pos ((put_free (x := (⟨3, g⟩ : Nd)) rfl).2 hfull)])
                rw [decide_eq_false hfull] at HRm
                clear hp hok hRl hs hT hx hF hfull hnb
                go_wp2_with fail
                refine HW.out.mono ?_
                rintro e w1 ⟨rfl, hC⟩
                have HX1 := Asd.mk (HX.out.on hC)
                clear hC HW HX b0 b1 b2
                have b0 := cell_of_heap HX1.out.b1 0; have b1 := cell_of_heap HX1.out.b1 1; have b2 := cell_of_heap HX1.out.b1 2
                go_wp2_with fail
                refine (HA.out _ HX1.out.chg).mono ?_
                rintro e w2 ⟨rfl, hC⟩
                have HX2 := Asd.mk (HX1.out.on hC)
                clear hC HA HX1 b0 b1 b2
                have b0 := cell_of_heap HX2.out.b1 0; have b1 := cell_of_heap HX2.out.b1 1; have b2 := cell_of_heap HX2.out.b1 2
                go_wp2_with fail
                refine (HRm.out _ HX2.out.chg).mono ?_
                rintro e w3 ⟨rfl, hC⟩
                have HX3 := Asd.mk (HX2.out.on hC)
                clear hC HRm HX2 b0 b1 b2
                have b0 := cell_of_heap HX3.out.b1 0; have b1 := cell_of_heap HX3.out.b1 1; have b2 := cell_of_heap HX3.out.b1 2
                go_wp2_with (first | (refine wpList_store_row (o := ⟨none, _, _, _, _, _⟩) rfl 56 (.tmp 6) (.tmp 55) rfl wa.heap.size _ rfl rfl 56 _ HX3.out.b2 (size_tab _ _ _) rfl (one_tabv HR.out.row _ _) ?_))
                refine bodyPost_ret (results_row_tmp rfl _ _ wa.heap.size 56 _ (0, 0) _ rfl (setRow_heap _ _ _ _ _ _ HX3.out.b2) Tryz.underlying56 rfl (size_tab _ _ _)) rfl ?_
                exact keep_post 206 HR.out HX3.out.chg (Nat.le_of_lt HX3.out.lt) _ HRn.out
end Go.Proofs.YtiijbecklkccfaaGreatDoor.I
