/- Merged out of these texts: RBel, RRemove. -/
import Derived.Test.YtiijbecklkccfaaGreatDoorPl18
import Derived.Test.YtiijbecklkccfaaGreatDoorPl15
import Derived.Test.YtiijbecklkccfaaGreatDoorPl17
/- The reference's below: the walk. -/
namespace Go.Proofs.YtiijbecklkccfaaGreatDoor.I
open Go.RowKit Go.Proofs.YtiijbecklkccfaaGreatDoor.B Go.Sort
set_option linter.unusedVariables false
theorem ba_ne (a b : ByteArray) : (a.toList != b.toList) = decide (a ≠ b) := by
  have h := ba_eqs a b
  show (!(a.toList == b.toList)) = _
  rw [h]
  by_cases e : a = b
  · rw [decide_eq_true e, decide_eq_false (fun k => k e)]; rfl
  · rw [decide_eq_false e, decide_eq_true e]; rfl
set_option maxRecDepth 100000 in
set_option maxHeartbeats 16000000 in
theorem bel20_calls (A : Option Addr) (N c : Nat) (bb nn : Int) (E : List Ent) (s : ByteArray) (w : World) (hE : EntL w (.slice A N c) E) (hN : E.length = N) (hNz : N ≤ 1000000) (hs : s.size ≤ 1048576) (hz : ∀ x ∈ E, x.1.size ≤ 1048576) :
    Calls Tryz.prog 75 #[.agg #[.slice A N c, .int .i64 bb, .int .i64 nn], .string s] w fun e w' => ∃ v', e = .returned v' ∧ RowE w' w.heap.size v' (belR E s) ∧ Chg [] w w' := by
  obtain ⟨w0, hw0, hC, hB⟩ := start1 w #[.slice A N c, .int .i64 bb, .int .i64 nn] 56
  have HC := Asd.mk hC
  have HE := Asd.mk (hE.chg HC.out)
  have HN := Asd.mk hN
  have HB := Asd.mk hB
  have HZ := Asd.mk hz
  have HL := Asd.mk (lt_of_heap hB)
  clear hE hN hC hB hz
  (go_enter Tryz.func75, Tryz.ntmps75)
  go_wp2
  obtain ⟨B, hBq⟩ : ∃ B, w.heap.size = B := ⟨_, rfl⟩
  rw [hBq] at HB HL ⊢
  have HBq := Asd.mk hBq
  clear hBq hw0
  go_loopg [5, 6] (N + 1) (fun gk v5 v6 wx => ∃ i : Nat, i ≤ N ∧ gk = N + 1 - i ∧ v6 = .int .i64 (i : Int) ∧ Asd (Chg [] w0 wx) ∧ Asd (RowE wx w0.heap.size v5 (belR (E.take i) s)))
  case atStart => exact ⟨0, by omega, rfl, rfl, ⟨Chg.refl _ _⟩, ⟨⟨rfl, .inl ⟨rfl, rfl⟩⟩⟩⟩
  case round =>
    obtain ⟨i, hi, rfl, rfl, HC2, HR⟩ := hrel
    have hBr := HC2.out.heap HB.out (by simp)
    have b0 := cell_of_heap hBr 0
    by_cases hlt : i < N
    · have k1 : (i : Int) < (N : Int) := by omega
      have hil : i < E.length := by rw [HN.out]; exact hlt
      obtain ⟨g, rfl, c0, c1, c2⟩ := ent_cells (HE.out.chg HC2.out) hil
      have hP := HZ.out _ (List.getElem_mem hil)
      have hk := bel_take E s hil
      obtain ⟨P, kd2, Z, hx⟩ : ∃ P kd Z, E[i]'hil = (P, kd, Z) := ⟨_, _, _, rfl⟩
      rw [hx] at c0 c1 c2 hk hP
      simp only at hk hP
      have HBe := Asd.mk (fun W => refbelow_calls s P W (by omega) (by omega))
      obtain ⟨A7, c7, hv7, _⟩ := own_form HR.out
      obtain ⟨n7, hn7⟩ : ∃ n, (belR (E.take i) s).length = n := ⟨_, rfl⟩
      have hn7b : n7 ≤ 1000000 := by
        rw [← hn7]
        have h1 := bel_len (E.take i) s
        have h2 : (E.take i).length ≤ E.length := List.length_take_le' i E
        have := HN.out
        omega
      have HRo := Asd.mk (show wr.ownsRow w0.heap.size 41 3 (.slice A7 n7 c7) n7 (flatE (belR (E.take i) s)) by rw [← hn7, ← hv7]; exact HR.out)
      rw [hn7] at hv7
      have HN7 := Asd.mk hn7
      have HBs := Asd.mk (show w0.heap.size ≤ wr.heap.size from HC2.out.size)
      have HK := Asd.mk hk
      have t1 := ba_eqs P s
      obtain ⟨Cx, hCx⟩ : ∃ c, (decide (P ≠ s) && belowB s P) = c := ⟨_, rfl⟩
      rw [hCx] at HK
      subst hv7
      clear hx hil hk hn7 hP hBr
      go_upto_region 5 with fail
      go_cut [31] from 7 to 39 (fun v31 wx => v31 = .bool Cx ∧ Asd (Chg [] wr wx))
      case first =>
        by_cases hs : P = s
        · have HCx := Asd.mk (show Cx = false by rw [← hCx, decide_eq_false (fun k => k hs)]; rfl)
          rw [decide_eq_true hs] at t1
          clear hs hCx
          go_wp2
          go_meet
          case rel => exact ⟨by rw [HCx.out], ⟨Chg.refl _ _⟩⟩
        · have HCx := Asd.mk (show belowB s P = Cx by rw [← hCx, decide_eq_true hs]; rfl)
          rw [decide_eq_false hs] at t1
          rw [HCx.out] at HBe
          clear hs hCx
          go_wp2_with fail
          refine (HBe.out _).mono ?_
          rintro e w3 ⟨rfl, hw⟩
          have hw' := hw.symm
          subst hw'
          go_wp2
          go_meet
          case rel => exact ⟨rfl, ⟨Chg.refl _ _⟩⟩
      case rest =>
        obtain ⟨rfl, HCq⟩ := hcut
        have HC3 := Asd.mk (HC2.out.trans HCq.out)
        have HRp := Asd.mk (own_off HRo.out HCq.out (fun _ _ => by simp))
        have mv : ∀ {p : Addr} {u : Value}, wr.cell? p = some u → wc.cell? p = some u := fun h => (HCq.out.below.cell (World.block_lt_of_cell? wr _ h)).trans h
        replace c0 := mv c0
        replace c1 := mv c1
        replace c2 := mv c2
        have HBt := Asd.mk (HC3.out.heap HB.out (by simp))
        replace HBs := Asd.mk (show w0.heap.size ≤ wc.heap.size from HC3.out.size)
        have b0 := cell_of_heap HBt.out 0
        clear hCx t1 HBe mv HR HRo HC2
        cases Cx with
        | false =>
          have HR2 := Asd.mk (show RowE wc w0.heap.size (.slice A7 n7 c7) (belR (E.take (i + 1)) s) by unfold RowE; rw [HK.out, if_neg (by simp), List.append_nil, HN7.out]; exact HRp.out)
          go_wp2
          go_roundg (N + 1 - (i + 1))
          case rel => exact ⟨i + 1, by omega, by omega, by go_num, HC3, HR2⟩
          case measure => omega
        | true =>
          go_wp2_with (first
            | (refine wpList_build_ent rfl (P, kd2, Z) (.tmp 37) rfl rfl wc.heap.size rfl ?_; simp only [Act.put, List.setIfInBounds_toArray, List.set_cons_zero, List.set_cons_succ])
            | (at_builtin; refine wpList_append_entx rfl (P, kd2, Z) (.tmp 32) (.tmp 38) rfl w0.heap.size (.slice A7 n7 c7) n7 _ rfl (HRp.out.alloc _) wc.heap.size rfl (hp_new _ _) (by omega) (Nat.le_trans HBs.out ((Chg.refl [] wc).alloc _).size) ?_; intro g9 c9 w9 hown9 hgrow9; replace hown9 := Asd.mk hown9; replace hgrow9 := Asd.mk (Chg.grown (HC3.out.alloc _) hgrow9 (fun g e hg => by have := (own_block HRp.out e).1; omega)); simp only [Act.put, List.setIfInBounds_toArray, List.set_cons_zero, List.set_cons_succ]))
          have HR2 := Asd.mk (show RowE w9 w0.heap.size (.slice (some ⟨g9, 0, none⟩) (n7 + 1) c9) (belR (E.take (i + 1)) s) by
            unfold RowE
            rw [HK.out]
            simp only [if_true]
            rw [List.length_append, flatE_snoc, HN7.out]
            exact hown9.out)
          go_roundg (N + 1 - (i + 1))
          case rel => exact ⟨i + 1, by omega, by omega, by go_num, hgrow9, HR2⟩
          case measure => omega
    · have k1 : ¬ (i : Int) < (N : Int) := by omega
      have hf : E.take i = E := List.take_of_length_le (by have := HN.out; omega)
      rw [hf] at HR
      have HCx := Asd.mk (HC.out.trans HC2.out)
      have HR2 := Asd.mk (own_mono HR.out (show w.heap.size ≤ w0.heap.size from HC.out.size))
      clear hf HR HC2 hBr
      go_wp2
      go_ret
      exact ⟨_, rfl, by first | exact HR2.out | (rw [← HBq.out]; exact HR2.out), HCx.out⟩
theorem belA {w : World} {K : Nat} {v : Value} {G : FS} {bb nn : Nat} (h : RAt w K v G bb nn) {p : Pth} (hp : okP p) (h0 : p ≠ []) :
    Calls Tryz.prog 75 #[.agg #[v, .int .i64 (bb : Int), .int .i64 (nn : Int)], .string (tx p)] w fun e w' => ∃ v', e = .returned v' ∧ RowE w' w.heap.size v' (rowE (belF G p)) ∧ Chg [] w w' := by
  obtain ⟨A, c, rfl, hE⟩ := h.form
  have := bel20_calls A G.length c bb nn (rowE G) (tx p) w hE (row_len G) (by have := h.num; omega) (by have := tx_size hp; omega) (fun x hx => by
    obtain ⟨y, hy, rfl⟩ := List.mem_map.1 hx
    have := tx_size ((okRow_of h.ok).ok y hy)
    show (tx y.1).size ≤ _
    omega)
  rw [bel_row (okRow_of h.ok) hp h0] at this
  exact this
end Go.Proofs.YtiijbecklkccfaaGreatDoor.I
/- The reference's Remove. -/
namespace Go.Proofs.YtiijbecklkccfaaGreatDoor.I
open Go.RowKit Go.Proofs.YtiijbecklkccfaaGreatDoor.B Go.Sort
set_option linter.unusedVariables false
attribute [local go_sem high] field_kind
variable {w : World} {K : Nat} {v : Value} {G : FS} {bb nn : Nat}
set_option maxRecDepth 100000 in
set_option maxHeartbeats 16000000 in
theorem remove20_calls (h : RAt w K v G bb nn) (hK : K ≤ w.heap.size) (s : ByteArray) (hs : s.size ≤ 1048576) :
    Calls Tryz.prog 48 #[.agg #[v, .int .i64 (bb : Int), .int .i64 (nn : Int)], .string s] w fun e w' => RPost w K v bb nn (removeF G s) e w' := by
  obtain ⟨wa, w0, hwa, hw0, hX⟩ := box2_start w v bb nn
  have HX := Asd.mk hX
  have HR := Asd.mk h
  have HR0 := Asd.mk (h.chg hX.chg)
  have HK := Asd.mk hK
  have HW := Asd.mk (wayA HR0.out s hs)
  obtain ⟨R, hR⟩ : ∃ R, removeF G s = R := ⟨_, rfl⟩
  rw [hR]
  have HRR := Asd.mk hR
  have b0 := cell_of_heap HX.out.b1 0; have b1 := cell_of_heap HX.out.b1 1; have b2 := cell_of_heap HX.out.b1 2
  clear h hX hK hs hR
  cases hs : atE G s with
  | error n =>
    have HRn := Asd.mk (show R = (n, G) by rw [← HRR.out]; unfold removeF; rw [hs])
    have hn := atE_pos hs
    have k1 : ¬ (n : Int) = 0 := by omega
    rw [wayN_err hs] at HW
    clear hs hn HRR
    (go_enter Tryz.func48, Tryz.ntmps48)
    go_wp2_with fail
    refine HW.out.mono ?_
    rintro e w1 ⟨rfl, hC⟩
    have HX1 := Asd.mk (HX.out.on hC)
    clear hC HW HX b0 b1 b2 hwa hw0
    have b0 := cell_of_heap HX1.out.b1 0; have b1 := cell_of_heap HX1.out.b1 1; have b2 := cell_of_heap HX1.out.b1 2
    go_wp2_with (first | (refine wpList_store_row (o := ⟨none, _, _, _, _, _⟩) rfl 56 (.tmp 4) (.tmp 13) rfl wa.heap.size _ rfl rfl 56 _ HX1.out.b2 (size_tab _ _ _) rfl (one_tabv HR.out.row _ _) ?_))
    refine bodyPost_ret (results_row_tmp rfl _ _ wa.heap.size 56 _ (0, 0) _ rfl (setRow_heap _ _ _ _ _ _ HX1.out.b2) Tryz.underlying56 rfl (size_tab _ _ _)) rfl ?_
    exact keep_post n HR.out HX1.out.chg (Nat.le_of_lt HX1.out.lt) _ HRn.out
  | ok p =>
    have hp := atE_parts hs
    have hok := partsF_ok hp
    rw [wayN_ok hs] at HW
    have hst := tx_parts hp
    subst hst
    have HOk := Asd.mk hok
    have t1 := ba_tests (tx p) []
    obtain ⟨T, hT⟩ : ∃ T, tx p = T := ⟨_, rfl⟩
    rw [hT] at HW t1 ⊢
    by_cases hp0 : p = []
    · have HRn := Asd.mk (show R = (1, G) by rw [← HRR.out]; unfold removeF; rw [hs]; simp only; rw [if_pos hp0])
      rw [decide_eq_true (by rw [← hT, hp0]; rfl)] at t1
      clear hs hp hok hT hp0 HRR
      (go_enter Tryz.func48, Tryz.ntmps48)
      go_wp2_with fail
      refine HW.out.mono ?_
      rintro e w1 ⟨rfl, hC⟩
      have HX1 := Asd.mk (HX.out.on hC)
      clear hC HW HX b0 b1 b2 hwa hw0
      have b0 := cell_of_heap HX1.out.b1 0; have b1 := cell_of_heap HX1.out.b1 1; have b2 := cell_of_heap HX1.out.b1 2
      go_wp2_with (first | (refine wpList_store_row (o := ⟨none, _, _, _, _, _⟩) rfl 56 (.tmp 4) (.tmp 18) rfl wa.heap.size _ rfl rfl 56 _ HX1.out.b2 (size_tab _ _ _) rfl (one_tabv HR.out.row _ _) ?_))
      refine bodyPost_ret (results_row_tmp rfl _ _ wa.heap.size 56 _ (0, 0) _ rfl (setRow_heap _ _ _ _ _ _ HX1.out.b2) Tryz.underlying56 rfl (size_tab _ _ _)) rfl ?_
      exact keep_post 1 HR.out HX1.out.chg (Nat.le_of_lt HX1.out.lt) _ HRn.out
    · rw [decide_eq_false (fun e => hp0 ((tx_eqP hok).1 (ByteArray.ext (Array.toList_inj.1 (by rw [hT]; exact e)))))] at t1
      cases hx : G.at p with
      | none =>
        have HRn := Asd.mk (show R = (200, G) by rw [← HRR.out]; unfold removeF; rw [hs]; simp only; rw [if_neg hp0, hx])
        have HA := Asd.mk (fun W (hC : Chg [] w W) => at_noneA (HR.out.chg hC) HOk.out hx)
        rw [hT] at HA
        clear hs hp hok hT hx HRR hp0
        (go_enter Tryz.func48, Tryz.ntmps48)
        go_wp2_with fail
        refine HW.out.mono ?_
        rintro e w1 ⟨rfl, hC⟩
        have HX1 := Asd.mk (HX.out.on hC)
        clear hC HW HX b0 b1 b2 hwa hw0
        have b0 := cell_of_heap HX1.out.b1 0; have b1 := cell_of_heap HX1.out.b1 1; have b2 := cell_of_heap HX1.out.b1 2
        go_wp2_with fail
        refine (HA.out _ HX1.out.chg).mono ?_
        rintro e w2 ⟨rfl, hC⟩
        have HX2 := Asd.mk (HX1.out.on hC)
        clear hC HA HX1 b0 b1 b2
        have b0 := cell_of_heap HX2.out.b1 0; have b1 := cell_of_heap HX2.out.b1 1; have b2 := cell_of_heap HX2.out.b1 2
        go_wp2_with (first | (refine wpList_store_row (o := ⟨none, _, _, _, _, _⟩) rfl 56 (.tmp 4) (.tmp 25) rfl wa.heap.size _ rfl rfl 56 _ HX2.out.b2 (size_tab _ _ _) rfl (one_tabv HR.out.row _ _) ?_))
        refine bodyPost_ret (results_row_tmp rfl _ _ wa.heap.size 56 _ (0, 0) _ rfl (setRow_heap _ _ _ _ _ _ HX2.out.b2) Tryz.underlying56 rfl (size_tab _ _ _)) rfl ?_
        exact keep_post 200 HR.out HX2.out.chg (Nat.le_of_lt HX2.out.lt) _ HRn.out
      | some x =>
        have hk := HR.out.ok.kind _ _ hx
        have HA := Asd.mk (fun W (hC : Chg [] w W) => at_someA (HR.out.chg hC) hx)
        have HB := Asd.mk (fun W (hC : Chg [] w W) => belA (HR.out.chg hC) HOk.out hp0)
        have HWi := Asd.mk (fun W (hC : Chg [] w W) => (withA (bb := bb) (nn := nn) (HR.out.chg hC).row (okRow_of HR.out.ok) (by have := HR.out.num; omega) HOk.out ⟨#[]⟩ 0 ⟨#[]⟩ (by omega) : Calls Tryz.prog 74 #[.agg #[v, .int .i64 (bb : Int), .int .i64 (nn : Int)], .string (tx p), .agg #[.string ⟨#[]⟩, .int .i64 0, .string ⟨#[]⟩]] W fun e w' => ∃ v', e = .returned (.agg #[v', .int .i64 (bb : Int), .int .i64 (nn : Int)]) ∧ RowE w' W.heap.size v' (rowE (withF G p 0 ⟨#[]⟩)) ∧ Chg [] W w'))
        rw [hT] at HA HB HWi
        have k1 : ¬ (x.kind : Int) = 0 := by omega
        have hbk := bel_kids HR.out.ok p
        obtain ⟨M, hM⟩ : ∃ M, (belF G p).length = M := ⟨_, rfl⟩
        rw [hM] at hbk
        have HM := Asd.mk hM
        have hMz : M ≤ 65536 := by
          have h1 : (belF G p).length ≤ G.length := List.length_filter_le _ _
          have h2 := HR.out.num
          omega
        have HP0 := Asd.mk hp0
        by_cases hkd : hasKids G p
        · have HRn := Asd.mk (show R = (205, G) by rw [← HRR.out]; unfold removeF; rw [hs]; simp only; rw [if_neg hp0, hx]; simp only; rw [if_pos hkd])
          have hM0 := hbk.2 hkd
          have k2 : (0 : Int) < (M : Int) := by omega
          obtain ⟨kd, Z⟩ := x
          simp only at HA k1
          clear hs hp hok hT hx hk HRR hM hbk hkd hp0 hM0 HWi
          (go_enter Tryz.func48, Tryz.ntmps48)
          go_wp2_with fail
          refine HW.out.mono ?_
          rintro e w1 ⟨rfl, hC⟩
          have HX1 := Asd.mk (HX.out.on hC)
          clear hC HW HX b0 b1 b2 hwa hw0
          have b0 := cell_of_heap HX1.out.b1 0; have b1 := cell_of_heap HX1.out.b1 1; have b2 := cell_of_heap HX1.out.b1 2
          go_wp2_with fail
          refine (HA.out _ HX1.out.chg).mono ?_
          rintro e w2 ⟨rfl, hC⟩
          have HX2 := Asd.mk (HX1.out.on hC)
          clear hC HA HX1 b0 b1 b2
          have b0 := cell_of_heap HX2.out.b1 0; have b1 := cell_of_heap HX2.out.b1 1; have b2 := cell_of_heap HX2.out.b1 2
          go_wp2_with fail
          refine (HB.out _ HX2.out.chg).mono ?_
          rintro e w3 ⟨v3, rfl, hV, hC⟩
          obtain ⟨A3, c3, hv3, _⟩ := own_form hV
          rw [row_len, HM.out] at hv3
          subst hv3
          have HX3 := Asd.mk (HX2.out.on hC)
          clear hC HB HX2 b0 b1 b2 hV
          have b0 := cell_of_heap HX3.out.b1 0; have b1 := cell_of_heap HX3.out.b1 1; have b2 := cell_of_heap HX3.out.b1 2
          go_wp2_with (first | (refine wpList_store_row (o := ⟨none, _, _, _, _, _⟩) rfl 56 (.tmp 4) (.tmp 32) rfl wa.heap.size _ rfl rfl 56 _ HX3.out.b2 (size_tab _ _ _) rfl (one_tabv HR.out.row _ _) ?_))
          refine bodyPost_ret (results_row_tmp rfl _ _ wa.heap.size 56 _ (0, 0) _ rfl (setRow_heap _ _ _ _ _ _ HX3.out.b2) Tryz.underlying56 rfl (size_tab _ _ _)) rfl ?_
          exact keep_post 205 HR.out HX3.out.chg (Nat.le_of_lt HX3.out.lt) _ HRn.out
        · have HE := Asd.mk (show Eqv R.2 (withF G p 0 ⟨#[]⟩) ∧ R.1 = 0 by
            have h1 : R = (0, delF G p) := by rw [← HRR.out]; unfold removeF; rw [hs]; simp only; rw [if_neg hp0, hx]; simp only; rw [if_neg hkd]
            have hg := fsOk_del HR.out.ok hp0 hkd
            refine ⟨?_, by rw [h1]⟩
            rw [h1]
            refine eqv_of_at hg (okRow_with (okRow_of HR.out.ok) HOk.out hp0 (by omega) _) fun r => ?_
            rw [at_del hp0, at_with _ hp0]
            rfl)
          have hM0 : M = 0 := by
            rcases Nat.eq_zero_or_pos M with h | h
            · exact h
            · exact absurd (hbk.1 h) hkd
          subst hM0
          obtain ⟨kd, Z⟩ := x
          simp only at HA k1
          clear hs hp hok hT hx hk HRR hM hbk hkd hp0 hMz
          (go_enter Tryz.func48, Tryz.ntmps48)
          go_wp2_with fail
          refine HW.out.mono ?_
          rintro e w1 ⟨rfl, hC⟩
          have HX1 := Asd.mk (HX.out.on hC)
          clear hC HW HX b0 b1 b2 hwa hw0
          have b0 := cell_of_heap HX1.out.b1 0; have b1 := cell_of_heap HX1.out.b1 1; have b2 := cell_of_heap HX1.out.b1 2
          go_wp2_with fail
          refine (HA.out _ HX1.out.chg).mono ?_
          rintro e w2 ⟨rfl, hC⟩
          have HX2 := Asd.mk (HX1.out.on hC)
          clear hC HA HX1 b0 b1 b2
          have b0 := cell_of_heap HX2.out.b1 0; have b1 := cell_of_heap HX2.out.b1 1; have b2 := cell_of_heap HX2.out.b1 2
          go_wp2_with fail
          refine (HB.out _ HX2.out.chg).mono ?_
          rintro e w3 ⟨v3, rfl, hV, hC⟩
          obtain ⟨A3, c3, hv3, _⟩ := own_form hV
          rw [row_len, HM.out] at hv3
          subst hv3
          have HX3 := Asd.mk (HX2.out.on hC)
          clear hC HB HX2 b0 b1 b2 hV
          have b0 := cell_of_heap HX3.out.b1 0; have b1 := cell_of_heap HX3.out.b1 1; have b2 := cell_of_heap HX3.out.b1 2
          go_wp2_with fail
          refine (HWi.out _ HX3.out.chg).mono ?_
          rintro e w4 ⟨v', rfl, hV, hC⟩
          have HX4 := Asd.mk (HX3.out.on hC)
          have HV := Asd.mk hV
          have HL := Asd.mk (lt_of_heap HX3.out.b2)
          clear hC HWi HX3 b0 b1 b2 hV
          go_wp2_with (first | (refine wpList_store_row (o := ⟨none, _, _, _, _, _⟩) rfl 56 (.tmp 4) (.tmp 36) rfl wa.heap.size _ rfl rfl 56 _ HX4.out.b2 (size_tab _ _ _) rfl (one_tabv HV.out _ _) ?_))
          refine bodyPost_ret (results_row_tmp rfl _ _ wa.heap.size 56 _ (0, 0) _ rfl (setRow_heap _ _ _ _ _ _ HX4.out.b2) Tryz.underlying56 rfl (size_tab _ _ _)) rfl ?_
          exact new_post 0 HE.out.2 HE.out.1 HV.out HX4.out.chg (Nat.le_of_lt HX4.out.lt) HL.out HK.out _
end Go.Proofs.YtiijbecklkccfaaGreatDoor.I
