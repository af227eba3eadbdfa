/- Merged out of these texts: RSort, RBelF, RRenF, RefDir. -/
import Derived.Test.YtiijbecklkccfaaGreatDoorPl17
import Derived.Deep.CutBlock
import Derived.BigQuiet
import Derived.Test.YtiijbecklkccfaaGreatDoorPl15
import Derived.Test.YtiijbecklkccfaaGreatDoorPl16
import Derived.Test.YtiijbecklkccfaaGreatDoorPl14
/- The reference's sorting: the walk. -/
namespace Go.Proofs.YtiijbecklkccfaaGreatDoor.I
open Go.RowKit Go.Proofs.YtiijbecklkccfaaGreatDoor.B Go.Sort
set_option linter.unusedVariables false
theorem ins_len (l out : List Nm) : (l.foldl insN out).length = l.length + out.length := by
  induction l generalizing out with
  | nil => simp
  | cons x l ih =>
    rw [List.foldl_cons, ih, (ins_perm out x).length_eq]
    simp
    omega
theorem less_nm (x y : Nm) : Op.bytesLess (nb x).toList (nb y).toList = decide (x < y) := by
  rw [ByteArray.toList_eq, ByteArray.toList_eq, list_nb, list_nb]
  exact bytesLess_eq x y
theorem str_one (L : List ByteArray) : ∀ u ∈ L.map Value.string, u.oneCell' = true := fun u hu => by
  obtain ⟨x, _, rfl⟩ := List.mem_map.1 hu
  rfl
theorem ins_row {w : World} {b : Nat} {Lo : List Nm} {X : Nm} {k n3 m : Nat} {v : Value} (hn : Lo.length = n3) (hk : k ≤ n3) (hm : n3 - k = m) (h1 : ∀ j, (h : j < Lo.length) → j < k → Lo[j]'h < X) (h2 : ∀ h : k < Lo.length, ¬ Lo[k]'h < X) (h : w.ownsRow b 9 1 v (k + 1 + m) ((((Lo.map nb).take k).map Value.string ++ [Value.string (nb X)]) ++ ((Lo.map nb).drop k).map Value.string)) : RowT w b v ((insN Lo X).map nb) := by
  rw [ins_at (by omega) h1 h2]
  unfold RowT
  have e : ((Lo.take k ++ X :: Lo.drop k).map nb).length = k + 1 + m := by simp; omega
  rw [e]
  have e2 : ((Lo.take k ++ X :: Lo.drop k).map nb).map Value.string = (((Lo.map nb).take k).map Value.string ++ [Value.string (nb X)]) ++ ((Lo.map nb).drop k).map Value.string := by
    rw [List.map_append, List.map_cons, List.map_append, List.map_cons, List.map_take, List.map_drop]
    simp
  rw [e2]
  exact h
set_option maxRecDepth 100000 in
set_option maxHeartbeats 16000000 in
theorem sorted_calls (L : List Nm) (v0 : Value) (w : World) (hL : StrL w v0 (L.map nb)) (hz : L.length ≤ 1000000) :
    Calls Tryz.prog 78 #[v0] w fun e w' => ∃ v', e = .returned v' ∧ RowT w' w.heap.size v' ((sortN L).map nb) ∧ Chg [] w w' := by
  obtain ⟨A0, c0, rfl, hc0⟩ := hL
  rw [List.length_map]
  obtain ⟨N, hN⟩ : ∃ n, L.length = n := ⟨_, rfl⟩
  rw [hN] at hz ⊢
  have HN := Asd.mk hN
  have HS := Asd.mk hc0
  clear hc0 hN
  (go_enter Tryz.func78, Tryz.ntmps78)
  go_wp2
  go_loopg [3, 4, 5, 6] (N + 1) (fun gk v3 v4 v5 v6 wx => ∃ i : Nat, i ≤ N ∧ gk = N + 1 - i ∧ v4 = .int .i64 (i : Int) ∧ Asd (Chg [] w wx) ∧ Asd (RowT wx w.heap.size v3 (((L.take i).foldl insN []).map nb)))
  case atStart => exact ⟨0, by omega, rfl, rfl, ⟨Chg.refl _ _⟩, ⟨⟨rfl, .inl ⟨rfl, rfl⟩⟩⟩⟩
  case round =>
    obtain ⟨i, hi, rfl, rfl, HC, HR⟩ := hrel
    by_cases hlt : i < N
    · have k1 : (i : Int) < (N : Int) := by omega
      have hil : i < L.length := by rw [HN.out]; exact hlt
      obtain ⟨a, rfl, d⟩ := HS.out i (by rw [List.length_map]; exact hil)
      rw [List.getElem_map] at d
      have d1 := (HC.out.below.cell (World.block_lt_of_cell? _ _ d)).trans d
      have hst : ((L.take (i + 1)).foldl insN []) = insN ((L.take i).foldl insN []) (L[i]'hil) := by
        rw [List.take_succ_eq_append_getElem hil, List.foldl_append]; rfl
      have hlo : ((L.take i).foldl insN []).length = i := by
        rw [ins_len, List.length_take]
        simp
        omega
      obtain ⟨X, hX⟩ : ∃ X, L[i]'hil = X := ⟨_, rfl⟩
      obtain ⟨Lo, hLo⟩ : ∃ l, (L.take i).foldl insN [] = l := ⟨_, rfl⟩
      rw [hX] at d1 hst
      rw [hLo] at hst hlo HR
      have HSt := Asd.mk hst
      obtain ⟨A3, c3, hv3, hc3⟩ := own_form HR.out
      obtain ⟨n3, hn3⟩ : ∃ n, Lo.length = n := ⟨_, rfl⟩
      rw [List.length_map, hn3] at hv3
      rw [List.length_map, hn3] at hc3
      subst hv3
      have HN3 := Asd.mk hn3
      have hn3b : n3 ≤ 1000000 := by omega
      have HSL := Asd.mk (strL_of_own HR.out)
      clear d hX hLo hst hlo hil hn3
      go_upto_block 2 with fail
      go_cut [6] from 13 to 29 (fun v6 wx => ∃ k : Nat, k ≤ n3 ∧ v6 = .int .i64 (k : Int) ∧ Asd (Chg [] wr wx) ∧ Asd (∀ j, (h : j < Lo.length) → j < k → Lo[j]'h < X) ∧ Asd (∀ h : k < Lo.length, ¬ Lo[k]'h < X))
      case first =>
        go_wp2_with fail
        go_loopg [6] (n3 + 1) (fun gk v6 wx => ∃ k : Nat, k ≤ n3 ∧ gk = n3 + 1 - k ∧ v6 = .int .i64 (k : Int) ∧ Asd (Chg [] wr wx) ∧ Asd (∀ j, (h : j < Lo.length) → j < k → Lo[j]'h < X))
        case atStart => exact ⟨0, by omega, rfl, rfl, ⟨Chg.refl _ _⟩, ⟨fun j _ hj => by omega⟩⟩
        case round =>
          obtain ⟨k, hk, rfl, rfl, HC2, HJ⟩ := hrel
          by_cases hkn : k < n3
          · have k2 : (k : Int) < (n3 : Int) := by omega
            have hkl : k < Lo.length := by rw [HN3.out]; exact hkn
            obtain ⟨A', c', hv', hcc⟩ := HSL.out
            simp only [Value.slice.injEq] at hv'
            have hA' := hv'.1
            subst hA'
            clear hv'
            obtain ⟨b, rfl, e⟩ := hcc k (by rw [List.length_map]; exact hkl)
            rw [List.getElem_map] at e
            have e1 := (HC2.out.below.cell (World.block_lt_of_cell? _ _ e)).trans e
            have d2 := (HC2.out.below.cell (World.block_lt_of_cell? _ _ d1)).trans d1
            have t1 := less_nm (Lo[k]'hkl) X
            obtain ⟨Y, hY⟩ : ∃ Y, Lo[k]'hkl = Y := ⟨_, rfl⟩
            rw [hY] at e1 t1
            by_cases hl : Y < X
            · have HJ2 := Asd.mk (show ∀ j, (h : j < Lo.length) → j < k + 1 → Lo[j]'h < X from fun j h hj => by
                rcases Nat.lt_or_ge j k with h1 | h1
                · exact HJ.out j h h1
                · obtain rfl : j = k := by omega
                  rw [hY]; exact hl)
              rw [decide_eq_true hl] at t1
              clear hl hY hkl e d1 HJ hcc
              go_upto_region 7 with fail
              go_quiet (fail)
              go_wp2
              go_roundg (n3 + 1 - (k + 1))
              case rel => exact ⟨k + 1, by omega, by omega, by go_num, ⟨HC2.out.drewN _⟩, HJ2⟩
              case measure => omega
            · have HJ2 := Asd.mk (show ∀ h : k < Lo.length, ¬ Lo[k]'h < X from fun h => by rw [hY]; exact hl)
              rw [decide_eq_false hl] at t1
              clear hl hY hkl e d1 hcc
              go_upto_region 7 with fail
              go_quiet (fail)
              go_wp2
              go_meet
              case rel => exact ⟨k, by omega, rfl, ⟨HC2.out.drewN _⟩, HJ, HJ2⟩
          · have k2 : ¬ (k : Int) < (n3 : Int) := by omega
            have HJ2 := Asd.mk (show ∀ h : k < Lo.length, ¬ Lo[k]'h < X from fun h => by have := HN3.out; omega)
            go_upto_region 7 with fail
            go_quiet (fail)
            go_wp2
            go_meet
            case rel => exact ⟨k, by omega, rfl, ⟨HC2.out.drewN _⟩, HJ, HJ2⟩
      case rest =>
        obtain ⟨k, hk, rfl, HC2, HJ, HK⟩ := hcut
        have HRc := Asd.mk (show RowT wc w.heap.size (.slice A3 n3 c3) (Lo.map nb) from by
          have h := own_off HR.out HC2.out (fun _ _ => by simp)
          exact h)
        have HD := Asd.mk ((HC2.out.below.cell (World.block_lt_of_cell? _ _ d1)).trans d1)
        have HTk := Asd.mk (show (((Lo.map nb).take k).map Value.string).length = k by have := HN3.out; simp; omega)
        have HTd := Asd.mk (show (((Lo.map nb).drop k).map Value.string).length = n3 - k by have := HN3.out; simp; omega)
        have HTc := Asd.mk (show A3 = none → c3 = 0 from fun h => by
          rcases HRc.out.2 with ⟨hv, _⟩ | ⟨g, cap, cur, hv, _⟩
          · cases hv; rfl
          · cases hv; cases h)
        have k2 : (0 : Int) ≤ (k : Int) := by omega
        have k3 : (k : Int) ≤ (c3 : Int) := by omega
        have k4 : (k : Int) ≤ (n3 : Int) := by omega
        clear HR d1 HSL
        cases A3 with
        | none =>
          have hn0 : n3 = 0 := by
            rcases HRc.out.2 with ⟨hv, _⟩ | ⟨g, cap, cur, hv, _⟩
            · cases hv; rfl
            · cases hv
          have hc0 := HTc.out rfl
          have HDr := Asd.mk (show (((Lo.map nb).drop k).map Value.string) = [] from List.length_eq_zero_iff.1 (by rw [HTd.out]; omega))
          have Hc0 := Asd.mk hc0
          clear hc0 hn0
          go_wp2_with (first | (at_builtin; refine wpList_append_texts rfl (.tmp 30) (.tmp 33) rfl wc.heap.size (.slice none 0 0) 0 [] rfl ⟨rfl, .inl ⟨rfl, rfl⟩⟩ _ k _ (((Lo.map nb).take k).map Value.string) rfl HTk.out HTc.out (lies_take HRc.out k (by rw [List.length_map, HN3.out]; exact hk)) (str_one _) (by omega) (Nat.le_refl _) ?_; intro A5 c5 w5 hown5 hgr5; simp only [Nat.zero_add, List.nil_append] at hown5 ⊢; have hC5 := Chg.grown (Chg.refl [] wc) hgr5 (fun g e _ => by cases e); have HC5 := Asd.mk hC5; replace hown5 := Asd.mk hown5; have d5 := (hC5.below.cell (World.block_lt_of_cell? _ _ HD.out)).trans HD.out; clear hgr5 hC5; simp only [Act.put, List.setIfInBounds_toArray, List.set_cons_zero, List.set_cons_succ]) | (refine wpList_buildStr rfl (nb X) w5.heap.size rfl (.tmp 39) rfl rfl ?_; simp only [Act.put, List.setIfInBounds_toArray, List.set_cons_zero, List.set_cons_succ]) | (at_builtin; refine wpList_append_strx rfl (nb X) (.tmp 35) (.tmp 40) rfl wc.heap.size (.slice A5 k c5) k _ rfl (hown5.out.alloc _) w5.heap.size rfl (hp_new _ _) (by omega) (Nat.le_trans HC5.out.size ((Chg.refl [] w5).alloc _).size) ?_; intro g6 c6 w6 hown6 hgr6; have hC6 := Chg.grown (HC5.out.alloc _) hgr6 (fun g e hg => by have := (own_block hown5.out e).1; omega); have HC6 := Asd.mk hC6; replace hown6 := Asd.mk hown6; clear hgr6 hC6 d5; simp only [Act.put, List.setIfInBounds_toArray, List.set_cons_zero, List.set_cons_succ]) | (at_builtin; refine wpList_append_texts rfl (.tmp 42) (.tmp 45) rfl wc.heap.size (.slice (some ⟨g6, 0, none⟩) (k + 1) c6) (k + 1) _ rfl hown6.out _ (n3 - k) _ (((Lo.map nb).drop k).map Value.string) rfl HTd.out (fun _ => by have := Hc0.out; omega) (.inl ⟨rfl, HDr.out⟩) (str_one _) (by omega) HC6.out.size ?_; intro A7 c7 w7 hown7 hgr7; have hC7 := Chg.grown HC6.out hgr7 (fun g e hg => by have := (own_block hown6.out e).1; omega); have HC7 := Asd.mk hC7; replace hown7 := Asd.mk hown7; clear hgr7 hC7; simp only [Act.put, List.setIfInBounds_toArray, List.set_cons_zero, List.set_cons_succ]))
          have HR2 := Asd.mk (show RowT w7 w.heap.size (.slice A7 (k + 1 + (n3 - k)) c7) (((L.take (i + 1)).foldl insN []).map nb) by rw [HSt.out]; exact ins_row HN3.out hk (by first | omega | (have := Hkn.out; omega)) HJ.out HK.out (own_mono hown7.out (HC.out.trans HC2.out).size)); have HC8 := Asd.mk ((HC.out.trans HC2.out).trans HC7.out); go_roundg (N + 1 - (i + 1)); (case rel => exact ⟨i + 1, by omega, by omega, by go_num, HC8, HR2⟩); (case measure => omega)
        | some ad =>
          by_cases hck : c3 = k
          · have hck' := hck.symm
            subst hck'
            have hkn : n3 = k := by omega
            have HDr := Asd.mk (show (((Lo.map nb).drop k).map Value.string) = [] from List.length_eq_zero_iff.1 (by rw [HTd.out]; omega))
            replace HTd := Asd.mk (show (((Lo.map nb).drop k).map Value.string).length = 0 by rw [HDr.out]; rfl)
            have Hkn := Asd.mk hkn
            clear hck
            by_cases hk0 : k = 0
            · subst hk0
              clear hkn
              go_wp2_with (first | (at_builtin; refine wpList_append_texts rfl (.tmp 30) (.tmp 33) rfl wc.heap.size (.slice none 0 0) 0 [] rfl ⟨rfl, .inl ⟨rfl, rfl⟩⟩ _ 0 _ (((Lo.map nb).take 0).map Value.string) rfl HTk.out HTc.out (lies_take HRc.out 0 (by rw [List.length_map, HN3.out]; exact hk)) (str_one _) (by omega) (Nat.le_refl _) ?_; intro A5 c5 w5 hown5 hgr5; simp only [Nat.zero_add, List.nil_append] at hown5 ⊢; have hC5 := Chg.grown (Chg.refl [] wc) hgr5 (fun g e _ => by cases e); have HC5 := Asd.mk hC5; replace hown5 := Asd.mk hown5; have d5 := (hC5.below.cell (World.block_lt_of_cell? _ _ HD.out)).trans HD.out; clear hgr5 hC5; simp only [Act.put, List.setIfInBounds_toArray, List.set_cons_zero, List.set_cons_succ]) | (refine wpList_buildStr rfl (nb X) w5.heap.size rfl (.tmp 39) rfl rfl ?_; simp only [Act.put, List.setIfInBounds_toArray, List.set_cons_zero, List.set_cons_succ]) | (at_builtin; refine wpList_append_strx rfl (nb X) (.tmp 35) (.tmp 40) rfl wc.heap.size (.slice A5 0 c5) 0 _ rfl (hown5.out.alloc _) w5.heap.size rfl (hp_new _ _) (by omega) (Nat.le_trans HC5.out.size ((Chg.refl [] w5).alloc _).size) ?_; intro g6 c6 w6 hown6 hgr6; have hC6 := Chg.grown (HC5.out.alloc _) hgr6 (fun g e hg => by have := (own_block hown5.out e).1; omega); have HC6 := Asd.mk hC6; replace hown6 := Asd.mk hown6; clear hgr6 hC6 d5; simp only [Act.put, List.setIfInBounds_toArray, List.set_cons_zero, List.set_cons_succ]) | (at_builtin; refine wpList_append_texts rfl (.tmp 42) (.tmp 45) rfl wc.heap.size (.slice (some ⟨g6, 0, none⟩) (0 + 1) c6) (0 + 1) _ rfl hown6.out _ 0 _ (((Lo.map nb).drop 0).map Value.string) rfl HTd.out (fun h => by cases h) (.inr ⟨_, rfl, fun j u hj => by rw [HDr.out] at hj; cases hj⟩) (str_one _) (by omega) HC6.out.size ?_; intro A7 c7 w7 hown7 hgr7; have hC7 := Chg.grown HC6.out hgr7 (fun g e hg => by have := (own_block hown6.out e).1; omega); have HC7 := Asd.mk hC7; replace hown7 := Asd.mk hown7; clear hgr7 hC7; simp only [Act.put, List.setIfInBounds_toArray, List.set_cons_zero, List.set_cons_succ]))
              have HR2 := Asd.mk (show RowT w7 w.heap.size (.slice A7 (0 + 1 + 0) c7) (((L.take (i + 1)).foldl insN []).map nb) by rw [HSt.out]; exact ins_row HN3.out hk (by first | omega | (have := Hkn.out; omega)) HJ.out HK.out (own_mono hown7.out (HC.out.trans HC2.out).size)); have HC8 := Asd.mk ((HC.out.trans HC2.out).trans HC7.out); go_roundg (N + 1 - (i + 1)); (case rel => exact ⟨i + 1, by omega, by omega, by go_num, HC8, HR2⟩); (case measure => omega)
            · clear hkn
              go_wp2_with (first | (at_builtin; refine wpList_append_texts rfl (.tmp 30) (.tmp 33) rfl wc.heap.size (.slice none 0 0) 0 [] rfl ⟨rfl, .inl ⟨rfl, rfl⟩⟩ _ k _ (((Lo.map nb).take k).map Value.string) rfl HTk.out HTc.out (lies_take HRc.out k (by rw [List.length_map, HN3.out]; exact hk)) (str_one _) (by omega) (Nat.le_refl _) ?_; intro A5 c5 w5 hown5 hgr5; simp only [Nat.zero_add, List.nil_append] at hown5 ⊢; have hC5 := Chg.grown (Chg.refl [] wc) hgr5 (fun g e _ => by cases e); have HC5 := Asd.mk hC5; replace hown5 := Asd.mk hown5; have d5 := (hC5.below.cell (World.block_lt_of_cell? _ _ HD.out)).trans HD.out; clear hgr5 hC5; simp only [Act.put, List.setIfInBounds_toArray, List.set_cons_zero, List.set_cons_succ]) | (refine wpList_buildStr rfl (nb X) w5.heap.size rfl (.tmp 39) rfl rfl ?_; simp only [Act.put, List.setIfInBounds_toArray, List.set_cons_zero, List.set_cons_succ]) | (at_builtin; refine wpList_append_strx rfl (nb X) (.tmp 35) (.tmp 40) rfl wc.heap.size (.slice A5 k c5) k _ rfl (hown5.out.alloc _) w5.heap.size rfl (hp_new _ _) (by omega) (Nat.le_trans HC5.out.size ((Chg.refl [] w5).alloc _).size) ?_; intro g6 c6 w6 hown6 hgr6; have hC6 := Chg.grown (HC5.out.alloc _) hgr6 (fun g e hg => by have := (own_block hown5.out e).1; omega); have HC6 := Asd.mk hC6; replace hown6 := Asd.mk hown6; clear hgr6 hC6 d5; simp only [Act.put, List.setIfInBounds_toArray, List.set_cons_zero, List.set_cons_succ]) | (at_builtin; refine wpList_append_texts rfl (.tmp 42) (.tmp 45) rfl wc.heap.size (.slice (some ⟨g6, 0, none⟩) (k + 1) c6) (k + 1) _ rfl hown6.out _ 0 _ (((Lo.map nb).drop k).map Value.string) rfl HTd.out (fun h => by cases h) (.inr ⟨_, rfl, fun j u hj => by rw [HDr.out] at hj; cases hj⟩) (str_one _) (by omega) HC6.out.size ?_; intro A7 c7 w7 hown7 hgr7; have hC7 := Chg.grown HC6.out hgr7 (fun g e hg => by have := (own_block hown6.out e).1; omega); have HC7 := Asd.mk hC7; replace hown7 := Asd.mk hown7; clear hgr7 hC7; simp only [Act.put, List.setIfInBounds_toArray, List.set_cons_zero, List.set_cons_succ]))
              have HR2 := Asd.mk (show RowT w7 w.heap.size (.slice A7 (k + 1 + 0) c7) (((L.take (i + 1)).foldl insN []).map nb) by rw [HSt.out]; exact ins_row HN3.out hk (by first | omega | (have := Hkn.out; omega)) HJ.out HK.out (own_mono hown7.out (HC.out.trans HC2.out).size)); have HC8 := Asd.mk ((HC.out.trans HC2.out).trans HC7.out); go_roundg (N + 1 - (i + 1)); (case rel => exact ⟨i + 1, by omega, by omega, by go_num, HC8, HR2⟩); (case measure => omega)
          · have hck2 : ¬ (c3 : Int) = (k : Int) := by omega
            have HLd := Asd.mk (fun (W : World) (hW : Chg [] wc W) => lies_drop (own_off HRc.out hW (fun _ _ => by simp)) k (by rw [List.length_map, HN3.out]; exact hk))
            go_wp2_with (first | (at_builtin; refine wpList_append_texts rfl (.tmp 30) (.tmp 33) rfl wc.heap.size (.slice none 0 0) 0 [] rfl ⟨rfl, .inl ⟨rfl, rfl⟩⟩ _ k _ (((Lo.map nb).take k).map Value.string) rfl HTk.out HTc.out (lies_take HRc.out k (by rw [List.length_map, HN3.out]; exact hk)) (str_one _) (by omega) (Nat.le_refl _) ?_; intro A5 c5 w5 hown5 hgr5; simp only [Nat.zero_add, List.nil_append] at hown5 ⊢; have hC5 := Chg.grown (Chg.refl [] wc) hgr5 (fun g e _ => by cases e); have HC5 := Asd.mk hC5; replace hown5 := Asd.mk hown5; have d5 := (hC5.below.cell (World.block_lt_of_cell? _ _ HD.out)).trans HD.out; clear hgr5 hC5; simp only [Act.put, List.setIfInBounds_toArray, List.set_cons_zero, List.set_cons_succ]) | (refine wpList_buildStr rfl (nb X) w5.heap.size rfl (.tmp 39) rfl rfl ?_; simp only [Act.put, List.setIfInBounds_toArray, List.set_cons_zero, List.set_cons_succ]) | (at_builtin; refine wpList_append_strx rfl (nb X) (.tmp 35) (.tmp 40) rfl wc.heap.size (.slice A5 k c5) k _ rfl (hown5.out.alloc _) w5.heap.size rfl (hp_new _ _) (by omega) (Nat.le_trans HC5.out.size ((Chg.refl [] w5).alloc _).size) ?_; intro g6 c6 w6 hown6 hgr6; have hC6 := Chg.grown (HC5.out.alloc _) hgr6 (fun g e hg => by have := (own_block hown5.out e).1; omega); have HC6 := Asd.mk hC6; replace hown6 := Asd.mk hown6; clear hgr6 hC6 d5; simp only [Act.put, List.setIfInBounds_toArray, List.set_cons_zero, List.set_cons_succ]) | (at_builtin; refine wpList_append_texts rfl (.tmp 42) (.tmp 45) rfl wc.heap.size (.slice (some ⟨g6, 0, none⟩) (k + 1) c6) (k + 1) _ rfl hown6.out _ (n3 - k) _ (((Lo.map nb).drop k).map Value.string) rfl HTd.out (fun h => by cases h) (HLd.out _ HC6.out) (str_one _) (by omega) HC6.out.size ?_; intro A7 c7 w7 hown7 hgr7; have hC7 := Chg.grown HC6.out hgr7 (fun g e hg => by have := (own_block hown6.out e).1; omega); have HC7 := Asd.mk hC7; replace hown7 := Asd.mk hown7; clear hgr7 hC7; simp only [Act.put, List.setIfInBounds_toArray, List.set_cons_zero, List.set_cons_succ]))
            have HR2 := Asd.mk (show RowT w7 w.heap.size (.slice A7 (k + 1 + (n3 - k)) c7) (((L.take (i + 1)).foldl insN []).map nb) by rw [HSt.out]; exact ins_row HN3.out hk (by first | omega | (have := Hkn.out; omega)) HJ.out HK.out (own_mono hown7.out (HC.out.trans HC2.out).size)); have HC8 := Asd.mk ((HC.out.trans HC2.out).trans HC7.out); go_roundg (N + 1 - (i + 1)); (case rel => exact ⟨i + 1, by omega, by omega, by go_num, HC8, HR2⟩); (case measure => omega)
    · have k1 : ¬ (i : Int) < (N : Int) := by omega
      rw [List.take_of_length_le (by have := HN.out; omega), sort_ins] at HR
      go_wp2
      go_ret
      exact ⟨_, rfl, HR.out, HC.out⟩
end Go.Proofs.YtiijbecklkccfaaGreatDoor.I
/- The reference's below, and its rename's moves. Plain. -/
namespace Go.Proofs.YtiijbecklkccfaaGreatDoor.I
open Go.RowKit Go.Proofs.YtiijbecklkccfaaGreatDoor.B Go.Sort
set_option linter.unusedVariables false
def belR (E : List Ent) (s : ByteArray) : List Ent := E.filter fun y => decide (y.1 ≠ s) && belowB s y.1
theorem bel_take (E : List Ent) (s : ByteArray) {i : Nat} (hi : i < E.length) : belR (E.take (i + 1)) s = belR (E.take i) s ++ (if (decide ((E[i]'hi).1 ≠ s) && belowB s (E[i]'hi).1) = true then [E[i]'hi] else []) := by
  unfold belR
  rw [List.take_succ_eq_append_getElem hi, List.filter_append, List.filter_cons]
  rfl
theorem bel_len (E : List Ent) (s : ByteArray) : (belR E s).length ≤ E.length := List.length_filter_le _ _
theorem below_iff {p q : Pth} (h0 : p ≠ []) (hp : okP p) (hq : okP q) : belowB (tx p) (tx q) = true ↔ p <+: q := by
  constructor
  · exact below_prefix h0 hp hq
  · intro h
    by_cases hq0 : q = []
    · subst hq0
      exact absurd (List.prefix_nil.1 h) h0
    · exact below_pre (parts_tx h0 hp) (parts_tx hq0 hq) h0 h
open Classical in
/-- What stands below a path. -/
noncomputable def belF (G : FS) (p : Pth) : FS := G.filter fun x => decide (x.1 ≠ p ∧ p <+: x.1)
theorem bel_row {G : FS} (h : OkRow G) {p : Pth} (hp : okP p) (h0 : p ≠ []) : belR (rowE G) (tx p) = rowE (belF G p) := by
  unfold belR belF rowE
  rw [List.filter_map]
  congr 1
  refine List.filter_congr fun x hx => ?_
  show (decide (tx x.1 ≠ tx p) && belowB (tx p) (tx x.1)) = decide (x.1 ≠ p ∧ p <+: x.1)
  have e := below_iff h0 hp (h.ok x hx)
  by_cases e1 : x.1 = p
  · rw [decide_eq_false (fun k => k (by rw [e1])), decide_eq_false (fun k => k.1 e1)]; rfl
  · rw [decide_eq_true (show tx x.1 ≠ tx p from fun k => e1 (tx_inj (h.ok x hx) hp k))]
    by_cases e2 : p <+: x.1
    · rw [e.2 e2, decide_eq_true ⟨e1, e2⟩]; rfl
    · rw [decide_eq_false (fun k => e2 k.2)]
      cases hb : belowB (tx p) (tx x.1) with
      | false => rfl
      | true => exact absurd (e.1 hb) e2
theorem mem_bel {G : FS} {p : Pth} {x : Pth × Nd} : x ∈ belF G p ↔ x ∈ G ∧ x.1 ≠ p ∧ p <+: x.1 := by
  unfold belF
  rw [List.mem_filter, decide_eq_true_eq]
theorem bel_kids {G : FS} (h : FsOk G) (p : Pth) : 0 < (belF G p).length ↔ hasKids G p := by
  constructor
  · intro hl
    obtain ⟨x, hx⟩ := List.exists_mem_of_length_pos hl
    obtain ⟨h1, h2, s, h3⟩ := mem_bel.1 hx
    have ha := ((mem_at h.nodup h.ne).1 h1).2
    cases s with
    | nil =>
      rw [List.append_nil] at h3
      exact absurd h3.symm h2
    | cons k s =>
      refine ⟨k, ?_⟩
      cases s with
      | nil => rw [h3, ha]; simp
      | cons j s =>
        obtain ⟨y, hy, _⟩ := h.prefix (p := p ++ [k]) (q := j :: s) (by rw [show p ++ [k] ++ j :: s = x.1 by rw [← h3]; simp, ha]; simp) (by simp)
        rw [hy]; simp
  · rintro ⟨k, hk⟩
    obtain ⟨z, hz⟩ := Option.ne_none_iff_exists'.1 hk
    have := (mem_at h.nodup h.ne (y := (p ++ [k], z))).2 ⟨by simp, hz⟩
    exact List.length_pos_of_mem (mem_bel.2 ⟨this, by simp, List.prefix_append p [k]⟩)
/-- One of what stands below is moved. -/
noncomputable def stepM (p q : Pth) (G : FS) (y : Pth × Nd) : FS := withF (withF G y.1 0 ⟨#[]⟩) (mvP p q y.1) y.2.kind y.2.text
theorem at_step {p q : Pth} (G : FS) (y : Pth × Nd) (h1 : y.1 ≠ []) (h2 : mvP p q y.1 ≠ []) (hk : y.2.kind ≠ 0) (r : Pth) : (stepM p q G y).at r = if r = mvP p q y.1 then some y.2 else if r = y.1 then none else G.at r := by
  unfold stepM
  rw [at_with _ h2, if_neg hk, at_with _ h1, if_pos rfl]
open Classical in
theorem at_moves {p q : Pth} : ∀ (l : FS) (G : FS), (∀ y ∈ l, y.1 ≠ [] ∧ mvP p q y.1 ≠ [] ∧ y.2.kind ≠ 0) → (l.map fun y => mvP p q y.1).Nodup → (∀ y ∈ l, ∀ z ∈ l, mvP p q y.1 ≠ z.1) → ∀ r,
    (∀ y ∈ l, r = mvP p q y.1 → (l.foldl (stepM p q) G).at r = some y.2) ∧
    ((∀ y ∈ l, r ≠ mvP p q y.1) → (l.foldl (stepM p q) G).at r = if r ∈ l.map (·.1) then none else G.at r)
  | [], G, _, _, _, r => ⟨fun y hy => absurd hy List.not_mem_nil, fun _ => by simp⟩
  | a :: l, G, h1, h2, h3, r => by
    rw [List.map_cons, List.nodup_cons] at h2
    obtain ⟨i1, i2⟩ := at_moves l (stepM p q G a) (fun y hy => h1 y (List.mem_cons_of_mem _ hy)) h2.2 (fun y hy z hz => h3 y (List.mem_cons_of_mem _ hy) z (List.mem_cons_of_mem _ hz)) r
    obtain ⟨a1, a2, a3⟩ := h1 a List.mem_cons_self
    have hs := at_step (p := p) (q := q) G a a1 a2 a3 r
    rw [List.foldl_cons]
    constructor
    · intro y hy hr
      rcases List.mem_cons.1 hy with rfl | hy
      · rw [i2 (fun z hz e => h2.1 (List.mem_map.2 ⟨z, hz, by rw [← e, hr]⟩)), if_neg, hs, if_pos hr]
        intro hm
        obtain ⟨z, hz, e⟩ := List.mem_map.1 hm
        exact h3 y List.mem_cons_self z (List.mem_cons_of_mem _ hz) (by rw [e, hr])
      · exact i1 y hy hr
    · intro hn
      rw [i2 (fun z hz => hn z (List.mem_cons_of_mem _ hz)), hs, if_neg (hn a List.mem_cons_self)]
      by_cases e1 : r ∈ l.map (·.1)
      · rw [if_pos e1, if_pos (by rw [List.map_cons]; exact List.mem_cons_of_mem _ e1)]
      · rw [if_neg e1]
        by_cases e2 : r = a.1
        · rw [if_pos e2, if_pos (by rw [List.map_cons, e2]; exact List.mem_cons_self)]
        · rw [if_neg e2, if_neg (by rw [List.map_cons, List.mem_cons]; rintro (h | h); exact e2 h; exact e1 h)]
/-- All moves of a rename. -/
noncomputable def movesF (G : FS) (p q : Pth) (x : Nd) : FS := (belF G p).foldl (stepM p q) (withF (withF G q x.kind x.text) p 0 ⟨#[]⟩)
theorem moves_eqv {G : FS} (hg : FsOk G) {a b : ByteArray} {p q d : Pth} {n : Nm} {x y : Nd} (hO : RenOk G a b p q x d n y) (hrow : OkRow (movesF G p q x)) (hsnd : FsOk (mvF (delF G q) p q)) : Eqv (mvF (delF G q) p q) (movesF G p q x) := by
  refine eqv_of_at hsnd hrow fun r => ?_
  have hq0 : q ≠ [] := by rw [hO.qe]; simp
  have hpq : p ≠ q := fun e => hO.ab (parts_inj hO.pa (by rw [e]; exact hO.pb) hO.hp)
  have hnp : ¬ p <+: q := fun e => by
    rw [hO.qe] at e
    rcases List.prefix_concat_iff.1 e with h | h
    · exact hpq (by rw [hO.qe]; exact h)
    · exact hO.np h
  have hno : ∀ s, s ≠ [] → G.at (q ++ s) = none := fun s hs => by
    cases s with
    | nil => exact absurd rfl hs
    | cons k s =>
      cases hx : G.at (q ++ k :: s) with
      | none => rfl
      | some z =>
        refine absurd ⟨k, ?_⟩ hO.no
        cases s with
        | nil => rw [hx]; simp
        | cons j s =>
          obtain ⟨y, hy, _⟩ := hg.prefix (p := q ++ [k]) (q := j :: s) (by rw [show q ++ [k] ++ j :: s = q ++ k :: j :: s by simp, hx]; simp) (by simp)
          rw [hy]; simp
  obtain ⟨a1, a2, a3, _, _⟩ := ren_after hg hO
  have hxk : x.kind ≠ 0 := by have := hg.kind _ _ hO.at_; omega
  have hl : ∀ y ∈ belF G p, ∃ s, s ≠ [] ∧ y.1 = p ++ s ∧ mvP p q y.1 = q ++ s ∧ G.at (p ++ s) = some y.2 ∧ y.2.kind ≠ 0 := fun y hy => by
    obtain ⟨h1, h2, s, h3⟩ := mem_bel.1 hy
    have ha := ((mem_at hg.nodup hg.ne).1 h1).2
    refine ⟨s, fun e => h2 (by rw [← h3, e]; simp), h3.symm, by rw [← h3, mvP_in], by rw [h3]; exact ha, ?_⟩
    have := hg.kind _ _ ha
    omega
  obtain ⟨i1, i2⟩ := at_moves (p := p) (q := q) (belF G p) (withF (withF G q x.kind x.text) p 0 ⟨#[]⟩) (fun y hy => by
    obtain ⟨s, h1, h2, h3, h4, h5⟩ := hl y hy
    exact ⟨by rw [h2]; simp [h1], by rw [h3]; simp [h1], h5⟩) (by
    have hnd : ((belF G p).map (·.1)).Nodup := (List.Sublist.map _ List.filter_sublist).nodup hg.nodup
    rw [show (belF G p).map (fun y => mvP p q y.1) = ((belF G p).map (·.1)).map (mvP p q) by rw [List.map_map]; rfl]
    refine List.Pairwise.map _ (fun a b h => h) (List.Pairwise.imp_of_mem ?_ hnd)
    intro u v hu hv huv e
    obtain ⟨y, hy, rfl⟩ := List.mem_map.1 hu
    obtain ⟨z, hz, rfl⟩ := List.mem_map.1 hv
    obtain ⟨s, h1, h2, h3, _, _⟩ := hl y hy
    obtain ⟨s', h1', h2', h3', _, _⟩ := hl z hz
    rw [h3, h3'] at e
    exact huv (by rw [h2, h2', List.append_cancel_left e])) (fun y hy z hz e => by
    obtain ⟨s, h1, h2, h3, _, _⟩ := hl y hy
    obtain ⟨s', h1', h2', h3', h4', _⟩ := hl z hz
    rw [h3, h2'] at e
    rw [← e, hno s h1] at h4'
    cases h4') r
  unfold movesF
  rw [at_mv a1 hO.hp hq0 a3]
  have hG2 : (withF (withF G q x.kind x.text) p 0 ⟨#[]⟩).at r = if r = p then none else if r = q then some x else G.at r := by
    rw [at_with _ hO.hp, if_pos rfl, at_with _ hq0, if_neg hxk]
  by_cases hr : q <+: r
  · obtain ⟨s, rfl⟩ := hr
    rw [if_pos (List.prefix_append q s), List.drop_left, at_del hq0, if_neg (fun e => hnp (by rw [← e]; exact List.prefix_append p s))]
    by_cases hs : s = []
    · subst hs
      rw [List.append_nil, List.append_nil, hO.at_]
      rw [List.append_nil] at i2 hG2
      rw [i2 (fun y hy e => by
        obtain ⟨s, h1, h2, h3, _, _⟩ := hl y hy
        rw [h3] at e
        exact h1 (by simpa using e)), if_neg (fun hm => by
        obtain ⟨y, hy, e⟩ := List.mem_map.1 hm
        exact hnp (by rw [← e]; exact (mem_bel.1 hy).2.2)), hG2, if_neg (Ne.symm hpq), if_pos rfl]
    · cases hx : G.at (p ++ s) with
      | some z =>
        have hm : (p ++ s, z) ∈ belF G p := mem_bel.2 ⟨(mem_at hg.nodup hg.ne).2 ⟨by simp [hs], hx⟩, by simp [hs], List.prefix_append p s⟩
        rw [i1 _ hm (by rw [mvP_in])]
      | none =>
        rw [i2 (fun y hy e => by
          obtain ⟨s', h1, h2, h3, h4, _⟩ := hl y hy
          rw [h3] at e
          rw [← List.append_cancel_left e, hx] at h4
          cases h4)]
        split
        · rfl
        · rw [hG2]
          split
          · rfl
          · rw [if_neg (by simp [hs]), hno s hs]
  · rw [if_neg hr, i2 (fun y hy e => by
      obtain ⟨s', h1, h2, h3, h4, _⟩ := hl y hy
      rw [h3] at e
      exact hr (by rw [e]; exact List.prefix_append q s'))]
    have hrq : r ≠ q := fun e => hr (e ▸ List.prefix_refl q)
    by_cases hp : p <+: r
    · rw [if_pos hp]
      split
      · rfl
      · rename_i hm
        rw [hG2]
        split
        · rfl
        · rename_i hrp
          cases hx : G.at r with
          | none => rfl
          | some z =>
            refine absurd ?_ hm
            refine List.mem_map.2 ⟨(r, z), mem_bel.2 ⟨(mem_at hg.nodup hg.ne).2 ⟨?_, hx⟩, hrp, hp⟩, rfl⟩
            intro e
            simp only at e
            subst e
            exact hO.hp (List.prefix_nil.1 hp)
    · rw [if_neg hp, if_neg (fun hm => by
        obtain ⟨y, hy, e⟩ := List.mem_map.1 hm
        exact hp (by rw [← e]; exact (mem_bel.1 hy).2.2)), hG2, if_neg (show ¬ r = p from fun e => hp (e ▸ List.prefix_refl p)), if_neg hrq, at_del hq0, if_neg hrq]
end Go.Proofs.YtiijbecklkccfaaGreatDoor.I
/- The reference's rename: its moves, plainly. -/
namespace Go.Proofs.YtiijbecklkccfaaGreatDoor.I
open Go.RowKit Go.Proofs.YtiijbecklkccfaaGreatDoor.B Go.Sort
set_option linter.unusedVariables false
theorem tx_app {p s : Pth} (hp : p ≠ []) (hs : s ≠ []) : (tx (p ++ s)).data.toList = (tx p).data.toList ++ 47 :: (tx s).data.toList := by
  rw [tx_list, tx_list, tx_list, join_app 47 hp hs]
/-- The text of what is moved. -/
theorem mv_text {p q s : Pth} (hp : p ≠ []) (hq : q ≠ []) (hs : s ≠ []) : tx q ++ (tx (p ++ s)).extract (tx p).size (tx (p ++ s)).size = tx (q ++ s) := by
  apply ByteArray.ext
  apply Array.toList_inj.1
  have h1 := toList_extract (tx (p ++ s)) (tx p).size (tx (p ++ s)).size
  rw [tx_app hp hs, List.take_of_length_le (by
    rw [List.length_drop, ← tx_app hp hs, list_size]
    exact Nat.le_refl _)] at h1
  have h2 : ((tx p).data.toList ++ 47 :: (tx s).data.toList).drop (tx p).size = 47 :: (tx s).data.toList := by
    rw [← list_size (tx p), List.drop_left]
  rw [h2] at h1
  rw [tx_app hq hs, ByteArray.data_append, Array.toList_append, h1]
theorem tx_join (p : Pth) : nb (joinL 47 p) = tx p := rfl
theorem fits_bel {G : FS} (hg : FsOk G) {p q : Pth} {b : ByteArray} (hp : p ≠ []) (hq : q ≠ []) (hb : partsF b = .ok q) : fitsP G p b.data.toList ↔ ∀ y ∈ belF G p, ∃ r, partsF (tx (mvP p q y.1)) = .ok r := by
  have hbt := partsF_text hb hq
  unfold fitsP
  constructor
  · intro h y hy
    obtain ⟨h1, h2, s, h3⟩ := mem_bel.1 hy
    have ha := ((mem_at hg.nodup hg.ne).1 h1).2
    obtain ⟨r, hr⟩ := h s (by rw [h3, ha]; simp)
    rw [hbt, glue_join hq] at hr
    exact ⟨r, by rw [← h3, mvP_in]; exact hr⟩
  · intro h r hr
    rw [hbt, glue_join hq, tx_join]
    by_cases hr0 : r = []
    · subst hr0
      rw [List.append_nil, ← tx_parts hb]
      exact ⟨q, hb⟩
    · obtain ⟨z, hz⟩ := Option.ne_none_iff_exists'.1 hr
      obtain ⟨t, ht⟩ := h (p ++ r, z) (mem_bel.2 ⟨(mem_at hg.nodup hg.ne).2 ⟨by simp [hp], hz⟩, by simp [hr0], List.prefix_append p r⟩)
      rw [mvP_in] at ht
      exact ⟨t, ht⟩
open Classical in
/-- A rename behind the parts. -/
noncomputable def renRest (G : FS) (a b : ByteArray) (p q : Pth) : Nat × FS := match wayE G p with
  | some n => (n, G)
  | none => match G.at p with
    | none => (200, G)
    | some x => if x.kind = 2 ∧ a ≠ b ∧ belowB a b = true then (207, G) else match wayE G q with
      | some n => (n, G)
      | none => if a = b then (0, G) else if givesF G q x ≠ 0 then (givesF G q x, G) else if ¬ fitsP G p b.data.toList then (2, G) else (0, mvF (delF G q) p q)
theorem ren_rest {G : FS} {a b : ByteArray} {p q : Pth} (ha : partsF a = .ok p) (hb : partsF b = .ok q) (hp : p ≠ []) (hq : q ≠ []) : renameF G a b = renRest G a b p q := by
  unfold renameF renRest
  rw [ha]
  simp only
  rw [hb]
  simp only
  rw [if_neg hp, if_neg hq]
  cases wayE G p with
  | some n => rfl
  | none =>
    simp only
    cases G.at p with
    | none => rfl
    | some x =>
      simp only
      cases wayE G q <;> rfl
theorem rest_wp {G : FS} {a b : ByteArray} {p q : Pth} {n : Nat} (h : wayE G p = some n) : renRest G a b p q = (n, G) := by unfold renRest; rw [h]
theorem rest_no {G : FS} {a b : ByteArray} {p q : Pth} (h : wayE G p = none) (hx : G.at p = none) : renRest G a b p q = (200, G) := by unfold renRest; rw [h]; simp only; rw [hx]
theorem rest_in {G : FS} {a b : ByteArray} {p q : Pth} {x : Nd} (h : wayE G p = none) (hx : G.at p = some x) (hb : x.kind = 2 ∧ a ≠ b ∧ belowB a b = true) : renRest G a b p q = (207, G) := by unfold renRest; rw [h]; simp only; rw [hx]; simp only; rw [if_pos hb]
theorem rest_wq {G : FS} {a b : ByteArray} {p q : Pth} {x : Nd} {n : Nat} (h : wayE G p = none) (hx : G.at p = some x) (hb : ¬ (x.kind = 2 ∧ a ≠ b ∧ belowB a b = true)) (hw : wayE G q = some n) : renRest G a b p q = (n, G) := by unfold renRest; rw [h]; simp only; rw [hx]; simp only; rw [if_neg hb, hw]
theorem rest_eq {G : FS} {a b : ByteArray} {p q : Pth} {x : Nd} (h : wayE G p = none) (hx : G.at p = some x) (hb : ¬ (x.kind = 2 ∧ a ≠ b ∧ belowB a b = true)) (hw : wayE G q = none) (hab : a = b) : renRest G a b p q = (0, G) := by unfold renRest; rw [h]; simp only; rw [hx]; simp only; rw [if_neg hb, hw]; simp only; rw [if_pos hab]
theorem rest_gv {G : FS} {a b : ByteArray} {p q : Pth} {x : Nd} (h : wayE G p = none) (hx : G.at p = some x) (hb : ¬ (x.kind = 2 ∧ a ≠ b ∧ belowB a b = true)) (hw : wayE G q = none) (hab : a ≠ b) (hg : givesF G q x ≠ 0) : renRest G a b p q = (givesF G q x, G) := by unfold renRest; rw [h]; simp only; rw [hx]; simp only; rw [if_neg hb, hw]; simp only; rw [if_neg hab, if_pos hg]
theorem rest_ft {G : FS} {a b : ByteArray} {p q : Pth} {x : Nd} (h : wayE G p = none) (hx : G.at p = some x) (hb : ¬ (x.kind = 2 ∧ a ≠ b ∧ belowB a b = true)) (hw : wayE G q = none) (hab : a ≠ b) (hg : givesF G q x = 0) (hf : ¬ fitsP G p b.data.toList) : renRest G a b p q = (2, G) := by unfold renRest; rw [h]; simp only; rw [hx]; simp only; rw [if_neg hb, hw]; simp only; rw [if_neg hab, if_neg (fun e => e hg), if_pos hf]
theorem rest_ok {G : FS} {a b : ByteArray} {p q : Pth} {x : Nd} (h : wayE G p = none) (hx : G.at p = some x) (hb : ¬ (x.kind = 2 ∧ a ≠ b ∧ belowB a b = true)) (hw : wayE G q = none) (hab : a ≠ b) (hg : givesF G q x = 0) (hf : fitsP G p b.data.toList) : renRest G a b p q = (0, mvF (delF G q) p q) := by unfold renRest; rw [h]; simp only; rw [hx]; simp only; rw [if_neg hb, hw]; simp only; rw [if_neg hab, if_neg (fun e => e hg), if_neg (fun e => e hf)]
theorem with_len (G : FS) (p : Pth) (kd : Nat) (t : ByteArray) : (withF G p kd t).length ≤ G.length + 1 := by
  unfold withF
  rw [List.length_append]
  have h1 : (delF G p).length ≤ G.length := List.length_filter_le _ _
  have h2 : ((if kd = 0 then [] else [(p, (⟨kd, t⟩ : Nd))]) : FS).length ≤ 1 := by split <;> simp
  omega
theorem step_len (p q : Pth) (G : FS) (y : Pth × Nd) : (stepM p q G y).length ≤ G.length + 2 := by
  unfold stepM
  have h1 := with_len G y.1 0 ⟨#[]⟩
  have h2 := with_len (withF G y.1 0 ⟨#[]⟩) (mvP p q y.1) y.2.kind y.2.text
  omega
/-- What one of what stands below knows. -/
structure MvOk (p q : Pth) (y : Pth × Nd) : Prop where
  ok : okP y.1
  ne : y.1 ≠ []
  ok2 : okP (mvP p q y.1)
  ne2 : mvP p q y.1 ≠ []
  kind : y.2.kind = 1 ∨ y.2.kind = 2 ∨ y.2.kind = 3
  text : tx q ++ (tx y.1).extract (tx p).size (tx y.1).size = tx (mvP p q y.1)
  long : (tx p).size ≤ (tx y.1).size
theorem okRow_step {p q : Pth} {G : FS} {y : Pth × Nd} (h : OkRow G) (hy : MvOk p q y) : OkRow (withF G y.1 0 ⟨#[]⟩) ∧ OkRow (stepM p q G y) := by
  have h1 := okRow_with h hy.ok hy.ne (kd := 0) (by omega) ⟨#[]⟩
  exact ⟨h1, okRow_with h1 hy.ok2 hy.ne2 (by have := hy.kind; omega) _⟩
theorem okRow_moves {p q : Pth} : ∀ (l : FS) (G : FS), OkRow G → (∀ y ∈ l, MvOk p q y) → OkRow (l.foldl (stepM p q) G) ∧ (l.foldl (stepM p q) G).length ≤ G.length + 2 * l.length
  | [], G, h, _ => ⟨h, by simp⟩
  | a :: l, G, h, hl => by
    have h1 := (okRow_step h (hl a List.mem_cons_self)).2
    obtain ⟨h2, h3⟩ := okRow_moves l _ h1 (fun y hy => hl y (List.mem_cons_of_mem _ hy))
    have h4 := step_len p q G a
    rw [List.foldl_cons, List.length_cons]
    exact ⟨h2, by omega⟩
theorem bel_long {G : FS} {p : Pth} (h0 : p ≠ []) {y : Pth × Nd} (hy : y ∈ belF G p) : (tx p).size ≤ (tx y.1).size := by
  obtain ⟨_, h2, s, h3⟩ := mem_bel.1 hy
  have hs : s ≠ [] := fun e => h2 (by rw [← h3, e]; simp)
  rw [← h3, ← list_size, ← list_size, tx_app h0 hs]
  simp
theorem bel_text {G : FS} {p q : Pth} (h0 : p ≠ []) (hq : q ≠ []) {y : Pth × Nd} (hy : y ∈ belF G p) : tx q ++ (tx y.1).extract (tx p).size (tx y.1).size = tx (mvP p q y.1) := by
  obtain ⟨_, h2, s, h3⟩ := mem_bel.1 hy
  have hs : s ≠ [] := fun e => h2 (by rw [← h3, e]; simp)
  rw [← h3, mvP_in, mv_text h0 hq hs]
/-- All that a rename that succeeds moves. -/
theorem bel_moves {G : FS} (hg : FsOk G) {a b : ByteArray} {p q d : Pth} {n : Nm} {x y : Nd} (hO : RenOk G a b p q x d n y) (hs : FsOk (mvF (delF G q) p q)) : ∀ y ∈ belF G p, MvOk p q y := fun z hz => by
  have hq0 : q ≠ [] := by rw [hO.qe]; simp
  obtain ⟨h1, h2, s, h3⟩ := mem_bel.1 hz
  have hs0 : s ≠ [] := fun e => h2 (by rw [← h3, e]; simp)
  have hpq : p ≠ q := fun e => hO.ab (parts_inj hO.pa (by rw [e]; exact hO.pb) hO.hp)
  have hnp : ¬ p <+: q := fun e => by
    rw [hO.qe] at e
    rcases List.prefix_concat_iff.1 e with h | h
    · exact hpq (by rw [hO.qe]; exact h)
    · exact hO.np h
  have hm : z ∈ delF G q := by
    unfold delF
    rw [List.mem_filter]
    exact ⟨h1, decide_eq_true (fun e => hnp (by rw [← e, ← h3]; exact List.prefix_append p s))⟩
  have hmv : (mvP p q z.1, z.2) ∈ mvF (delF G q) p q := List.mem_map.2 ⟨z, hm, rfl⟩
  have r1 := okRow_of hg
  have r2 := okRow_of hs
  exact ⟨r1.ok z h1, r1.ne z h1, r2.ok _ hmv, r2.ne _ hmv, r1.kind z h1, bel_text hO.hp hq0 hz, bel_long hO.hp hz⟩
end Go.Proofs.YtiijbecklkccfaaGreatDoor.I
/- The reference's last slash of a path; its Dir and Base (layer 3): the walks. -/
namespace Go.Proofs.YtiijbecklkccfaaGreatDoor.I
open Go.RowKit Go.Proofs.YtiijbecklkccfaaGreatDoor.B Go.Sort
set_option linter.unusedVariables false
/-- One behind the last slash. -/
structure LastAt (s : ByteArray) (k : Nat) : Prop where
  le : k ≤ s.size
  none : ∀ j, k ≤ j → s.data.toList[j]? ≠ some 47
  some : 0 < k → s.data.toList[k - 1]? = some 47
set_option maxRecDepth 100000 in
set_option maxHeartbeats 16000000 in
theorem last_calls (s : ByteArray) (w : World) (hs : s.size ≤ 4294967280) :
    Calls Tryz.prog 79 #[.string s] w fun e w' => ∃ k, LastAt s k ∧ e = .returned (.int .i64 ((k : Int) - 1)) ∧ w' = w := by
  (go_enter Tryz.func79, Tryz.ntmps79)
  go_wp2
  go_loopg [3] (s.size + 1) (fun gk v3 wx => wx = w ∧ ∃ m : Nat, m ≤ s.size ∧ gk = m + 1 ∧ v3 = .int .i64 ((m : Int) - 1) ∧ Asd (∀ j, m ≤ j → s.data.toList[j]? ≠ some 47))
  case atStart => exact ⟨rfl, s.size, by omega, rfl, by go_num, ⟨fun j hj => by rw [List.getElem?_eq_none (by rw [list_size]; exact hj)]; simp⟩⟩
  case round =>
    obtain ⟨rfl, m, hm, rfl, rfl, HJ⟩ := hrel
    cases m with
    | zero =>
      have k1 : ¬ (0 : Int) ≤ ((0 : Nat) : Int) - 1 := by omega
      go_wp2
      go_ret
      exact ⟨0, ⟨by omega, HJ.out, fun h => by omega⟩, rfl, rfl⟩
    | succ m =>
      have hlt : m < s.size := by omega
      have k0 : ((m + 1 : Nat) : Int) - 1 = (m : Int) := by omega
      rw [k0]
      have k1 : (0 : Int) ≤ (m : Int) := by omega
      have k2 : (m : Int) < (s.size : Int) := by omega
      have hg := list_get hlt
      by_cases e1 : s[m] = 47
      · have t5 : (((s[m].toNat : Nat) : Int) == 47) = true := by rw [e1]; rfl
        have HA := Asd.mk (show LastAt s (m + 1) from ⟨hm, HJ.out, fun _ => by rw [Nat.add_sub_cancel, hg, e1]⟩)
        clear hg e1 HJ k0
        go_wp2
        go_ret
        exact ⟨m + 1, HA.out, by rw [show ((m + 1 : Nat) : Int) - 1 = (m : Int) by omega]; rfl, rfl⟩
      · have t5 : (((s[m].toNat : Nat) : Int) == 47) = false := by
          refine beq_eq_false_iff_ne.2 fun h => e1 ?_
          apply UInt8.toNat_inj.1
          have : s[m].toNat = 47 := by omega
          rw [this]; rfl
        have HJ2 := Asd.mk (show ∀ j, m ≤ j → s.data.toList[j]? ≠ some 47 from fun j hj => by
          rcases Nat.lt_or_ge m j with h | h
          · exact HJ.out j h
          · obtain rfl : j = m := by omega
            rw [hg]
            exact fun h => e1 (Option.some.inj h))
        clear hg e1 HJ k0
        go_wp2
        go_roundg (m + 1)
        case rel => exact ⟨rfl, m, by omega, rfl, by go_num, HJ2⟩
        case measure => omega
set_option maxRecDepth 100000 in
set_option maxHeartbeats 16000000 in
theorem dir_calls (s : ByteArray) (w : World) (hs : s.size ≤ 4294967280) :
    Calls Tryz.prog 54 #[.string s] w fun e w' => ∃ k, LastAt s k ∧ e = .returned (.string (s.extract 0 (k - 1))) ∧ w' = w := by
  have HL := Asd.mk (last_calls s w hs)
  (go_enter Tryz.func54, Tryz.ntmps54)
  go_wp2_with fail
  refine HL.out.mono ?_
  rintro e w1 ⟨k, hk, rfl, rfl⟩
  have HK := Asd.mk hk
  clear HL
  cases k with
  | zero =>
    have k1 : ((0 : Nat) : Int) - 1 < 0 := by omega
    have HE := Asd.mk (show (⟨#[]⟩ : ByteArray) = s.extract 0 (0 - 1) by rw [show s.extract 0 (0 - 1) = ByteArray.empty by simp]; rfl)
    clear hk
    go_wp2
    go_ret
    exact ⟨0, HK.out, congrArg (fun z => Ending.returned (Value.string z)) HE.out, rfl⟩
  | succ m =>
    have hm : m < s.size := by have := hk.le; omega
    have k0 : ((m + 1 : Nat) : Int) - 1 = (m : Int) := by omega
    rw [k0]
    have k1 : ¬ (m : Int) < 0 := by omega
    have k2 : (0 : Int) ≤ (m : Int) := by omega
    have k3 : (m : Int) ≤ (s.size : Int) := by omega
    clear hk k0
    go_wp2
    go_ret
    exact ⟨m + 1, HK.out, rfl, rfl⟩
set_option maxRecDepth 100000 in
set_option maxHeartbeats 16000000 in
theorem base_calls (s : ByteArray) (w : World) (hs : s.size ≤ 4294967280) :
    Calls Tryz.prog 77 #[.string s] w fun e w' => ∃ k, LastAt s k ∧ e = .returned (.string (s.extract k s.size)) ∧ w' = w := by
  have HL := Asd.mk (last_calls s w hs)
  (go_enter Tryz.func77, Tryz.ntmps77)
  go_wp2_with fail
  refine HL.out.mono ?_
  rintro e w1 ⟨k, hk, rfl, rfl⟩
  have HK := Asd.mk hk
  have hm := hk.le
  have k2 : (0 : Int) ≤ (k : Int) - 1 + 1 := by omega
  have k3 : (k : Int) - 1 + 1 ≤ (s.size : Int) := by omega
  have k4 : (k : Int) - 1 + 1 = (k : Int) := by omega
  clear hk HL
  go_wp2
  go_ret
  exact ⟨k, HK.out, rfl, rfl⟩
end Go.Proofs.YtiijbecklkccfaaGreatDoor.I
