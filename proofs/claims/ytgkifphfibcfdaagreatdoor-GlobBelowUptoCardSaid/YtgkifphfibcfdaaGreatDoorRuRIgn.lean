/- The reference's Ignored: the walk. -/
import Derived.Test.YtgkifphfibcfdaaGreatDoorRu8
import Derived.Test.YtgkifphfibcfdaaGreatDoorRuRRule
namespace Go.Proofs.YtgkifphfibcfdaaGreatDoor.G
open Go.RowKit Go.Proofs.YtgkifphfibcfdaaGreatDoor.B Go.Sort
set_option linter.unusedVariables false
theorem xcells_at : ∀ (X : List XR) (i : Nat) (hi : i < X.length), (xcells X)[i * 4]? = some (.bool (X[i]'hi).r.back) ∧ (xcells X)[i * 4 + 1]? = some (.bool (X[i]'hi).r.dir) ∧ (xcells X)[i * 4 + 2]? = some (.bool (X[i]'hi).r.rooted) ∧ (xcells X)[i * 4 + 3]? = some (X[i]'hi).v := by
  intro X
  induction X with
  | nil => intro i hi; simp at hi
  | cons z r ih =>
    intro i hi
    have e : xcells (z :: r) = .bool z.r.back :: .bool z.r.dir :: .bool z.r.rooted :: z.v :: xcells r := by simp [xcells]
    rw [e]
    cases i with
    | zero => exact ⟨rfl, rfl, rfl, rfl⟩
    | succ i =>
      have := ih i (by simpa using hi)
      rw [show (i + 1) * 4 = i * 4 + 1 + 1 + 1 + 1 by omega]
      simpa using this
theorem xr_cells {w : World} {b : Nat} {v : Value} {X : List XR} (h : w.ownsRow b 93 4 v X.length (xcells X)) (hX : X ≠ []) : ∃ g c, v = .slice (some ⟨g, 0, none⟩) X.length c ∧ ∀ i, (hi : i < X.length) → w.cell? ⟨g, i * 4, none⟩ = some (.bool (X[i]'hi).r.back) ∧ w.cell? ⟨g, i * 4 + 1, none⟩ = some (.bool (X[i]'hi).r.dir) ∧ w.cell? ⟨g, i * 4 + 2, none⟩ = some (.bool (X[i]'hi).r.rooted) ∧ w.cell? ⟨g, i * 4 + 3, none⟩ = some (X[i]'hi).v := by
  rcases h.2 with ⟨rfl, h0⟩ | ⟨g, cap, cur, rfl, hb, hg, hn, hc, hsz, ht⟩
  · exact absurd (List.eq_nil_of_length_eq_zero h0) hX
  · refine ⟨g, cap, rfl, fun i hi => ?_⟩
    obtain ⟨k0, k1, k2, k3⟩ := xcells_at X i hi
    have key : ∀ j, j < X.length * 4 → ∀ u, (xcells X)[j]? = some u → w.cell? ⟨g, j, none⟩ = some u := fun j hj u hu => by
      have t1 : (cur.toList.take (X.length * 4))[j]? = (xcells X)[j]? := by rw [ht]
      rw [List.getElem?_take_of_lt hj, hu] at t1
      rw [cell_of_heap hg]
      simpa using t1
    exact ⟨key _ (by omega) _ k0, key _ (by omega) _ k1, key _ (by omega) _ k2, key _ (by omega) _ k3⟩
theorem names_le {path : ByteArray} : (namesOf path).length ≤ path.size + 1 := Nat.le_trans (List.length_filter_le _ _) (spl_len 47 path).2
theorem take_filter {l : List ByteArray} {i : Nat} (h : i < l.length) : (l.take (i + 1)).filter (fun p => decide (0 < p.size)) = (l.take i).filter (fun p => decide (0 < p.size)) ++ (if 0 < (l[i]).size then [l[i]] else []) := by
  rw [List.take_succ_eq_append_getElem h, List.filter_append]
  congr 1
  by_cases hz : 0 < (l[i]).size <;> simp [hz]
set_option maxRecDepth 100000 in
set_option maxHeartbeats 16000000 in
theorem rignored_calls (X : List XR) (v : Value) (b : Nat) (path : ByteArray) (dir : Bool) (w : World) (hown : w.ownsRow b 93 4 v X.length (xcells X)) (hx : ∀ x ∈ X, XRH w x) (hwf : ∀ x ∈ X, WFR x.r) (hp : path.size ≤ 1048576) (hX : X.length ≤ 16777216) :
    Calls Tryz.prog 25 #[v, .string path, .bool dir] w fun e w' => e = .returned (.bool (ignoredP (X.map (·.r)) path dir)) ∧ Chg [] w w' := by
  have HX := Asd.mk hx
  have HWF := Asd.mk hwf
  have HOwn := Asd.mk hown
  obtain ⟨AV, cV, hV⟩ := own_len hown
  subst hV
  clear hx hwf hown
  go_enter Tryz.func25, Tryz.ntmps25
  go_wp2_with fail
  refine (rcut_calls path w hp).mono ?_
  rintro e w1 ⟨v8, rfl, hC1, hO1⟩
  have hsl := spl_len 47 path
  have hls : ∀ p ∈ spl 47 path, p.size ≤ path.size := fun p h => spl_size h
  obtain ⟨g8, c8, rfl, hc8, hg8, hS8⟩ := strR_of_own hO1 hsl.1
  have HNm := Asd.mk (show namesOf path = (spl 47 path).filter (fun p => decide (0 < p.size)) from rfl)
  obtain ⟨l, hl⟩ : ∃ l, spl 47 path = l := ⟨_, rfl⟩
  rw [hl] at hsl hls hc8 hS8 HNm ⊢
  have HLS := Asd.mk hls
  have HC1 := Asd.mk hC1
  have HS8 := Asd.mk hS8
  have hg1 := lt_of_heap hS8.choose_spec.1
  have hwz1 := hC1.size
  clear hC1 hO1 hl hls hS8
  go_wp2
  go_loopg [7, 9] (l.length + 1) (fun gk v7 v9 wx => ∃ (i n : Nat), i ≤ l.length ∧ gk = l.length + 1 - i ∧ v9 = .int .i64 (i : Int) ∧ n = ((l.take i).filter (fun p => decide (0 < p.size))).length ∧ n ≤ i ∧ Asd (Chg [] w1 wx) ∧ Asd (wx.ownsRow w1.heap.size 9 1 v7 n (((l.take i).filter (fun p => decide (0 < p.size))).map Value.string)))
  case atStart => exact ⟨0, 0, by omega, by omega, rfl, by simp, by omega, ⟨Chg.refl _ _⟩, ⟨World.ownsRow_nil _ _ _ _⟩⟩
  case round =>
    obtain ⟨i, n, hi, rfl, rfl, hn, hni, HC, HO⟩ := hrel
    have hwz := HC.out.size
    by_cases hlt : i < l.length
    · obtain ⟨p, hpp⟩ : ∃ p, l[i] = p := ⟨_, rfl⟩
      have HTF := Asd.mk (take_filter hlt)
      rw [hpp] at HTF
      have ps : wr.cell? ⟨g8, i, none⟩ = some (.string p) := by
        have h := HS8.out.cell hlt
        rw [Nat.zero_add, hpp] at h
        exact (HC.out.below.cell (p := ⟨g8, i, none⟩) hg1).trans h
      have k1 : (i : Int) < (l.length : Int) := by omega
      by_cases hz : 0 < p.size
      · have te := isEmpty_no hz
        have hT := HTF.out
        rw [if_pos hz] at hT
        have HT := Asd.mk hT
        obtain ⟨F, hF⟩ : ∃ F, (l.take i).filter (fun p => decide (0 < p.size)) = F := ⟨_, rfl⟩
        rw [hF] at HT hn HO
        subst hn
        clear hT HTF hF
        go_wp2_with (first | (refine wpList_build41 rfl p (wr.heap.size) (by simp) (.tmp 30) rfl rfl ?_; simp only [Act.put, List.setIfInBounds_toArray, List.set_cons_zero, List.set_cons_succ]) | (at_builtin; refine wpList_append9 rfl (.tmp 26) (.tmp 31) rfl w1.heap.size u7 F rfl (HO.out.alloc _) p wr.heap.size rfl (hp_new _ _) (by omega) (by simp; omega) ?_; intro v2 w9 hown9 hgrow9; replace hown9 := Asd.mk hown9; replace hgrow9 := Asd.mk hgrow9; simp only [Act.put, List.setIfInBounds_toArray, List.set_cons_zero, List.set_cons_succ]))
        go_roundg (l.length + 1 - (i + 1))
        case rel => exact ⟨i + 1, (F ++ [p]).length, by omega, by omega, by go_num, by rw [HT.out], by rw [List.length_append]; simp; omega, ⟨grown_chg (HC.out.alloc _) (HO.out.alloc _) (Nat.le_refl _) hgrow9.out⟩, ⟨by rw [HT.out]; exact hown9.out⟩⟩
        case measure => omega
      · have te := isEmpty_yes hz
        have hT := HTF.out
        rw [if_neg hz, List.append_nil] at hT
        have HT := Asd.mk hT
        clear hT HTF
        go_wp2
        go_roundg (l.length + 1 - (i + 1))
        case rel => exact ⟨i + 1, n, by omega, by omega, by go_num, by rw [HT.out]; exact hn, by omega, HC, ⟨by rw [HT.out]; exact HO.out⟩⟩
        case measure => omega
    · obtain rfl : i = l.length := by omega
      rw [List.take_length, ← HNm.out] at hn HO
      have hNS : ∀ q ∈ namesOf path, q.size ≤ 16777216 := fun q hq => by
        rw [HNm.out] at hq
        have := HLS.out q (List.mem_filter.1 hq).1
        omega
      obtain ⟨N, hN⟩ : ∃ N, namesOf path = N := ⟨_, rfl⟩
      have HIg := Asd.mk (show ignoredP (X.map (·.r)) path dir = ignoredF (X.map (·.r)) N dir N.length 1 by unfold ignoredP; rw [hN])
      rw [hN] at hn HO hNS
      have HNS := Asd.mk hNS
      subst hn
      clear hN hNS HNm HLS
      have HCW := Asd.mk (HC1.out.trans HC.out)
      by_cases hN0 : N = []
      · subst hN0
        obtain ⟨A7, c7, hv7⟩ := own_len HO.out
        simp only [List.length_nil] at hv7
        subst hv7
        go_wp2
        go_loopg [10] 1 (fun gk v10 wx => gk = 1 ∧ v10 = .int .i64 1 ∧ Asd (Chg [] w wx))
        case atStart => exact ⟨rfl, rfl, HCW⟩
        case round =>
          obtain ⟨rfl, rfl, HC2⟩ := hrel
          go_wp2
          go_ret
          exact ⟨by rw [HIg.out]; rfl, HC2.out⟩
      · have hNl : 0 < N.length := List.length_pos_iff.2 hN0
        obtain ⟨g7, c7, hv7, hc7, hg7, hS7⟩ := strR_of_own HO.out hNl
        subst hv7
        have HS7 := Asd.mk hS7
        obtain ⟨W2, hW2⟩ : ∃ W2, W2 = wr := ⟨_, rfl⟩
        have HS7' := Asd.mk (show StrR W2 g7 0 N by rw [hW2]; exact hS7)
        have HX2 := Asd.mk (show ∀ x ∈ X, XRH W2 x from fun x hx => by rw [hW2]; exact (HX.out x hx).keeps (Keeps.of_chg (T := []) HCW.out) (by simp) (by simp))
        have HO2 := Asd.mk (show W2.ownsRow b 93 4 (.slice AV X.length cV) X.length (xcells X) by rw [hW2]; exact own_keeps HOwn.out (Keeps.of_chg (T := []) HCW.out) (by simp))
        have HCW2 := Asd.mk (show Chg [] w W2 by rw [hW2]; exact HCW.out)
        have HCr := Asd.mk (show Chg [] W2 wr by rw [hW2]; exact Chg.refl _ _)
        clear hS7 HS7 hW2 HO HC HCW HC1 HS8 HX HOwn
        go_wp2
        go_loopg [10] (N.length + 1) (fun gk v10 wx => ∃ k : Nat, 1 ≤ k ∧ k ≤ N.length + 1 ∧ gk = N.length + 2 - k ∧ v10 = .int .i64 (k : Int) ∧ Asd (ignoredF (X.map (·.r)) N dir (N.length + 1 - k) k = ignoredP (X.map (·.r)) path dir) ∧ Asd (Chg [] W2 wx))
        case atStart => exact ⟨1, by omega, by omega, by omega, rfl, ⟨by rw [HIg.out]; rfl⟩, HCr⟩
        case round =>
          obtain ⟨k, hk1, hk2, rfl, rfl, HI, HC3⟩ := hrel
          by_cases hkl : k ≤ N.length
          · have hI := HI.out
            rw [show N.length + 1 - k = (N.length - k) + 1 by omega] at hI
            simp only [ignoredF] at hI
            obtain ⟨d, hd⟩ : ∃ d, (dir || decide (k < N.length)) = d := ⟨_, rfl⟩
            rw [hd] at hI
            have HD := Asd.mk (show (dir = true ∧ d = true) ∨ (dir = false ∧ decide (k < N.length) = d) from by
              cases dir with
              | true => exact .inl ⟨rfl, by rw [← hd]; rfl⟩
              | false => exact .inr ⟨rfl, by rw [← hd, Bool.false_or]⟩)
            obtain ⟨V, hV⟩ : ∃ V, verdict (X.map (·.r)) (N.take k) d false = V := ⟨_, rfl⟩
            rw [hV] at hI
            have HI2 := Asd.mk hI
            have HV := Asd.mk hV
            have HSk := Asd.mk (show StrR W2 g7 0 (N.take k) from by
              obtain ⟨cs, q1, q2⟩ := HS7'.out
              refine ⟨cs, q1, fun j hj => ?_⟩
              rw [List.length_take] at hj
              have := q2 j (by omega)
              rw [this]
              simp)
            clear hI HI hd hV
            go_wp2
            go_loopg [11, 12] (X.length + 1) (fun gk v11 v12 wx => ∃ (i : Nat) (is : Bool), i ≤ X.length ∧ gk = X.length + 1 - i ∧ v11 = .bool is ∧ v12 = .int .i64 (i : Int) ∧ Asd (verdict ((X.map (·.r)).drop i) (N.take k) d is = V) ∧ Asd (Chg [] W2 wx))
            case atStart => exact ⟨0, false, by omega, by omega, rfl, rfl, ⟨by rw [List.drop_zero]; exact HV.out⟩, HC3⟩
            case round =>
              obtain ⟨i, is, hi, rfl, rfl, rfl, HVi, HC4⟩ := hrel
              by_cases hli : i < X.length
              · have hXne : X ≠ [] := fun e => by rw [e] at hli; simp at hli
                obtain ⟨gx, cx, hvx, hcells⟩ := xr_cells HO2.out hXne
                simp only [Value.slice.injEq] at hvx
                obtain ⟨rfl, _, rfl⟩ := hvx
                obtain ⟨q0, q1, q2, q3⟩ := hcells i hli
                obtain ⟨x, hxx⟩ : ∃ x, X[i] = x := ⟨_, rfl⟩
                rw [hxx] at q0 q1 q2 q3
                have hxm : x ∈ X := by rw [← hxx]; exact List.getElem_mem hli
                have hvi := HVi.out
                rw [List.drop_eq_getElem_cons (by rw [List.length_map]; exact hli)] at hvi
                simp only [List.getElem_map, hxx, verdict, List.foldl_cons] at hvi
                have hM := fun W (h : Chg [] wr W) => rmeans_calls x (N.take k) g7 0 c7 d W ((HX2.out x hxm).keeps (Keeps.of_chg (T := []) (HC4.out.trans h)) (by simp) (by simp)) (HWF.out x hxm) (HSk.out.keeps (Keeps.of_chg (T := []) (HC4.out.trans h)) (by simp)) (fun e => by have := congrArg List.length e; rw [List.length_take, List.length_nil] at this; omega) (by rw [List.length_take]; omega) (by rw [List.length_take]; omega) (fun n hn => HNS.out n (List.mem_of_mem_take hn))
                have hlt2 : (N.take k).length = k := by rw [List.length_take]; omega
                rw [hlt2] at hM
                obtain ⟨q, hq⟩ : ∃ q, meansF x.r (N.take k) d = q := ⟨_, rfl⟩
                rw [hq] at hM hvi
                have cM := quiet_of hM
                have c0 : wr.cell? ⟨gx, i * 4, none⟩ = some (.bool x.r.back) := (HC4.out.below.cell (World.block_lt_of_cell? W2 _ q0)).trans q0
                have p0 := fun d os => cell_regrown c0 d os
                have p1 := fun d os => cell_regrown ((HC4.out.below.cell (World.block_lt_of_cell? W2 _ q1)).trans q1) d os
                have p2 := fun d os => cell_regrown ((HC4.out.below.cell (World.block_lt_of_cell? W2 _ q2)).trans q2) d os
                have p3 := fun d os => cell_regrown ((HC4.out.below.cell (World.block_lt_of_cell? W2 _ q3)).trans q3) d os
                have k1 : (i : Int) < (X.length : Int) := by omega
                have k2 : (k : Int) ≤ (c7 : Int) := by omega
                have k3 : ¬ (c7 = 0) := by omega
                have k4 : (0 : Int) ≤ (k : Int) := by omega
                clear hM hq q0 q1 q2 q3 hcells hxx hxm hlt2 HVi
                rcases HD.out with ⟨rfl, rfl⟩ | ⟨rfl, hdk⟩
                · cases q with
                  | true =>
                    have HVN := Asd.mk hvi
                    clear hvi
                    go_upto_region 15 with fail
                    refine wp_region_quiet_below (by kernel_rfl) (by kernel_rfl) ?_
                    repeat (quiet_step ((go_at_call 44; exact cM _ _)))
                    refine wpQuiet_nil ?_
                    rintro w' ⟨q, rfl⟩
                    have HC5 := Asd.mk (HC4.out.trans (chg_regrown wr q.d q.os))
                    have c1 := p0 q.d q.os
                    go_wp2
                    go_roundg (X.length + 1 - (i + 1))
                    case rel => exact ⟨i + 1, !x.r.back, by omega, by omega, rfl, by go_num, HVN, HC5⟩
                    case measure => omega
                  | false =>
                    have HVN := Asd.mk hvi
                    clear hvi
                    go_upto_region 15 with fail
                    refine wp_region_quiet_below (by kernel_rfl) (by kernel_rfl) ?_
                    repeat (quiet_step ((go_at_call 44; exact cM _ _)))
                    refine wpQuiet_nil ?_
                    rintro w' ⟨q, rfl⟩
                    have HC5 := Asd.mk (HC4.out.trans (chg_regrown wr q.d q.os))
                    go_wp2
                    go_roundg (X.length + 1 - (i + 1))
                    case rel => exact ⟨i + 1, is, by omega, by omega, rfl, by go_num, HVN, HC5⟩
                    case measure => omega
                · cases q with
                  | true =>
                    have HVN := Asd.mk hvi
                    clear hvi
                    go_upto_region 15 with fail
                    refine wp_region_quiet_below (by kernel_rfl) (by kernel_rfl) ?_
                    repeat (quiet_step ((go_at_call 44; exact cM _ _)))
                    refine wpQuiet_nil ?_
                    rintro w' ⟨q, rfl⟩
                    have HC5 := Asd.mk (HC4.out.trans (chg_regrown wr q.d q.os))
                    have c1 := p0 q.d q.os
                    go_wp2
                    go_roundg (X.length + 1 - (i + 1))
                    case rel => exact ⟨i + 1, !x.r.back, by omega, by omega, rfl, by go_num, HVN, HC5⟩
                    case measure => omega
                  | false =>
                    have HVN := Asd.mk hvi
                    clear hvi
                    go_upto_region 15 with fail
                    refine wp_region_quiet_below (by kernel_rfl) (by kernel_rfl) ?_
                    repeat (quiet_step ((go_at_call 44; exact cM _ _)))
                    refine wpQuiet_nil ?_
                    rintro w' ⟨q, rfl⟩
                    have HC5 := Asd.mk (HC4.out.trans (chg_regrown wr q.d q.os))
                    go_wp2
                    go_roundg (X.length + 1 - (i + 1))
                    case rel => exact ⟨i + 1, is, by omega, by omega, rfl, by go_num, HVN, HC5⟩
                    case measure => omega
              · obtain rfl : i = X.length := by omega
                have hvi := HVi.out
                rw [List.drop_of_length_le (by rw [List.length_map]; exact Nat.le_refl _)] at hvi
                simp only [verdict, List.foldl_nil] at hvi
                subst hvi
                cases is with
                | true =>
                  have HF := Asd.mk (show ignoredP (X.map (·.r)) path dir = true by rw [← HI2.out]; rfl)
                  go_wp2
                  go_ret
                  exact ⟨by rw [HF.out]; rfl, HCW2.out.trans HC4.out⟩
                | false =>
                  have HI3 := Asd.mk (show ignoredF (X.map (·.r)) N dir (N.length + 1 - (k + 1)) (k + 1) = ignoredP (X.map (·.r)) path dir by rw [← HI2.out, show N.length + 1 - (k + 1) = N.length - k by omega]; rfl)
                  go_wp2
                  go_roundg (N.length + 2 - (k + 1))
                  case rel => exact ⟨k + 1, by omega, by omega, by omega, by go_num, HI3, HC4⟩
                  case measure => omega
          · obtain rfl : k = N.length + 1 := by omega
            have HF := Asd.mk (show ignoredP (X.map (·.r)) path dir = false by rw [← HI.out, Nat.sub_self]; rfl)
            go_wp2
            go_ret
            exact ⟨by rw [HF.out]; rfl, HCW2.out.trans HC3.out⟩
end Go.Proofs.YtgkifphfibcfdaaGreatDoor.G
