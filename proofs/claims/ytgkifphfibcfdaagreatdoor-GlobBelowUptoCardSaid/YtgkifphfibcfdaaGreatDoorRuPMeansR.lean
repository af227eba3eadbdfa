/- The program's means of a rooted rule: the walk of its table. -/
import Derived.Test.YtgkifphfibcfdaaGreatDoorRu11
import Derived.Test.YtgkifphfibcfdaaGreatDoorRuRMatch
namespace Go.Proofs.YtgkifphfibcfdaaGreatDoor.G
open Go.RowKit Go.Proofs.YtgkifphfibcfdaaGreatDoor.B Go.Sort
set_option linter.unusedVariables false
theorem own_cells {w : World} {base : Nat} {t : TypeId} {n : Nat} {v : Value} {l : List Value} (ho : w.ownsRow base t 1 v n l) (hl : 0 < l.length) : ∃ g c, v = .slice (some ⟨g, 0, none⟩) n c ∧ ∀ i, (hi : i < l.length) → w.cell? ⟨g, i, none⟩ = some (l[i]) := by
  obtain ⟨g, c, rfl, _⟩ := own_cell ho hl
  refine ⟨g, c, rfl, fun i hi => ?_⟩
  obtain ⟨g', c', e, h⟩ := own_cell ho hi
  simp only [Value.slice.injEq, Option.some.injEq, Addr.mk.injEq] at e
  obtain ⟨⟨rfl, _⟩, _⟩ := e
  exact h
set_option maxRecDepth 100000 in
set_option maxHeartbeats 16000000 in
theorem pmeans_rooted (x : XR) (ns : List ByteArray) (g2 o2 c2 : Nat) (dir : Bool) (w : World) (hx : PXH w x) (hwf : WFR x.r) (hn : StrR w g2 o2 ns) (b2 : ns.length ≤ 16777215) (b3 : ∀ n ∈ ns, n.size ≤ 16777216) (hrt : x.r.rooted = true) (hsel : (x.r.dir = true ∧ dir = true) ∨ x.r.dir = false) :
    Calls Tryz.prog 42 #[.agg #[.bool x.r.back, .bool x.r.dir, .bool x.r.rooted, x.v], .slice (some ⟨g2, o2, none⟩) ns.length c2, .bool dir] w fun e w' => e = .returned (.bool (meansF x.r ns dir)) ∧ Chg [] w w' := by
  obtain ⟨r, v, Z⟩ := x
  obtain ⟨bk, dr, rt, ps⟩ := r
  obtain ⟨⟨b, hown⟩, hpz, hze⟩ := hx
  simp only at hown hpz hze hrt hsel ⊢
  subst hrt
  have hZ0 : Z ≠ [] := fun e => hwf.1 (by simp only; rw [← hze, e]; rfl)
  have hZl : 0 < Z.length := List.length_pos_iff.2 hZ0
  have hbP : Z.length ≤ 16777216 := by have h := hwf.2.2; simp only at h; rw [← hze, List.length_map] at h; exact h
  obtain ⟨g0, c0, rfl, hcs⟩ := own_cells hown (by rw [List.length_map]; exact hZl)
  have HV := Asd.mk (show meansF ⟨bk, dr, true, ps⟩ ns dir = dpF ps ns Z.length ns.length by
    have h : ¬ (dr = true ∧ dir = false) := by
      rintro ⟨h1, h2⟩
      rcases hsel with h | h
      · rw [h.2] at h2; cases h2
      · rw [h1] at h; cases h
    unfold meansF
    rw [if_neg h]
    have hl : ps.length = Z.length := by rw [← hze, List.length_map]
    have := dp_fits ps ns
    rw [hl] at this
    rw [this]
    simp [hl])
  have HE := Asd.mk (show ∀ k, (hk : k < Z.length) → ps[k]? = some (Z[k]).1 from fun k hk => by rw [← hze]; simp [hk])
  have HL := Asd.mk (show ps.length = Z.length by rw [← hze, List.length_map])
  have HPZ := Asd.mk hpz
  have HCS := Asd.mk (show ∀ k, (hk : k < Z.length) → w.cell? ⟨g0, k, none⟩ = some (Z[k]).2 from fun k hk => by have h := hcs k (by rw [List.length_map]; exact hk); simpa using h)
  have HN := Asd.mk hn
  have HB3 := Asd.mk b3
  obtain ⟨P, hP⟩ : ∃ P, Z.length = P := ⟨_, rfl⟩
  obtain ⟨m, hm⟩ : ∃ m, ns.length = m := ⟨_, rfl⟩
  obtain ⟨N, hN⟩ : ∃ N, N = m + 1 := ⟨_, rfl⟩
  have hmk : ∀ W : World, (Instr.makeSlice 78 (.int .i64 ((m : Int) + 1)) (.int .i64 ((m : Int) + 1))).run Tryz.prog W = .ok (.slice (some ⟨W.heap.size, 0, none⟩) N N) (W.alloc (.cells (rowB (fun _ => false) N) 4)) := fun W => by
    have := make_bools N W (by omega)
    rw [show (N : Int) = (m : Int) + 1 by omega] at this
    exact this
  rw [hP, hm] at HV ⊢
  have HP := Asd.mk hP
  have HM := Asd.mk hm
  have HNm := Asd.mk hN
  have HBox0 := hp_new w (.cells #[.bool bk, .bool dr, .bool true, .slice (some ⟨g0, 0, none⟩) P c0] 87)
  obtain ⟨BW, hBW⟩ : ∃ BW, w.heap.size = BW := ⟨_, rfl⟩
  have h0h := hp_new (w.alloc (.cells #[.bool bk, .bool dr, .bool true, .slice (some ⟨g0, 0, none⟩) P c0] 87)) (.cells (rowB (fun _ => false) N) 4)
  have HBox := Asd.mk (hp_alloc HBox0 (.cells (rowB (fun _ => false) N) 4))
  rw [World.size_alloc] at h0h
  rw [hBW] at h0h HBox
  have h0c : ((w.alloc (.cells #[.bool bk, .bool dr, .bool true, .slice (some ⟨g0, 0, none⟩) P c0] 87)).alloc (.cells (rowB (fun _ => false) N) 4)).cell? ⟨BW + 1, 0, none⟩ = some (.bool false) := (cell_of_heap h0h 0).trans (rowB_at _ (by omega))
  have h0f := frozen_of_heap h0h 0
  have H0 := Asd.mk h0h
  have HWS := Asd.mk hBW
  have HC := Asd.mk (((Chg.refl [] w).alloc (.cells #[.bool bk, .bool dr, .bool true, .slice (some ⟨g0, 0, none⟩) P c0] 87)).alloc (.cells (rowB (fun _ => false) N) 4))
  have n1 : (0 : Int) < (N : Int) := by omega
  have hP1 : 0 < P := by omega
  have hPb : P ≤ 16777216 := by omega
  have hmb : m ≤ 16777215 := by omega
  have hNb : N = m + 1 := hN
  have HHdone : True := trivial
  clear hown hpz hze hwf hn hcs hZ0 hZl hbP b2 b3 hP hm HBox0 h0h
  clear hN
  have HNN := Asd.mk hNb
  clear hNb
  go_enter Tryz.func42, Tryz.ntmps42
  go_upto_region 2 with fail
  go_cut [17] from 17 to 23 (fun v17 wx => w.alloc (.cells #[.bool bk, .bool dr, .bool true, .slice (some ⟨g0, 0, none⟩) P c0] 87) = wx ∧ v17 = .bool false)
  case first =>
    clear h0c h0f hmk
    rcases hsel with ⟨rfl, rfl⟩ | rfl
    · go_wp2
      go_meet
      case rel => exact ⟨rfl, rfl⟩
    · go_wp2
      go_meet
      case rel => exact ⟨rfl, rfl⟩
  case rest =>
    obtain ⟨rfl, rfl⟩ := hcut
    clear hsel
    go_wp2
    clear h0c h0f
    go_loopg [8, 46] (P + 1) (fun gk v8 v46 wr => ∃ (k g : Nat), k ≤ P ∧ gk = P + 1 - k ∧ v46 = .int .i64 (k : Int) ∧ v8 = .slice (some ⟨g, 0, none⟩) N N ∧ BW < g ∧ Asd (Chg [] w wr) ∧ Asd (wr.heap[BW]? = some (.cells #[.bool bk, .bool dr, .bool true, .slice (some ⟨g0, 0, none⟩) P c0] 87 (0, 0))) ∧ Asd (wr.heap[g]? = some (.cells (rowB (dpF ps ns k) N) 4 (0, 0))))
    case atStart =>
      have e : (rowB (fun _ => false) N).setIfInBounds 0 (Value.bool true) = rowB (dpF ps ns 0) N := by
        rw [rowB_set _ (by have := HNN.out; omega)]
        refine rowB_congr fun k hk => ?_
        simp only [updB, dpF]
        by_cases h0 : k = 0 <;> simp [h0]
      rw [e]
      refine ⟨0, BW + 1, by omega, by omega, rfl, rfl, by omega, ⟨((Chg.refl [] w).alloc _).alloc _⟩, ⟨?_⟩, ⟨?_⟩⟩
      · have h := hp_alloc (hp_new w (.cells #[.bool bk, .bool dr, .bool true, .slice (some ⟨g0, 0, none⟩) P c0] 87)) (.cells (rowB (dpF ps ns 0) N) 4)
        rw [HWS.out] at h
        exact h
      · have h := hp_new (w.alloc (.cells #[.bool bk, .bool dr, .bool true, .slice (some ⟨g0, 0, none⟩) P c0] 87)) (.cells (rowB (dpF ps ns 0) N) 4)
        rw [World.size_alloc, HWS.out] at h
        exact h
    case round =>
      obtain ⟨k, g, hk, rfl, rfl, rfl, hg, HC1, HX, HR⟩ := hrel
      by_cases hlt : k < P
      · have hltZ : k < Z.length := by rw [HP.out]; exact hlt
        have hpk := HE.out k hltZ
        obtain ⟨z, hz⟩ : ∃ z, Z[k] = z := ⟨_, rfl⟩
        have pk := HCS.out k hltZ
        have hpp := HPZ.out Z[k] (List.getElem_mem hltZ)
        rw [hz] at hpk pk hpp
        obtain ⟨pz, vz⟩ := z
        simp only at hpk pk
        have pk' : wr.cell? ⟨g0, k, none⟩ = some vz := (HC1.out.below.cell (World.block_lt_of_cell? w _ pk)).trans pk
        have px := cell_of_heap HX.out 3
        have k1 : (k : Int) < (P : Int) := by omega
        have HPK := Asd.mk hpk
        have HPP := Asd.mk hpp
        clear hpk pk hpp hz
        go_upto_region 12 with fail
        clear hmk
        refine wp_opaque2 (fun W hW => ?_)
        have HC2 := Asd.mk (show Chg [] w W by rw [hW]; exact HC1.out.alloc _)
        have HX2 := Asd.mk (show W.heap[BW]? = some (.cells #[.bool bk, .bool dr, .bool true, .slice (some ⟨g0, 0, none⟩) P c0] 87 (0, 0)) by rw [hW]; exact hp_alloc HX.out _)
        have HR2 := Asd.mk (show W.heap[g]? = some (.cells (rowB (dpF ps ns k) N) 4 (0, 0)) by rw [hW]; exact hp_alloc HR.out _)
        have HY2 := Asd.mk (show W.heap[wr.heap.size]? = some (.cells (rowB (soFar (dpF ps ns (k + 1)) 0) N) 4 (0, 0)) by rw [hW]; rw [rowB_congr (g := fun _ => false) (fun k hk => by simp [soFar])]; exact hp_new _ _)
        have hgl : g < wr.heap.size := lt_of_heap HR.out
        obtain ⟨BX, hBX⟩ : ∃ B, wr.heap.size = B := ⟨_, rfl⟩
        rw [hBX] at HY2 hgl ⊢
        have hBw : w.heap.size ≤ BX := by rw [← hBX]; exact HC1.out.size
        have px2 := cell_of_heap HX2.out 3
        clear hW hBX px pk' HC1 HX HR
        go_cut [12] from 55 to 64 (fun v12 wx => W = wx ∧ v12 = .bool (decide (k + 1 = P ∧ 0 < k)))
        case first =>
          by_cases hl1 : k + 1 = P
          · have e1 : ((k : Int) == (P : Int) - 1) = true := by rw [beq_iff_eq]; omega
            by_cases hk0 : 0 < k
            · have HB := Asd.mk (show decide (k + 1 = P ∧ 0 < k) = true from decide_eq_true ⟨hl1, hk0⟩)
              clear hl1
              go_wp2
              go_meet
              case rel => exact ⟨rfl, by rw [HB.out]⟩
            · have HB := Asd.mk (show decide (k + 1 = P ∧ 0 < k) = false from decide_eq_false (fun h => hk0 h.2))
              clear hl1
              go_wp2
              go_meet
              case rel => exact ⟨rfl, by rw [HB.out]⟩
          · have e1 : ((k : Int) == (P : Int) - 1) = false := by rw [beq_eq_false_iff_ne]; omega
            have HB := Asd.mk (show decide (k + 1 = P ∧ 0 < k) = false from decide_eq_false (fun h => hl1 h.1))
            go_wp2
            go_meet
            case rel => exact ⟨rfl, by rw [HB.out]⟩
        case rest =>
          obtain ⟨rfl, hv12⟩ := hcut
          obtain ⟨one, hone⟩ : ∃ one, decide (k + 1 = P ∧ 0 < k) = one := ⟨_, rfl⟩
          rw [hone] at hv12
          subst hv12
          have HOne := Asd.mk hone
          clear hone
          -- ROUNDS
          go_wp2
          go_loopg [67] (N + 1) (fun gk v67 wx => ∃ i : Nat, i ≤ N ∧ gk = N + 1 - i ∧ v67 = .int .i64 (i : Int) ∧ Asd (Chg [] w wx) ∧ Asd (wx.heap[BW]? = some (.cells #[.bool bk, .bool dr, .bool true, .slice (some ⟨g0, 0, none⟩) P c0] 87 (0, 0))) ∧ Asd (wx.heap[g]? = some (.cells (rowB (dpF ps ns k) N) 4 (0, 0))) ∧ Asd (wx.heap[BX]? = some (.cells (rowB (soFar (dpF ps ns (k + 1)) i) N) 4 (0, 0))))
          case atStart => exact ⟨0, by omega, by omega, rfl, HC2, HX2, HR2, HY2⟩
          case round =>
            obtain ⟨i, hi, rfl, rfl, HC3, HX3, HR3, HY3⟩ := hrel
            by_cases hil : i < N
            · have n2 : (i : Int) < (N : Int) := by omega
              have y0 : wr.cell? ⟨BX, i, none⟩ = some (.bool (soFar (dpF ps ns (k + 1)) i i)) := (cell_of_heap HY3.out i).trans (rowB_at _ hil)
              have yf := frozen_of_heap HY3.out i
              have nN : N ≤ m + 1 ∧ m + 1 ≤ N := by have := HNN.out; omega
              cases pz with
              | some L =>
                obtain ⟨gp, hvz, hG⟩ := HPP.out
                simp only at hvz
                subst hvz
                cases i with
                | zero =>
                  have HD := Asd.mk (dp_zero (ns := ns) HPK.out)
                  go_wp2
                  go_roundg (N + 1 - (0 + 1))
                  case rel => exact ⟨0 + 1, by omega, by omega, by go_num, ⟨(HC3.out).setCell (fun h => absurd (show BX < w.heap.size from h) (by omega)) _⟩, ⟨hp_set_other HX3.out (by omega) _ _⟩, ⟨hp_set_other HR3.out (by omega) _ _⟩, ⟨by
                    have h := hp_set HY3.out (0) (.bool false)
                    rw [rowB_set _ (by omega), rowB_congr (fun j _ => soFar_step _ _ _ (by rw [HD.out]) j)] at h
                    exact h⟩⟩
                  case measure => omega
                | succ j =>
                  obtain ⟨nj, hnj⟩ : ∃ nj, ns[j]? = some nj := ⟨_, List.getElem?_eq_getElem (by rw [HM.out]; omega)⟩
                  have HD := Asd.mk (dp_succ HPK.out hnj)
                  have cp : wr.cell? ⟨g, j, none⟩ = some (.bool (dpF ps ns k j)) := (cell_of_heap HR3.out j).trans (rowB_at _ (by omega))
                  have n3 : (j : Int) < (N : Int) := by omega
                  cases hb : dpF ps ns k j with
                  | false =>
                    rw [hb] at cp
                    have HB := Asd.mk hb
                    clear hb hnj
                    go_wp2
                    go_roundg (N + 1 - (j + 1 + 1))
                    case rel => exact ⟨j + 1 + 1, by omega, by omega, by go_num, ⟨(HC3.out).setCell (fun h => absurd (show BX < w.heap.size from h) (by omega)) _⟩, ⟨hp_set_other HX3.out (by omega) _ _⟩, ⟨hp_set_other HR3.out (by omega) _ _⟩, ⟨by
                      have h := hp_set HY3.out (j + 1) (.bool false)
                      rw [rowB_set _ (by omega), rowB_congr (fun j _ => soFar_step _ _ _ (by rw [HD.out, HB.out]; rfl) j)] at h
                      exact h⟩⟩
                    case measure => omega
                  | true =>
                    rw [hb] at cp
                    have HB := Asd.mk hb
                    have n4 : (j : Int) < (m : Int) := by omega
                    have pn : wr.cell? ⟨g2, o2 + j, none⟩ = some (.string nj) := by
                      have h := HN.out.cell (i := j) (by rw [HM.out]; omega)
                      rw [List.getElem?_eq_getElem (by rw [HM.out]; omega)] at hnj
                      rw [Option.some.inj hnj] at h
                      exact (HC3.out.below.cell (World.block_lt_of_cell? w _ h)).trans h
                    have HNj := Asd.mk (HB3.out nj (List.mem_of_getElem? hnj))
                    clear hb hnj
                    go_wp2_with fail
                    refine (ppiece_match hG nj HNj.out wr HC3.out).mono ?_
                    rintro e w4 ⟨rfl, hC4⟩
                    have HC4 := Asd.mk (HC3.out.trans hC4)
                    have HX4 := Asd.mk (hC4.heap HX3.out (by simp))
                    have HR4 := Asd.mk (hC4.heap HR3.out (by simp))
                    have HY4 := Asd.mk (hC4.heap HY3.out (by simp))
                    have y4 : w4.cell? ⟨BX, j + 1, none⟩ = some (.bool (soFar (dpF ps ns (k + 1)) (j + 1) (j + 1))) := (cell_of_heap HY4.out (j + 1)).trans (rowB_at _ hil)
                    have yf4 := frozen_of_heap HY4.out (j + 1)
                    clear y0 yf cp pn hC4
                    go_wp2
                    go_roundg (N + 1 - (j + 1 + 1))
                    case rel => exact ⟨j + 1 + 1, by omega, by omega, by go_num, ⟨(HC4.out).setCell (fun h => absurd (show BX < w.heap.size from h) (by omega)) _⟩, ⟨hp_set_other HX4.out (by omega) _ _⟩, ⟨hp_set_other HR4.out (by omega) _ _⟩, ⟨by
                      have h := hp_set HY4.out (j + 1) (.bool (mt L (bl nj)))
                      rw [rowB_set _ (by omega), rowB_congr (fun j _ => soFar_step _ _ _ (by rw [HD.out, HB.out]; rfl) j)] at h
                      exact h⟩⟩
                    case measure => omega
              | none =>
                have hvz : vz = Value.pointer none := HPP.out
                subst hvz
                by_cases hone : k + 1 = P ∧ 0 < k
                · have e12 := HOne.out
                  rw [decide_eq_true hone] at e12
                  subst e12
                  have HDL := fun i => dp_last (ns := ns) (i := i) HPK.out (by rw [HL.out, HP.out]; exact hone)
                  clear hone
                  cases i with
                  | zero =>
                    have HD := Asd.mk (HDL 0)
                    clear HDL
                    go_wp2
                    go_roundg (N + 1 - (0 + 1))
                    case rel => exact ⟨0 + 1, by omega, by omega, by go_num, ⟨(HC3.out).setCell (fun h => absurd (show BX < w.heap.size from h) (by omega)) _⟩, ⟨hp_set_other HX3.out (by omega) _ _⟩, ⟨hp_set_other HR3.out (by omega) _ _⟩, ⟨by
                      have h := hp_set HY3.out (0) (.bool false)
                      rw [rowB_set _ (by omega), rowB_congr (fun j _ => soFar_step _ _ _ (by rw [HD.out]; rfl) j)] at h
                      exact h⟩⟩
                    case measure => omega
                  | succ j =>
                    have HD := Asd.mk (HDL (j + 1))
                    have HDj := Asd.mk (HDL j)
                    clear HDL
                    have cp : wr.cell? ⟨g, j, none⟩ = some (.bool (dpF ps ns k j)) := (cell_of_heap HR3.out j).trans (rowB_at _ (by omega))
                    have yp : wr.cell? ⟨BX, j, none⟩ = some (.bool (dpF ps ns (k + 1) j)) := (cell_of_heap HY3.out j).trans ((rowB_at _ (by omega)).trans (by simp [soFar]))
                    have n3 : (j : Int) < (N : Int) := by omega
                    cases hb : dpF ps ns k j with
                    | true =>
                      rw [hb] at cp
                      have HB := Asd.mk hb
                      clear hb yp
                      go_wp2
                      go_roundg (N + 1 - (j + 1 + 1))
                      case rel => exact ⟨j + 1 + 1, by omega, by omega, by go_num, ⟨(HC3.out).setCell (fun h => absurd (show BX < w.heap.size from h) (by omega)) _⟩, ⟨hp_set_other HX3.out (by omega) _ _⟩, ⟨hp_set_other HR3.out (by omega) _ _⟩, ⟨by
                        have h := hp_set HY3.out (j + 1) (.bool true)
                        rw [rowB_set _ (by omega), rowB_congr (fun j _ => soFar_step _ _ _ (by rw [HD.out]; simp only [orBelow]; rw [HB.out]; rfl) j)] at h
                        exact h⟩⟩
                      case measure => omega
                    | false =>
                      rw [hb] at cp
                      have HB := Asd.mk hb
                      clear hb
                      go_wp2
                      go_roundg (N + 1 - (j + 1 + 1))
                      case rel => exact ⟨j + 1 + 1, by omega, by omega, by go_num, ⟨(HC3.out).setCell (fun h => absurd (show BX < w.heap.size from h) (by omega)) _⟩, ⟨hp_set_other HX3.out (by omega) _ _⟩, ⟨hp_set_other HR3.out (by omega) _ _⟩, ⟨by
                        have h := hp_set HY3.out (j + 1) (.bool (dpF ps ns (k + 1) j))
                        rw [rowB_set _ (by omega), rowB_congr (fun j _ => soFar_step _ _ _ (by rw [HD.out]; simp only [orBelow]; rw [HB.out, HDj.out]; rfl) j)] at h
                        exact h⟩⟩
                      case measure => omega
                · have e12 := HOne.out
                  rw [decide_eq_false hone] at e12
                  subst e12
                  have HDL := fun i => dp_mid (ns := ns) (i := i) HPK.out (by rw [HL.out, HP.out]; exact hone)
                  clear hone
                  have ci : wr.cell? ⟨g, i, none⟩ = some (.bool (dpF ps ns k i)) := (cell_of_heap HR3.out i).trans (rowB_at _ (by omega))
                  cases i with
                  | zero =>
                    have HD := Asd.mk (HDL 0)
                    clear HDL
                    cases hb : dpF ps ns k 0 with
                    | true =>
                      rw [hb] at ci
                      have HB := Asd.mk hb
                      clear hb
                      go_wp2
                      go_roundg (N + 1 - (0 + 1))
                      case rel => exact ⟨0 + 1, by omega, by omega, by go_num, ⟨(HC3.out).setCell (fun h => absurd (show BX < w.heap.size from h) (by omega)) _⟩, ⟨hp_set_other HX3.out (by omega) _ _⟩, ⟨hp_set_other HR3.out (by omega) _ _⟩, ⟨by
                        have h := hp_set HY3.out (0) (.bool true)
                        rw [rowB_set _ (by omega), rowB_congr (fun j _ => soFar_step _ _ _ (by rw [HD.out]; simp only [orUpto]; rw [HB.out]) j)] at h
                        exact h⟩⟩
                      case measure => omega
                    | false =>
                      rw [hb] at ci
                      have HB := Asd.mk hb
                      clear hb
                      go_wp2
                      go_roundg (N + 1 - (0 + 1))
                      case rel => exact ⟨0 + 1, by omega, by omega, by go_num, ⟨(HC3.out).setCell (fun h => absurd (show BX < w.heap.size from h) (by omega)) _⟩, ⟨hp_set_other HX3.out (by omega) _ _⟩, ⟨hp_set_other HR3.out (by omega) _ _⟩, ⟨by
                        have h := hp_set HY3.out (0) (.bool false)
                        rw [rowB_set _ (by omega), rowB_congr (fun j _ => soFar_step _ _ _ (by rw [HD.out]; simp only [orUpto]; rw [HB.out]) j)] at h
                        exact h⟩⟩
                      case measure => omega
                  | succ j =>
                    have HD := Asd.mk (HDL (j + 1))
                    have HDj := Asd.mk (HDL j)
                    clear HDL
                    have yp : wr.cell? ⟨BX, j, none⟩ = some (.bool (dpF ps ns (k + 1) j)) := (cell_of_heap HY3.out j).trans ((rowB_at _ (by omega)).trans (by simp [soFar]))
                    have n3 : (j : Int) < (N : Int) := by omega
                    cases hb : dpF ps ns k (j + 1) with
                    | true =>
                      rw [hb] at ci
                      have HB := Asd.mk hb
                      clear hb yp
                      go_wp2
                      go_roundg (N + 1 - (j + 1 + 1))
                      case rel => exact ⟨j + 1 + 1, by omega, by omega, by go_num, ⟨(HC3.out).setCell (fun h => absurd (show BX < w.heap.size from h) (by omega)) _⟩, ⟨hp_set_other HX3.out (by omega) _ _⟩, ⟨hp_set_other HR3.out (by omega) _ _⟩, ⟨by
                        have h := hp_set HY3.out (j + 1) (.bool true)
                        rw [rowB_set _ (by omega), rowB_congr (fun j _ => soFar_step _ _ _ (by rw [HD.out]; simp only [orUpto]; rw [HB.out]; rfl) j)] at h
                        exact h⟩⟩
                      case measure => omega
                    | false =>
                      rw [hb] at ci
                      have HB := Asd.mk hb
                      clear hb
                      go_wp2
                      go_roundg (N + 1 - (j + 1 + 1))
                      case rel => exact ⟨j + 1 + 1, by omega, by omega, by go_num, ⟨(HC3.out).setCell (fun h => absurd (show BX < w.heap.size from h) (by omega)) _⟩, ⟨hp_set_other HX3.out (by omega) _ _⟩, ⟨hp_set_other HR3.out (by omega) _ _⟩, ⟨by
                        have h := hp_set HY3.out (j + 1) (.bool (dpF ps ns (k + 1) j))
                        rw [rowB_set _ (by omega), rowB_congr (fun j _ => soFar_step _ _ _ (by rw [HD.out]; simp only [orUpto]; rw [HB.out, HDj.out]; rfl) j)] at h
                        exact h⟩⟩
                      case measure => omega
            · obtain rfl : i = N := by omega
              have HY4 := Asd.mk (show wr.heap[BX]? = some (.cells (rowB (dpF ps ns (k + 1)) i) 4 (0, 0)) by
                rw [rowB_congr (f := dpF ps ns (k + 1)) (g := soFar (dpF ps ns (k + 1)) i) (fun j hj => by simp [soFar, hj])]; exact HY3.out)
              go_wp2
              go_roundg (P + 1 - (k + 1))
              case rel => exact ⟨k + 1, BX, by omega, by omega, by go_num, rfl, by omega, HC3, HX3, HY4⟩
              case measure => omega
      · obtain rfl : k = P := by omega
        have cz : wr.cell? ⟨g, m, none⟩ = some (.bool (dpF ps ns k m)) := (cell_of_heap HR.out m).trans (rowB_at _ (by have := HNN.out; omega))
        have k1 : (m : Int) < (N : Int) := by have := HNN.out; omega
        go_wp2
        go_ret
        exact ⟨by rw [HV.out]; rfl, HC1.out⟩
end Go.Proofs.YtgkifphfibcfdaaGreatDoor.G
