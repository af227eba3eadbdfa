/- The law InodeAnew: the walk. -/
import Derived.Test.YtiijbecklkccfaaGreatDoorOw15
namespace Go.Proofs.YtiijbecklkccfaaGreatDoor.I
open Go.RowKit Go.Proofs.YtiijbecklkccfaaGreatDoor.B Go.Sort
set_option linter.unusedVariables false
theorem SysL.lift {w0 w W : World} {L : List Nat} {t : Nat} {fs : FS} {b n : Nat} (h : SysL w W L t fs b n) (hC : Chg [] w0 w) : SysL w0 W L t fs b n := by
  obtain ⟨h1, h2, h3, h4, h5⟩ := h
  exact ⟨hC.trans h1, h2, h3, fun i hi => Nat.le_trans hC.size (h4 i hi), h5⟩
theorem size_room (a b : Value) : (Tryz.prog.info? 23).map (·.size) = some (#[a, b]).size := by kernel_rfl
set_option maxRecDepth 100000 in
set_option maxHeartbeats 16000000 in
theorem anew_bad (bb nn : Int) (sp sp2 : Option Addr) (n cap n2 cap2 : Nat) (w : World) (hm : MaxLenAt w) (he : ErrType w) (hb : bb < 0 ∨ 2147483647 < bb ∨ nn < 0 ∨ 65536 < nn) :
    Calls Tryz.prog 4 #[.agg #[.int .i64 bb, .int .i64 nn], .slice sp n cap, .slice sp2 n2 cap2] w fun e w' => e = .returned (.bool true) ∧ Chg [] w w' := by
  have HC := Asd.mk (show Chg [] w (w.alloc (.cells #[.int .i64 bb, .int .i64 nn] 23)) from (Chg.refl _ _).alloc _)
  have hB := hp_new w (.cells #[.int .i64 bb, .int .i64 nn] 23)
  have b0 := cell_of_heap hB 0
  have b1 := cell_of_heap hB 1
  have HN := Asd.mk (new_bad bb nn (w.alloc (.cells #[.int .i64 bb, .int .i64 nn] 23)) hb)
  have HM := Asd.mk hm
  have HE := Asd.mk he
  clear hB hm he hb
  (go_enter Tryz.func4, Tryz.ntmps4)
  go_wp2_with fail
  refine HN.out.mono ?_
  rintro e w1 ⟨rfl, hC⟩
  have HC1 := Asd.mk (HC.out.trans hC)
  clear hC HN
  go_wp2_with fail
  refine (works_calls w1 (HM.out.chg HC1.out) (HE.out.chg HC1.out)).mono ?_
  rintro e w2 ⟨rfl, hC⟩
  have HC2 := Asd.mk (HC1.out.trans hC)
  clear hC HC1
  go_wp2
  go_ret
  exact ⟨rfl, HC2.out⟩
set_option maxRecDepth 100000 in
set_option maxHeartbeats 32000000 in
theorem anew_ok (bb nn : Nat) (sp sp2 : Option Addr) (n cap n2 cap2 : Nat) (O O2 : Nat → OpV) (w : World) (hO : OpsAt w sp n O) (hn : n ≤ 1048576) (hO2 : OpsAt w sp2 n2 O2) (hn2 : n2 ≤ 1048576) (hm : MaxLenAt w) (he : ErrType w) (hbb : bb ≤ 2147483647) (hnn : nn ≤ 65536) :
    Calls Tryz.prog 4 #[.agg #[.int .i64 (bb : Int), .int .i64 (nn : Int)], .slice sp n cap, .slice sp2 n2 cap2] w fun e w' => e = .returned (.bool true) ∧ Chg [] w w' := by
  obtain ⟨w0, hw0⟩ : ∃ W, w.alloc (.cells #[.int .i64 (bb : Int), .int .i64 (nn : Int)] 23) = W := ⟨_, rfl⟩
  have HC0 := Asd.mk (show Chg [] w w0 by rw [← hw0]; exact (Chg.refl _ _).alloc _)
  have hB : w0.heap[w.heap.size]? = some (.cells #[.int .i64 (bb : Int), .int .i64 (nn : Int)] 23 (0, 0)) := by rw [← hw0]; exact hp_new _ _
  have HB := Asd.mk hB
  have HM := Asd.mk (hm.chg HC0.out)
  have HE := Asd.mk (he.chg HC0.out)
  have HO := Asd.mk (hO.chg HC0.out)
  have HO2 := Asd.mk (hO2.chg HC0.out)
  have H0 := Asd.mk (sysl_new bb nn w0 w0 (Chg.refl _ _) hbb hnn)
  have b0 := cell_of_heap hB 0
  have b1 := cell_of_heap hB 1
  clear hm he hO hO2 hB
  (go_enter Tryz.func4, Tryz.ntmps4)
  go_wp2_with fail
  refine H0.out.mono ?_
  rintro e w1 ⟨t, L1, rfl, hS, _, _⟩
  have HS := Asd.mk hS
  clear hS H0 b0 b1 hw0
  go_wp2_with fail
  go_loopg [9] 41 (fun gk v9 wx => ∃ (i : Nat) (L : List Nat) (fs : FS), i ≤ 40 ∧ gk = 41 - i ∧ v9 = .int .i64 (i : Int) ∧ Asd (SysL w0 wx L t fs bb nn) ∧ Asd (LinkOk fs))
  case atStart => exact ⟨0, L1, [], by omega, rfl, rfl, HS, ⟨link_nil⟩⟩
  case round =>
    obtain ⟨i, L, fs, hi, rfl, rfl, HS, HLk⟩ := hrel
    go_upto_region 5 with fail
    go_cut [50] from 43 to 50 (fun v50 wx => wr = wx ∧ ∃ c : Bool, v50 = .bool c ∧ Asd (c = true → i < n ∧ i < 40))
    case first =>
      by_cases h1 : i < n
      · have k1 : (i : Int) < (n : Int) := by omega
        by_cases h2 : i < 40
        · have k2 : (i : Int) < 40 := by omega
          go_wp2
          go_meet
          case rel => exact ⟨rfl, true, rfl, ⟨fun _ => ⟨h1, h2⟩⟩⟩
        · have k2 : ¬ (i : Int) < 40 := by omega
          go_wp2
          go_meet
          case rel => exact ⟨rfl, false, rfl, ⟨fun h => by cases h⟩⟩
      · have k1 : ¬ (i : Int) < (n : Int) := by omega
        go_wp2
        go_meet
        case rel => exact ⟨rfl, false, rfl, ⟨fun h => by cases h⟩⟩
    case rest =>
      obtain ⟨rfl, c, rfl, HRc⟩ := hcut
      cases c with
      | true =>
        obtain ⟨hin, hi40⟩ := HRc.out rfl
        obtain ⟨a, rfl, o0, o1, o2, z1, z2⟩ := (HO.out.chg HS.out.1) i hin
        have HD := Asd.mk (sysl_done (O i).kind (O i).a (O i).b HS.out HM.out (by omega) (by omega))
        have k1 : (i : Int) < (n : Int) := by omega
        have P012 := Asd.mk (show wr.cell? ((a.add (i * 3)).add 0) = some (.int .i64 (O i).kind) ∧ wr.cell? ((a.add (i * 3)).add 1) = some (.string (O i).a) ∧ wr.cell? ((a.add (i * 3)).add 2) = some (.string (O i).b) from ⟨by rw [Go.Deep.add_add]; exact o0, by rw [Go.Deep.add_add]; exact o1, by rw [Go.Deep.add_add]; exact o2⟩)
        have HLk2 := Asd.mk (op_link HS.out.2.1 HLk.out (b := bb) (n := nn) ⟨(O i).kind, (O i).a, (O i).b⟩)
        clear o0 o1 o2 z1 z2 HRc HLk
        go_wp2_with (refine wpList_load_op rfl (.tmp 56) rfl (a.add (i * 3)) rfl _ _ _ P012.out.1 P012.out.2.1 P012.out.2.2 ?_)
        refine HD.out.mono ?_
        rintro e w4 ⟨rfl, L', hS, _, _⟩
        have HS4 := Asd.mk hS
        clear hS HD HS P012
        go_wp2_with fail
        go_roundg (41 - (i + 1))
        case rel => exact ⟨i + 1, L', _, by omega, rfl, by go_num, HS4, HLk2⟩
        case measure => omega
      | false =>
        clear HRc HO
        have HT1 := Asd.mk (sysl_tree HS.out HM.out)
        go_wp2_with fail
        refine HT1.out.mono ?_
        rintro e w4 ⟨⟨v, rfl, hR⟩, hC⟩
        have HS4 := Asd.mk (HS.out.chg0 hC)
        obtain ⟨A, c, hv, hc⟩ := own_form hR
        obtain ⟨N, hN⟩ : ∃ N, (treeF fs []).length = N := ⟨_, rfl⟩
        have hNz : N ≤ 200000 := by
          have := treeL_len HS.out.2.1 (m := 65) (p := []) (by rw [at_root]; simp)
          have := HS.out.2.2.1.n
          have := HS.out.2.2.1.count
          rw [← hN]
          show (treeL fs 65 []).length ≤ _
          omega
        rw [hN] at hv
        subst hv
        obtain ⟨F, hF1, hF2⟩ := anew_runs HS.out.2.1 HLk.out HS.out.2.2.1
        have hB4 := HS4.out.1.heap HB.out (by simp)
        have HB4 := Asd.mk hB4
        have HEl := Asd.mk (show EntL w4 (.slice A N c) (treeF fs []) from entL_of_own hR)
        have HZ := Asd.mk (show ∀ x ∈ treeF fs [], x.1.size ≤ 4294967280 ∧ x.2.2.size ≤ 4294967280 from fun x hx => by
          obtain ⟨r, hr, rfl⟩ := List.mem_map.1 (show x ∈ (pathsL fs 65 []).map (entF fs) from hx)
          have ha := paths_at (m := 65) (p := []) (by rw [at_root]; simp) hr
          obtain ⟨z, hz⟩ := Option.ne_none_iff_exists'.1 ha
          have h1 := tx_size (HS.out.2.1.okp r z hz)
          have h2 := HS.out.2.1.small r z hz
          unfold entF
          rw [hz]
          exact ⟨by show (tx r).size ≤ _; omega, by show z.text.size ≤ _; omega⟩)
        have HAg := Asd.mk (again_calls bb nn A c N (treeF fs []) F w4 (HM.out.chg HS4.out.1) HEl.out hN hNz HZ.out hF1 hbb hnn)
        have HQ := Asd.mk hF2.symm
        clear hR hC hc hF1 hF2 hB4 HT1 HS HEl HZ HLk hN
        go_wp2_with (refine wpList_load_row (o := ⟨some 65, _, _, _, _, _⟩) rfl 23 (.tmp 3) rfl w.heap.size rfl 23 _ (0, 0) _ HB4.out Tryz.underlying23 rfl (size_room _ _) ?_)
        refine HAg.out.mono ?_
        rintro e w5 ⟨u, L2, rfl, hU⟩
        have HS5 := Asd.mk (HS4.out.chg0 hU.1)
        have HU5 := Asd.mk (hU.lift HS4.out.1)
        have HDj := Asd.mk (show ∀ i ∈ L, i ∉ L2 from fun i hi h => by
          have h1 := HS4.out.lt i hi
          have h2 := hU.2.2.2.1 i h
          omega)
        clear hU HAg HS4 HB4
        go_wp2_with fail
        go_loopg [14] 31 (fun gk v14 wx => ∃ (i : Nat) (L L2 : List Nat) (f g : FS), i ≤ 30 ∧ gk = 31 - i ∧ v14 = .int .i64 (i : Int) ∧ Asd (SysL w0 wx L t f bb nn) ∧ Asd (SysL w0 wx L2 u g bb nn) ∧ Asd (∀ i ∈ L, i ∉ L2) ∧ Asd (Eqv f g))
        case atStart => exact ⟨0, L, L2, fs, F, by omega, rfl, rfl, HS5, HU5, HDj, HQ⟩
        case round =>
          obtain ⟨j, L, L2, f, g, hj, rfl, rfl, HS, HU, HDj, HQ⟩ := hrel
          go_upto_region 13 with fail
          go_cut [79] from 72 to 79 (fun v79 wx => wr = wx ∧ ∃ c : Bool, v79 = .bool c ∧ Asd (c = true → j < n2 ∧ j < 30))
          case first =>
            by_cases h1 : j < n2
            · have k1 : (j : Int) < (n2 : Int) := by omega
              by_cases h2 : j < 30
              · have k2 : (j : Int) < 30 := by omega
                go_wp2
                go_meet
                case rel => exact ⟨rfl, true, rfl, ⟨fun _ => ⟨h1, h2⟩⟩⟩
              · have k2 : ¬ (j : Int) < 30 := by omega
                go_wp2
                go_meet
                case rel => exact ⟨rfl, false, rfl, ⟨fun h => by cases h⟩⟩
            · have k1 : ¬ (j : Int) < (n2 : Int) := by omega
              go_wp2
              go_meet
              case rel => exact ⟨rfl, false, rfl, ⟨fun h => by cases h⟩⟩
          case rest =>
            obtain ⟨rfl, c2, rfl, HRc⟩ := hcut
            cases c2 with
            | true =>
              obtain ⟨hin, hi30⟩ := HRc.out rfl
              obtain ⟨a, rfl, o0, o1, o2, z1, z2⟩ := (HO2.out.chg HS.out.1) j hin
              obtain ⟨R, hR⟩ : ∃ R, opF f bb nn ⟨(O2 j).kind, (O2 j).a, (O2 j).b⟩ = R := ⟨_, rfl⟩
              obtain ⟨R2, hR2⟩ : ∃ R, opF g bb nn ⟨(O2 j).kind, (O2 j).a, (O2 j).b⟩ = R := ⟨_, rfl⟩
              have hD := sysl_done (O2 j).kind (O2 j).a (O2 j).b HS.out HM.out (by omega) (by omega)
              rw [hR] at hD
              have HD := Asd.mk hD
              have hop := op_eqv HQ.out HS.out.2.2.1 ⟨(O2 j).kind, (O2 j).a, (O2 j).b⟩
              rw [hR, hR2] at hop
              have HOp := Asd.mk hop
              have HR2 := Asd.mk hR2
              have HZz := Asd.mk (And.intro z1 z2)
              have k1 : (j : Int) < (n2 : Int) := by omega
              have P012 := Asd.mk (show wr.cell? ((a.add (j * 3)).add 0) = some (.int .i64 (O2 j).kind) ∧ wr.cell? ((a.add (j * 3)).add 1) = some (.string (O2 j).a) ∧ wr.cell? ((a.add (j * 3)).add 2) = some (.string (O2 j).b) from ⟨by rw [Go.Deep.add_add]; exact o0, by rw [Go.Deep.add_add]; exact o1, by rw [Go.Deep.add_add]; exact o2⟩)
              clear o0 o1 o2 z1 z2 HRc hD hR hR2 hop
              go_wp2_with (refine wpList_load_op rfl (.tmp 85) rfl (a.add (j * 3)) rfl _ _ _ P012.out.1 P012.out.2.1 P012.out.2.2 ?_)
              refine HD.out.mono ?_
              rintro e w6 ⟨he, L', hS, hCL, hL'⟩
              obtain ⟨ev, hev⟩ : ∃ ev, errV R.1 = ev := ⟨_, rfl⟩
              rw [hev] at he
              subst he
              have HEv := Asd.mk (show (R.1 = 0 ∧ ev = .nilIface) ∨ (R.1 ≠ 0 ∧ ev = .iface 71 (.int .i64 (R.1 : Int))) by
                by_cases hz : R.1 = 0
                · exact .inl ⟨hz, by rw [← hev, hz]; rfl⟩
                · exact .inr ⟨hz, by rw [← hev]; unfold errV; rw [if_neg hz]⟩)
              have HS6 := Asd.mk hS
              have HU6 := Asd.mk (HU.out.chg hCL (fun i hi h => HDj.out i h hi) HS.out.2.2.2.1)
              have HDj6 := Asd.mk (show ∀ i ∈ L', i ∉ L2 from fun i hi h => by
                rcases hL' i hi with h1 | h1
                · exact HDj.out i h1 h
                · have := HU.out.lt i h; omega)
              have hD := sysl_done (O2 j).kind (O2 j).a (O2 j).b HU6.out HM.out (by have := HZz.out.1; omega) (by have := HZz.out.2; omega)
              rw [HR2.out, ← HOp.out.1, hev] at hD
              have HD2 := Asd.mk hD
              have P345 := Asd.mk (show w6.cell? ((a.add (j * 3)).add 0) = some (.int .i64 (O2 j).kind) ∧ w6.cell? ((a.add (j * 3)).add 1) = some (.string (O2 j).a) ∧ w6.cell? ((a.add (j * 3)).add 2) = some (.string (O2 j).b) from by
                obtain ⟨a', ha, o0, o1, o2, _, _⟩ := (HO2.out.chg hS.1) j hin
                cases ha
                exact ⟨by rw [Go.Deep.add_add]; exact o0, by rw [Go.Deep.add_add]; exact o1, by rw [Go.Deep.add_add]; exact o2⟩)
              clear hS hCL hL' HD HS HU HDj P012 HQ hD hev
              go_wp2_with (refine wpList_load_op rfl (.tmp 91) rfl (a.add (j * 3)) rfl _ _ _ P345.out.1 P345.out.2.1 P345.out.2.2 ?_)
              refine HD2.out.mono ?_
              rintro e w7 ⟨rfl, L2', hU, hCL, hL'⟩
              have HU7 := Asd.mk hU
              have HS7 := Asd.mk (HS6.out.chg hCL HDj6.out HU6.out.2.2.2.1)
              have HDj7 := Asd.mk (show ∀ i ∈ L', i ∉ L2' from fun i hi h => by
                rcases hL' i h with h1 | h1
                · exact HDj6.out i hi h1
                · have := HS6.out.lt i hi; omega)
              have HT := Asd.mk (sysl_tree HS7.out HM.out)
              clear hU hCL hL' HD2 HS6 HU6 HDj6 P345
              go_wp2_with fail
              refine HT.out.mono ?_
              rintro e w8 ⟨⟨v1, rfl, hR1⟩, hC⟩
              have HS8 := Asd.mk (HS7.out.chg0 hC)
              have HU8 := Asd.mk (HU7.out.chg0 hC)
              have HR8 := Asd.mk hR1
              have HT2 := Asd.mk (sysl_tree HU8.out HM.out)
              clear hR1 hC HT HS7 HU7
              go_wp2_with fail
              refine HT2.out.mono ?_
              rintro e w9 ⟨⟨v2, rfl, hR2⟩, hC⟩
              have HS9 := Asd.mk (HS8.out.chg0 hC)
              have HU9 := Asd.mk (HU8.out.chg0 hC)
              have HR9 := Asd.mk (own_off HR8.out hC (fun _ _ => by simp))
              have hEq : treeF R2.2 [] = treeF R.2 [] := HOp.out.2.tree.symm
              rw [hEq] at hR2
              have HR92 := Asd.mk hR2
              have HNz := Asd.mk (show (treeF R.2 []).length ≤ 16777216 from by
                have := treeL_len HS9.out.2.1 (m := 65) (p := []) (by rw [at_root]; simp)
                have := HS9.out.2.2.1.n
                have := HS9.out.2.2.1.count
                show (treeL R.2 65 []).length ≤ _
                omega)
              clear hR2 hC HT2 HS8 HU8 HR8 hEq
              go_upto_region 19 with fail
              go_cut [114] from 104 to 114 (fun v114 wx => v114 = .bool false ∧ Asd (Chg [] w9 wx))
              case first =>
                rcases HEv.out with ⟨hz, rfl⟩ | ⟨hz, rfl⟩
                · clear HEv hz
                  have HN1 := Asd.mk (fun W => num_nil W)
                  go_wp2_with fail
                  refine (HN1.out _).mono ?_
                  rintro e w10 ⟨rfl, hw⟩
                  have hw' := hw.symm
                  subst hw'
                  clear hw
                  go_wp2_with fail
                  refine (HN1.out _).mono ?_
                  rintro e w10 ⟨rfl, hw⟩
                  have hw' := hw.symm
                  subst hw'
                  clear hw HN1
                  have HSm := Asd.mk (same_ents (entL_of_own HR9.out) (entL_of_own HR92.out) HNz.out)
                  go_wp2_with fail
                  refine HSm.out.mono ?_
                  rintro e w11 ⟨rfl, hC⟩
                  have HC11 := Asd.mk hC
                  clear hC HSm
                  go_wp2
                  go_meet
                  case rel => exact ⟨rfl, HC11⟩
                · clear HEv hz
                  have HN1 := Asd.mk (num_errno (R.1 : Int) w9 (HE.out.chg HS9.out.1))
                  go_wp2_with fail
                  refine HN1.out.mono ?_
                  rintro e w10 ⟨rfl, hC⟩
                  have HC10 := Asd.mk hC
                  have HN2 := Asd.mk (num_errno (R.1 : Int) w10 (HE.out.chg (HS9.out.1.trans hC)))
                  clear hC HN1
                  go_wp2_with fail
                  refine HN2.out.mono ?_
                  rintro e w11 ⟨rfl, hC⟩
                  have HC11 := Asd.mk (HC10.out.trans hC)
                  clear hC HN2
                  have HSm := Asd.mk (same_ents (entL_of_own (own_off HR9.out HC11.out (fun _ _ => by simp))) (entL_of_own (own_off HR92.out HC11.out (fun _ _ => by simp))) HNz.out)
                  go_wp2_with fail
                  refine HSm.out.mono ?_
                  rintro e w12 ⟨rfl, hC⟩
                  have HC12 := Asd.mk (HC11.out.trans hC)
                  clear hC HSm HC11 HC10
                  go_wp2
                  go_meet
                  case rel => exact ⟨rfl, HC12⟩
              case rest =>
                obtain ⟨rfl, HC⟩ := hcut
                have HSf := Asd.mk (HS9.out.chg0 HC.out)
                have HUf := Asd.mk (HU9.out.chg0 HC.out)
                have HQf := Asd.mk HOp.out.2
                clear HS9 HU9 HC HOp HR9 HR92 HNz HEv
                go_wp2_with fail
                go_roundg (31 - (j + 1))
                case rel => exact ⟨j + 1, L', L2', _, _, by omega, rfl, by go_num, HSf, HUf, HDj7, HQf⟩
                case measure => omega
            | false =>
              clear HRc
              go_wp2_with fail
              refine (works_calls _ (HM.out.chg HS.out.1) (HE.out.chg HS.out.1)).mono ?_
              rintro e w3 ⟨rfl, hC⟩
              have HC3 := Asd.mk ((HC0.out.trans HS.out.1).trans hC)
              clear hC HS
              go_wp2
              go_ret
              exact ⟨rfl, HC3.out⟩
theorem inodeanew_calls (bb nn : Int) (sp sp2 : Option Addr) (n cap n2 cap2 : Nat) (O O2 : Nat → OpV) (w : World) (hO : OpsAt w sp n O) (hn : n ≤ 1048576) (hO2 : OpsAt w sp2 n2 O2) (hn2 : n2 ≤ 1048576) (hm : MaxLenAt w) (he : ErrType w) :
    Calls Tryz.prog 4 #[.agg #[.int .i64 bb, .int .i64 nn], .slice sp n cap, .slice sp2 n2 cap2] w fun e w' => e = .returned (.bool true) ∧ Chg [] w w' := by
  by_cases hb : bb < 0 ∨ 2147483647 < bb ∨ nn < 0 ∨ 65536 < nn
  · exact anew_bad bb nn sp sp2 n cap n2 cap2 w hm he hb
  · obtain ⟨b, rfl⟩ : ∃ b : Nat, bb = (b : Int) := ⟨bb.toNat, by omega⟩
    obtain ⟨m, rfl⟩ : ∃ b : Nat, nn = (b : Int) := ⟨nn.toNat, by omega⟩
    exact anew_ok b m sp sp2 n cap n2 cap2 O O2 w hO hn hO2 hn2 hm he (by omega) (by omega)
end Go.Proofs.YtiijbecklkccfaaGreatDoor.I
