/- Merged out of these texts: Anew, RPlays. -/
import Derived.Test.YtiijbecklkccfaaGreatDoorPl14
import Derived.Test.YtiijbecklkccfaaGreatDoorPl25
import Derived.Test.YtiijbecklkccfaaGreatDoorPl13
import Derived.StillTailTactics
import Derived.Deep.RegionHeld3
/- The law InodeAnew: the walk. -/
namespace Go.Proofs.YtiijbecklkccfaaGreatDoor.I
open Go.RowKit Go.Proofs.YtiijbecklkccfaaGreatDoor.B Go.Sort
set_option linter.unusedVariables false
theorem SysL.lift {w0 w W : World} {L : List Nat} {t : Nat} {fs : FS} {b n : Nat} (h : SysL w W L t fs b n) (hC : Chg [] w0 w) : SysL w0 W L t fs b n := by
  obtain ⟨h1, h2, h3, h4, h5⟩ := h
  exact ⟨hC.trans h1, h2, h3, fun i hi => Nat.le_trans hC.size (h4 i hi), h5⟩
theorem size_room (a b : Value) : (Tryz.prog.info? 23).map (·.size) = some (#[a, b]).size := by kernel_rfl
set_option maxRecDepth 100000 in
set_option maxHeartbeats 16000000 in
theorem anew_bad (bb nn : Int) (sp sp2 : Option Addr) (n cap n2 cap2 : Nat) (w : World) (hm : MaxLenAt w) (he : ErrType w) (hb : bb < 0 ∨ 2147483647 < bb ∨ nn < 0 ∨ 65536 < nn) :
    Calls Tryz.prog 4 #[.agg #[.int .i64 bb, .int .i64 nn], .slice sp n cap, .slice sp2 n2 cap2] w fun e w' => e = .returned (.bool true) ∧ Chg [] w w' := by
  have HC := Asd.mk (show Chg [] w (w.alloc (.cells #[.int .i64 bb, .int .i64 nn] 23)) from (Chg.refl _ _).alloc _)
  have hB := hp_new w (.cells #[.int .i64 bb, .int .i64 nn] 23)
  have b0 := cell_of_heap hB 0
  have b1 := cell_of_heap hB 1
  have HN := Asd.mk (new_bad bb nn (w.alloc (.cells #[.int .i64 bb, .int .i64 nn] 23)) hb)
  have HM := Asd.mk hm
  have HE := Asd.mk he
  clear hB hm he hb
  (go_enter Tryz.func4, Tryz.ntmps4)
  go_wp2_with fail
  refine HN.out.mono ?_
  rintro e w1 ⟨rfl, hC⟩
  have HC1 := Asd.mk (HC.out.trans hC)
  clear hC HN
  go_wp2_with fail
  refine (works_calls w1 (HM.out.chg HC1.out) (HE.out.chg HC1.out)).mono ?_
  rintro e w2 ⟨rfl, hC⟩
  have HC2 := Asd.mk (HC1.out.trans hC)
  clear hC HC1
  go_wp2
  go_ret
  exact ⟨rfl, HC2.out⟩
set_option maxRecDepth 100000 in
set_option maxHeartbeats 32000000 in
theorem anew_ok (bb nn : Nat) (sp sp2 : Option Addr) (n cap n2 cap2 : Nat) (O O2 : Nat → OpV) (w : World) (hO : OpsAt w sp n O) (hn : n ≤ 1048576) (hO2 : OpsAt w sp2 n2 O2) (hn2 : n2 ≤ 1048576) (hm : MaxLenAt w) (he : ErrType w) (hbb : bb ≤ 2147483647) (hnn : nn ≤ 65536) :
    Calls Tryz.prog 4 #[.agg #[.int .i64 (bb : Int), .int .i64 (nn : Int)], .slice sp n cap, .slice sp2 n2 cap2] w fun e w' => e = .returned (.bool true) ∧ Chg [] w w' := by
  obtain ⟨w0, hw0⟩ : ∃ W, w.alloc (.cells #[.int .i64 (bb : Int), .int .i64 (nn : Int)] 23) = W := ⟨_, rfl⟩
  have HC0 := Asd.mk (show Chg [] w w0 by rw [← hw0]; exact (Chg.refl _ _).alloc _)
  have hB : w0.heap[w.heap.size]? = some (.cells #[.int .i64 (bb : Int), .int .i64 (nn : Int)] 23 (0, 0)) := by rw [← hw0]; exact hp_new _ _
  have HB := Asd.mk hB
  have HM := Asd.mk (hm.chg HC0.out)
  have HE := Asd.mk (he.chg HC0.out)
  have HO := Asd.mk (hO.chg HC0.out)
  have HO2 := Asd.mk (hO2.chg HC0.out)
  have H0 := Asd.mk (sysl_new bb nn w0 w0 (Chg.refl _ _) hbb hnn)
  have b0 := cell_of_heap hB 0
  have b1 := cell_of_heap hB 1
  clear hm he hO hO2 hB
  (go_enter Tryz.func4, Tryz.ntmps4)
  go_wp2_with fail
  refine H0.out.mono ?_
  rintro e w1 ⟨t, L1, rfl, hS, _, _⟩
  have HS := Asd.mk hS
  clear hS H0 b0 b1 hw0
  go_wp2_with fail
  go_loopg [9] 41 (fun gk v9 wx => ∃ (i : Nat) (L : List Nat) (fs : FS), i ≤ 40 ∧ gk = 41 - i ∧ v9 = .int .i64 (i : Int) ∧ Asd (SysL w0 wx L t fs bb nn) ∧ Asd (LinkOk fs))
  case atStart => exact ⟨0, L1, [], by omega, rfl, rfl, HS, ⟨link_nil⟩⟩
  case round =>
    obtain ⟨i, L, fs, hi, rfl, rfl, HS, HLk⟩ := hrel
    go_upto_region 5 with fail
    go_cut [50] from 43 to 50 (fun v50 wx => wr = wx ∧ ∃ c : Bool, v50 = .bool c ∧ Asd (c = true → i < n ∧ i < 40))
    case first =>
      by_cases h1 : i < n
      · have k1 : (i : Int) < (n : Int) := by omega
        by_cases h2 : i < 40
        · have k2 : (i : Int) < 40 := by omega
          go_wp2
          go_meet
          case rel => exact ⟨rfl, true, rfl, ⟨fun _ => ⟨h1, h2⟩⟩⟩
        · have k2 : ¬ (i : Int) < 40 := by omega
          go_wp2
          go_meet
          case rel => exact ⟨rfl, false, rfl, ⟨fun h => by cases h⟩⟩
      · have k1 : ¬ (i : Int) < (n : Int) := by omega
        go_wp2
        go_meet
        case rel => exact ⟨rfl, false, rfl, ⟨fun h => by cases h⟩⟩
    case rest =>
      obtain ⟨rfl, c, rfl, HRc⟩ := hcut
      cases c with
      | true =>
        obtain ⟨hin, hi40⟩ := HRc.out rfl
        obtain ⟨a, rfl, o0, o1, o2, z1, z2⟩ := (HO.out.chg HS.out.1) i hin
        have HD := Asd.mk (sysl_done (O i).kind (O i).a (O i).b HS.out HM.out (by omega) (by omega))
        have k1 : (i : Int) < (n : Int) := by omega
        have P012 := Asd.mk (show wr.cell? ((a.add (i * 3)).add 0) = some (.int .i64 (O i).kind) ∧ wr.cell? ((a.add (i * 3)).add 1) = some (.string (O i).a) ∧ wr.cell? ((a.add (i * 3)).add 2) = some (.string (O i).b) from ⟨by rw [Go.Deep.add_add]; exact o0, by rw [Go.Deep.add_add]; exact o1, by rw [Go.Deep.add_add]; exact o2⟩)
        have HLk2 := Asd.mk (op_link HS.out.2.1 HLk.out (b := bb) (n := nn) ⟨(O i).kind, (O i).a, (O i).b⟩)
        clear o0 o1 o2 z1 z2 HRc HLk
        go_wp2_with (refine wpList_load_op rfl (.tmp 56) rfl (a.add (i * 3)) rfl _ _ _ P012.out.1 P012.out.2.1 P012.out.2.2 ?_)
        refine HD.out.mono ?_
        rintro e w4 ⟨rfl, L', hS, _, _⟩
        have HS4 := Asd.mk hS
        clear hS HD HS P012
        go_wp2_with fail
        go_roundg (41 - (i + 1))
        case rel => exact ⟨i + 1, L', _, by omega, rfl, by go_num, HS4, HLk2⟩
        case measure => omega
      | false =>
        clear HRc HO
        have HT1 := Asd.mk (sysl_tree HS.out HM.out)
        go_wp2_with fail
        refine HT1.out.mono ?_
        rintro e w4 ⟨⟨v, rfl, hR⟩, hC⟩
        have HS4 := Asd.mk (HS.out.chg0 hC)
        obtain ⟨A, c, hv, hc⟩ := own_form hR
        obtain ⟨N, hN⟩ : ∃ N, (treeF fs []).length = N := ⟨_, rfl⟩
        have hNz : N ≤ 200000 := by
          have := treeL_len HS.out.2.1 (m := 65) (p := []) (by rw [at_root]; simp)
          have := HS.out.2.2.1.n
          have := HS.out.2.2.1.count
          rw [← hN]
          show (treeL fs 65 []).length ≤ _
          omega
        rw [hN] at hv
        subst hv
        obtain ⟨F, hF1, hF2⟩ := anew_runs HS.out.2.1 HLk.out HS.out.2.2.1
        have hB4 := HS4.out.1.heap HB.out (by simp)
        have HB4 := Asd.mk hB4
        have HEl := Asd.mk (show EntL w4 (.slice A N c) (treeF fs []) from entL_of_own hR)
        have HZ := Asd.mk (show ∀ x ∈ treeF fs [], x.1.size ≤ 4294967280 ∧ x.2.2.size ≤ 4294967280 from fun x hx => by
          obtain ⟨r, hr, rfl⟩ := List.mem_map.1 (show x ∈ (pathsL fs 65 []).map (entF fs) from hx)
          have ha := paths_at (m := 65) (p := []) (by rw [at_root]; simp) hr
          obtain ⟨z, hz⟩ := Option.ne_none_iff_exists'.1 ha
          have h1 := tx_size (HS.out.2.1.okp r z hz)
          have h2 := HS.out.2.1.small r z hz
          unfold entF
          rw [hz]
          exact ⟨by show (tx r).size ≤ _; omega, by show z.text.size ≤ _; omega⟩)
        have HAg := Asd.mk (again_calls bb nn A c N (treeF fs []) F w4 (HM.out.chg HS4.out.1) HEl.out hN hNz HZ.out hF1 hbb hnn)
        have HQ := Asd.mk hF2.symm
        clear hR hC hc hF1 hF2 hB4 HT1 HS HEl HZ HLk hN
        go_wp2_with (refine wpList_load_row (o := ⟨some 65, _, _, _, _, _⟩) rfl 23 (.tmp 3) rfl w.heap.size rfl 23 _ (0, 0) _ HB4.out Tryz.underlying23 rfl (size_room _ _) ?_)
        refine HAg.out.mono ?_
        rintro e w5 ⟨u, L2, rfl, hU⟩
        have HS5 := Asd.mk (HS4.out.chg0 hU.1)
        have HU5 := Asd.mk (hU.lift HS4.out.1)
        have HDj := Asd.mk (show ∀ i ∈ L, i ∉ L2 from fun i hi h => by
          have h1 := HS4.out.lt i hi
          have h2 := hU.2.2.2.1 i h
          omega)
        clear hU HAg HS4 HB4
        go_wp2_with fail
        go_loopg [14] 31 (fun gk v14 wx => ∃ (i : Nat) (L L2 : List Nat) (f g : FS), i ≤ 30 ∧ gk = 31 - i ∧ v14 = .int .i64 (i : Int) ∧ Asd (SysL w0 wx L t f bb nn) ∧ Asd (SysL w0 wx L2 u g bb nn) ∧ Asd (∀ i ∈ L, i ∉ L2) ∧ Asd (Eqv f g))
        case atStart => exact ⟨0, L, L2, fs, F, by omega, rfl, rfl, HS5, HU5, HDj, HQ⟩
        case round =>
          obtain ⟨j, L, L2, f, g, hj, rfl, rfl, HS, HU, HDj, HQ⟩ := hrel
          go_upto_region 13 with fail
          go_cut [79] from 72 to 79 (fun v79 wx => wr = wx ∧ ∃ c : Bool, v79 = .bool c ∧ Asd (c = true → j < n2 ∧ j < 30))
          case first =>
            by_cases h1 : j < n2
            · have k1 : (j : Int) < (n2 : Int) := by omega
              by_cases h2 : j < 30
              · have k2 : (j : Int) < 30 := by omega
                go_wp2
                go_meet
                case rel => exact ⟨rfl, true, rfl, ⟨fun _ => ⟨h1, h2⟩⟩⟩
              · have k2 : ¬ (j : Int) < 30 := by omega
                go_wp2
                go_meet
                case rel => exact ⟨rfl, false, rfl, ⟨fun h => by cases h⟩⟩
            · have k1 : ¬ (j : Int) < (n2 : Int) := by omega
              go_wp2
              go_meet
              case rel => exact ⟨rfl, false, rfl, ⟨fun h => by cases h⟩⟩
          case rest =>
            obtain ⟨rfl, c2, rfl, HRc⟩ := hcut
            cases c2 with
            | true =>
              obtain ⟨hin, hi30⟩ := HRc.out rfl
              obtain ⟨a, rfl, o0, o1, o2, z1, z2⟩ := (HO2.out.chg HS.out.1) j hin
              obtain ⟨R, hR⟩ : ∃ R, opF f bb nn ⟨(O2 j).kind, (O2 j).a, (O2 j).b⟩ = R := ⟨_, rfl⟩
              obtain ⟨R2, hR2⟩ : ∃ R, opF g bb nn ⟨(O2 j).kind, (O2 j).a, (O2 j).b⟩ = R := ⟨_, rfl⟩
              have hD := sysl_done (O2 j).kind (O2 j).a (O2 j).b HS.out HM.out (by omega) (by omega)
              rw [hR] at hD
              have HD := Asd.mk hD
              have hop := op_eqv HQ.out HS.out.2.2.1 ⟨(O2 j).kind, (O2 j).a, (O2 j).b⟩
              rw [hR, hR2] at hop
              have HOp := Asd.mk hop
              have HR2 := Asd.mk hR2
              have HZz := Asd.mk (And.intro z1 z2)
              have k1 : (j : Int) < (n2 : Int) := by omega
              have P012 := Asd.mk (show wr.cell? ((a.add (j * 3)).add 0) = some (.int .i64 (O2 j).kind) ∧ wr.cell? ((a.add (j * 3)).add 1) = some (.string (O2 j).a) ∧ wr.cell? ((a.add (j * 3)).add 2) = some (.string (O2 j).b) from ⟨by rw [Go.Deep.add_add]; exact o0, by rw [Go.Deep.add_add]; exact o1, by rw [Go.Deep.add_add]; exact o2⟩)
              clear o0 o1 o2 z1 z2 HRc hD hR hR2 hop
              go_wp2_with (refine wpList_load_op rfl (.tmp 85) rfl (a.add (j * 3)) rfl _ _ _ P012.out.1 P012.out.2.1 P012.out.2.2 ?_)
              refine HD.out.mono ?_
              rintro e w6 ⟨he, L', hS, hCL, hL'⟩
              obtain ⟨ev, hev⟩ : ∃ ev, errV R.1 = ev := ⟨_, rfl⟩
              rw [hev] at he
              subst he
              have HEv := Asd.mk (show (R.1 = 0 ∧ ev = .nilIface) ∨ (R.1 ≠ 0 ∧ ev = .iface 71 (.int .i64 (R.1 : Int))) by
                by_cases hz : R.1 = 0
                · exact .inl ⟨hz, by rw [← hev, hz]; rfl⟩
                · exact .inr ⟨hz, by rw [← hev]; unfold errV; rw [if_neg hz]⟩)
              have HS6 := Asd.mk hS
              have HU6 := Asd.mk (HU.out.chg hCL (fun i hi h => HDj.out i h hi) HS.out.2.2.2.1)
              have HDj6 := Asd.mk (show ∀ i ∈ L', i ∉ L2 from fun i hi h => by
                rcases hL' i hi with h1 | h1
                · exact HDj.out i h1 h
                · have := HU.out.lt i h; omega)
              have hD := sysl_done (O2 j).kind (O2 j).a (O2 j).b HU6.out HM.out (by have := HZz.out.1; omega) (by have := HZz.out.2; omega)
              rw [HR2.out, ← HOp.out.1, hev] at hD
              have HD2 := Asd.mk hD
              have P345 := Asd.mk (show w6.cell? ((a.add (j * 3)).add 0) = some (.int .i64 (O2 j).kind) ∧ w6.cell? ((a.add (j * 3)).add 1) = some (.string (O2 j).a) ∧ w6.cell? ((a.add (j * 3)).add 2) = some (.string (O2 j).b) from by
                obtain ⟨a', ha, o0, o1, o2, _, _⟩ := (HO2.out.chg hS.1) j hin
                cases ha
                exact ⟨by rw [Go.Deep.add_add]; exact o0, by rw [Go.Deep.add_add]; exact o1, by rw [Go.Deep.add_add]; exact o2⟩)
              clear hS hCL hL' HD HS HU HDj P012 HQ hD hev
              go_wp2_with (refine wpList_load_op rfl (.tmp 91) rfl (a.add (j * 3)) rfl _ _ _ P345.out.1 P345.out.2.1 P345.out.2.2 ?_)
              refine HD2.out.mono ?_
              rintro e w7 ⟨rfl, L2', hU, hCL, hL'⟩
              have HU7 := Asd.mk hU
              have HS7 := Asd.mk (HS6.out.chg hCL HDj6.out HU6.out.2.2.2.1)
              have HDj7 := Asd.mk (show ∀ i ∈ L', i ∉ L2' from fun i hi h => by
                rcases hL' i h with h1 | h1
                · exact HDj6.out i hi h1
                · have := HS6.out.lt i hi; omega)
              have HT := Asd.mk (sysl_tree HS7.out HM.out)
              clear hU hCL hL' HD2 HS6 HU6 HDj6 P345
              go_wp2_with fail
              refine HT.out.mono ?_
              rintro e w8 ⟨⟨v1, rfl, hR1⟩, hC⟩
              have HS8 := Asd.mk (HS7.out.chg0 hC)
              have HU8 := Asd.mk (HU7.out.chg0 hC)
              have HR8 := Asd.mk hR1
              have HT2 := Asd.mk (sysl_tree HU8.out HM.out)
              clear hR1 hC HT HS7 HU7
              go_wp2_with fail
              refine HT2.out.mono ?_
              rintro e w9 ⟨⟨v2, rfl, hR2⟩, hC⟩
              have HS9 := Asd.mk (HS8.out.chg0 hC)
              have HU9 := Asd.mk (HU8.out.chg0 hC)
              have HR9 := Asd.mk (own_off HR8.out hC (fun _ _ => by simp))
              have hEq : treeF R2.2 [] = treeF R.2 [] := HOp.out.2.tree.symm
              rw [hEq] at hR2
              have HR92 := Asd.mk hR2
              have HNz := Asd.mk (show (treeF R.2 []).length ≤ 16777216 from by
                have := treeL_len HS9.out.2.1 (m := 65) (p := []) (by rw [at_root]; simp)
                have := HS9.out.2.2.1.n
                have := HS9.out.2.2.1.count
                show (treeL R.2 65 []).length ≤ _
                omega)
              clear hR2 hC HT2 HS8 HU8 HR8 hEq
              go_upto_region 19 with fail
              go_cut [114] from 104 to 114 (fun v114 wx => v114 = .bool false ∧ Asd (Chg [] w9 wx))
              case first =>
                rcases HEv.out with ⟨hz, rfl⟩ | ⟨hz, rfl⟩
                · clear HEv hz
                  have HN1 := Asd.mk (fun W => num_nil W)
                  go_wp2_with fail
                  refine (HN1.out _).mono ?_
                  rintro e w10 ⟨rfl, hw⟩
                  have hw' := hw.symm
                  subst hw'
                  clear hw
                  go_wp2_with fail
                  refine (HN1.out _).mono ?_
                  rintro e w10 ⟨rfl, hw⟩
                  have hw' := hw.symm
                  subst hw'
                  clear hw HN1
                  have HSm := Asd.mk (same_ents (entL_of_own HR9.out) (entL_of_own HR92.out) HNz.out)
                  go_wp2_with fail
                  refine HSm.out.mono ?_
                  rintro e w11 ⟨rfl, hC⟩
                  have HC11 := Asd.mk hC
                  clear hC HSm
                  go_wp2
                  go_meet
                  case rel => exact ⟨rfl, HC11⟩
                · clear HEv hz
                  have HN1 := Asd.mk (num_errno (R.1 : Int) w9 (HE.out.chg HS9.out.1))
                  go_wp2_with fail
                  refine HN1.out.mono ?_
                  rintro e w10 ⟨rfl, hC⟩
                  have HC10 := Asd.mk hC
                  have HN2 := Asd.mk (num_errno (R.1 : Int) w10 (HE.out.chg (HS9.out.1.trans hC)))
                  clear hC HN1
                  go_wp2_with fail
                  refine HN2.out.mono ?_
                  rintro e w11 ⟨rfl, hC⟩
                  have HC11 := Asd.mk (HC10.out.trans hC)
                  clear hC HN2
                  have HSm := Asd.mk (same_ents (entL_of_own (own_off HR9.out HC11.out (fun _ _ => by simp))) (entL_of_own (own_off HR92.out HC11.out (fun _ _ => by simp))) HNz.out)
                  go_wp2_with fail
                  refine HSm.out.mono ?_
                  rintro e w12 ⟨rfl, hC⟩
                  have HC12 := Asd.mk (HC11.out.trans hC)
                  clear hC HSm HC11 HC10
                  go_wp2
                  go_meet
                  case rel => exact ⟨rfl, HC12⟩
              case rest =>
                obtain ⟨rfl, HC⟩ := hcut
                have HSf := Asd.mk (HS9.out.chg0 HC.out)
                have HUf := Asd.mk (HU9.out.chg0 HC.out)
                have HQf := Asd.mk HOp.out.2
                clear HS9 HU9 HC HOp HR9 HR92 HNz HEv
                go_wp2_with fail
                go_roundg (31 - (j + 1))
                case rel => exact ⟨j + 1, L', L2', _, _, by omega, rfl, by go_num, HSf, HUf, HDj7, HQf⟩
                case measure => omega
            | false =>
              clear HRc
              go_wp2_with fail
              refine (works_calls _ (HM.out.chg HS.out.1) (HE.out.chg HS.out.1)).mono ?_
              rintro e w3 ⟨rfl, hC⟩
              have HC3 := Asd.mk ((HC0.out.trans HS.out.1).trans hC)
              clear hC HS
              go_wp2
              go_ret
              exact ⟨rfl, HC3.out⟩
theorem inodeanew_calls (bb nn : Int) (sp sp2 : Option Addr) (n cap n2 cap2 : Nat) (O O2 : Nat → OpV) (w : World) (hO : OpsAt w sp n O) (hn : n ≤ 1048576) (hO2 : OpsAt w sp2 n2 O2) (hn2 : n2 ≤ 1048576) (hm : MaxLenAt w) (he : ErrType w) :
    Calls Tryz.prog 4 #[.agg #[.int .i64 bb, .int .i64 nn], .slice sp n cap, .slice sp2 n2 cap2] w fun e w' => e = .returned (.bool true) ∧ Chg [] w w' := by
  by_cases hb : bb < 0 ∨ 2147483647 < bb ∨ nn < 0 ∨ 65536 < nn
  · exact anew_bad bb nn sp sp2 n cap n2 cap2 w hm he hb
  · obtain ⟨b, rfl⟩ : ∃ b : Nat, bb = (b : Int) := ⟨bb.toNat, by omega⟩
    obtain ⟨m, rfl⟩ : ∃ b : Nat, nn = (b : Int) := ⟨nn.toNat, by omega⟩
    exact anew_ok b m sp sp2 n cap n2 cap2 O O2 w hO hn hO2 hn2 hm he (by omega) (by omega)
end Go.Proofs.YtiijbecklkccfaaGreatDoor.I
/- The law InodePlays: the walk. -/
namespace Go.Proofs.YtiijbecklkccfaaGreatDoor.I
open Go.RowKit Go.Proofs.YtiijbecklkccfaaGreatDoor.B Go.Sort
set_option linter.unusedVariables false
/-- Texts as an argument brings them. -/
def PathsAt (w : World) (sp : Option Addr) (n : Nat) (S : Nat → ByteArray) : Prop := ∀ i, i < n → ∃ a, sp = some a ∧ w.cell? (a.add i) = some (.string (S i)) ∧ (S i).size ≤ 1048576
theorem PathsAt.chg {w w' : World} {sp : Option Addr} {n : Nat} {S : Nat → ByteArray} (h : PathsAt w sp n S) (hC : Chg [] w w') : PathsAt w' sp n S := fun i hi => by
  obtain ⟨a, h0, h1, h2⟩ := h i hi
  exact ⟨a, h0, (hC.below.cell (World.block_lt_of_cell? w _ h1)).trans h1, h2⟩
theorem two_rooms (bb nn : Nat) (w : World) : RAt w 0 (.slice none 0 0) [] bb nn ↔ Room [] bb nn := ⟨fun h => h.room, fun h => ⟨⟨rfl, .inl ⟨rfl, rfl⟩⟩, fsOk_nil, h⟩⟩
/-- What holds while both go on. -/
structure PlayAt (w0 W : World) (L : List Nat) (t B : Nat) (fs G : FS) (v : Value) (bb nn : Nat) : Prop where
  sys : SysL w0 W L t fs bb nn
  tab : RAt W w0.heap.size v G bb nn
  eqv : Eqv fs G
  off : Off v L
  cell : W.heap[B]? = some (.cells #[v, .int .i64 (bb : Int), .int .i64 (nn : Int)] 56 (0, 0))
  out : B ∉ L
  lo : w0.heap.size ≤ B
theorem PlayAt.on {w0 W W' : World} {L : List Nat} {t B : Nat} {fs G : FS} {v : Value} {bb nn : Nat} (h : PlayAt w0 W L t B fs G v bb nn) (hC : Chg [] W W') : PlayAt w0 W' L t B fs G v bb nn :=
  ⟨h.sys.chg0 hC, h.tab.chg hC, h.eqv, h.off, hC.heap h.cell (by simp), h.out, h.lo⟩
/-- The program's has done a call. -/
theorem PlayAt.done {w0 W W' : World} {L L' : List Nat} {t B : Nat} {fs fs' G : FS} {v : Value} {bb nn : Nat} (h : PlayAt w0 W L t B fs G v bb nn) (hS : SysL w0 W' L' t fs' bb nn) (hC : Chg L W W') (hL : ∀ i ∈ L', i ∈ L ∨ W.heap.size ≤ i) :
    RAt W' w0.heap.size v G bb nn ∧ Off v L' ∧ W'.heap[B]? = some (.cells #[v, .int .i64 (bb : Int), .int .i64 (nn : Int)] 56 (0, 0)) ∧ B ∉ L' := by
  refine ⟨⟨own_off h.tab.row hC h.off, h.tab.ok, h.tab.room⟩, fun g hg hm => ?_, hC.heap h.cell h.out, fun hm => ?_⟩
  · rcases hL g hm with h1 | h1
    · exact h.off g hg h1
    · have := own_lt h.tab.row hg
      omega
  · rcases hL B hm with h1 | h1
    · exact h.out h1
    · have := lt_of_heap h.cell
      omega
/-- The reference's has done it, too. -/
theorem PlayAt.both {w0 W W' : World} {L : List Nat} {t B : Nat} {fs' G G' : FS} {v v' : Value} {bb nn : Nat} (hS : SysL w0 W L t fs' bb nn) (hR : RAt W w0.heap.size v G bb nn) (hO : Off v L) (hB : W.heap[B]? = some (.cells #[v, .int .i64 (bb : Int), .int .i64 (nn : Int)] 56 (0, 0))) (hout : B ∉ L) (hlo : w0.heap.size ≤ B)
    (hC : Chg [] W W') (hrow : RowE W' w0.heap.size v' (rowE G')) (hE : Eqv fs' G') (hv : v' = v ∨ ∀ g, v'.ownBlock = some g → W.heap.size ≤ g) : PlayAt w0 (W'.setRow B #[v', .int .i64 (bb : Int), .int .i64 (nn : Int)]) L t B fs' G' v' bb nn := by
  have hB' := hC.heap hB (by simp)
  have hC2 : Chg [B] W' (W'.setRow B #[v', .int .i64 (bb : Int), .int .i64 (nn : Int)]) := (Chg.refl _ _).setRow (fun _ => by simp) _
  refine ⟨(hS.chg0 hC).chg hC2 (fun i hi h => hout (by rw [List.mem_singleton] at h; rw [← h]; exact hi)) (fun i hi => by rw [List.mem_singleton] at hi; omega), ⟨own_off hrow hC2 (fun g hg h => ?_), hE.g_ok, hE.room hS.2.2.1⟩, hE, fun g hg hm => ?_, setRow_heap _ _ _ _ _ _ hB', hout, hlo⟩
  · rw [List.mem_singleton] at h
    subst h
    exact own_ne hrow hB' (by decide) hg
  · rcases hv with rfl | hv
    · exact hO g hg hm
    · have := hv g hg
      have := hS.lt g hm
      omega
set_option maxRecDepth 100000 in
set_option maxHeartbeats 16000000 in
theorem plays_bad (bb nn : Int) (sp sp2 : Option Addr) (n cap n2 cap2 : Nat) (w : World) (hm : MaxLenAt w) (he : ErrType w) (hb : bb < 0 ∨ 2147483647 < bb ∨ nn < 0 ∨ 65536 < nn) :
    Calls Tryz.prog 6 #[.agg #[.int .i64 bb, .int .i64 nn], .slice sp n cap, .slice sp2 n2 cap2] w fun e w' => e = .returned (.bool true) ∧ Chg [] w w' := by
  obtain ⟨w0, hw0, hC, hB⟩ := start1 w #[.int .i64 bb, .int .i64 nn] 23
  have HC := Asd.mk hC
  have b0 := cell_of_heap hB 0
  have b1 := cell_of_heap hB 1
  have HN := Asd.mk (begun_bad bb nn w0 (he.chg hC) hb)
  have HM := Asd.mk hm
  have HE := Asd.mk he
  clear hB hm he hb hC
  (go_enter Tryz.func6, Tryz.ntmps6)
  go_wp2_with fail
  refine HN.out.mono ?_
  rintro e w1 ⟨rfl, hC⟩
  have HC1 := Asd.mk (HC.out.trans hC)
  clear hC HN b0 b1 hw0
  go_upto_region 2 with (first | (refine wpList_store_row (o := ⟨none, _, _, _, _, _⟩) rfl 56 (.tmp 8) (.tmp 19) rfl w1.heap.size _ rfl rfl 56 _ (hp_new _ _) (size_tab _ _ _) rfl (one_tab _ _ _ _ _) ?_))
  refine wp_opaque2 (fun W hW => ?_)
  have HCW := Asd.mk (show Chg [] w W by rw [hW]; exact (HC1.out.alloc _).setRow (fun h => absurd h (by have := HC1.out.size; omega)) _)
  clear hW HC1
  go_wp2_with fail
  refine (works_calls W (HM.out.chg HCW.out) (HE.out.chg HCW.out)).mono ?_
  rintro e w2 ⟨rfl, hC⟩
  have HC2 := Asd.mk (HCW.out.trans hC)
  clear hC
  go_wp2
  go_ret
  exact ⟨rfl, HC2.out⟩
set_option maxRecDepth 100000 in
set_option maxHeartbeats 32000000 in
theorem plays_ok (bb nn : Nat) (sp sp2 : Option Addr) (n cap n2 cap2 : Nat) (O : Nat → OpV) (S : Nat → ByteArray) (w : World) (hO : OpsAt w sp n O) (hn : n ≤ 1048576) (hP : PathsAt w sp2 n2 S) (hn2 : n2 ≤ 1048576) (hm : MaxLenAt w) (he : ErrType w) (hbb : bb ≤ 2147483647) (hnn : nn ≤ 65536) :
    Calls Tryz.prog 6 #[.agg #[.int .i64 (bb : Int), .int .i64 (nn : Int)], .slice sp n cap, .slice sp2 n2 cap2] w fun e w' => e = .returned (.bool true) ∧ Chg [] w w' := by
  obtain ⟨w0, hw0, hC, hB⟩ := start1 w #[.int .i64 (bb : Int), .int .i64 (nn : Int)] 23
  have HC0 := Asd.mk hC
  have b0 := cell_of_heap hB 0
  have b1 := cell_of_heap hB 1
  have HN := Asd.mk (begun_ok bb nn w0 hbb hnn)
  have HM := Asd.mk (hm.chg HC0.out)
  have HE := Asd.mk (he.chg HC0.out)
  have HO := Asd.mk (hO.chg HC0.out)
  have HP := Asd.mk (hP.chg HC0.out)
  clear hB hm he hC hO hP
  (go_enter Tryz.func6, Tryz.ntmps6)
  go_wp2_with fail
  refine HN.out.mono ?_
  rintro e w1 ⟨t, L1, rfl, hS⟩
  have HS := Asd.mk hS
  clear hS HN b0 b1 hw0
  go_upto_region 2 with (first | (refine wpList_store_row (o := ⟨none, _, _, _, _, _⟩) rfl 56 (.tmp 8) (.tmp 19) rfl w1.heap.size _ rfl rfl 56 _ (hp_new _ _) (size_tab _ _ _) rfl (one_tab _ _ _ _ _) ?_))
  refine wp_opaque2 (fun W hW => ?_)
  have hCW : Chg [w1.heap.size] w1 W := by rw [hW]; exact ((Chg.refl _ _).alloc _).setRow (fun _ => by simp) _
  have hbD : W.heap[w1.heap.size]? = some (.cells #[.slice none 0 0, .int .i64 (bb : Int), .int .i64 (nn : Int)] 56 (0, 0)) := by rw [hW]; exact setRow_heap _ _ _ _ _ _ (hp_new _ _)
  have HA := Asd.mk (show PlayAt w0 W L1 t w1.heap.size [] [] (.slice none 0 0) bb nn from
    ⟨HS.out.chg hCW (fun i hi h => by have := HS.out.lt i hi; rw [List.mem_singleton] at h; omega) (fun i hi => by have := HS.out.1.size; rw [List.mem_singleton] at hi; omega),
      ⟨⟨rfl, .inl ⟨rfl, rfl⟩⟩, fsOk_nil, HS.out.2.2.1⟩, Eqv.refl fsOk_nil, (fun g hg => by cases hg), hbD, (fun h => by have := HS.out.lt _ h; omega), HS.out.1.size⟩)
  obtain ⟨B, hBq⟩ : ∃ D, w1.heap.size = D := ⟨_, rfl⟩
  rw [hBq] at HA ⊢
  clear hW hCW hbD hBq HS
  go_wp2_with fail
  go_loopg [10, 11, 12, 13] 61 (fun gk v10 v11 v12 v13 wx => ∃ (i : Nat) (L : List Nat) (fs G : FS) (v : Value), i ≤ 60 ∧ gk = 61 - i ∧ v10 = .int .i64 (i : Int) ∧ Asd (PlayAt w0 wx L t B fs G v bb nn))
  case atStart => exact ⟨0, L1, [], [], _, by omega, rfl, rfl, HA⟩
  case round =>
    obtain ⟨i, L, fs, G, v, hi, rfl, rfl, HA⟩ := hrel
    go_upto_region 5 with fail
    go_cut [38] from 31 to 38 (fun v38 wx => wr = wx ∧ ∃ c : Bool, v38 = .bool c ∧ Asd (c = true → i < n ∧ i < 60))
    case first =>
      by_cases h1 : i < n
      · have k1 : (i : Int) < (n : Int) := by omega
        by_cases h2 : i < 60
        · have k2 : (i : Int) < 60 := by omega
          go_wp2
          go_meet
          case rel => exact ⟨rfl, true, rfl, ⟨fun _ => ⟨h1, h2⟩⟩⟩
        · have k2 : ¬ (i : Int) < 60 := by omega
          go_wp2
          go_meet
          case rel => exact ⟨rfl, false, rfl, ⟨fun h => by cases h⟩⟩
      · have k1 : ¬ (i : Int) < (n : Int) := by omega
        go_wp2
        go_meet
        case rel => exact ⟨rfl, false, rfl, ⟨fun h => by cases h⟩⟩
    case rest =>
      obtain ⟨rfl, c, rfl, HRc⟩ := hcut
      cases c with
      | true =>
        obtain ⟨hin, hi60⟩ := HRc.out rfl
        obtain ⟨a, rfl, o0, o1, o2, z1, z2⟩ := (HO.out.chg HA.out.sys.1) i hin
        obtain ⟨R, hR⟩ : ∃ R, opF fs bb nn ⟨(O i).kind, (O i).a, (O i).b⟩ = R := ⟨_, rfl⟩
        obtain ⟨R2, hR2⟩ : ∃ R, opF G bb nn ⟨(O i).kind, (O i).a, (O i).b⟩ = R := ⟨_, rfl⟩
        have hD := sysl_done (O i).kind (O i).a (O i).b HA.out.sys HM.out (by omega) (by omega)
        rw [hR] at hD
        have HD := Asd.mk hD
        have hop := op_eqv HA.out.eqv HA.out.sys.2.2.1 ⟨(O i).kind, (O i).a, (O i).b⟩
        rw [hR, hR2] at hop
        have HOp := Asd.mk hop
        have HR2 := Asd.mk hR2
        have HZz := Asd.mk (And.intro z1 z2)
        have k1 : (i : Int) < (n : Int) := by omega
        have P012 := Asd.mk (show wr.cell? ((a.add (i * 3)).add 0) = some (.int .i64 (O i).kind) ∧ wr.cell? ((a.add (i * 3)).add 1) = some (.string (O i).a) ∧ wr.cell? ((a.add (i * 3)).add 2) = some (.string (O i).b) from ⟨by rw [Go.Deep.add_add]; exact o0, by rw [Go.Deep.add_add]; exact o1, by rw [Go.Deep.add_add]; exact o2⟩)
        clear o0 o1 o2 z1 z2 HRc hD hR hR2 hop
        go_wp2_with (refine wpList_load_op rfl (.tmp 44) rfl (a.add (i * 3)) rfl _ _ _ P012.out.1 P012.out.2.1 P012.out.2.2 ?_)
        refine HD.out.mono ?_
        rintro e w4 ⟨he, L', hS, hCL, hL'⟩
        obtain ⟨ev, hev⟩ : ∃ ev, errV R.1 = ev := ⟨_, rfl⟩
        rw [hev] at he
        subst he
        obtain ⟨h1, h2, h3, h4⟩ := HA.out.done hS hCL hL'
        have HS4 := Asd.mk hS
        have HT4 := Asd.mk h1
        have HF4 := Asd.mk (And.intro h2 (And.intro h4 HA.out.lo))
        have HB4 := Asd.mk h3
        have HNm := Asd.mk (fun W' (hW : Chg [] w0 W') => (by
          have h := num_ev R.1 W' (HE.out.chg hW)
          rw [hev, HOp.out.1] at h
          exact h : Calls Tryz.prog 18 #[ev] W' fun e w' => e = .returned (.int .i64 (R2.1 : Int)) ∧ Chg [] W' w'))
        have P345 := Asd.mk (show ∀ W', Chg [] w4 W' → W'.cell? (a.add (i * 3)) = some (.int .i64 (O i).kind) ∧ W'.cell? ⟨(a.add (i * 3)).block, (a.add (i * 3)).off + 1, none⟩ = some (.string (O i).a) ∧ W'.cell? ⟨(a.add (i * 3)).block, (a.add (i * 3)).off + 2, none⟩ = some (.string (O i).b) from fun W' hW => by
          obtain ⟨a', ha, o0, o1, o2, _, _⟩ := (HO.out.chg (hS.1.trans hW)) i hin
          cases ha
          rw [← Go.Deep.add_add] at o1 o2
          exact ⟨o0, o1, o2⟩)
        have HDo := Asd.mk (fun W' (hW : Chg [] w4 W') => (by
          have h := done20_calls (h1.chg hW) (Nat.le_trans hS.1.size hW.size) (O i).kind (O i).a (O i).b HZz.out.1 HZz.out.2
          rw [HR2.out] at h
          exact h : Calls Tryz.prog 22 #[.agg #[v, .int .i64 (bb : Int), .int .i64 (nn : Int)], .agg #[.int .i64 (O i).kind, .string (O i).a, .string (O i).b]] W' fun e w' => RPost W' w0.heap.size v bb nn R2 e w'))
        clear hS hCL hL' HD HA P012 h1 h2 h3 h4 hev
        have hS8 : ∀ W', Chg [] w4 W' → W'.cell? ⟨B, 0, none⟩ = some v ∧ W'.cell? ⟨B, 1, none⟩ = some (.int .i64 (bb : Int)) ∧ W'.cell? ⟨B, 2, none⟩ = some (.int .i64 (nn : Int)) ∧ W'.cell? (a.add (i * 3)) = some (.int .i64 (O i).kind) ∧ W'.cell? ⟨(a.add (i * 3)).block, (a.add (i * 3)).off + 1, none⟩ = some (.string (O i).a) ∧ W'.cell? ⟨(a.add (i * 3)).block, (a.add (i * 3)).off + 2, none⟩ = some (.string (O i).b) := fun W' hW => by
          have h := hW.heap HB4.out (by simp)
          exact ⟨cell_of_heap h 0, cell_of_heap h 1, cell_of_heap h 2, P345.out W' hW⟩
        have hwd := Asd.mk (show Chg [] w4 (w4.alloc (.cells #[.slice none 0 0, .int .i64 0, .int .i64 0] 56)).drew from ((Chg.refl _ _).alloc _).drew)
        have hk1 := hS8 _ hwd.out
        have hwd0 := Asd.mk (show Chg [] w4 w4.drew from (Chg.refl _ _).drew)
        have hk0 := hS8 _ hwd0.out
        have HU4 := Asd.mk (hp_drew (hp_new w4 (.cells #[.slice none 0 0, .int .i64 0, .int .i64 0] 56)))
        have HS8 := Asd.mk hS8
        clear hS8
        go_upto_region 8 with fail
        go_region_held3 (fun (w' : World) => w'.cell? ⟨B, 0, none⟩ = some v ∧ w'.cell? ⟨B, 1, none⟩ = some (.int .i64 (bb : Int)) ∧ w'.cell? ⟨B, 2, none⟩ = some (.int .i64 (nn : Int)) ∧ w'.cell? (a.add (i * 3)) = some (.int .i64 (O i).kind) ∧ w'.cell? ⟨(a.add (i * 3)).block, (a.add (i * 3)).off + 1, none⟩ = some (.string (O i).a) ∧ w'.cell? ⟨(a.add (i * 3)).block, (a.add (i * 3)).off + 2, none⟩ = some (.string (O i).b)) (first | exact hk0 | exact hk1 | exact hk2 | exact hk3 | exact hk4) (first | (go_at_call 22; refine (HDo.out _ hwd.out).mono ?_; rintro e w5 ⟨v', G', rfl, hrow, hE, hC, hv⟩; obtain ⟨A', c', hv', _⟩ := own_form hrow; obtain ⟨m', hm'⟩ : ∃ m, (rowE G').length = m := ⟨_, rfl⟩; rw [hm'] at hv'; subst hv'; have HRow := Asd.mk hrow; have HEq := Asd.mk hE; have HC5 := Asd.mk (hwd.out.trans hC); have HV := Asd.mk hv; have hz := hC.heap HU4.out (by simp); have HZ5 := Asd.mk hz; have z0 := cell_of_heap hz 0; have z1 := cell_of_heap hz 1; have z2 := cell_of_heap hz 2; have f0 := frozen_of_heap hz 0; have f1 := frozen_of_heap hz 1; have f2 := frozen_of_heap hz 2; have hk2 := HS8.out _ HC5.out; have HC6 := Asd.mk (show Chg [] w4 (((w5.setCell ⟨w4.heap.size, 0, none⟩ (.slice A' m' c')).setCell ⟨w4.heap.size, 1, none⟩ (.int .i64 (bb : Int))).setCell ⟨w4.heap.size, 2, none⟩ (.int .i64 (nn : Int))) from ((HC5.out.setCell (fun h => absurd h (Nat.lt_irrefl _)) _).setCell (fun h => absurd h (Nat.lt_irrefl _)) _).setCell (fun h => absurd h (Nat.lt_irrefl _)) _); have hk3 := HS8.out _ HC6.out; clear hrow hE hC hv hm' hz) | (go_at_call 22; refine (HDo.out _ hwd0.out).mono ?_; rintro e w5 ⟨v', G', rfl, hrow, hE, hC, hv⟩; obtain ⟨A', c', hv', _⟩ := own_form hrow; obtain ⟨m', hm'⟩ : ∃ m, (rowE G').length = m := ⟨_, rfl⟩; rw [hm'] at hv'; subst hv'; have HRow := Asd.mk hrow; have HEq := Asd.mk hE; have HC5 := Asd.mk (hwd0.out.trans hC); have HV := Asd.mk hv; have hk2 := HS8.out _ HC5.out; have hk3 := HS8.out _ (HC5.out.alloc (.cells #[.slice none 0 0, .int .i64 0, .int .i64 0] 56)); have hk4 := HS8.out _ (HC5.out.alloc (.cells #[.slice A' m' c', .int .i64 (bb : Int), .int .i64 (nn : Int)] 56)); clear hrow hE hC hv hm'))
        · go_upto_region 9 with fail
          refine wp_opaque2 (fun W6 hW => ?_)
          have HU6 := Asd.mk (show W6.heap[w5.heap.size]? = some (.cells #[.slice A' m' c', .int .i64 (bb : Int), .int .i64 (nn : Int)] 56 (0, 0)) by rw [hW]; exact hp_new _ _)
          have hC56 : Chg [] w5 W6 := by rw [hW]; exact (Chg.refl _ _).alloc _
          have HC6 := Asd.mk (HC5.out.trans hC56)
          have HRow6 := Asd.mk (own_off HRow.out hC56 (fun _ _ => by simp))
          have HVq := Asd.mk (show Value.slice A' m' c' = v ∨ ∀ g, (Value.slice A' m' c').ownBlock = some g → w4.heap.size ≤ g from HV.out)
          obtain ⟨U, hU⟩ : ∃ U, w5.heap.size = U := ⟨_, rfl⟩
          rw [hU] at HU6 ⊢
          clear hW hC56 hU HRow HV HC5
          have HB6 := Asd.mk (HC6.out.heap HB4.out (by simp)); have u0 := cell_of_heap HU6.out 0; have u1 := cell_of_heap HU6.out 1; have u2 := cell_of_heap HU6.out 2; clear hk0 hk1 hk2 hk3; go_upto_region 10 with (first | (refine wpList_store_row (o := ⟨none, _, _, _, _, _⟩) rfl 56 (.tmp 8) (.tmp 56) rfl B _ rfl rfl 56 _ HB6.out (size_tab _ _ _) rfl (one_tab _ _ _ _ _) ?_)); refine wp_opaque2 (fun W7 hW => ?_); have HA7 := Asd.mk (show PlayAt w0 W7 L' t B R.2 G' (.slice A' m' c') bb nn by rw [hW]; exact PlayAt.both HS4.out HT4.out HF4.out.1 HB4.out HF4.out.2.1 HF4.out.2.2 HC6.out HRow6.out (HOp.out.2.trans HEq.out) HVq.out); clear hW u0 u1 u2 HU6 HB6 HC6 HRow6 HVq HS4 HT4 HF4 HB4 P345 HS8 HDo HU4 hwd hwd0; go_wp2_with fail; refine (HNm.out W7 HA7.out.sys.1).mono ?_; rintro e w8 ⟨rfl, hC⟩; have HA8 := Asd.mk (HA7.out.on hC); have h0 := cell_of_heap HA8.out.cell 0; have h1 := cell_of_heap HA8.out.cell 1; have h2 := cell_of_heap HA8.out.cell 2; clear hC HA7 HNm; go_wp2_with fail; refine (alike20_calls HA8.out.sys HA8.out.tab HA8.out.eqv HM.out HE.out).mono ?_; rintro e w9 ⟨rfl, hC⟩; have HA9 := Asd.mk (HA8.out.on hC); clear hC HA8 h0 h1 h2; go_wp2_with fail; go_roundg (61 - (i + 1)); (case rel => exact ⟨i + 1, L', R.2, G', _, by omega, rfl, by go_num, HA9⟩); (case measure => omega)
        · go_upto_region 9 with fail
          refine wp_opaque2 (fun W6 hW => ?_)
          have HU6 := Asd.mk (show W6.heap[w4.heap.size]? = some (.cells #[.slice A' m' c', .int .i64 (bb : Int), .int .i64 (nn : Int)] 56 (0, 0)) by rw [hW]; exact hp_set (hp_set (hp_set HZ5.out 0 _) 1 _) 2 _)
          have hC56 : Chg [w4.heap.size] w5 W6 := by rw [hW]; exact (((Chg.refl _ _).setCell (fun _ => by simp) _).setCell (fun _ => by simp) _).setCell (fun _ => by simp) _
          replace HC6 := Asd.mk (show Chg [] w4 W6 by rw [hW]; exact HC6.out)
          have HRow6 := Asd.mk (own_off HRow.out hC56 (fun g hg h => by rw [List.mem_singleton] at h; rw [h] at hg; exact own_ne HRow.out HZ5.out (by decide) hg))
          have HVq := Asd.mk (show Value.slice A' m' c' = v ∨ ∀ g, (Value.slice A' m' c').ownBlock = some g → w4.heap.size ≤ g from HV.out.imp id (fun h g hg => Nat.le_trans hwd.out.size (h g hg)))
          obtain ⟨U, hU⟩ : ∃ U, w4.heap.size = U := ⟨_, rfl⟩
          rw [hU] at HU6 ⊢
          clear hW hC56 hU HRow HV HC5 HZ5 z0 z1 z2 f0 f1 f2
          have HB6 := Asd.mk (HC6.out.heap HB4.out (by simp)); have u0 := cell_of_heap HU6.out 0; have u1 := cell_of_heap HU6.out 1; have u2 := cell_of_heap HU6.out 2; clear hk0 hk1 hk2 hk3; go_upto_region 10 with (first | (refine wpList_store_row (o := ⟨none, _, _, _, _, _⟩) rfl 56 (.tmp 8) (.tmp 56) rfl B _ rfl rfl 56 _ HB6.out (size_tab _ _ _) rfl (one_tab _ _ _ _ _) ?_)); refine wp_opaque2 (fun W7 hW => ?_); have HA7 := Asd.mk (show PlayAt w0 W7 L' t B R.2 G' (.slice A' m' c') bb nn by rw [hW]; exact PlayAt.both HS4.out HT4.out HF4.out.1 HB4.out HF4.out.2.1 HF4.out.2.2 HC6.out HRow6.out (HOp.out.2.trans HEq.out) HVq.out); clear hW u0 u1 u2 HU6 HB6 HC6 HRow6 HVq HS4 HT4 HF4 HB4 P345 HS8 HDo HU4 hwd hwd0; go_wp2_with fail; refine (HNm.out W7 HA7.out.sys.1).mono ?_; rintro e w8 ⟨rfl, hC⟩; have HA8 := Asd.mk (HA7.out.on hC); have h0 := cell_of_heap HA8.out.cell 0; have h1 := cell_of_heap HA8.out.cell 1; have h2 := cell_of_heap HA8.out.cell 2; clear hC HA7 HNm; go_wp2_with fail; refine (alike20_calls HA8.out.sys HA8.out.tab HA8.out.eqv HM.out HE.out).mono ?_; rintro e w9 ⟨rfl, hC⟩; have HA9 := Asd.mk (HA8.out.on hC); clear hC HA8 h0 h1 h2; go_wp2_with fail; go_roundg (61 - (i + 1)); (case rel => exact ⟨i + 1, L', R.2, G', _, by omega, rfl, by go_num, HA9⟩); (case measure => omega)
      | false =>
        clear HRc HO
        go_wp2_with fail
        go_loopg [14] 21 (fun gk v14 wx => ∃ j : Nat, j ≤ 20 ∧ gk = 21 - j ∧ v14 = .int .i64 (j : Int) ∧ Asd (PlayAt w0 wx L t B fs G v bb nn))
        case atStart => exact ⟨0, by omega, rfl, rfl, HA⟩
        case round =>
          obtain ⟨j, hj, rfl, rfl, HA⟩ := hrel
          go_upto_region 13 with fail
          go_cut [74] from 67 to 74 (fun v74 wx => wr = wx ∧ ∃ c : Bool, v74 = .bool c ∧ Asd (c = true → j < n2 ∧ j < 20))
          case first =>
            by_cases h1 : j < n2
            · have k1 : (j : Int) < (n2 : Int) := by omega
              by_cases h2 : j < 20
              · have k2 : (j : Int) < 20 := by omega
                go_wp2
                go_meet
                case rel => exact ⟨rfl, true, rfl, ⟨fun _ => ⟨h1, h2⟩⟩⟩
              · have k2 : ¬ (j : Int) < 20 := by omega
                go_wp2
                go_meet
                case rel => exact ⟨rfl, false, rfl, ⟨fun h => by cases h⟩⟩
            · have k1 : ¬ (j : Int) < (n2 : Int) := by omega
              go_wp2
              go_meet
              case rel => exact ⟨rfl, false, rfl, ⟨fun h => by cases h⟩⟩
          case rest =>
            obtain ⟨rfl, c2, rfl, HRc⟩ := hcut
            cases c2 with
            | true =>
              obtain ⟨hin, hj20⟩ := HRc.out rfl
              obtain ⟨a, rfl, o0, z0⟩ := (HP.out.chg HA.out.sys.1) j hin
              have k1 : (j : Int) < (n2 : Int) := by omega
              obtain ⟨P, hPe⟩ : ∃ P, S j = P := ⟨_, rfl⟩
              rw [hPe] at o0 z0
              have HAd := Asd.mk (HA.out.on (show Chg [] wr wr.drew from (Chg.refl _ _).drew))
              have HQ := Asd.mk (asked20_calls HAd.out.sys HAd.out.tab HAd.out.eqv HM.out HE.out P z0)
              have b0 := cell_of_heap HA.out.cell 0
              have b1 := cell_of_heap HA.out.cell 1
              have b2 := cell_of_heap HA.out.cell 2
              clear HRc hPe
              go_upto_region 15 with fail
              go_still_tail 6, (by kernel_rfl)
              go_wp2_with fail
              refine HQ.out.mono ?_
              rintro e w4 ⟨rfl, hC⟩
              have HA4 := Asd.mk (HAd.out.on hC)
              clear hC HQ HAd HA b0 b1 b2 o0
              go_wp2_with fail
              go_roundg (21 - (j + 1))
              case rel => exact ⟨j + 1, by omega, rfl, by go_num, HA4⟩
              case measure => omega
            | false =>
              clear HRc
              go_wp2_with fail
              refine (works_calls _ (HM.out.chg HA.out.sys.1) (HE.out.chg HA.out.sys.1)).mono ?_
              rintro e w3 ⟨rfl, hC⟩
              have HC3 := Asd.mk ((HC0.out.trans HA.out.sys.1).trans hC)
              clear hC HA
              go_wp2
              go_ret
              exact ⟨rfl, HC3.out⟩
theorem inodeplays_calls (bb nn : Int) (sp sp2 : Option Addr) (n cap n2 cap2 : Nat) (O : Nat → OpV) (S : Nat → ByteArray) (w : World) (hO : OpsAt w sp n O) (hn : n ≤ 1048576) (hP : PathsAt w sp2 n2 S) (hn2 : n2 ≤ 1048576) (hm : MaxLenAt w) (he : ErrType w) :
    Calls Tryz.prog 6 #[.agg #[.int .i64 bb, .int .i64 nn], .slice sp n cap, .slice sp2 n2 cap2] w fun e w' => e = .returned (.bool true) ∧ Chg [] w w' := by
  by_cases hb : bb < 0 ∨ 2147483647 < bb ∨ nn < 0 ∨ 65536 < nn
  · exact plays_bad bb nn sp sp2 n cap n2 cap2 w hm he hb
  · obtain ⟨b, rfl⟩ : ∃ b : Nat, bb = (b : Int) := ⟨bb.toNat, by omega⟩
    obtain ⟨m, rfl⟩ : ∃ b : Nat, nn = (b : Int) := ⟨nn.toNat, by omega⟩
    exact plays_ok b m sp sp2 n cap n2 cap2 O S w hO hn hP hn2 hm he (by omega) (by omega)
end Go.Proofs.YtiijbecklkccfaaGreatDoor.I
