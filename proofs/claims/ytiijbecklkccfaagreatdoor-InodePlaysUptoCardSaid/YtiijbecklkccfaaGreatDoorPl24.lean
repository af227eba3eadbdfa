/- Merged out of these texts: Apart, RDone, RAlike. -/
import Derived.Test.YtiijbecklkccfaaGreatDoorPl22
import Derived.Test.YtiijbecklkccfaaGreatDoorPl18
import Derived.Test.YtiijbecklkccfaaGreatDoorPl15
import Derived.Test.YtiijbecklkccfaaGreatDoorPl23
import Derived.Test.YtiijbecklkccfaaGreatDoorPl14
import Derived.Deep.RegionWith
import Derived.Test.YtiijbecklkccfaaGreatDoorPl20
import Derived.Test.YtiijbecklkccfaaGreatDoorPl17
import Derived.Test.YtiijbecklkccfaaGreatDoorPl21
import Derived.Test.YtiijbecklkccfaaGreatDoorPlRRename
import Derived.Test.YtiijbecklkccfaaGreatDoorPl19
/- The law InodeApart: the walk. -/
namespace Go.Proofs.YtiijbecklkccfaaGreatDoor.I
open Go.RowKit Go.Proofs.YtiijbecklkccfaaGreatDoor.B Go.Sort
set_option linter.unusedVariables false
theorem ba_bool (s t : ByteArray) : ∃ c, (s.toList == t.toList) = c := ⟨_, rfl⟩
set_option maxRecDepth 100000 in
set_option maxHeartbeats 16000000 in
theorem apart_calls (a b : ByteArray) (w : World) (ha : a.size ≤ 4294967280) (hb : b.size ≤ 4294967280) :
    Calls Tryz.prog 25 #[.string a, .string b] w fun e w' => ∃ k : Bool, (k = true → belowB a b = false ∧ belowB b a = false) ∧ e = .returned (.bool k) ∧ w' = w := by
  have H1 := Asd.mk (refbelow_calls a b w ha hb)
  have H2 := Asd.mk (refbelow_calls b a w hb ha)
  have H3 := Asd.mk (dir_calls a w ha)
  have H4 := Asd.mk (dir_calls b w hb)
  cases c1 : belowB a b with
  | true =>
    rw [c1] at H1
    (go_enter Tryz.func25, Tryz.ntmps25)
    go_wp2_with fail
    refine H1.out.mono ?_
    rintro e w1 ⟨rfl, rfl⟩
    clear H1 H2 H3 H4 c1
    go_wp2
    go_ret
    exact ⟨false, (fun h => by cases h), rfl, rfl⟩
  | false =>
    cases c2 : belowB b a with
    | true =>
      rw [c1] at H1
      rw [c2] at H2
      (go_enter Tryz.func25, Tryz.ntmps25)
      go_wp2_with fail
      refine H1.out.mono ?_
      rintro e w1 ⟨rfl, rfl⟩
      go_wp2_with fail
      refine H2.out.mono ?_
      rintro e w2 ⟨rfl, rfl⟩
      clear H1 H2 H3 H4 c1 c2
      go_wp2
      go_ret
      exact ⟨false, (fun h => by cases h), rfl, rfl⟩
    | false =>
      rw [c1] at H1
      rw [c2] at H2
      (go_enter Tryz.func25, Tryz.ntmps25)
      go_wp2_with fail
      refine H1.out.mono ?_
      rintro e w1 ⟨rfl, rfl⟩
      go_wp2_with fail
      refine H2.out.mono ?_
      rintro e w2 ⟨rfl, rfl⟩
      clear c1 c2
      go_wp2_with fail
      refine H3.out.mono ?_
      rintro e w3 ⟨k, _, rfl, rfl⟩
      obtain ⟨S, hS⟩ : ∃ S, a.extract 0 (k - 1) = S := ⟨_, rfl⟩
      rw [hS]
      clear hS H1 H2 H3
      cases t1 : (S.toList == b.toList) with
      | true =>
        go_wp2
        go_ret
        exact ⟨false, (fun h => by cases h), rfl, rfl⟩
      | false =>
        go_wp2_with fail
        refine H4.out.mono ?_
        rintro e w4 ⟨k, _, rfl, rfl⟩
        obtain ⟨Z, hZ⟩ : ∃ S, b.extract 0 (k - 1) = S := ⟨_, rfl⟩
        rw [hZ]
        clear hZ H4
        cases t2 : (Z.toList == a.toList) with
        | true =>
          go_wp2
          go_ret
          exact ⟨false, (fun h => by cases h), rfl, rfl⟩
        | false =>
          go_wp2
          go_ret
          exact ⟨true, (fun _ => ⟨by simp, by simp⟩), rfl, rfl⟩
/-- num, of an operation's answer. -/
theorem num_ev (R : Nat) (w : World) (he : ErrType w) : Calls Tryz.prog 18 #[errV R] w fun e w' => e = .returned (.int .i64 (R : Int)) ∧ Chg [] w w' := by
  by_cases hz : R = 0
  · subst hz
    exact (num_nil w).mono fun e w' ⟨h1, h2⟩ => ⟨h1, by rw [h2]; exact Chg.refl _ _⟩
  · rw [show errV R = .iface 71 (.int .i64 (R : Int)) by unfold errV; rw [if_neg hz]]
    exact num_errno R w he
theorem SysL.drew {w W : World} {L : List Nat} {t : Nat} {fs : FS} {b n : Nat} (h : SysL w W L t fs b n) : SysL w W.drew L t fs b n := h.chg0 (Chg.refl _ _).drew
theorem load_box {w : World} {B : Nat} {u v z : Value} {T : TypeId} (h : w.heap[B]? = some (.cells #[u, v, z] T (0, 0))) : (loadVar 36 ⟨B, 0, none⟩).run Tryz.prog w = .ok (.agg #[u, v, z]) w :=
  load_op (cell_of_heap h 0) (cell_of_heap h 1) (cell_of_heap h 2)
set_option maxRecDepth 100000 in
set_option maxHeartbeats 32000000 in
theorem inodeapart_calls (sp : Option Addr) (n cap : Nat) (O : Nat → OpV) (o1 o2 : OpV) (w : World) (hO : OpsAt w sp n O) (hn : n ≤ 1048576) (ho : o1.a.size ≤ 1048576 ∧ o1.b.size ≤ 1048576 ∧ o2.a.size ≤ 1048576 ∧ o2.b.size ≤ 1048576) (hm : MaxLenAt w) (he : ErrType w) :
    Calls Tryz.prog 7 #[.slice sp n cap, .agg #[.int .i64 o1.kind, .string o1.a, .string o1.b], .agg #[.int .i64 o2.kind, .string o2.a, .string o2.b]] w fun e w' => e = .returned (.bool true) ∧ Chg [] w w' := by
  obtain ⟨wa, hwa⟩ : ∃ W, w.alloc (.cells #[.int .i64 o1.kind, .string o1.a, .string o1.b] 36) = W := ⟨_, rfl⟩
  obtain ⟨w0, hw0⟩ : ∃ W, wa.alloc (.cells #[.int .i64 o2.kind, .string o2.a, .string o2.b] 36) = W := ⟨_, rfl⟩
  have hCa : Chg [] w wa := by rw [← hwa]; exact (Chg.refl _ _).alloc _
  have HC0 := Asd.mk (show Chg [] w w0 by rw [← hw0]; exact hCa.alloc _)
  have hA1 : wa.heap[w.heap.size]? = some (.cells #[.int .i64 o1.kind, .string o1.a, .string o1.b] 36 (0, 0)) := by rw [← hwa]; exact hp_new _ _
  have hB1 : w0.heap[w.heap.size]? = some (.cells #[.int .i64 o1.kind, .string o1.a, .string o1.b] 36 (0, 0)) := (show Chg [] wa w0 by rw [← hw0]; exact (Chg.refl _ _).alloc _).heap hA1 (by simp)
  have hB2 : w0.heap[wa.heap.size]? = some (.cells #[.int .i64 o2.kind, .string o2.a, .string o2.b] 36 (0, 0)) := by rw [← hw0]; exact hp_new _ _
  have HB := Asd.mk (And.intro hB1 hB2)
  have HM := Asd.mk (hm.chg HC0.out)
  have HE := Asd.mk (he.chg HC0.out)
  have HO := Asd.mk (hO.chg HC0.out)
  have HZ := Asd.mk ho
  have HAp := Asd.mk (apart_calls o1.a o2.a w0 (by omega) (by omega))
  have H0 := Asd.mk (sysl_new 2147483647 1000 w0 w0 (Chg.refl _ _) (by omega) (by omega))
  have HW := Asd.mk (works_calls w0 HM.out HE.out)
  have b0 := cell_of_heap hB1 0
  have b1 := cell_of_heap hB1 1
  have e0 := cell_of_heap hB2 0
  have e1 := cell_of_heap hB2 1
  clear hm he hO hA1 hB1 hB2 hCa ho
  (go_enter Tryz.func7, Tryz.ntmps7)
  go_upto_region 1 with fail
  go_cut [34] from 19 to 34 (fun v34 wx => w0 = wx ∧ ∃ k : Bool, v34 = .bool k ∧ Asd (k = false → o1.kind < 4 ∧ o2.kind < 4 ∧ belowB o1.a o2.a = false ∧ belowB o2.a o1.a = false))
  case first =>
    by_cases h1 : 4 ≤ o1.kind
    · go_wp2_with fail
      go_meet
      case rel => exact ⟨rfl, true, rfl, ⟨fun h => by cases h⟩⟩
    · by_cases h2 : 4 ≤ o2.kind
      · go_wp2_with fail
        go_meet
        case rel => exact ⟨rfl, true, rfl, ⟨fun h => by cases h⟩⟩
      · go_wp2_with fail
        refine HAp.out.mono ?_
        rintro e w1 ⟨k, hk, rfl, rfl⟩
        have HK := Asd.mk hk
        have HH := Asd.mk (show o1.kind < 4 ∧ o2.kind < 4 by omega)
        clear hk HAp
        cases k with
        | true =>
          go_wp2
          go_meet
          case rel => exact ⟨rfl, false, rfl, ⟨fun _ => ⟨HH.out.1, HH.out.2, HK.out (by simp)⟩⟩⟩
        | false =>
          go_wp2
          go_meet
          case rel => exact ⟨rfl, true, rfl, ⟨fun h => by cases h⟩⟩
  case rest =>
    obtain ⟨rfl, k, rfl, HK⟩ := hcut
    clear HAp
    cases k with
    | true =>
      go_wp2_with fail
      refine HW.out.mono ?_
      rintro e w3 ⟨rfl, hC⟩
      have HC3 := Asd.mk (HC0.out.trans hC)
      clear hC
      go_wp2
      go_ret
      exact ⟨rfl, HC3.out⟩
    | false =>
      go_wp2_with fail
      refine H0.out.mono ?_
      rintro e w1 ⟨t, L1, rfl, hS, _, _⟩
      have HS := Asd.mk hS
      clear hS H0 HW b0 b1 e0 e1 hwa hw0
      go_wp2_with fail
      obtain ⟨BA, hBA⟩ : ∃ B, w.heap.size = B := ⟨_, rfl⟩
      obtain ⟨BB, hBB⟩ : ∃ B, wa.heap.size = B := ⟨_, rfl⟩
      rw [hBA] at HB ⊢
      rw [hBB] at HB ⊢
      clear hBA hBB
      go_loopg [9] 41 (fun gk v9 wx => ∃ (i : Nat) (L : List Nat) (fs : FS), i ≤ 40 ∧ gk = 41 - i ∧ v9 = .int .i64 (i : Int) ∧ Asd (SysL w0 wx L t fs 2147483647 1000) ∧ Asd (fs.length ≤ i ∧ usedF fs ≤ i * 2097152))
      case atStart => exact ⟨0, L1, [], by omega, rfl, rfl, HS, ⟨by simp, by simp [usedF]⟩⟩
      case round =>
        obtain ⟨i, L, fs, hi, rfl, rfl, HS, HG⟩ := hrel
        go_upto_region 7 with fail
        go_cut [53] from 46 to 53 (fun v53 wx => wr = wx ∧ ∃ c : Bool, v53 = .bool c ∧ Asd (c = true → i < n ∧ i < 40))
        case first =>
          by_cases h1 : i < n
          · have k1 : (i : Int) < (n : Int) := by omega
            by_cases h2 : i < 40
            · have k2 : (i : Int) < 40 := by omega
              go_wp2
              go_meet
              case rel => exact ⟨rfl, true, rfl, ⟨fun _ => ⟨h1, h2⟩⟩⟩
            · have k2 : ¬ (i : Int) < 40 := by omega
              go_wp2
              go_meet
              case rel => exact ⟨rfl, false, rfl, ⟨fun h => by cases h⟩⟩
          · have k1 : ¬ (i : Int) < (n : Int) := by omega
            go_wp2
            go_meet
            case rel => exact ⟨rfl, false, rfl, ⟨fun h => by cases h⟩⟩
        case rest =>
          obtain ⟨rfl, c, rfl, HRc⟩ := hcut
          cases c with
          | true =>
            obtain ⟨hin, hi40⟩ := HRc.out rfl
            obtain ⟨a, rfl, p0, p1, p2, z1, z2⟩ := (HO.out.chg HS.out.1) i hin
            have HD := Asd.mk (sysl_done (O i).kind (O i).a (O i).b HS.out HM.out (by omega) (by omega))
            have HG2 := Asd.mk (show (opF fs 2147483647 1000 ⟨(O i).kind, (O i).a, (O i).b⟩).2.length ≤ i + 1 ∧ usedF (opF fs 2147483647 1000 ⟨(O i).kind, (O i).a, (O i).b⟩).2 ≤ (i + 1) * 2097152 by
              have h1 := op_grow HS.out.2.1 2147483647 1000 ⟨(O i).kind, (O i).a, (O i).b⟩
              simp only at h1
              have := HG.out
              omega)
            have k1 : (i : Int) < (n : Int) := by omega
            have P012 := Asd.mk (show wr.cell? ((a.add (i * 3)).add 0) = some (.int .i64 (O i).kind) ∧ wr.cell? ((a.add (i * 3)).add 1) = some (.string (O i).a) ∧ wr.cell? ((a.add (i * 3)).add 2) = some (.string (O i).b) from ⟨by rw [Go.Deep.add_add]; exact p0, by rw [Go.Deep.add_add]; exact p1, by rw [Go.Deep.add_add]; exact p2⟩)
            clear p0 p1 p2 z1 z2 HRc HG
            go_wp2_with (refine wpList_load_op rfl (.tmp 59) rfl (a.add (i * 3)) rfl _ _ _ P012.out.1 P012.out.2.1 P012.out.2.2 ?_)
            refine HD.out.mono ?_
            rintro e w4 ⟨rfl, L', hS, _, _⟩
            have HS4 := Asd.mk hS
            clear hS HD HS P012
            go_wp2_with fail
            go_roundg (41 - (i + 1))
            case rel => exact ⟨i + 1, L', _, by omega, rfl, by go_num, HS4, HG2⟩
            case measure => omega
          | false =>
            clear HRc HO
            have HCl := Asd.mk (sysl_clone HS.out)
            go_wp2_with fail
            refine HCl.out.mono ?_
            rintro e w5 ⟨u, Lc, rfl, hU, hC, hLc⟩
            have HS5 := Asd.mk (HS.out.chg0 hC)
            have HU5 := Asd.mk hU
            have HDj := Asd.mk (show ∀ i ∈ L, i ∉ Lc from fun i hi h => by have := HS.out.lt i hi; have := hLc i h; omega)
            have HOp := Asd.mk (show _ from op_apart HS.out.2.1 HS.out.2.2.1 (o1 := o1) (o2 := o2) (by have := (HK.out (by simp)).1; omega) (by have := (HK.out (by simp)).2.1; omega) (HK.out (by simp)).2.2.1 (HK.out (by simp)).2.2.2 (by have := HG.out; omega) (by have := HG.out; have := HZ.out; omega))
            clear hU hC hLc HCl HS HG HK
            obtain ⟨R1, hR1⟩ : ∃ R, opF fs 2147483647 1000 o1 = R := ⟨_, rfl⟩
            obtain ⟨R2, hR2⟩ : ∃ R, opF fs 2147483647 1000 o2 = R := ⟨_, rfl⟩
            obtain ⟨Q1, hQ1⟩ : ∃ R, opF R1.2 2147483647 1000 o2 = R := ⟨_, rfl⟩
            obtain ⟨Q2, hQ2⟩ : ∃ R, opF R2.2 2147483647 1000 o1 = R := ⟨_, rfl⟩
            rw [hR1, hR2, hQ1, hQ2] at HOp
            have HRQ := Asd.mk (And.intro hR1 (And.intro hR2 (And.intro hQ1 hQ2)))
            clear hR1 hR2 hQ1 hQ2
            obtain ⟨ev1, hev1⟩ : ∃ ev, errV R1.1 = ev := ⟨_, rfl⟩
            obtain ⟨ev2, hev2⟩ : ∃ ev, errV R2.1 = ev := ⟨_, rfl⟩
            have HEv := Asd.mk (And.intro hev1 hev2)
            clear hev1 hev2
            have HB5 := Asd.mk (And.intro (HS5.out.1.heap HB.out.1 (by simp)) (HS5.out.1.heap HB.out.2 (by simp)))
            go_upto_region 13 with fail
            go_cut [11, 12] from 66 to 71 (fun v11 v12 wx => ev1 = v11 ∧ ev2 = v12 ∧ ∃ L', Asd (SysL w0 wx L' t Q1.2 2147483647 1000) ∧ Asd (SysL w0 wx Lc u fs 2147483647 1000) ∧ Asd (∀ i ∈ L', i ∉ Lc))
            case first =>
              have h1 := sysl_done o1.kind o1.a o1.b HS5.out.drew HM.out (by have := HZ.out; omega) (by have := HZ.out; omega)
              rw [HRQ.out.1, HEv.out.1] at h1
              have H1 := Asd.mk h1
              have H2 := Asd.mk (fun (W : World) (L' : List Nat) (hS : SysL w0 W L' t R1.2 2147483647 1000) => (by
                have h2 := sysl_done o2.kind o2.a o2.b hS HM.out (by have := HZ.out; omega) (by have := HZ.out; omega)
                rw [HRQ.out.2.2.1, HOp.out.1, HEv.out.2] at h2
                exact h2 : Calls Tryz.prog 12 #[(.pointer (some ⟨t, 0, none⟩)), .agg #[.int .i64 o2.kind, .string o2.a, .string o2.b]] W fun e w' => e = .returned ev2 ∧ ∃ L'', SysL w0 w' L'' t Q1.2 2147483647 1000 ∧ Chg L' W w' ∧ ∀ i ∈ L'', i ∈ L' ∨ W.heap.size ≤ i))
              have d0 := cell_of_heap HB5.out.1 0
              have d1 := cell_of_heap HB5.out.1 1
              have d2 := cell_of_heap HB5.out.1 2
              have d3 := cell_of_heap HB5.out.2 0
              have d4 := cell_of_heap HB5.out.2 1
              have d5 := cell_of_heap HB5.out.2 2
              clear h1
              go_region_with (first
                | (refine H1.out.mono ?_
                   rintro e w6 ⟨rfl, L', hS, hCL, hL'⟩
                   have HS6 := Asd.mk hS
                   have HU6 := Asd.mk (HU5.out.drew.chg hCL (fun i hi h => HDj.out i h hi) HS5.out.2.2.2.1)
                   have HD6 := Asd.mk (show ∀ i ∈ L', i ∉ Lc from fun i hi h => by
                     rcases hL' i hi with h1 | h1
                     · exact HDj.out i h1 h
                     · have := HU5.out.drew.lt i h; omega)
                   have HB6 := Asd.mk (And.intro (hS.1.heap HB.out.1 (by simp)) (hS.1.heap HB.out.2 (by simp)))
                   have d3' := cell_of_heap HB6.out.2 0
                   have d4' := cell_of_heap HB6.out.2 1
                   have d5' := cell_of_heap HB6.out.2 2
                   clear hS hCL hL' H1)
                | (refine (H2.out _ _ HS6.out).mono ?_
                   rintro e w7 ⟨rfl, L'', hS, hCL, hL'⟩
                   have HS7 := Asd.mk hS
                   have HU7 := Asd.mk (HU6.out.chg hCL (fun i hi h => HD6.out i h hi) HS6.out.2.2.2.1)
                   have HD7 := Asd.mk (show ∀ i ∈ L'', i ∉ Lc from fun i hi h => by
                     rcases hL' i hi with h1 | h1
                     · exact HD6.out i h1 h
                     · have := HU6.out.lt i h; omega)
                   clear hS hCL hL' H2))
              all_goals
                go_wp2_with fail
                go_meet
                case rel => exact ⟨rfl, rfl, _, HS7, HU7, HD7⟩
            case rest =>
              obtain ⟨rfl, rfl, L', HS6, HU6, HD6⟩ := hcut
              have HB6 := Asd.mk (And.intro (HS6.out.1.heap HB.out.1 (by simp)) (HS6.out.1.heap HB.out.2 (by simp)))
              clear HS5 HU5 HDj HB5
              go_upto_region 14 with fail
              go_cut [13, 14] from 72 to 77 (fun v13 v14 wx => ev2 = v13 ∧ ev1 = v14 ∧ ∃ Lc', Asd (SysL w0 wx L' t Q1.2 2147483647 1000) ∧ Asd (SysL w0 wx Lc' u Q2.2 2147483647 1000))
              case first =>
                have h1 := sysl_done o2.kind o2.a o2.b HU6.out.drew HM.out (by have := HZ.out; omega) (by have := HZ.out; omega)
                rw [HRQ.out.2.1, HEv.out.2] at h1
                have H1 := Asd.mk h1
                have H2 := Asd.mk (fun (W : World) (L' : List Nat) (hS : SysL w0 W L' u R2.2 2147483647 1000) => (by
                  have h2 := sysl_done o1.kind o1.a o1.b hS HM.out (by have := HZ.out; omega) (by have := HZ.out; omega)
                  rw [HRQ.out.2.2.2, HOp.out.2.1, HEv.out.1] at h2
                  exact h2 : Calls Tryz.prog 12 #[(.pointer (some ⟨u, 0, none⟩)), .agg #[.int .i64 o1.kind, .string o1.a, .string o1.b]] W fun e w' => e = .returned ev1 ∧ ∃ L'', SysL w0 w' L'' u Q2.2 2147483647 1000 ∧ Chg L' W w' ∧ ∀ i ∈ L'', i ∈ L' ∨ W.heap.size ≤ i))
                have d0 := cell_of_heap HB6.out.1 0
                have d1 := cell_of_heap HB6.out.1 1
                have d2 := cell_of_heap HB6.out.1 2
                have d3 := cell_of_heap HB6.out.2 0
                have d4 := cell_of_heap HB6.out.2 1
                have d5 := cell_of_heap HB6.out.2 2
                clear h1
                go_region_with (first
                  | (refine H1.out.mono ?_
                     rintro e w7 ⟨rfl, Lc', hS, hCL, hL'⟩
                     have HU7 := Asd.mk hS
                     have HS7 := Asd.mk (HS6.out.drew.chg hCL HD6.out HU6.out.2.2.2.1)
                     have HD7 := Asd.mk (show ∀ i ∈ L', i ∉ Lc' from fun i hi h => by
                       rcases hL' i h with h1 | h1
                       · exact HD6.out i hi h1
                       · have := HS6.out.drew.lt i hi; omega)
                     have HB7 := Asd.mk (And.intro (hS.1.heap HB.out.1 (by simp)) (hS.1.heap HB.out.2 (by simp)))
                     have d0' := cell_of_heap HB7.out.1 0
                     have d1' := cell_of_heap HB7.out.1 1
                     have d2' := cell_of_heap HB7.out.1 2
                     clear hS hCL hL' H1)
                  | (refine (H2.out _ _ HU7.out).mono ?_
                     rintro e w8 ⟨rfl, Lc'', hS, hCL, hL'⟩
                     have HU8 := Asd.mk hS
                     have HS8 := Asd.mk (HS7.out.chg hCL HD7.out HU7.out.2.2.2.1)
                     clear hS hCL hL' H2))
                all_goals
                  go_wp2_with fail
                  go_meet
                  case rel => exact ⟨rfl, rfl, _, HS8, HU8⟩
              case rest =>
                obtain ⟨rfl, rfl, Lc', HS7, HU7⟩ := hcut
                clear HS6 HU6 HD6 HB6
                have HT1 := Asd.mk (sysl_tree HS7.out HM.out)
                go_wp2_with fail
                refine HT1.out.mono ?_
                rintro e w8 ⟨⟨v1, rfl, hR1⟩, hC⟩
                have HR1 := Asd.mk hR1
                have HU8 := Asd.mk (HU7.out.chg0 hC)
                have HT2 := Asd.mk (sysl_tree HU8.out HM.out)
                have HNz := Asd.mk (show (treeF Q1.2 []).length ≤ 16777216 from by
                  have h1 := tree_count HS7.out.2.1
                  have h2 := HS7.out.2.2.1.count
                  unfold treeF0 at h1
                  show (treeL Q1.2 65 []).length ≤ _
                  omega)
                clear hR1 hC HT1 HU7 HS7
                go_wp2_with fail
                refine HT2.out.mono ?_
                rintro e w9 ⟨⟨v2, rfl, hR2⟩, hC⟩
                have HR1' := Asd.mk (own_off HR1.out hC (fun _ _ => by simp))
                rw [show treeF Q2.2 [] = treeF Q1.2 [] from HOp.out.2.2.tree.symm] at hR2
                have HR2 := Asd.mk hR2
                have HC9 := Asd.mk (HU8.out.1.trans hC)
                have HN1 := Asd.mk (fun W (hW : Chg [] w0 W) => (by
                  have h := num_ev R1.1 W (HE.out.chg hW)
                  rw [HEv.out.1] at h
                  exact h : Calls Tryz.prog 18 #[ev1] W fun e w' => e = .returned (.int .i64 (R1.1 : Int)) ∧ Chg [] W w'))
                have HN2 := Asd.mk (fun W (hW : Chg [] w0 W) => (by
                  have h := num_ev R2.1 W (HE.out.chg hW)
                  rw [HEv.out.2] at h
                  exact h : Calls Tryz.prog 18 #[ev2] W fun e w' => e = .returned (.int .i64 (R2.1 : Int)) ∧ Chg [] W w'))
                obtain ⟨E, hE⟩ : ∃ E, treeF Q1.2 [] = E := ⟨_, rfl⟩
                rw [hE] at HR1' HR2 HNz
                obtain ⟨n1, hn1⟩ : ∃ n, (R1.1 : Int) = n := ⟨_, rfl⟩
                obtain ⟨n2, hn2⟩ : ∃ n, (R2.1 : Int) = n := ⟨_, rfl⟩
                rw [hn1] at HN1
                rw [hn2] at HN2
                clear hR2 hC HT2 HU8 HR1 HOp HRQ HEv hE hn1 hn2
                go_wp2_with fail
                refine (HN1.out _ HC9.out).mono ?_
                rintro e w10 ⟨rfl, hC⟩
                have HC10 := Asd.mk (And.intro hC (HC9.out.trans hC))
                clear hC
                go_wp2_with fail
                refine (HN1.out _ HC10.out.2).mono ?_
                rintro e w11 ⟨rfl, hC⟩
                have HC11 := Asd.mk (And.intro (HC10.out.1.trans hC) (HC10.out.2.trans hC))
                clear hC HC10
                go_wp2_with fail
                refine (HN2.out _ HC11.out.2).mono ?_
                rintro e w12 ⟨rfl, hC⟩
                have HC12 := Asd.mk (And.intro (HC11.out.1.trans hC) (HC11.out.2.trans hC))
                clear hC HC11
                go_wp2_with fail
                refine (HN2.out _ HC12.out.2).mono ?_
                rintro e w13 ⟨rfl, hC⟩
                have HC13 := Asd.mk (And.intro (HC12.out.1.trans hC) (HC12.out.2.trans hC))
                have HSm := Asd.mk (same_ents (entL_of_own (own_off HR1'.out HC13.out.1 (fun _ _ => by simp))) (entL_of_own (own_off HR2.out HC13.out.1 (fun _ _ => by simp))) HNz.out)
                clear hC HC12 HR1' HR2 HNz
                go_wp2_with fail
                refine HSm.out.mono ?_
                rintro e w14 ⟨rfl, hC⟩
                have HC14 := Asd.mk (HC13.out.2.trans hC)
                clear hC HC13 HSm
                go_wp2_with fail
                refine (works_calls _ (HM.out.chg HC14.out) (HE.out.chg HC14.out)).mono ?_
                rintro e w15 ⟨rfl, hC⟩
                have HC15 := Asd.mk (HC0.out.trans (HC14.out.trans hC))
                clear hC HC14
                go_wp2
                go_ret
                refine ⟨?_, ?_⟩
                · rfl
                · exact HC15.out
end Go.Proofs.YtiijbecklkccfaaGreatDoor.I
/- The law's Done: a call on the reference's. -/
namespace Go.Proofs.YtiijbecklkccfaaGreatDoor.I
open Go.RowKit Go.Proofs.YtiijbecklkccfaaGreatDoor.B Go.Sort
set_option linter.unusedVariables false
variable {w : World} {K : Nat} {v : Value} {G : FS} {bb nn : Nat}
theorem own_lt {w : World} {b z n : Nat} {t : TypeId} {v : Value} {xs : List Value} (h : w.ownsRow b t z v n xs) {g : Nat} (hg : v.ownBlock = some g) : g < w.heap.size := by
  obtain ⟨_, cur, hc⟩ := own_block h hg
  exact lt_of_heap hc
theorem post_up {w w0 W : World} {R : Nat × FS} {e : Ending} (h : RAt w K v G bb nn) (hC : Chg [] w w0) (hp : RPost w0 K v bb nn R e W) {B : Nat} (hB : w.heap.size ≤ B) (hB2 : B < w0.heap.size) :
    ∃ v', e = .returned (.tuple #[.agg #[v', .int .i64 (bb : Int), .int .i64 (nn : Int)], .int .i64 (R.1 : Int)]) ∧ (#[v', .int .i64 (bb : Int), .int .i64 (nn : Int)]).all (·.oneCell') = true ∧ RPost w K v bb nn R (.returned (.tuple #[.agg #[v', .int .i64 (bb : Int), .int .i64 (nn : Int)], .int .i64 (R.1 : Int)])) (W.setRow B #[v', .int .i64 (bb : Int), .int .i64 (nn : Int)]) ∧ Chg [] w0 W := by
  obtain ⟨v', G', rfl, hR, hE, hC2, hv⟩ := hp
  refine ⟨v', rfl, one_tabv hR _ _, ⟨v', G', rfl, ?_, hE, (hC.trans hC2).setRow (fun h => absurd h (by omega)) _, ?_⟩, hC2⟩
  · refine own_off hR ((Chg.refl [B] W).setRow (fun _ => by simp) _) (fun g hg => ?_)
    rw [List.mem_singleton]
    rcases hv with rfl | hv
    · have := own_lt h.row hg
      omega
    · have := hv g hg
      omega
  · rcases hv with rfl | hv
    · exact .inl rfl
    · exact .inr fun g hg => by have := hv g hg; have := hC.size; omega
set_option maxRecDepth 100000 in
set_option maxHeartbeats 16000000 in
theorem done20_calls (h : RAt w K v G bb nn) (hK : K ≤ w.heap.size) (k : Int) (a b : ByteArray) (ha : a.size ≤ 1048576) (hb : b.size ≤ 1048576) :
    Calls Tryz.prog 22 #[.agg #[v, .int .i64 (bb : Int), .int .i64 (nn : Int)], .agg #[.int .i64 k, .string a, .string b]] w fun e w' => RPost w K v bb nn (opF G bb nn ⟨k, a, b⟩) e w' := by
  obtain ⟨wa, hwa, hCa, hA1⟩ := start1 w #[v, .int .i64 (bb : Int), .int .i64 (nn : Int)] 56
  obtain ⟨wb, hwb, hCb, hA2⟩ := start1 wa #[.int .i64 k, .string a, .string b] 36
  obtain ⟨w0, hw0, hCc, hA3⟩ := start1 wb #[.slice none 0 0, .int .i64 0, .int .i64 0] 56
  have HC := Asd.mk ((hCa.trans hCb).trans hCc)
  have HB := Asd.mk (And.intro (hCc.heap (hCb.heap hA1 (by simp)) (by simp)) hA3)
  have hO := hCc.heap hA2 (by simp)
  have HR := Asd.mk h
  have HR0 := Asd.mk (h.chg HC.out)
  have HK0 := Asd.mk (Nat.le_trans hK HC.out.size)
  have HDw := Asd.mk (show w.heap.size ≤ wb.heap.size ∧ wb.heap.size < w0.heap.size from ⟨(hCa.trans hCb).size, lt_of_heap hA3⟩)
  have b0 := cell_of_heap HB.out.1 0
  have b1 := cell_of_heap HB.out.1 1
  have b2 := cell_of_heap HB.out.1 2
  have e0 := cell_of_heap hO 0
  have e1 := cell_of_heap hO 1
  have e2 := cell_of_heap hO 2
  clear h hCa hCb hCc hA1 hA2 hA3 hO
  obtain ⟨R, hR⟩ : ∃ R, opF G bb nn ⟨k, a, b⟩ = R := ⟨_, rfl⟩
  rw [hR]
  unfold opF at hR
  simp only at hR
  by_cases q1 : k = 1
  · rw [if_pos q1] at hR
    have HM := Asd.mk (make20_calls HR0.out HK0.out a ha)
    rw [hR] at HM
    subst q1
    clear hR
    (go_enter Tryz.func22, Tryz.ntmps22)
    go_wp2_with fail; refine HM.out.mono ?_; rintro e w1 hp; obtain ⟨v', rfl, h1, hP, hC⟩ := post_up HR.out HC.out hp HDw.out.1 HDw.out.2; have HP := Asd.mk hP; have H1 := Asd.mk h1; have HZ := Asd.mk (hC.heap HB.out.2 (by simp)); clear hp h1 hP hC HM b0 b1 b2 e0 e1 e2 hwa hwb hw0; go_wp2_with (first | (refine wpList_store_row (o := ⟨none, _, _, _, _, _⟩) rfl 56 (.tmp 4) (.tmp 14) rfl wb.heap.size _ rfl rfl 56 _ HZ.out (size_tab _ _ _) rfl H1.out ?_)); refine bodyPost_ret (results_row_tmp rfl _ _ wb.heap.size 56 _ (0, 0) _ rfl (setRow_heap _ _ _ _ _ _ HZ.out) Tryz.underlying56 rfl (size_tab _ _ _)) rfl ?_; exact HP.out
  · rw [if_neg q1] at hR
    by_cases q2 : k = 2
    · rw [if_pos q2] at hR
      have HM := Asd.mk (create20_calls HR0.out HK0.out a ha)
      rw [hR] at HM
      subst q2
      clear hR
      (go_enter Tryz.func22, Tryz.ntmps22)
      go_wp2_with fail; refine HM.out.mono ?_; rintro e w1 hp; obtain ⟨v', rfl, h1, hP, hC⟩ := post_up HR.out HC.out hp HDw.out.1 HDw.out.2; have HP := Asd.mk hP; have H1 := Asd.mk h1; have HZ := Asd.mk (hC.heap HB.out.2 (by simp)); clear hp h1 hP hC HM b0 b1 b2 e0 e1 e2 hwa hwb hw0; go_wp2_with (first | (refine wpList_store_row (o := ⟨none, _, _, _, _, _⟩) rfl 56 (.tmp 4) (.tmp 22) rfl wb.heap.size _ rfl rfl 56 _ HZ.out (size_tab _ _ _) rfl H1.out ?_)); refine bodyPost_ret (results_row_tmp rfl _ _ wb.heap.size 56 _ (0, 0) _ rfl (setRow_heap _ _ _ _ _ _ HZ.out) Tryz.underlying56 rfl (size_tab _ _ _)) rfl ?_; exact HP.out
    · rw [if_neg q2] at hR
      by_cases q3 : k = 3
      · rw [if_pos q3] at hR
        have HM := Asd.mk (append20_calls HR0.out HK0.out a b ha hb)
        rw [hR] at HM
        subst q3
        clear hR
        (go_enter Tryz.func22, Tryz.ntmps22)
        go_wp2_with fail; refine HM.out.mono ?_; rintro e w1 hp; obtain ⟨v', rfl, h1, hP, hC⟩ := post_up HR.out HC.out hp HDw.out.1 HDw.out.2; have HP := Asd.mk hP; have H1 := Asd.mk h1; have HZ := Asd.mk (hC.heap HB.out.2 (by simp)); clear hp h1 hP hC HM b0 b1 b2 e0 e1 e2 hwa hwb hw0; go_wp2_with (first | (refine wpList_store_row (o := ⟨none, _, _, _, _, _⟩) rfl 56 (.tmp 4) (.tmp 32) rfl wb.heap.size _ rfl rfl 56 _ HZ.out (size_tab _ _ _) rfl H1.out ?_)); refine bodyPost_ret (results_row_tmp rfl _ _ wb.heap.size 56 _ (0, 0) _ rfl (setRow_heap _ _ _ _ _ _ HZ.out) Tryz.underlying56 rfl (size_tab _ _ _)) rfl ?_; exact HP.out
      · rw [if_neg q3] at hR
        by_cases q4 : k = 4
        · rw [if_pos q4] at hR
          have HM := Asd.mk (link20_calls HR0.out HK0.out a b ha hb)
          rw [hR] at HM
          subst q4
          clear hR
          (go_enter Tryz.func22, Tryz.ntmps22)
          go_wp2_with fail; refine HM.out.mono ?_; rintro e w1 hp; obtain ⟨v', rfl, h1, hP, hC⟩ := post_up HR.out HC.out hp HDw.out.1 HDw.out.2; have HP := Asd.mk hP; have H1 := Asd.mk h1; have HZ := Asd.mk (hC.heap HB.out.2 (by simp)); clear hp h1 hP hC HM b0 b1 b2 e0 e1 e2 hwa hwb hw0; go_wp2_with (first | (refine wpList_store_row (o := ⟨none, _, _, _, _, _⟩) rfl 56 (.tmp 4) (.tmp 42) rfl wb.heap.size _ rfl rfl 56 _ HZ.out (size_tab _ _ _) rfl H1.out ?_)); refine bodyPost_ret (results_row_tmp rfl _ _ wb.heap.size 56 _ (0, 0) _ rfl (setRow_heap _ _ _ _ _ _ HZ.out) Tryz.underlying56 rfl (size_tab _ _ _)) rfl ?_; exact HP.out
        · rw [if_neg q4] at hR
          by_cases q5 : k = 5
          · rw [if_pos q5] at hR
            have HM := Asd.mk (rename20_calls HR0.out HK0.out a b ha hb)
            rw [hR] at HM
            subst q5
            clear hR
            (go_enter Tryz.func22, Tryz.ntmps22)
            go_wp2_with fail; refine HM.out.mono ?_; rintro e w1 hp; obtain ⟨v', rfl, h1, hP, hC⟩ := post_up HR.out HC.out hp HDw.out.1 HDw.out.2; have HP := Asd.mk hP; have H1 := Asd.mk h1; have HZ := Asd.mk (hC.heap HB.out.2 (by simp)); clear hp h1 hP hC HM b0 b1 b2 e0 e1 e2 hwa hwb hw0; go_wp2_with (first | (refine wpList_store_row (o := ⟨none, _, _, _, _, _⟩) rfl 56 (.tmp 4) (.tmp 52) rfl wb.heap.size _ rfl rfl 56 _ HZ.out (size_tab _ _ _) rfl H1.out ?_)); refine bodyPost_ret (results_row_tmp rfl _ _ wb.heap.size 56 _ (0, 0) _ rfl (setRow_heap _ _ _ _ _ _ HZ.out) Tryz.underlying56 rfl (size_tab _ _ _)) rfl ?_; exact HP.out
          · rw [if_neg q5] at hR
            have HM := Asd.mk (remove20_calls HR0.out HK0.out a ha)
            rw [hR] at HM
            clear hR
            (go_enter Tryz.func22, Tryz.ntmps22)
            go_wp2_with fail; refine HM.out.mono ?_; rintro e w1 hp; obtain ⟨v', rfl, h1, hP, hC⟩ := post_up HR.out HC.out hp HDw.out.1 HDw.out.2; have HP := Asd.mk hP; have H1 := Asd.mk h1; have HZ := Asd.mk (hC.heap HB.out.2 (by simp)); clear hp h1 hP hC HM b0 b1 b2 e0 e1 e2 hwa hwb hw0; go_wp2_with (first | (refine wpList_store_row (o := ⟨none, _, _, _, _, _⟩) rfl 56 (.tmp 4) (.tmp 58) rfl wb.heap.size _ rfl rfl 56 _ HZ.out (size_tab _ _ _) rfl H1.out ?_)); refine bodyPost_ret (results_row_tmp rfl _ _ wb.heap.size 56 _ (0, 0) _ rfl (setRow_heap _ _ _ _ _ _ HZ.out) Tryz.underlying56 rfl (size_tab _ _ _)) rfl ?_; exact HP.out
end Go.Proofs.YtiijbecklkccfaaGreatDoor.I
/- The law's alike and begun. -/
namespace Go.Proofs.YtiijbecklkccfaaGreatDoor.I
open Go.RowKit Go.Proofs.YtiijbecklkccfaaGreatDoor.B Go.Sort
set_option linter.unusedVariables false
variable {w W : World} {L : List Nat} {t : Nat} {fs G : FS} {bb nn K : Nat} {v : Value}
theorem sysl_used (h : SysL w W L t fs bb nn) : Calls Tryz.prog 13 #[(.pointer (some ⟨t, 0, none⟩))] W fun e w' => e = .returned (.tuple #[.int .i64 (usedF fs : Int), .int .i64 (fs.length : Int)]) ∧ Chg [] W w' := by
  obtain ⟨_, _, _, _, A, M, hT⟩ := h
  exact used_calls L t fs bb nn A M W hT
set_option maxRecDepth 100000 in
set_option maxHeartbeats 16000000 in
theorem alike20_calls (hS : SysL w W L t fs bb nn) (hR : RAt W K v G bb nn) (hQ : Eqv fs G) (hm : MaxLenAt w) (he : ErrType w) :
    Calls Tryz.prog 23 #[(.pointer (some ⟨t, 0, none⟩)), .agg #[v, .int .i64 (bb : Int), .int .i64 (nn : Int)]] W fun e w' => e = .returned (.bool true) ∧ Chg [] W w' := by
  obtain ⟨w1, hw1, hC, hB⟩ := start1 W #[v, .int .i64 (bb : Int), .int .i64 (nn : Int)] 56
  have HC1 := Asd.mk hC
  have HB1 := Asd.mk hB
  have HS := Asd.mk hS
  have HR := Asd.mk hR
  have HM := Asd.mk hm
  have HE := Asd.mk he
  have HQ := Asd.mk hQ
  have HT1 := Asd.mk (sysl_tree (hS.chg0 hC) hm)
  have HT2 := Asd.mk (fun W' (hW : Chg [] W W') => (by
    have h := treetop20_calls (hR.chg hW) ⟨#[]⟩ (by decide)
    rw [there_root hR.ok] at h
    exact h : Calls Tryz.prog 49 #[.agg #[v, .int .i64 (bb : Int), .int .i64 (nn : Int)], .string ⟨#[]⟩] W' fun e w' => TreeR W' G (.ok []) e w' ∧ Chg [] W' w'))
  have HU1 := Asd.mk (fun W' (hW : Chg [] W W') => (by
    have h := sysl_used (hS.chg0 hW)
    rw [hQ.used, hQ.len] at h
    exact h : Calls Tryz.prog 13 #[(.pointer (some ⟨t, 0, none⟩))] W' fun e w' => e = .returned (.tuple #[.int .i64 (usedF G : Int), .int .i64 (G.length : Int)]) ∧ Chg [] W' w'))
  have HU2 := Asd.mk (fun W' (hW : Chg [] W W') => usedA (hR.chg hW))
  have HNz := Asd.mk (show (treeL G 65 []).length ≤ 16777216 by
    have := treeL_len hR.ok (m := 65) (p := []) (by rw [at_root]; simp)
    have := hR.num
    omega)
  have HTe := Asd.mk (show treeF fs [] = treeL G 65 [] from hQ.tree)
  clear hC hB hS hR hQ hm he
  (go_enter Tryz.func23, Tryz.ntmps23)
  go_wp2_with fail
  refine HT1.out.mono ?_
  rintro e w2 ⟨⟨v1, rfl, hR1⟩, hC⟩
  rw [HTe.out] at hR1
  have HC2 := Asd.mk (HC1.out.trans hC)
  have HB2 := Asd.mk (hC.heap HB1.out (by simp))
  have HR1 := Asd.mk hR1
  have b0 := cell_of_heap HB2.out 0
  have b1 := cell_of_heap HB2.out 1
  have b2 := cell_of_heap HB2.out 2
  clear hC hR1 HT1 HB1 HC1 hw1
  go_wp2_with fail
  refine (HT2.out _ HC2.out).mono ?_
  rintro e w3 ⟨⟨v2, rfl, hR2⟩, hC⟩
  have HC3 := Asd.mk (HC2.out.trans hC)
  have HB3 := Asd.mk (hC.heap HB2.out (by simp))
  have HR13 := Asd.mk (own_off HR1.out hC (fun _ _ => by simp))
  have HR2 := Asd.mk hR2
  clear hC hR2 HT2 HB2 HC2 HR1 b0 b1 b2
  go_wp2_with fail
  refine (HU1.out _ HC3.out).mono ?_
  rintro e w4 ⟨rfl, hC⟩
  have HC4 := Asd.mk (HC3.out.trans hC)
  have HB4 := Asd.mk (hC.heap HB3.out (by simp))
  have HR14 := Asd.mk (own_off HR13.out hC (fun _ _ => by simp))
  have HR24 := Asd.mk (own_off HR2.out hC (fun _ _ => by simp))
  have b0 := cell_of_heap HB4.out 0
  have b1 := cell_of_heap HB4.out 1
  have b2 := cell_of_heap HB4.out 2
  clear hC HU1 HB3 HC3 HR13 HR2
  go_wp2_with fail
  refine (HU2.out _ HC4.out).mono ?_
  rintro e w5 ⟨rfl, hC⟩
  have HC5 := Asd.mk (HC4.out.trans hC)
  have HSm := Asd.mk (same_ents (entL_of_own (own_off HR14.out hC (fun _ _ => by simp))) (entL_of_own (own_off HR24.out hC (fun _ _ => by simp))) HNz.out)
  clear hC HU2 HB4 HC4 HR14 HR24 b0 b1 b2
  go_wp2_with fail
  refine HSm.out.mono ?_
  rintro e w6 ⟨rfl, hC⟩
  have HC6 := Asd.mk (HC5.out.trans hC)
  clear hC HSm HC5
  go_wp2_with fail
  refine (num_nil _).mono ?_
  rintro e w7 ⟨rfl, hw⟩
  have hw' := hw.symm
  subst hw'
  clear hw
  go_wp2
  go_ret
  exact ⟨rfl, HC6.out⟩
end Go.Proofs.YtiijbecklkccfaaGreatDoor.I
