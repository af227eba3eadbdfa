/- The law InodeKeeps: the walk. -/
import Derived.Test.YtiijbecklkccfaaGreatDoorOw13
import Derived.Test.YtiijbecklkccfaaGreatDoorOw14
namespace Go.Proofs.YtiijbecklkccfaaGreatDoor.I
open Go.RowKit Go.Proofs.YtiijbecklkccfaaGreatDoor.B Go.Sort
set_option linter.unusedVariables false
set_option maxRecDepth 100000 in
set_option maxHeartbeats 16000000 in
theorem keeps_bad (bb nn : Int) (sp : Option Addr) (n cap : Nat) (w : World) (hm : MaxLenAt w) (he : ErrType w) (hb : bb < 0 ∨ 2147483647 < bb ∨ nn < 0 ∨ 65536 < nn) :
    Calls Tryz.prog 3 #[.agg #[.int .i64 bb, .int .i64 nn], .slice sp n cap] w fun e w' => e = .returned (.bool true) ∧ Chg [] w w' := by
  have HC := Asd.mk (show Chg [] w (w.alloc (.cells #[.int .i64 bb, .int .i64 nn] 23)) from (Chg.refl _ _).alloc _)
  have hB := hp_new w (.cells #[.int .i64 bb, .int .i64 nn] 23)
  have b0 := cell_of_heap hB 0
  have b1 := cell_of_heap hB 1
  have HN := Asd.mk (new_bad bb nn (w.alloc (.cells #[.int .i64 bb, .int .i64 nn] 23)) hb)
  have HM := Asd.mk hm
  have HE := Asd.mk he
  clear hB hm he hb
  (go_enter Tryz.func3, Tryz.ntmps3)
  go_wp2_with fail
  refine HN.out.mono ?_
  rintro e w1 ⟨rfl, hC⟩
  have HC1 := Asd.mk (HC.out.trans hC)
  clear hC HN
  go_wp2_with fail
  refine (works_calls w1 (HM.out.chg HC1.out) (HE.out.chg HC1.out)).mono ?_
  rintro e w2 ⟨rfl, hC⟩
  have HC2 := Asd.mk (HC1.out.trans hC)
  clear hC HC1
  go_wp2
  go_ret
  exact ⟨rfl, HC2.out⟩
/-- The sum of the texts of the first entries. -/
def sumT (E : List Ent) (k : Nat) : Nat := ((E.take k).map fun x => x.2.2.size).sum
theorem sumT_next {E : List Ent} {k : Nat} (hk : k < E.length) : sumT E (k + 1) = sumT E k + (E[k]'hk).2.2.size := by
  unfold sumT
  rw [List.take_succ_eq_append_getElem hk, List.map_append, List.sum_append]
  simp
theorem sumT_le (E : List Ent) (k : Nat) : sumT E k ≤ (E.map fun x => x.2.2.size).sum := by
  unfold sumT
  conv => rhs; rw [← List.take_append_drop k E]
  rw [List.map_append, List.sum_append]
  omega
theorem parts_any {p : Pth} (h : okP p) : partsF (tx p) = .ok p := by
  by_cases hp : p = []
  · subst hp; rfl
  · exact parts_tx hp h
theorem entL_cells {w : World} {A : Option Addr} {n c : Nat} {E : List Ent} (h : EntL w (.slice A n c) E) {i : Nat} (hi : i < E.length) : ∃ g, A = some ⟨g, 0, none⟩ ∧ ∀ k (hk : k < E.length),
    w.cell? ⟨g, k * 3, none⟩ = some (.string (E[k]'hk).1) ∧ w.cell? ⟨g, k * 3 + 1, none⟩ = some (.int .i64 ((E[k]'hk).2.1 : Int)) ∧ w.cell? ⟨g, k * 3 + 2, none⟩ = some (.string (E[k]'hk).2.2) := by
  obtain ⟨A', c', hv, h1⟩ := h
  have e : A = A' := by simp only [Value.slice.injEq] at hv; exact hv.1
  subst e
  obtain ⟨g, hg, _⟩ := h1 i hi
  refine ⟨g, hg, fun k hk => ?_⟩
  obtain ⟨g', hg', h2⟩ := h1 k hk
  have : g' = g := by rw [hg] at hg'; cases hg'; rfl
  subst this
  exact h2
set_option maxRecDepth 100000 in
set_option maxHeartbeats 32000000 in
theorem keeps_ok (bb nn : Nat) (sp : Option Addr) (n cap : Nat) (O : Nat → OpV) (w : World) (hO : OpsAt w sp n O) (hn : n ≤ 1048576) (hm : MaxLenAt w) (he : ErrType w) (hbb : bb ≤ 2147483647) (hnn : nn ≤ 65536) :
    Calls Tryz.prog 3 #[.agg #[.int .i64 (bb : Int), .int .i64 (nn : Int)], .slice sp n cap] w fun e w' => e = .returned (.bool true) ∧ Chg [] w w' := by
  obtain ⟨w0, hw0⟩ : ∃ W, w.alloc (.cells #[.int .i64 (bb : Int), .int .i64 (nn : Int)] 23) = W := ⟨_, rfl⟩
  have HC0 := Asd.mk (show Chg [] w w0 by rw [← hw0]; exact (Chg.refl _ _).alloc _)
  have hB : w0.heap[w.heap.size]? = some (.cells #[.int .i64 (bb : Int), .int .i64 (nn : Int)] 23 (0, 0)) := by rw [← hw0]; exact hp_new _ _
  have HB := Asd.mk hB
  have HM := Asd.mk (hm.chg HC0.out)
  have HE := Asd.mk (he.chg HC0.out)
  have HO := Asd.mk (hO.chg HC0.out)
  have H0 := Asd.mk (sysl_new bb nn w0 w0 (Chg.refl _ _) hbb hnn)
  have b0 := cell_of_heap hB 0
  have b1 := cell_of_heap hB 1
  clear hm he hO hB
  (go_enter Tryz.func3, Tryz.ntmps3)
  go_wp2_with fail
  refine H0.out.mono ?_
  rintro e w1 ⟨t, L1, rfl, hS, _, _⟩
  have HS := Asd.mk hS
  have HT := Asd.mk (sysl_tree hS HM.out)
  clear hS H0 b0 b1 hw0
  go_wp2_with fail
  refine HT.out.mono ?_
  rintro e w2 ⟨⟨v, rfl, hR⟩, hC⟩
  have HS2 := Asd.mk (HS.out.chg0 hC)
  have HR := Asd.mk (show (∃ b, RowE w2 b v (treeF [] []) ∧ w0.heap.size ≤ b) ∧ Off v L1 from ⟨⟨_, hR, HS.out.1.size⟩, off_new hR HS.out.lt⟩)
  clear hR hC HT HS
  go_wp2_with fail
  go_loopg [7, 9] 61 (fun gk v7 v9 wx => ∃ (i : Nat) (L : List Nat) (fs : FS), i ≤ 60 ∧ gk = 61 - i ∧ v9 = .int .i64 (i : Int) ∧ Asd (SysL w0 wx L t fs bb nn) ∧ Asd ((∃ b, RowE wx b v7 (treeF fs []) ∧ w0.heap.size ≤ b) ∧ Off v7 L))
  case atStart => exact ⟨0, L1, [], by omega, rfl, rfl, HS2, HR⟩
  case round =>
    obtain ⟨i, L, fs, hi, rfl, rfl, HS, HR⟩ := hrel
    go_upto_region 8 with fail
    go_cut [48] from 41 to 48 (fun v48 wx => wr = wx ∧ ∃ c : Bool, v48 = .bool c ∧ Asd (c = true → i < n ∧ i < 60))
    case first =>
      by_cases h1 : i < n
      · have k1 : (i : Int) < (n : Int) := by omega
        by_cases h2 : i < 60
        · have k2 : (i : Int) < 60 := by omega
          go_wp2
          go_meet
          case rel => exact ⟨rfl, true, rfl, ⟨fun _ => ⟨h1, h2⟩⟩⟩
        · have k2 : ¬ (i : Int) < 60 := by omega
          go_wp2
          go_meet
          case rel => exact ⟨rfl, false, rfl, ⟨fun h => by cases h⟩⟩
      · have k1 : ¬ (i : Int) < (n : Int) := by omega
        go_wp2
        go_meet
        case rel => exact ⟨rfl, false, rfl, ⟨fun h => by cases h⟩⟩
    case rest =>
      obtain ⟨rfl, c, rfl, HRc⟩ := hcut
      cases c with
      | true =>
        obtain ⟨hin, hi40⟩ := HRc.out rfl
        obtain ⟨a, rfl, o0, o1, o2, z1, z2⟩ := (HO.out.chg HS.out.1) i hin
        obtain ⟨R, hR⟩ : ∃ R, opF fs bb nn ⟨(O i).kind, (O i).a, (O i).b⟩ = R := ⟨_, rfl⟩
        have hD := sysl_done (O i).kind (O i).a (O i).b HS.out HM.out (by omega) (by omega)
        rw [hR] at hD
        have HD := Asd.mk hD
        have HErr := Asd.mk (show R.1 ≠ 0 → R.2 = fs from fun h => by rw [← hR] at h ⊢; exact opF_err h)
        have k1 : (i : Int) < (n : Int) := by omega
        have P012 := Asd.mk (show wr.cell? ((a.add (i * 3)).add 0) = some (.int .i64 (O i).kind) ∧ wr.cell? ((a.add (i * 3)).add 1) = some (.string (O i).a) ∧ wr.cell? ((a.add (i * 3)).add 2) = some (.string (O i).b) from ⟨by rw [Go.Deep.add_add]; exact o0, by rw [Go.Deep.add_add]; exact o1, by rw [Go.Deep.add_add]; exact o2⟩)
        clear o0 o1 o2 z1 z2 HRc hD hR
        go_wp2_with (refine wpList_load_op rfl (.tmp 54) rfl (a.add (i * 3)) rfl _ _ _ P012.out.1 P012.out.2.1 P012.out.2.2 ?_)
        refine HD.out.mono ?_
        rintro e w4 ⟨he, L', hS, hCL, hL'⟩
        obtain ⟨ev, hev⟩ : ∃ ev, errV R.1 = ev := ⟨_, rfl⟩
        rw [hev] at he
        subst he
        have HEv := Asd.mk (show (R.1 = 0 ∧ ev = .nilIface) ∨ (R.1 ≠ 0 ∧ ∃ q, ev = .iface 71 q) by
          by_cases hz : R.1 = 0
          · exact .inl ⟨hz, by rw [← hev, hz]; rfl⟩
          · exact .inr ⟨hz, _, by rw [← hev]; unfold errV; rw [if_neg hz]⟩)
        clear hev
        have HS4 := Asd.mk hS
        obtain ⟨⟨b, hRw, hb⟩, hOff⟩ := HR.out
        have HR4 := Asd.mk (show (∃ b, RowE w4 b _ (treeF fs []) ∧ w0.heap.size ≤ b) ∧ Off _ L' from ⟨⟨b, own_off hRw hCL hOff, hb⟩, off_next hRw hOff hL'⟩)
        have HT := Asd.mk (sysl_tree hS HM.out)
        clear hS hCL hL' HD HS P012 HR hRw hb hOff
        go_wp2_with fail
        refine HT.out.mono ?_
        rintro e w5 ⟨⟨v5, rfl, hR5⟩, hC⟩
        have HS5 := Asd.mk (HS4.out.chg0 hC)
        obtain ⟨⟨b, hRw, hb⟩, hOff⟩ := HR4.out
        have HR5 := Asd.mk (own_off hRw hC (fun _ _ => by simp))
        have HN5 := Asd.mk (show (∃ b, RowE w5 b v5 (treeF R.2 []) ∧ w0.heap.size ≤ b) ∧ Off v5 L' from ⟨⟨_, hR5, HS4.out.1.size⟩, off_new hR5 HS4.out.lt⟩)
        have HU := Asd.mk (show Calls Tryz.prog 13 #[(.pointer (some ⟨t, 0, none⟩))] w5 fun e w' => e = .returned (.tuple #[.int .i64 (usedF R.2 : Int), .int .i64 (R.2.length : Int)]) ∧ Chg [] w5 w' by
          obtain ⟨_, _, _, _, A, M, hT⟩ := HS5.out
          exact used_calls L' t R.2 bb nn A M w5 hT)
        clear hR5 hC HT HS4 HR4 hRw hb hOff
        go_wp2_with fail
        refine HU.out.mono ?_
        rintro e w6 ⟨rfl, hC⟩
        have HS6 := Asd.mk (HS5.out.chg0 hC)
        have HR6 := Asd.mk (own_off HR5.out hC (fun _ _ => by simp))
        have HN6 := Asd.mk (show (∃ b, RowE w6 b v5 (treeF R.2 []) ∧ w0.heap.size ≤ b) ∧ Off v5 L' from ⟨HN5.out.1.imp fun b h => ⟨own_off h.1 hC (fun _ _ => by simp), h.2⟩, HN5.out.2⟩)
        clear hC HU HS5 HR5 HN5
        obtain ⟨us, hus⟩ : ∃ k, usedF R.2 = k := ⟨_, rfl⟩
        obtain ⟨nl, hnl⟩ : ∃ k, R.2.length = k := ⟨_, rfl⟩
        have hu1 : us ≤ bb := by rw [← hus]; exact HS6.out.2.2.1.used
        have hn1 : nl ≤ nn := by rw [← hnl]; exact HS6.out.2.2.1.count
        obtain ⟨⟨b5, hR5, hb5⟩, hOf5⟩ := HN6.out
        obtain ⟨A5, c5, hv5, hc5⟩ := own_form hR5
        have hM : (treeF R.2 []).length = nl + 1 := by
          have := tree_count HS6.out.2.1
          rw [hnl] at this
          exact this
        rw [hM] at hv5 hc5
        subst hv5
        have HR5 := Asd.mk hR5
        have HBo := Asd.mk (And.intro hb5 hOf5)
        have hB6 := HS6.out.1.heap HB.out (by simp)
        have b0 := cell_of_heap hB6 0
        have b1 := cell_of_heap hB6 1
        have HUS := Asd.mk (And.intro hus hnl)
        have HMM := Asd.mk hM
        rw [hus, hnl]
        clear hR5 hb5 hOf5 HN6 hB6 hus hnl hM
        have hd1 : decide (bb < us) = false := decide_eq_false (by omega)
        have hd2 : decide (nn < nl) = false := decide_eq_false (by omega)
        go_upto_region 13 with fail
        go_cut [97] from 67 to 97 (fun v97 wx => v97 = .bool false ∧ Asd (Chg [] w6 wx))
        case first =>
          rcases HEv.out with ⟨hz, rfl⟩ | ⟨hz, q, rfl⟩
          · clear HEv
            have HRf := Asd.mk (Chg.refl [] w6)
            clear hz HErr HR6
            go_wp2
            go_meet
            case rel => exact ⟨rfl, HRf⟩
          · clear HEv
            have hfs := HErr.out hz
            have HEq := Asd.mk (same_ents (entL_of_own HR6.out) (entL_of_own (by rw [← hfs]; exact HR5.out)) (by rw [← hfs, HMM.out]; omega))
            clear hz HErr hfs HR6
            go_wp2_with fail
            refine HEq.out.mono ?_
            rintro e w7 ⟨rfl, hC⟩
            have HC7 := Asd.mk hC
            have b0' := (hC.below.cell (World.block_lt_of_cell? _ _ b0)).trans b0
            have b1' := (hC.below.cell (World.block_lt_of_cell? _ _ b1)).trans b1
            clear hC HEq b0 b1
            go_wp2
            go_meet
            case rel => exact ⟨rfl, HC7⟩
        case rest =>
          obtain ⟨rfl, HC7⟩ := hcut
          have HS7 := Asd.mk (HS6.out.chg0 HC7.out)
          have HR7 := Asd.mk (own_off HR5.out HC7.out (fun _ _ => by simp))
          obtain ⟨E, hE⟩ : ∃ E, treeF R.2 [] = E := ⟨_, rfl⟩
          have HEe := Asd.mk (show E = (pathsL R.2 65 []).map (entF R.2) from hE.symm)
          have HEs := Asd.mk (show ∀ k, k ≤ E.length → sumT E k ≤ us from fun k hk => by
            have h1 := tree_sum HS6.out.2.1
            rw [HUS.out.1] at h1
            rw [← h1, ← show E = treeF0 R.2 from hE.symm]
            exact sumT_le E k)
          have HEt := Asd.mk (show sumT E E.length = us by
            have h1 := tree_sum HS6.out.2.1
            rw [HUS.out.1] at h1
            rw [← h1, ← show E = treeF0 R.2 from hE.symm]
            unfold sumT
            rw [List.take_length])
          have hEl : E.length = nl + 1 := by rw [← hE]; exact HMM.out
          rw [hE] at HR7
          have HL := entL_of_own HR7.out
          obtain ⟨g, rfl, hcl⟩ := entL_cells HL (i := 0) (by omega)
          have HCl := Asd.mk hcl
          have hub : us ≤ 2147483647 := by omega
          have HEl := Asd.mk hEl
          clear HErr HR6 HR5 HS6 b0 b1 HC7 HL hcl hE hEl
          go_wp2_with fail
          go_loopg [15, 16] (nl + 2) (fun gk v15 v16 wx => ∃ k : Nat, k ≤ nl + 1 ∧ gk = nl + 2 - k ∧ v15 = .int .i64 (sumT E k : Int) ∧ v16 = .int .i64 (k : Int) ∧ Asd (Chg [] wc wx))
          case atStart => exact ⟨0, by omega, rfl, rfl, rfl, ⟨Chg.refl _ _⟩⟩
          case round =>
            obtain ⟨k, hk, rfl, rfl, rfl, HC⟩ := hrel
            by_cases hlt : k < nl + 1
            · have k3 : (k : Int) < (nl : Int) + 1 := by omega
              have hkE : k < E.length := by rw [HEl.out]; exact hlt
              have hkp : k < (pathsL R.2 65 []).length := by have := HEl.out; rw [HEe.out, List.length_map] at this; omega
              obtain ⟨r, hr⟩ : ∃ r, (pathsL R.2 65 [])[k] = r := ⟨_, rfl⟩
              have hEk : E[k] = entF R.2 r := by
                have : E[k]? = some (entF R.2 r) := by rw [HEe.out, List.getElem?_map, List.getElem?_eq_getElem hkp, hr]; rfl
                rw [List.getElem?_eq_getElem hkE] at this
                exact Option.some.inj this
              have hrr : R.2.at r ≠ none := paths_at (m := 65) (p := []) (by rw [at_root]; simp) (by rw [← hr]; exact List.getElem_mem _)
              have hok := ok_at HS7.out.2.1 hrr
              have mv : ∀ {p : Addr} {v : Value}, wc.cell? p = some v → wr.cell? p = some v := fun h => (HC.out.below.cell (World.block_lt_of_cell? _ _ h)).trans h
              obtain ⟨e0, e1, e2⟩ := HCl.out k hkE
              rw [hEk] at e0 e1 e2
              have c0 := mv e0
              have c1 := mv e1
              have c2 := mv e2
              have hsn := sumT_next hkE
              rw [hEk] at hsn
              obtain ⟨P, hP⟩ : ∃ P, tx r = P := ⟨_, rfl⟩
              obtain ⟨Z, hZ⟩ : ∃ Z, (entF R.2 r).2.2 = Z := ⟨_, rfl⟩
              obtain ⟨kd, hkd⟩ : ∃ kd, (entF R.2 r).2.1 = kd := ⟨_, rfl⟩
              rw [show (entF R.2 r).1 = tx r from rfl, hP] at c0
              rw [hkd] at c1
              rw [hZ] at c2 hsn
              have hs1 := HEs.out (k + 1) (by omega)
              have hs0 := HEs.out k (by omega)
              obtain ⟨S0, hS0⟩ : ∃ n, sumT E k = n := ⟨_, rfl⟩
              rw [hS0] at hsn hs0 ⊢
              rw [hsn] at hs1
              have HSn := Asd.mk hsn
              have HPp := Asd.mk (fun W => refparts_calls P W (by rw [← hP]; have := tx_size hok; omega))
              have HPo := Asd.mk (show partsF P = .ok r by rw [← hP]; exact parts_any hok)
              clear e0 e1 e2 mv hsn hS0
              go_wp2_with fail
              refine (HPp.out _).mono ?_
              rintro e w8 ⟨hC8, hP8⟩
              rw [HPo.out] at hP8
              obtain ⟨v8, rfl, _⟩ := hP8
              have HC8 := Asd.mk (HC.out.trans hC8)
              have mv : ∀ {p : Addr} {v : Value}, wc.cell? p = some v → w8.cell? p = some v := fun h => (HC8.out.below.cell (World.block_lt_of_cell? _ _ h)).trans h
              have c0 := mv ((HCl.out k hkE).1)
              rw [hEk, show (entF R.2 r).1 = tx r from rfl, hP] at c0
              rcases Nat.eq_zero_or_pos k with hk0 | hk0
              · subst hk0
                have HSn2 := HSn
                clear hC8 HPp HC c1 c2 mv hEk hr hkd hP hZ
                go_upto_region 22 with fail
                go_quiet (fail)
                go_wp2_with fail
                go_roundg (nl + 2 - (0 + 1))
                case rel => exact ⟨1, by omega, rfl, by rw [show sumT E 1 = S0 + Z.size from HSn2.out]; go_num, by go_num, ⟨HC8.out.drewN nq⟩⟩
                case measure => omega
              · obtain ⟨j, rfl⟩ : ∃ j, k = j + 1 := ⟨k - 1, by omega⟩
                have hjp : j < (pathsL R.2 65 []).length := by omega
                obtain ⟨r', hr'⟩ : ∃ r, (pathsL R.2 65 [])[j] = r := ⟨_, rfl⟩
                have hjE : j < E.length := by omega
                have hEj : E[j] = entF R.2 r' := by
                  have : E[j]? = some (entF R.2 r') := by rw [HEe.out, List.getElem?_map, List.getElem?_eq_getElem hjp, hr']; rfl
                  rw [List.getElem?_eq_getElem hjE] at this
                  exact Option.some.inj this
                have d0 := mv ((HCl.out j hjE).1)
                have d1 := mv ((HCl.out j hjE).2.1)
                rw [hEj] at d0 d1
                have hrr' : R.2.at r' ≠ none := paths_at (m := 65) (p := []) (by rw [at_root]; simp) (by rw [← hr']; exact List.getElem_mem _)
                have hok' := ok_at HS7.out.2.1 hrr'
                obtain ⟨P', hP'⟩ : ∃ P, tx r' = P := ⟨_, rfl⟩
                obtain ⟨kj, hkj⟩ : ∃ kd, (entF R.2 r').2.1 = kd := ⟨_, rfl⟩
                have HNx := Asd.mk (show kj ≠ 2 → belowB P' P = false from fun h => by
                  have := tree_next HS7.out.2.1 (k := j) hkp (by rw [hr', hkj]; exact h)
                  rw [hr', hr, hP', hP] at this
                  exact this)
                rw [show (entF R.2 r').1 = tx r' from rfl, hP'] at d0
                rw [hkj] at d1
                have HBl := Asd.mk (fun W => refbelow_calls P' P W (by rw [← hP']; have := tx_size hok'; omega) (by rw [← hP]; have := tx_size hok; omega))
                have HSn2 := HSn
                have kq : ((j : Int) + 1 - 1) = (j : Int) := by omega
                have kj4 : (j : Int) < (nl : Int) + 1 := by omega
                have kj5 : (j : Int) + 1 < (nl : Int) + 1 := by omega
                have kj6 : (j : Int) < (nl : Int) := by omega
                have kj7 : j < nl := by omega
                have kw : IntKind.i64.wrap (j : Int) = (j : Int) := w64 (by omega) (by omega)
                clear hC8 HPp HC c1 c2 mv hEk hEj hr hr' hkd hkj hP hP' hZ hrr hrr' hok hok' hjE hjp
                by_cases h2 : kj = 2
                · subst h2
                  clear HNx HBl
                  go_upto_region 22 with fail
                  go_quiet (fail)
                  go_wp2_with fail
                  go_roundg (nl + 2 - (j + 1 + 1))
                  case rel => exact ⟨j + 2, by omega, rfl, by rw [show sumT E (j + 2) = S0 + Z.size from HSn2.out]; go_num, by go_num, ⟨HC8.out.drewN nq⟩⟩
                  case measure => omega
                · have k5 : ¬ (kj : Int) = 2 := by omega
                  have hbf := HNx.out h2
                  rw [hbf] at HBl
                  have hdk : decide (kj = 2) = false := decide_eq_false h2
                  have hdk2 : ((kj : Int) != 2) = true := by simp; omega
                  clear HNx hbf
                  go_upto_region 22 with fail
                  go_quiet ((go_at_call 16; exact Calls.quiet_of_same (HBl.out _)))
                  go_wp2_with fail
                  go_roundg (nl + 2 - (j + 1 + 1))
                  case rel => exact ⟨j + 2, by omega, rfl, by rw [show sumT E (j + 2) = S0 + Z.size from HSn2.out]; go_num, by go_num, ⟨HC8.out.drewN nq⟩⟩
                  case measure => omega
            · have k3 : ¬ (k : Int) < (nl : Int) + 1 := by omega
              obtain rfl : k = nl + 1 := by omega
              rw [show sumT E (nl + 1) = us by rw [← HEl.out]; exact HEt.out]
              have HS9 := Asd.mk (HS7.out.chg0 HC.out)
              have HR9 := Asd.mk (own_off HR7.out HC.out (fun _ _ => by simp))
              have HBo2 := HBo
              clear HS7 HR7 HC HCl hlt
              go_wp2_with fail
              go_roundg (61 - (i + 1))
              case rel => exact ⟨i + 1, L', R.2, by omega, rfl, by go_num, HS9, ⟨⟨b5, by
                have h := HR9.out
                have h2 : RowE _ b5 _ E := h
                rw [HEe.out] at h2
                exact h2, HBo2.out.1⟩, HBo2.out.2⟩⟩
              case measure => omega
      | false =>
        clear HRc HO
        go_wp2_with fail
        refine (works_calls wr (HM.out.chg HS.out.1) (HE.out.chg HS.out.1)).mono ?_
        rintro e w3 ⟨rfl, hC⟩
        have HC3 := Asd.mk ((HC0.out.trans HS.out.1).trans hC)
        clear hC HS HR
        go_wp2
        go_ret
        exact ⟨rfl, HC3.out⟩
theorem inodekeeps_calls (bb nn : Int) (sp : Option Addr) (n cap : Nat) (O : Nat → OpV) (w : World) (hO : OpsAt w sp n O) (hn : n ≤ 1048576) (hm : MaxLenAt w) (he : ErrType w) :
    Calls Tryz.prog 3 #[.agg #[.int .i64 bb, .int .i64 nn], .slice sp n cap] w fun e w' => e = .returned (.bool true) ∧ Chg [] w w' := by
  by_cases hb : bb < 0 ∨ 2147483647 < bb ∨ nn < 0 ∨ 65536 < nn
  · exact keeps_bad bb nn sp n cap w hm he hb
  · obtain ⟨b, rfl⟩ : ∃ b : Nat, bb = (b : Int) := ⟨bb.toNat, by omega⟩
    obtain ⟨m, rfl⟩ : ∃ b : Nat, nn = (b : Int) := ⟨nn.toNat, by omega⟩
    exact keeps_ok b m sp n cap O w hO hn hm he (by omega) (by omega)
end Go.Proofs.YtiijbecklkccfaaGreatDoor.I
