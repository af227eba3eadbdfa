/- The program's Ignored: the walk. -/
import Derived.Test.YtgkifphfibcfdaaGreatDoorRuPMeansR
import Derived.Test.YtgkifphfibcfdaaGreatDoorRuRIgn
import Derived.Test.YtgkifphfibcfdaaGreatDoorRu7
namespace Go.Proofs.YtgkifphfibcfdaaGreatDoor.G
open Go.RowKit Go.Proofs.YtgkifphfibcfdaaGreatDoor.B Go.Sort
set_option linter.unusedVariables false
theorem pred_slash (w : World) : PredAtRunes Tryz.prog 41 #[] isSlash w := fun W r _ _ => by
  unfold FnGives
  have z1 : ((r : Int) == 47) = isSlash r := by
    unfold isSlash
    by_cases h : r = 47
    · subst h; rfl
    · rw [show (r == 47) = false from beq_eq_false_iff_ne.2 h]
      exact beq_eq_false_iff_ne.2 (by omega)
  go_enter Tryz.func41, Tryz.ntmps41
  go_wp2
  go_ret
  exact ⟨rfl, 0, rfl⟩
theorem pnames_calls (path : ByteArray) (w : World) (hp : path.size ≤ 2097152) :
    Calls Tryz.prog 40 #[.string path, .func (.func 41) #[] #[]] w fun e w' => ∃ A, e = .returned (.slice (some ⟨A, 0, none⟩) (namesOf path).length (namesOf path).length) ∧ StrR w' A 0 (namesOf path) ∧ Chg [] w w' := by
  refine (Tryz.strings_FieldsFunc_runes 41 #[] (enters_of Tryz.func41 (by kernel_rfl) rfl) isSlash path w (by omega) (pred_slash w)).mono ?_
  rintro e w' ⟨A, he, hA, hown, hb⟩
  rw [fields_names] at he hown
  refine ⟨A, he, ?_, Chg.of_below hb⟩
  rcases hown.2 with ⟨h, _⟩ | ⟨g, cap, cur, hv, hb', hg, hn, hc, hsz, ht⟩
  · simp at h
  · simp only [Value.slice.injEq, Option.some.injEq, Addr.mk.injEq] at hv
    obtain ⟨⟨rfl, _⟩, _, rfl⟩ := hv
    refine ⟨cur, hg, fun i hi => ?_⟩
    have h3 : (cur.toList.take ((namesOf path).length * 1))[i]? = ((namesOf path).map Value.string)[i]? := by rw [ht]
    rw [List.getElem?_take_of_lt (by omega), List.getElem?_map, List.getElem?_eq_getElem hi] at h3
    rw [Nat.zero_add]
    simpa using h3
/-- One call of the program's means, at a rule that a text makes. -/
theorem pmeans_calls (x : XR) (ns : List ByteArray) (g2 o2 c2 : Nat) (dir : Bool) (w : World) (hx : PXH w x) (hwf : WFR x.r) (hn : StrR w g2 o2 ns) (hn0 : ns ≠ []) (h2 : ns.length ≤ c2) (b2 : ns.length ≤ 16777215) (b3 : ∀ n ∈ ns, n.size ≤ 16777216) :
    Calls Tryz.prog 42 #[.agg #[.bool x.r.back, .bool x.r.dir, .bool x.r.rooted, x.v], .slice (some ⟨g2, o2, none⟩) ns.length c2, .bool dir] w fun e w' => e = .returned (.bool (meansF x.r ns dir)) ∧ Chg [] w w' := by
  by_cases h : x.r.rooted = false ∨ (x.r.dir = true ∧ dir = false)
  · exact pmeans_flat x ns g2 o2 c2 dir w hx hwf hn hn0 h2 b2 b3 h
  · have h1 : x.r.rooted = true := by
      cases hr : x.r.rooted with
      | true => rfl
      | false => exact absurd (.inl hr) h
    refine pmeans_rooted x ns g2 o2 c2 dir w hx hwf hn b2 b3 h1 ?_
    cases hd : x.r.dir with
    | false => exact .inr rfl
    | true =>
      cases dir with
      | true => exact .inl ⟨rfl, rfl⟩
      | false => exact absurd (.inr ⟨hd, rfl⟩) h
theorem pxr_cells {w : World} {b : Nat} {v : Value} {X : List XR} (h : w.ownsRow b 87 4 v X.length (xcells X)) (hX : X ≠ []) : ∃ g c, v = .slice (some ⟨g, 0, none⟩) X.length c ∧ ∀ i, (hi : i < X.length) → w.cell? ⟨g, i * 4, none⟩ = some (.bool (X[i]'hi).r.back) ∧ w.cell? ⟨g, i * 4 + 1, none⟩ = some (.bool (X[i]'hi).r.dir) ∧ w.cell? ⟨g, i * 4 + 2, none⟩ = some (.bool (X[i]'hi).r.rooted) ∧ w.cell? ⟨g, i * 4 + 3, none⟩ = some (X[i]'hi).v := by
  rcases h.2 with ⟨rfl, h0⟩ | ⟨g, cap, cur, rfl, hb, hg, hn, hc, hsz, ht⟩
  · exact absurd (List.eq_nil_of_length_eq_zero h0) hX
  · refine ⟨g, cap, rfl, fun i hi => ?_⟩
    obtain ⟨k0, k1, k2, k3⟩ := xcells_at X i hi
    have key : ∀ j, j < X.length * 4 → ∀ u, (xcells X)[j]? = some u → w.cell? ⟨g, j, none⟩ = some u := fun j hj u hu => by
      have t1 : (cur.toList.take (X.length * 4))[j]? = (xcells X)[j]? := by rw [ht]
      rw [List.getElem?_take_of_lt hj, hu] at t1
      rw [cell_of_heap hg]
      simpa using t1
    exact ⟨key _ (by omega) _ k0, key _ (by omega) _ k1, key _ (by omega) _ k2, key _ (by omega) _ k3⟩
set_option maxRecDepth 100000 in
set_option maxHeartbeats 16000000 in
theorem pignored_calls (gp b : Nat) (v : Value) (X : List XR) (path : ByteArray) (dir : Bool) (w : World) (hg : w.heap[gp]? = some (.cells #[v] 83 (0, 0))) (hown : w.ownsRow b 87 4 v X.length (xcells X)) (hx : ∀ x ∈ X, PXH w x) (hwf : ∀ x ∈ X, WFR x.r) (hp : path.size ≤ 2097152) (hX : X.length ≤ 16777216) :
    Calls Tryz.prog 24 #[.pointer (some ⟨gp, 0, none⟩), .string path, .bool dir] w fun e w' => e = .returned (.bool (ignoredP (X.map (·.r)) path dir)) ∧ Chg [] w w' := by
  have HX := Asd.mk hx
  have HWF := Asd.mk hwf
  have HOwn := Asd.mk hown
  have HG := Asd.mk hg
  obtain ⟨AV, cV, hV⟩ := own_len hown
  subst hV
  clear hx hwf hown hg
  go_enter Tryz.func24, Tryz.ntmps24
  go_wp2_with fail
  refine (pnames_calls path w hp).mono ?_
  rintro e W2 ⟨A7, rfl, hS7, hC7⟩
  have hnl := names_le (path := path)
  have hNS : ∀ q ∈ namesOf path, q.size ≤ 16777216 := fun q hq => by
    have := spl_size (List.mem_filter.1 hq).1
    omega
  obtain ⟨N, hN⟩ : ∃ N, namesOf path = N := ⟨_, rfl⟩
  have HIg := Asd.mk (show ignoredP (X.map (·.r)) path dir = ignoredF (X.map (·.r)) N dir N.length 1 by unfold ignoredP; rw [hN])
  rw [hN] at hnl hNS hS7 ⊢
  have HNS := Asd.mk hNS
  have HS7 := Asd.mk hS7
  have HCW2 := Asd.mk hC7
  have HX2 := Asd.mk (show ∀ x ∈ X, PXH W2 x from fun x hx => (HX.out x hx).keeps (Keeps.of_chg (T := []) hC7) (by simp) (by simp) (by simp))
  have HO2 := Asd.mk (show W2.ownsRow b 87 4 (.slice AV X.length cV) X.length (xcells X) from own_keeps HOwn.out (Keeps.of_chg (T := []) hC7) (by simp))
  have HG2 := Asd.mk (show W2.heap[gp]? = some (.cells #[.slice AV X.length cV] 83 (0, 0)) from hC7.heap HG.out (by simp))
  have HCr := Asd.mk (Chg.refl [] W2)
  clear hS7 hC7 hNS hN HX HOwn HG
  go_wp2
  go_loopg [8] (N.length + 1) (fun gk v8 wx => ∃ k : Nat, 1 ≤ k ∧ k ≤ N.length + 1 ∧ gk = N.length + 2 - k ∧ v8 = .int .i64 (k : Int) ∧ Asd (ignoredF (X.map (·.r)) N dir (N.length + 1 - k) k = ignoredP (X.map (·.r)) path dir) ∧ Asd (Chg [] W2 wx))
  case atStart => exact ⟨1, by omega, by omega, by omega, rfl, ⟨by rw [HIg.out]; rfl⟩, HCr⟩
  case round =>
    obtain ⟨k, hk1, hk2, rfl, rfl, HI, HC3⟩ := hrel
    by_cases hkl : k ≤ N.length
    · have hI := HI.out
      rw [show N.length + 1 - k = (N.length - k) + 1 by omega] at hI
      simp only [ignoredF] at hI
      obtain ⟨d, hd⟩ : ∃ d, (dir || decide (k < N.length)) = d := ⟨_, rfl⟩
      rw [hd] at hI
      have HD := Asd.mk (show (dir = true ∧ d = true) ∨ (dir = false ∧ decide (k < N.length) = d) from by
        cases dir with
        | true => exact .inl ⟨rfl, by rw [← hd]; rfl⟩
        | false => exact .inr ⟨rfl, by rw [← hd, Bool.false_or]⟩)
      obtain ⟨V, hV⟩ : ∃ V, verdict (X.map (·.r)) (N.take k) d false = V := ⟨_, rfl⟩
      rw [hV] at hI
      have HI2 := Asd.mk hI
      have HV := Asd.mk hV
      have HSk := Asd.mk (show StrR W2 A7 0 (N.take k) from by
        obtain ⟨cs, q1, q2⟩ := HS7.out
        refine ⟨cs, q1, fun j hj => ?_⟩
        rw [List.length_take] at hj
        have := q2 j (by omega)
        rw [this]
        simp)
      have pg := cell_of_heap (HC3.out.heap HG2.out (by simp)) 0
      clear hI HI hd hV
      go_wp2
      go_loopg [9, 25] (X.length + 1) (fun gk v9 v25 wx => ∃ (i : Nat) (is : Bool), i ≤ X.length ∧ gk = X.length + 1 - i ∧ v9 = .bool is ∧ v25 = .int .i64 (i : Int) ∧ Asd (verdict ((X.map (·.r)).drop i) (N.take k) d is = V) ∧ Asd (Chg [] W2 wx))
      case atStart => exact ⟨0, false, by omega, by omega, rfl, rfl, ⟨by rw [List.drop_zero]; exact HV.out⟩, HC3⟩
      case round =>
        obtain ⟨i, is, hi, rfl, rfl, rfl, HVi, HC4⟩ := hrel
        by_cases hli : i < X.length
        · have hXne : X ≠ [] := fun e => by rw [e] at hli; simp at hli
          obtain ⟨gx, cx, hvx, hcells⟩ := pxr_cells HO2.out hXne
          simp only [Value.slice.injEq] at hvx
          obtain ⟨rfl, _, rfl⟩ := hvx
          obtain ⟨q0, q1, q2, q3⟩ := hcells i hli
          obtain ⟨x, hxx⟩ : ∃ x, X[i] = x := ⟨_, rfl⟩
          rw [hxx] at q0 q1 q2 q3
          have hxm : x ∈ X := by rw [← hxx]; exact List.getElem_mem hli
          have hvi := HVi.out
          rw [List.drop_eq_getElem_cons (by rw [List.length_map]; exact hli)] at hvi
          simp only [List.getElem_map, hxx, verdict, List.foldl_cons] at hvi
          have HVV := Asd.mk hvi
          have HXM := Asd.mk hxm
          have p0 : wr.cell? ⟨gx, i * 4, none⟩ = some (.bool x.r.back) := (HC4.out.below.cell (World.block_lt_of_cell? W2 _ q0)).trans q0
          have p1 : wr.cell? ⟨gx, i * 4 + 1, none⟩ = some (.bool x.r.dir) := (HC4.out.below.cell (World.block_lt_of_cell? W2 _ q1)).trans q1
          have p2 : wr.cell? ⟨gx, i * 4 + 2, none⟩ = some (.bool x.r.rooted) := (HC4.out.below.cell (World.block_lt_of_cell? W2 _ q2)).trans q2
          have p3 : wr.cell? ⟨gx, i * 4 + 3, none⟩ = some x.v := (HC4.out.below.cell (World.block_lt_of_cell? W2 _ q3)).trans q3
          have k1 : (i : Int) < (X.length : Int) := by omega
          clear q0 q1 q2 q3 hcells hxx hvi HVi hxm
          obtain ⟨AZ, cZ, hv⟩ : ∃ A c, x.v = .slice A x.Z.length c := by
            obtain ⟨⟨bq, hq⟩, _, _⟩ := HX2.out x HXM.out
            exact own_len hq
          obtain ⟨nZ, hnZ⟩ : ∃ n, x.Z.length = n := ⟨_, rfl⟩
          rw [hnZ] at hv
          rw [hv] at p3
          have HXv := Asd.mk hv
          clear hv hnZ
          go_upto_region 9 with fail
          refine wp_opaque2 (fun W hW => ?_)
          have HBx := Asd.mk (show W.heap[wr.heap.size]? = some (.cells #[.bool x.r.back, .bool x.r.dir, .bool x.r.rooted, .slice AZ nZ cZ] 87 (0, 0)) by rw [hW]; exact hp_new _ _)
          have HC5 := Asd.mk (show Chg [] W2 W by rw [hW]; exact HC4.out.alloc _)
          obtain ⟨BX, hBX⟩ : ∃ B, wr.heap.size = B := ⟨_, rfl⟩
          rw [hBX] at HBx ⊢
          clear hW hBX p0 p1 p2 p3 HC4
          have hM := fun W' (h : Chg [] W W') => pmeans_calls x (N.take k) A7 0 N.length d W' ((HX2.out x HXM.out).keeps (Keeps.of_chg (T := []) (HC5.out.trans h)) (by simp) (by simp) (by simp)) (HWF.out x HXM.out) (HSk.out.keeps (Keeps.of_chg (T := []) (HC5.out.trans h)) (by simp)) (fun e => by have := congrArg List.length e; rw [List.length_take, List.length_nil] at this; omega) (by rw [List.length_take]; omega) (by rw [List.length_take]; omega) (fun n hn => HNS.out n (List.mem_of_mem_take hn))
          have hlt2 : (N.take k).length = k := by rw [List.length_take]; omega
          rw [hlt2, HXv.out] at hM
          have hvi := HVV.out
          obtain ⟨q, hq⟩ : ∃ q, meansF x.r (N.take k) d = q := ⟨_, rfl⟩
          rw [hq] at hM hvi
          have cM := quiet_of hM
          have p0 := fun d os => cell_regrown (cell_of_heap HBx.out 0) d os
          have p1 := fun d os => cell_regrown (cell_of_heap HBx.out 1) d os
          have p2 := fun d os => cell_regrown (cell_of_heap HBx.out 2) d os
          have p3 := fun d os => cell_regrown (cell_of_heap HBx.out 3) d os
          have k2 : (k : Int) ≤ (N.length : Int) := by omega
          have k3 : ¬ (N.length = 0) := by omega
          have k4 : (0 : Int) ≤ (k : Int) := by omega
          clear hM hq hlt2 HVV
          rcases HD.out with ⟨rfl, rfl⟩ | ⟨rfl, hdk⟩
          · cases q with
            | true =>
              have HVN := Asd.mk hvi
              clear hvi
              refine wp_region_quiet_below (by kernel_rfl) (by kernel_rfl) ?_
              repeat (quiet_step ((go_at_call 42; exact cM _ _)))
              refine wpQuiet_nil ?_
              rintro w' ⟨q, rfl⟩
              have HC6 := Asd.mk (HC5.out.trans (chg_regrown W q.d q.os))
              have c1 := p0 q.d q.os
              go_wp2
              go_roundg (X.length + 1 - (i + 1))
              case rel => exact ⟨i + 1, !x.r.back, by omega, by omega, rfl, by go_num, HVN, HC6⟩
              case measure => omega
            | false =>
              have HVN := Asd.mk hvi
              clear hvi
              refine wp_region_quiet_below (by kernel_rfl) (by kernel_rfl) ?_
              repeat (quiet_step ((go_at_call 42; exact cM _ _)))
              refine wpQuiet_nil ?_
              rintro w' ⟨q, rfl⟩
              have HC6 := Asd.mk (HC5.out.trans (chg_regrown W q.d q.os))
              go_wp2
              go_roundg (X.length + 1 - (i + 1))
              case rel => exact ⟨i + 1, is, by omega, by omega, rfl, by go_num, HVN, HC6⟩
              case measure => omega
          · cases q with
            | true =>
              have HVN := Asd.mk hvi
              clear hvi
              refine wp_region_quiet_below (by kernel_rfl) (by kernel_rfl) ?_
              repeat (quiet_step ((go_at_call 42; exact cM _ _)))
              refine wpQuiet_nil ?_
              rintro w' ⟨q, rfl⟩
              have HC6 := Asd.mk (HC5.out.trans (chg_regrown W q.d q.os))
              have c1 := p0 q.d q.os
              go_wp2
              go_roundg (X.length + 1 - (i + 1))
              case rel => exact ⟨i + 1, !x.r.back, by omega, by omega, rfl, by go_num, HVN, HC6⟩
              case measure => omega
            | false =>
              have HVN := Asd.mk hvi
              clear hvi
              refine wp_region_quiet_below (by kernel_rfl) (by kernel_rfl) ?_
              repeat (quiet_step ((go_at_call 42; exact cM _ _)))
              refine wpQuiet_nil ?_
              rintro w' ⟨q, rfl⟩
              have HC6 := Asd.mk (HC5.out.trans (chg_regrown W q.d q.os))
              go_wp2
              go_roundg (X.length + 1 - (i + 1))
              case rel => exact ⟨i + 1, is, by omega, by omega, rfl, by go_num, HVN, HC6⟩
              case measure => omega
        · obtain rfl : i = X.length := by omega
          have hvi := HVi.out
          rw [List.drop_of_length_le (by rw [List.length_map]; exact Nat.le_refl _)] at hvi
          simp only [verdict, List.foldl_nil] at hvi
          subst hvi
          cases is with
          | true =>
            have HF := Asd.mk (show ignoredP (X.map (·.r)) path dir = true by rw [← HI2.out]; rfl)
            go_wp2
            go_ret
            exact ⟨by rw [HF.out]; rfl, HCW2.out.trans HC4.out⟩
          | false =>
            have HI3 := Asd.mk (show ignoredF (X.map (·.r)) N dir (N.length + 1 - (k + 1)) (k + 1) = ignoredP (X.map (·.r)) path dir by rw [← HI2.out, show N.length + 1 - (k + 1) = N.length - k by omega]; rfl)
            go_wp2
            go_roundg (N.length + 2 - (k + 1))
            case rel => exact ⟨k + 1, by omega, by omega, by omega, by go_num, HI3, HC4⟩
            case measure => omega
    · obtain rfl : k = N.length + 1 := by omega
      have HF := Asd.mk (show ignoredP (X.map (·.r)) path dir = false by rw [← HI.out, Nat.sub_self]; rfl)
      go_wp2
      go_ret
      exact ⟨by rw [HF.out]; rfl, HCW2.out.trans HC3.out⟩
end Go.Proofs.YtgkifphfibcfdaaGreatDoor.G
