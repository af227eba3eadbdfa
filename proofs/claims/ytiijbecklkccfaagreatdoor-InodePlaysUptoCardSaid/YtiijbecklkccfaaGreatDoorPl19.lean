/- Merged out of these texts: RList, RTree, RTop. -/
import Derived.Test.YtiijbecklkccfaaGreatDoorPl17
import Derived.Test.YtiijbecklkccfaaGreatDoorPl18
import Derived.Test.YtiijbecklkccfaaGreatDoorPl11
import Derived.Deep.RegionHeld3
/- The reference's List. -/
namespace Go.Proofs.YtiijbecklkccfaaGreatDoor.I
open Go.RowKit Go.Proofs.YtiijbecklkccfaaGreatDoor.B Go.Sort
set_option linter.unusedVariables false
/-- A path's last slash. -/
theorem last_tx {q : Pth} {n : Nm} {k : Nat} (hn : (47 : UInt8) ∉ n) (h : LastAt (tx (q ++ [n])) k) : (tx (q ++ [n])).extract 0 (k - 1) = tx q ∧ (tx (q ++ [n])).extract k (tx (q ++ [n])).size = nb n := by
  obtain ⟨h1, h2, h3⟩ := h
  by_cases hq : q = []
  · subst hq
    have e : (tx ([] ++ [n])).data.toList = n := by rw [tx_list]; simp [joinL]
    have hk : k = 0 := by
      rcases Nat.eq_zero_or_pos k with h | h
      · exact h
      · have := h3 h
        rw [e] at this
        exact absurd (List.mem_of_getElem? this) hn
    subst hk
    constructor
    · apply ByteArray.ext
      apply Array.toList_inj.1
      rw [toList_extract]
      first | rfl | simp [tx, joinL]
    · apply ByteArray.ext
      apply Array.toList_inj.1
      rw [toList_extract, e, list_nb, List.drop_zero, List.take_of_length_le]
      rw [← list_size, e]
      exact Nat.le_refl _
  · have e : (tx (q ++ [n])).data.toList = (tx q).data.toList ++ 47 :: n := by
      rw [tx_app hq (by simp)]
      have e1 : (tx [n]).data.toList = n := by rw [tx_list]; simp [joinL]
      rw [e1]
    have hlen : (tx q).data.toList.length = (tx q).size := list_size _
    have hk1 : (tx q).size < k := by
      rcases Nat.lt_or_ge (tx q).size k with h | h
      · exact h
      · refine absurd ?_ (h2 _ h)
        rw [e, ← hlen, List.getElem?_append_right (Nat.le_refl _)]
        simp
    have hk : k = (tx q).size + 1 := by
      rcases Nat.lt_or_ge ((tx q).size + 1) k with h | h
      · have h4 := h3 (by omega)
        rw [e, List.getElem?_append_right (by rw [hlen]; omega), hlen] at h4
        obtain ⟨m, hm⟩ : ∃ m, k - 1 - (tx q).size = m + 1 := ⟨k - 1 - (tx q).size - 1, by omega⟩
        rw [hm, List.getElem?_cons_succ] at h4
        exact absurd (List.mem_of_getElem? h4) hn
      · omega
    have hsz : (tx (q ++ [n])).size = (tx q).size + 1 + n.length := by
      rw [← list_size, e, List.length_append, hlen, List.length_cons]
      omega
    subst hk
    constructor
    · apply ByteArray.ext
      apply Array.toList_inj.1
      rw [toList_extract, e, List.drop_zero]
      have : (tx q).size + 1 - 1 - 0 = (tx q).data.toList.length := by rw [hlen]; omega
      rw [this, List.take_left]
    · apply ByteArray.ext
      apply Array.toList_inj.1
      rw [toList_extract, e, list_nb, hsz]
      have : (tx q).size + 1 = ((tx q).data.toList ++ [47]).length := by rw [List.length_append, hlen]; rfl
      rw [show (tx q).data.toList ++ 47 :: n = ((tx q).data.toList ++ [47]) ++ n by simp]
      rw [this, List.drop_left, List.take_of_length_le (by rw [List.length_append, hlen]; simp)]
theorem nm_slash {p : Pth} {n : Nm} (h : okP (p ++ [n])) : (47 : UInt8) ∉ n := ok_slash h.2.2 n (by simp)
theorem dirT {q : Pth} {n : Nm} (h : okP (q ++ [n])) (w : World) : Calls Tryz.prog 54 #[.string (tx (q ++ [n]))] w fun e w' => e = .returned (.string (tx q)) ∧ w' = w := by
  refine (dir_calls (tx (q ++ [n])) w (by have := tx_size h; omega)).mono ?_
  rintro e w' ⟨k, hk, rfl, rfl⟩
  rw [(last_tx (nm_slash h) hk).1]
  exact ⟨rfl, rfl⟩
theorem baseT {q : Pth} {n : Nm} (h : okP (q ++ [n])) (w : World) : Calls Tryz.prog 77 #[.string (tx (q ++ [n]))] w fun e w' => e = .returned (.string (nb n)) ∧ w' = w := by
  refine (base_calls (tx (q ++ [n])) w (by have := tx_size h; omega)).mono ?_
  rintro e w' ⟨k, hk, rfl, rfl⟩
  rw [(last_tx (nm_slash h) hk).2]
  exact ⟨rfl, rfl⟩
theorem kidsU_take {G : FS} {p q : Pth} {n : Nm} {x : Nd} {i : Nat} (hi : i < G.length) (he : G[i]'hi = (q ++ [n], x)) : kidsU (G.take (i + 1)) p = kidsU (G.take i) p ++ (if q = p then [n] else []) := by
  unfold kidsU
  rw [List.take_succ_eq_append_getElem hi, List.filterMap_append, he]
  congr 1
  rw [List.filterMap_cons]
  by_cases h : q = p
  · rw [if_pos ⟨by simp, by simpa using h⟩, if_pos h]
    simp
  · rw [if_neg (fun e => h (by simpa using e.2)), if_neg h]
    rfl
theorem kidsU_len (G : FS) (p : Pth) : (kidsU G p).length ≤ G.length := by
  unfold kidsU
  exact List.length_filterMap_le _ _
/-- What the reference's List answers. -/
def ListR (w : World) (G : FS) (R : Except Nat Pth) (e : Ending) (w' : World) : Prop := match R with
  | .error n => e = .returned (.tuple #[.slice none 0 0, .int .i64 (n : Int)])
  | .ok p => ∃ v, e = .returned (.tuple #[v, .int .i64 0]) ∧ RowT w' w.heap.size v ((kidsF G p).map nb)
variable {w : World} {K : Nat} {v : Value} {G : FS} {bb nn : Nat}
theorem list_of {G : FS} (hg : FsOk G) {s : ByteArray} : ((lookF G s).1 ≠ 0 ∧ listE G s = .error (lookF G s).1) ∨ ((lookF G s).1 = 0 ∧ ∃ p, okP p ∧ s = tx p ∧ (((lookF G s).2.2.1 = 1 ∧ listE G s = .error 203) ∨ ((lookF G s).2.2.1 = 3 ∧ listE G s = .error 204) ∨ ((lookF G s).2.2.1 = 2 ∧ listE G s = .ok p))) := by
  unfold lookF listE
  cases ht : thereE G s with
  | error n => exact .inl ⟨thereE_pos ht, rfl⟩
  | ok p =>
    obtain ⟨x, hx⟩ := thereE_ok ht
    have hat : atE G s = .ok p := by
      unfold thereE at ht
      cases ha : atE G s with
      | error n => rw [ha] at ht; cases ht
      | ok q =>
        rw [ha] at ht
        simp only at ht
        split at ht
        · cases ht; rfl
        · cases ht
    simp only
    rw [hx]
    simp only
    refine .inr ⟨by trivial, p, hg.okp _ _ hx, tx_parts (atE_parts hat), ?_⟩
    rcases hg.kind _ _ hx with h1 | h1 | h1
    · exact .inl ⟨h1, by rw [if_pos h1]⟩
    · exact .inr (.inr ⟨h1, by rw [if_neg (by omega), if_neg (by omega)]⟩)
    · exact .inr (.inl ⟨h1, by rw [if_neg (by omega), if_pos h1]⟩)
set_option maxRecDepth 100000 in
set_option maxHeartbeats 16000000 in
theorem list20_calls (h : RAt w K v G bb nn) (s : ByteArray) (hs : s.size ≤ 1048576) :
    Calls Tryz.prog 53 #[.agg #[v, .int .i64 (bb : Int), .int .i64 (nn : Int)], .string s] w fun e w' => ListR w G (listE G s) e w' ∧ Chg [] w w' := by
  obtain ⟨w0, hw0, hC, hB⟩ := start1 w #[v, .int .i64 (bb : Int), .int .i64 (nn : Int)] 56
  have HR := Asd.mk h
  have HC := Asd.mk hC
  have HB := Asd.mk hB
  have HL := Asd.mk (look20_calls (h.chg hC) s hs)
  have hlo := list_of h.ok (s := s)
  obtain ⟨R, hR⟩ : ∃ R, listE G s = R := ⟨_, rfl⟩
  obtain ⟨Q, hQ⟩ : ∃ R, lookF G s = R := ⟨_, rfl⟩
  rw [hR] at hlo ⊢
  rw [hQ] at HL hlo
  obtain ⟨n, P0, kd, Z0⟩ := Q
  simp only at hlo HL
  have HRQ := Asd.mk hlo
  have b0 := cell_of_heap hB 0
  have b1 := cell_of_heap hB 1
  have b2 := cell_of_heap hB 2
  clear h hC hB hs hR hQ hlo
  (go_enter Tryz.func53, Tryz.ntmps53)
  go_wp2_with fail
  refine HL.out.mono ?_
  rintro e w1 ⟨rfl, hC⟩
  have HC1 := Asd.mk (HC.out.trans hC)
  have HB1 := Asd.mk (hC.heap HB.out (by simp))
  unfold entV
  simp only
  clear hC HL b0 b1 b2 hw0 HB HC
  go_upto_region 2 with (first | (refine wpList_store_row (o := ⟨none, _, _, _, _, _⟩) rfl 41 (.tmp 6) (.tmp 14) rfl w1.heap.size _ rfl rfl 41 _ (hp_new _ _) (size_entry _ _ _) rfl (one_entry _ _ _) ?_))
  refine wp_opaque2 (fun W hW => ?_)
  have hCW : Chg [w1.heap.size] w1 W := by rw [hW]; exact ((Chg.refl _ _).alloc _).setRow (fun _ => by simp) _
  have HCW := Asd.mk (show Chg [] w W by rw [hW]; exact (HC1.out.alloc _).setRow (fun h => absurd h (by have := HC1.out.size; omega)) _)
  have hbD : W.heap[w1.heap.size]? = some (.cells #[.string P0, .int .i64 (kd : Int), .string Z0] 41 (0, 0)) := by rw [hW]; exact setRow_heap _ _ _ _ _ _ (hp_new _ _)
  have HBW := Asd.mk (hCW.heap HB1.out (by have := lt_of_heap HB1.out; simp; omega))
  obtain ⟨D, hD⟩ : ∃ D, w1.heap.size = D := ⟨_, rfl⟩
  rw [hD] at hbD ⊢
  have d1 := cell_of_heap hbD 1
  clear hW hD hbD hCW HB1 HC1
  rcases HRQ.out with ⟨h1, h2⟩ | ⟨h1, p, hok, hsp, ⟨h3, h2⟩ | ⟨h3, h2⟩ | ⟨h3, h2⟩⟩
  · have k1 : ¬ (n : Int) = 0 := by omega
    have HRn := Asd.mk h2
    clear h1 h2 HRQ
    go_wp2
    go_ret2
    refine ⟨by rw [HRn.out]; rfl, HCW.out⟩
  · subst h1 h3
    have HRn := Asd.mk h2
    clear h2 HRQ
    go_wp2
    go_ret2
    refine ⟨by rw [HRn.out]; rfl, HCW.out⟩
  · subst h1 h3
    have HRn := Asd.mk h2
    clear h2 HRQ
    go_wp2
    go_ret2
    refine ⟨by rw [HRn.out]; rfl, HCW.out⟩
  · subst h1 h3
    have HRn := Asd.mk h2
    have HOk := Asd.mk hok
    have HSp := Asd.mk hsp
    obtain ⟨A, c, hv, hE⟩ := (HR.out.chg HCW.out).form
    obtain ⟨N, hN⟩ : ∃ n, G.length = n := ⟨_, rfl⟩
    have hNz : N ≤ 65536 := by rw [← hN]; exact HR.out.num
    rw [hN] at hv hE
    have HN := Asd.mk hN
    have HE := Asd.mk hE
    have HRow := Asd.mk (okRow_of HR.out.ok)
    subst hv
    clear h2 HRQ hok hsp hN hE HR
    go_wp2
    clear d1
    obtain ⟨B, hBq⟩ : ∃ B, w.heap.size = B := ⟨_, rfl⟩
    rw [hBq] at HBW ⊢
    have HBq := Asd.mk hBq
    clear hBq
    go_loopg [8, 9] (N + 1) (fun gk v8 v9 wx => ∃ i : Nat, i ≤ N ∧ gk = N + 1 - i ∧ v9 = .int .i64 (i : Int) ∧ Asd (Chg [] W wx) ∧ Asd (RowT wx W.heap.size v8 ((kidsU (G.take i) p).map nb)))
    case atStart => exact ⟨0, by omega, rfl, rfl, ⟨Chg.refl _ _⟩, ⟨⟨rfl, .inl ⟨rfl, rfl⟩⟩⟩⟩
    case round =>
      obtain ⟨i, hi, rfl, rfl, HC, HR⟩ := hrel
      have b0 := cell_of_heap (HC.out.heap HBW.out (by simp)) 0
      by_cases hlt : i < N
      · have k1 : (i : Int) < (N : Int) := by omega
        have hil : i < G.length := by rw [HN.out]; exact hlt
        have hmem := List.getElem_mem hil
        have hne := HRow.out.ne _ hmem
        have hokp := HRow.out.ok _ hmem
        obtain ⟨g, rfl, c0, c1, c2⟩ := ent_cells (HE.out.chg HC.out) (show i < (rowE G).length by rw [row_len]; exact hil)
        have e0 : (rowE G)[i]'(by rw [row_len]; exact hil) = entR (G[i]'hil) := by unfold rowE; rw [List.getElem_map]
        rw [e0] at c0
        obtain ⟨r, x, hx⟩ : ∃ r x, G[i]'hil = (r, x) := ⟨_, _, rfl⟩
        rw [hx] at hne hokp c0
        simp only at hne hokp
        obtain ⟨q, m, rfl⟩ : ∃ q m, r = q ++ [m] := ⟨r.dropLast, r.getLast hne, (List.dropLast_concat_getLast hne).symm⟩
        have hkt := kidsU_take (p := p) hil hx
        have HKt := Asd.mk hkt
        have HD := Asd.mk (fun W => dirT hokp W)
        have HBs := Asd.mk (fun W => baseT hokp W)
        obtain ⟨P, hP⟩ : ∃ P, tx (q ++ [m]) = P := ⟨_, rfl⟩
        rw [show (entR (q ++ [m], x)).1 = P from hP] at c0
        rw [hP] at HD HBs
        have hq : q = p ↔ tx q = s := by
          rw [HSp.out]
          exact ⟨fun h => by rw [h], fun h => tx_inj (okP_pre hokp) HOk.out h⟩
        obtain ⟨T, hT⟩ : ∃ T, tx q = T := ⟨_, rfl⟩
        rw [hT] at HD hq
        have t1 := ba_eqs T s
        obtain ⟨A8, c8, hv8, _⟩ := own_form HR.out
        obtain ⟨n8, hn8⟩ : ∃ n, (kidsU (G.take i) p).length = n := ⟨_, rfl⟩
        have hn8b : n8 ≤ 65536 := by
          rw [← hn8]
          have h1 := kidsU_len (G.take i) p
          have h2 : (G.take i).length ≤ G.length := List.length_take_le' i G
          have := HN.out
          omega
        rw [List.length_map, hn8] at hv8
        have HRo := Asd.mk (show wr.ownsRow W.heap.size 9 1 (.slice A8 n8 c8) n8 (((kidsU (G.take i) p).map nb).map Value.string) by
          have h := HR.out
          unfold RowT at h
          rw [List.length_map, hn8] at h
          rw [← hv8]; exact h)
        have HN8 := Asd.mk hn8
        have HBs2 := Asd.mk (show W.heap.size ≤ wr.heap.size from HC.out.size)
        obtain ⟨Bn, hBn⟩ : ∃ b, nb m = b := ⟨_, rfl⟩
        have HBn := Asd.mk hBn
        rw [hBn] at HBs
        subst hv8
        clear c1 c2 hmem hne hokp e0 hx hkt hP hT hn8 hil hBn
        go_wp2_with fail
        refine (HD.out _).mono ?_
        rintro e w3 ⟨rfl, hw⟩
        have hw' := hw.symm
        subst hw'
        clear hw HD
        by_cases hqs : T = s
        · rw [decide_eq_true hqs] at t1
          have HQp := Asd.mk (hq.2 hqs)
          clear hq hqs
          go_wp2_with fail
          refine (HBs.out _).mono ?_
          rintro e w4 ⟨rfl, hw⟩
          have hw' := hw.symm
          subst hw'
          clear hw HBs t1
          go_wp2_with (first
            | (refine wpList_buildStr rfl Bn wr.heap.size rfl (.tmp 51) rfl rfl ?_; simp only [Act.put, List.setIfInBounds_toArray, List.set_cons_zero, List.set_cons_succ])
            | (at_builtin; refine wpList_append_strx rfl Bn (.tmp 44) (.tmp 52) rfl W.heap.size (.slice A8 n8 c8) n8 _ rfl (HRo.out.alloc _) wr.heap.size rfl (hp_new _ _) (by omega) (Nat.le_trans HBs2.out ((Chg.refl [] wr).alloc _).size) ?_; intro g9 c9 w9 hown9 hgrow9; replace hown9 := Asd.mk hown9; replace hgrow9 := Asd.mk (Chg.grown (HC.out.alloc _) hgrow9 (fun g e hg => by have := (own_block HRo.out e).1; omega)); simp only [Act.put, List.setIfInBounds_toArray, List.set_cons_zero, List.set_cons_succ]))
          have HR2 := Asd.mk (show RowT w9 W.heap.size (.slice (some ⟨g9, 0, none⟩) (n8 + 1) c9) ((kidsU (G.take (i + 1)) p).map nb) by
            rw [HKt.out, if_pos HQp.out, List.map_append, List.map_singleton, HBn.out]
            unfold RowT
            rw [List.length_append, List.length_map, HN8.out, List.map_append]
            exact hown9.out)
          go_roundg (N + 1 - (i + 1))
          case rel => exact ⟨i + 1, by omega, by omega, by go_num, hgrow9, HR2⟩
          case measure => omega
        · rw [decide_eq_false hqs] at t1
          have HR2 := Asd.mk (show RowT wr W.heap.size (.slice A8 n8 c8) ((kidsU (G.take (i + 1)) p).map nb) by rw [HKt.out, if_neg (fun h => hqs (hq.1 h)), List.append_nil]; exact HR.out)
          clear hq hqs HBs HRo HR
          go_wp2
          go_roundg (N + 1 - (i + 1))
          case rel => exact ⟨i + 1, by omega, by omega, by go_num, HC, HR2⟩
          case measure => omega
      · have k1 : ¬ (i : Int) < (N : Int) := by omega
        rw [List.take_of_length_le (by have := HN.out; omega)] at HR
        have HSt := Asd.mk (sorted_calls (kidsU G p) u8 wr (strL_of_own HR.out) (by have := kidsU_len G p; have := HN.out; omega))
        have HCx := Asd.mk (HCW.out.trans HC.out)
        clear HR
        go_wp2_with fail
        refine HSt.out.mono ?_
        rintro e w5 ⟨v5, rfl, hV, hC⟩
        have HV := Asd.mk (show RowT w5 w.heap.size v5 ((kidsF G p).map nb) from own_mono hV HCx.out.size)
        have HC5 := Asd.mk (HCx.out.trans hC)
        clear hV hC HSt b0
        go_wp2
        go_ret2
        refine ⟨?_, HC5.out⟩
        rw [HRn.out]
        exact ⟨_, rfl, HV.out⟩
end Go.Proofs.YtiijbecklkccfaaGreatDoor.I
/- The reference's tree and Tree. -/
namespace Go.Proofs.YtiijbecklkccfaaGreatDoor.I
open Go.RowKit Go.Proofs.YtiijbecklkccfaaGreatDoor.B Go.Sort
set_option linter.unusedVariables false
theorem flatE_app (E F : List Ent) : flatE (E ++ F) = flatE E ++ flatE F := by simp [flatE]
theorem flatE_one : ∀ (E : List Ent), ∀ u ∈ flatE E, u.oneCell' = true := fun E u hu => by
  obtain ⟨x, _, hx⟩ := List.mem_flatMap.1 hu
  have h7 : (entC x).all (·.oneCell') = true := one_entry _ _ _
  exact (Array.all_eq_true_iff_forall_mem.1 h7) u (Array.mem_def.2 hx)
set_option maxRecDepth 100000 in
/-- A row of entries, some at least, appended to a row of entries. -/
theorem wp_append_ents {o : Oper} {a : Act} {w : World} {K : Act → World → Prop} {Q : Exit → Act → World → Prop} (s y : Operand)
    (ho : o.op = .call { callee := .builtin .append, args := #[s, y], argTypes := #[31, 31] }) (base : Nat) (v : Value) (E : List Ent) (hs : a.eval s = v) (hown : RowE w base v E)
    (b2 : Nat) (v2 : Value) (F : List Ent) (hy : a.eval y = v2) (hF : RowE w b2 v2 F) (hF0 : 0 < F.length) (hL : E.length + F.length ≤ 1048576) (hb : base ≤ w.heap.size)
    (h : ∀ v' w', RowE w' base v' (E ++ F) → w.grownBy w' v.ownBlock → (∀ g, v'.ownBlock = some g → v.ownBlock = some g ∨ g = w.heap.size) → K (a.put o.dst v') w') : o.wp Tryz.prog a w K Q := by
  obtain ⟨ie, z, h1, h2, h3, h4, h5⟩ := info_ent'
  rcases hF.2 with ⟨_, h0⟩ | ⟨g, cap, cur, hv2, hg0, hg, hn, hc, hsz, ht⟩
  · omega
  · subst hv2
    refine wp_append_lies w s y 31 ho base 41 ie z 3 40 Tryz.underlying31 h1 h2 h3 h4 h5 (by decide) v E.length (flatE E) hs hown ⟨g, 0, none⟩ F.length cap (flatE F) hy (flatE_len F) ?_ (flatE_one F) hF0 ?_ ?_ hb _ rfl ?_
    · intro j u hj
      have e : (⟨g, 0, none⟩ : Addr).add j = ⟨g, j, none⟩ := by
        unfold Addr.add
        split
        · subst_vars; rfl
        · simp
      rw [e, cell_of_heap hg]
      have hjl : j < F.length * 3 := by
        rcases Nat.lt_or_ge j (F.length * 3) with h | h
        · exact h
        · rw [List.getElem?_eq_none (by rw [flatE_len]; exact h)] at hj; cases hj
      have h6 : (cur.toList.take (F.length * 3))[j]? = (flatE F)[j]? := by rw [ht]
      rw [List.getElem?_take_of_lt hjl] at h6
      rw [← Array.getElem?_toList, h6]
      exact hj
    · unfold maxLen; omega
    · omega
    · intro g' cap' w' q1 q2 q3 _
      refine h _ w' ?_ q2 (fun g hg => by
        have : g' = g := by simpa [Value.ownBlock] using hg
        rw [← this]
        exact q3)
      unfold RowE
      rw [List.length_append, flatE_app]
      exact q1
theorem own_one (w : World) (x : Ent) (b : Nat) (hb : b ≤ w.heap.size) : RowE (w.alloc (.cells (entC x) 41)) b (.slice (some ⟨w.heap.size, 0, none⟩) 1 1) [x] := by
  refine ⟨by simp [flatE, entC], .inr ⟨w.heap.size, 1, entC x, rfl, hb, hp_new _ _, ?_⟩⟩
  simp [flatE, entC]
  unfold maxLen
  omega
theorem treeL_pos (G : FS) {m : Nat} (hm : 0 < m) (p : Pth) : 0 < (treeL G m p).length := by
  obtain ⟨m, rfl⟩ : ∃ k, m = k + 1 := ⟨m - 1, by omega⟩
  rw [treeL_succ]; simp
theorem kids_none {G : FS} (hg : FsOk G) {p : Pth} {x : Nd} (hx : G.at p = some x) (hk : x.kind ≠ 2) : kidsF G p = [] := by
  cases h : kidsF G p with
  | nil => rfl
  | cons k l =>
    have := mem_kidsF.1 (show k ∈ kidsF G p by rw [h]; exact List.mem_cons_self)
    obtain ⟨y, hy, hy2⟩ := hg.up p k this
    rw [hx] at hy
    cases hy
    exact absurd hy2 hk
theorem list_dir {G : FS} (hg : FsOk G) {p : Pth} {x : Nd} (hx : G.at p = some x) (hk : x.kind = 2) (hs : partsF (tx p) = .ok p) : listE G (tx p) = .ok p := by
  unfold listE
  rw [thereE_at hg hx hs]
  simp only
  rw [hx]
  simp only
  rw [if_neg (by omega), if_neg (by omega)]
theorem parts_txE {p : Pth} (hp : okP p) : partsF (tx p) = .ok p := by
  by_cases h : p = []
  · subst h; exact parts_empty
  · exact parts_tx h hp
variable {K : Nat} {v : Value} {G : FS} {bb nn : Nat}
set_option maxRecDepth 100000 in
set_option maxHeartbeats 16000000 in
theorem tree20_calls : ∀ (d : Nat) (w : World) (h : RAt w K v G bb nn) (p : Pth) (hp : G.at p ≠ none) (hl : p.length + d = 65) (m : Nat) (hm : d ≤ m),
    Calls Tryz.prog 76 #[.agg #[v, .int .i64 (bb : Int), .int .i64 (nn : Int)], .string (tx p)] w fun e w' => ∃ v', e = .returned v' ∧ RowE w' w.heap.size v' (treeL G m p) ∧ Chg [] w w' := by
  intro d
  induction d with
  | zero =>
    intro w h p hp hl m hm
    obtain ⟨x, hx⟩ := Option.ne_none_iff_exists'.1 hp
    have := (h.ok.okp p x hx).1
    omega
  | succ d ih =>
    intro w h p hp hl m hm
    obtain ⟨m, rfl⟩ : ∃ k, m = k + 1 := ⟨m - 1, by omega⟩
    obtain ⟨x, hx⟩ := Option.ne_none_iff_exists'.1 hp
    have hok := h.ok.okp p x hx
    have hs := parts_txE hok
    have hsz := tx_size hok
    obtain ⟨w0, hw0, hC, hB⟩ := start1 w #[v, .int .i64 (bb : Int), .int .i64 (nn : Int)] 56
    have HR := Asd.mk h
    have HC := Asd.mk hC
    have HB := Asd.mk hB
    have hlk := look20_calls (h.chg hC) (tx p) (by omega)
    rw [lookF_at h.ok hx hs] at hlk
    have HL := Asd.mk hlk
    have HLi := Asd.mk (fun (W : World) (hC : Chg [] w W) => list20_calls (h.chg hC) (tx p) (by omega))
    have HTl := Asd.mk (treeL_succ G m p)
    have HE0 := Asd.mk (show entF G p = (tx p, x.kind, x.text) by unfold entF; rw [hx]; rfl)
    have HX := Asd.mk hx
    have HOk := Asd.mk hok
    have HS := Asd.mk hs
    obtain ⟨T, hT⟩ : ∃ T, tx p = T := ⟨_, rfl⟩
    have HT := Asd.mk hT
    rw [hT] at HL HE0 HLi ⊢
    obtain ⟨kd, Z⟩ := x
    simp only at HL HE0
    have b0 := cell_of_heap hB 0
    have b1 := cell_of_heap hB 1
    have b2 := cell_of_heap hB 2
    have HLl := Asd.mk hl
    have HMd := Asd.mk (show d ≤ m by omega)
    clear h hp hx hok hs hsz hC hB hlk hT hm hl
    (go_enter Tryz.func76, Tryz.ntmps76)
    go_wp2_with fail
    refine HL.out.mono ?_
    rintro e w1 ⟨rfl, hC⟩
    have HC1 := Asd.mk (HC.out.trans hC)
    have HB1 := Asd.mk (hC.heap HB.out (by simp))
    unfold entV
    simp only
    clear hC HL b0 b1 b2 hw0 HB HC
    go_upto_region 2 with (first | (refine wpList_store_row (o := ⟨none, _, _, _, _, _⟩) rfl 41 (.tmp 5) (.tmp 15) rfl w1.heap.size _ rfl rfl 41 _ (hp_new _ _) (size_entry _ _ _) rfl (one_entry _ _ _) ?_))
    refine wp_opaque2 (fun W hW => ?_)
    have hCW : Chg [w1.heap.size] w1 W := by rw [hW]; exact ((Chg.refl _ _).alloc _).setRow (fun _ => by simp) _
    have HCW := Asd.mk (show Chg [] w W by rw [hW]; exact (HC1.out.alloc _).setRow (fun h => absurd h (by have := HC1.out.size; omega)) _)
    have hbD : W.heap[w1.heap.size]? = some (.cells #[.string T, .int .i64 (kd : Int), .string Z] 41 (0, 0)) := by rw [hW]; exact setRow_heap _ _ _ _ _ _ (hp_new _ _)
    have HBW := Asd.mk (hCW.heap HB1.out (by have := lt_of_heap HB1.out; simp; omega))
    obtain ⟨D, hD⟩ : ∃ D, w1.heap.size = D := ⟨_, rfl⟩
    rw [hD] at hbD ⊢
    have HbD := Asd.mk hbD
    have d0 := cell_of_heap hbD 0
    have d1 := cell_of_heap hbD 1
    have d2 := cell_of_heap hbD 2
    clear hW hD hbD hCW HB1 HC1
    go_upto_region 3 with (first | (refine wpList_build_ent rfl (T, kd, Z) (.tmp 17) rfl rfl W.heap.size rfl ?_; simp only [Act.put, List.setIfInBounds_toArray, List.set_cons_zero, List.set_cons_succ]))
    refine wp_opaque2 (fun W2 hW => ?_)
    have hC2 : Chg [] W W2 := by rw [hW]; exact (Chg.refl _ _).alloc _
    have HC2 := Asd.mk (HCW.out.trans hC2)
    have HV := Asd.mk (show RowE W2 w.heap.size (.slice (some ⟨W.heap.size, 0, none⟩) 1 1) [entF G p] by rw [hW, HE0.out]; exact own_one W _ _ HCW.out.size)
    have HB2 := Asd.mk (hC2.heap HBW.out (by simp))
    have d1' := cell_of_heap (hC2.heap HbD.out (by simp)) 1
    have HG7 := Asd.mk (show w.heap.size < W.heap.size ∧ W.heap.size < W2.heap.size from ⟨lt_of_heap HBW.out, by rw [hW]; exact lt_of_heap (hp_new _ _)⟩)
    obtain ⟨g7, hg7⟩ : ∃ g, W.heap.size = g := ⟨_, rfl⟩
    rw [hg7] at HV HG7 ⊢
    clear hW hC2 d0 d1 d2 HBW HbD HCW hg7
    by_cases hk : kd = 2
    · subst hk
      have HKe := Asd.mk (list_dir HR.out.ok HX.out rfl HS.out)
      have HL2 := Asd.mk (HLi.out _ HC2.out)
      rw [HT.out] at HKe
      rw [HKe.out] at HL2
      have b0 := cell_of_heap HB2.out 0
      have b1 := cell_of_heap HB2.out 1
      have b2 := cell_of_heap HB2.out 2
      clear HLi HKe
      go_wp2_with fail
      refine HL2.out.mono ?_
      rintro e w3 ⟨⟨v8, rfl, hV8⟩, hC⟩
      obtain ⟨A8, c8, hv8, hc8⟩ := strL_of_own hV8
      obtain ⟨N, hN⟩ : ∃ n, (kidsF G p).length = n := ⟨_, rfl⟩
      rw [List.length_map, hN] at hv8
      subst hv8
      have HN := Asd.mk hN
      have HV8 := Asd.mk hV8
      have HO8 := Asd.mk (show ∀ g, (Value.slice A8 N c8).ownBlock = some g → g ∉ [g7] from fun g hg => by
        have := (own_block hV8 hg).1
        have := HG7.out
        simp
        omega)
      have HC3 := Asd.mk (HC2.out.trans hC)
      have HB3 := Asd.mk (hC.heap HB2.out (by simp))
      have HV3 := Asd.mk (own_off HV.out hC (fun _ _ => by simp))
      have hNz : N ≤ 65536 := by
        have h1 := kidsU_len G p
        have h2 := HR.out.num
        have h3 : (kidsF G p).length = (kidsU G p).length := by unfold kidsF sortN; rw [List.length_mergeSort]
        omega
      have hTz := treeL_len HR.out.ok (m := m + 1) (p := p) (by rw [HX.out]; simp)
      have HTz := Asd.mk (show (treeL G (m + 1) p).length ≤ 65537 by have := HR.out.num; omega)
      clear hN hC hV8 hc8 HL2 HC2 HB2 HV b0 b1 b2 d1' hTz
      go_wp2
      go_loopg [7, 10] (N + 1) (fun gk v7 v10 wx => ∃ i : Nat, i ≤ N ∧ gk = N + 1 - i ∧ v10 = .int .i64 (i : Int) ∧ Asd (Chg [g7] w3 wx) ∧ Asd (∀ g, v7.ownBlock = some g → g = g7 ∨ w3.heap.size ≤ g) ∧ Asd (RowE wx w.heap.size v7 (entF G p :: ((kidsF G p).take i).flatMap fun k => treeL G m (p ++ [k]))))
      case atStart => exact ⟨0, by omega, rfl, rfl, ⟨Chg.refl _ _⟩, ⟨fun g hg => .inl (by simpa [Value.ownBlock] using hg.symm)⟩, HV3⟩
      case round =>
        obtain ⟨i, hi, rfl, rfl, HC, HO7, HR7⟩ := hrel
        have HCw := Asd.mk (show Chg [] w wr from Chg.fresh ((HC3.out.mono (by simp)).trans HC.out) (fun j hj => by have := HG7.out; rw [List.mem_singleton] at hj; omega))
        by_cases hlt : i < N
        · have k1 : (i : Int) < (N : Int) := by omega
          have hil : i < (kidsF G p).length := by rw [HN.out]; exact hlt
          obtain ⟨a, hA8⟩ : ∃ a, A8 = some a := by
            obtain ⟨A8', c8', hv8, hc8⟩ := strL_of_own HV8.out
            simp only [Value.slice.injEq] at hv8
            obtain ⟨a, ha, _⟩ := hc8 i (by rw [List.length_map]; exact hil)
            exact ⟨a, hv8.1.trans ha⟩
          subst hA8
          have hmem := mem_kidsF.1 (List.getElem_mem hil)
          obtain ⟨k, hk⟩ : ∃ k, (kidsF G p)[i]'hil = k := ⟨_, rfl⟩
          have hst : entF G p :: ((kidsF G p).take (i + 1)).flatMap (fun k => treeL G m (p ++ [k])) = (entF G p :: ((kidsF G p).take i).flatMap fun k => treeL G m (p ++ [k])) ++ treeL G m (p ++ [k]) := by
            rw [List.take_succ_eq_append_getElem hil, List.flatMap_append, hk]
            simp
          rw [hk] at hmem
          have HSx := Asd.mk hst
          have hle : (entF G p :: ((kidsF G p).take (i + 1)).flatMap fun k => treeL G m (p ++ [k])).length ≤ (treeL G (m + 1) p).length := by
            rw [HTl.out]
            conv => rhs; rw [← List.take_append_drop (i + 1) (kidsF G p)]
            rw [List.flatMap_append]
            simp
          rw [hst, List.length_append] at hle
          obtain ⟨y, hy⟩ := Option.ne_none_iff_exists'.1 hmem
          have hok2 := HR.out.ok.okp _ y hy
          have hkl : k.length ≤ 255 := by
            have := List.all_eq_true.1 hok2.2.2 k (by simp)
            unfold okNm at this
            rw [decide_eq_true_eq] at this
            exact this.2.1
          have hlen := hok2.1
          rw [List.length_append, List.length_singleton] at hlen
          have HLe := Asd.mk (show (entF G p :: ((kidsF G p).take i).flatMap fun k => treeL G m (p ++ [k])).length + (treeL G m (p ++ [k])).length ≤ 1048576 from Nat.le_trans hle (Nat.le_trans HTz.out (by omega)))
          have HPo := Asd.mk (show 0 < (treeL G m (p ++ [k])).length from treeL_pos G (by have := HLl.out; have := HMd.out; omega) _)
          have HWt := Asd.mk (fun W => within_calls p k W HOk.out hkl)
          have HIh := Asd.mk (fun W (hW : Chg [] w W) => ih W (HR.out.chg hW) (p ++ [k]) hmem (by rw [List.length_append, List.length_singleton]; have := HLl.out; omega) m HMd.out)
          rw [HT.out] at HWt
          obtain ⟨U, hU⟩ : ∃ U, tx (p ++ [k]) = U := ⟨_, rfl⟩
          obtain ⟨Bk, hBk⟩ : ∃ U, nb k = U := ⟨_, rfl⟩
          rw [hBk] at HWt
          rw [hU] at HWt HIh
          have hS : ∀ W : World, Chg [g7] w3 W → W.cell? ⟨w.heap.size, 0, none⟩ = some v ∧ W.cell? ⟨w.heap.size, 1, none⟩ = some (.int .i64 (bb : Int)) ∧ W.cell? ⟨w.heap.size, 2, none⟩ = some (.int .i64 (nn : Int)) ∧ W.cell? (a.add i) = some (.string Bk) := fun W hW => by
            have hBr := hW.heap HB3.out (by have := HG7.out; simp; omega)
            obtain ⟨A8', c8', hv8, hc8⟩ := strL_of_own (own_off HV8.out hW HO8.out)
            simp only [Value.slice.injEq] at hv8
            obtain ⟨a', ha, e1⟩ := hc8 i (by rw [List.length_map]; exact hil)
            have e2 := hv8.1.trans ha
            cases e2
            rw [List.getElem_map, hk, hBk] at e1
            exact ⟨cell_of_heap hBr 0, cell_of_heap hBr 1, cell_of_heap hBr 2, e1⟩
          have HS1 := Asd.mk hS
          obtain ⟨F, hF⟩ : ∃ F, treeL G m (p ++ [k]) = F := ⟨_, rfl⟩
          obtain ⟨E, hE⟩ : ∃ E, (entF G p :: ((kidsF G p).take i).flatMap fun k => treeL G m (p ++ [k])) = E := ⟨_, rfl⟩
          rw [hF] at HSx HLe HPo HIh
          rw [hE] at HSx HLe HR7
          obtain ⟨A7, c7, hv7, _⟩ := own_form HR7.out
          obtain ⟨n7, hn7⟩ : ∃ n, E.length = n := ⟨_, rfl⟩
          rw [hn7] at hv7
          subst hv7
          clear hmem hk hst hle hy hok2 hkl hlen hU hBk hF hE hil hn7 hS
          have hwd := Asd.mk (show Chg [] wr wr.drew from (Chg.refl _ _).drew)
          have hk1 := HS1.out _ (HC.out.trans (hwd.out.mono (by simp)))
          go_upto_region 9 with fail
          go_region_held3 (fun (w' : World) => w'.cell? ⟨w.heap.size, 0, none⟩ = some v ∧ w'.cell? ⟨w.heap.size, 1, none⟩ = some (.int .i64 (bb : Int)) ∧ w'.cell? ⟨w.heap.size, 2, none⟩ = some (.int .i64 (nn : Int)) ∧ w'.cell? (a.add i) = some (.string Bk)) (first | exact hk1 | exact hk2 | exact hk3) (first | (go_at_call 90; refine (HWt.out _).mono ?_; rintro e w5 ⟨rfl, rfl⟩) | (go_at_call 76; refine (HIh.out _ (HCw.out.trans hwd.out)).mono ?_; rintro e w6 ⟨v6, rfl, hV6, hC⟩; have HC6 := Asd.mk (HC.out.trans ((hwd.out.trans hC).mono (by simp))); have HCw6 := Asd.mk ((HCw.out.trans hwd.out).trans hC); have HR6 := Asd.mk (own_off (own_off HR7.out hwd.out (fun _ _ => by simp)) hC (fun _ _ => by simp)); have HV6 := Asd.mk hV6; have HLw := Asd.mk (show w.heap.size ≤ w6.heap.size from HCw6.out.size); have hk2 := HS1.out _ HC6.out; clear hC hV6) | (refine wp_append_ents (.tmp 35) (.tmp 43) rfl w.heap.size (.slice A7 n7 c7) E rfl HR6.out _ _ F rfl HV6.out HPo.out HLe.out HLw.out ?_; intro v9 w9 hown9 hgr9 hob9; replace hown9 := Asd.mk hown9; have HO9 := Asd.mk (show ∀ g, v9.ownBlock = some g → g = g7 ∨ w3.heap.size ≤ g from fun g hg => by rcases hob9 g hg with h1 | h1; exact HO7.out g h1; have := HC6.out.size; right; omega); have HC9 := Asd.mk (Chg.grown HC6.out hgr9 (fun g e hg => by rcases HO7.out g e with h1 | h1; rw [h1]; simp; omega)); have hk3 := HS1.out _ HC9.out; clear hgr9 hob9))
          all_goals
            have HR9 := Asd.mk (show RowE w9 w.heap.size v9 (entF G p :: ((kidsF G p).take (i + 1)).flatMap fun k => treeL G m (p ++ [k])) by rw [HSx.out]; exact hown9.out)
            clear hk1 hk2 hk3
            go_wp2
            go_roundg (N + 1 - (i + 1))
            case rel => exact ⟨i + 1, by omega, by omega, by go_num, HC9, HO9, HR9⟩
            case measure => omega
        · have k1 : ¬ (i : Int) < (N : Int) := by omega
          rw [List.take_of_length_le (by have := HN.out; omega), ← HTl.out] at HR7
          go_wp2
          go_ret
          exact ⟨_, rfl, HR7.out, HCw.out⟩
    · have k2 : ¬ (kd : Int) = 2 := by omega
      have HTe := Asd.mk (show treeL G (m + 1) p = [entF G p] by rw [HTl.out, kids_none HR.out.ok HX.out hk]; rfl)
      clear hk
      go_wp2
      go_ret
      refine ⟨_, rfl, ?_, HC2.out⟩
      rw [HTe.out]
      exact HV.out
end Go.Proofs.YtiijbecklkccfaaGreatDoor.I
/- The reference's Tree, New. -/
namespace Go.Proofs.YtiijbecklkccfaaGreatDoor.I
open Go.RowKit Go.Proofs.YtiijbecklkccfaaGreatDoor.B Go.Sort
set_option linter.unusedVariables false
variable {w : World} {K : Nat} {v : Value} {G : FS} {bb nn : Nat}
/-- What the reference's Tree answers. -/
def TreeR (w : World) (G : FS) (R : Except Nat Pth) (e : Ending) (w' : World) : Prop := match R with
  | .error n => e = .returned (.tuple #[.slice none 0 0, .int .i64 (n : Int)])
  | .ok p => ∃ v, e = .returned (.tuple #[v, .int .i64 0]) ∧ RowE w' w.heap.size v (treeL G 65 p)
theorem look_there {G : FS} (hg : FsOk G) {s : ByteArray} : (∃ n, thereE G s = .error n ∧ n ≠ 0 ∧ lookF G s = (n, ⟨#[]⟩, 0, ⟨#[]⟩)) ∨ (∃ p x, thereE G s = .ok p ∧ G.at p = some x ∧ s = tx p ∧ okP p ∧ lookF G s = (0, s, x.kind, x.text)) := by
  unfold lookF
  cases ht : thereE G s with
  | error n => exact .inl ⟨n, rfl, thereE_pos ht, rfl⟩
  | ok p =>
    obtain ⟨x, hx⟩ := thereE_ok ht
    have hat : atE G s = .ok p := by
      unfold thereE at ht
      cases ha : atE G s with
      | error n => rw [ha] at ht; cases ht
      | ok q =>
        rw [ha] at ht
        simp only at ht
        split at ht
        · cases ht; rfl
        · cases ht
    refine .inr ⟨p, x, rfl, hx, tx_parts (atE_parts hat), hg.okp _ _ hx, ?_⟩
    simp only
    rw [hx]
set_option maxRecDepth 100000 in
set_option maxHeartbeats 16000000 in
theorem treetop20_calls (h : RAt w K v G bb nn) (s : ByteArray) (hs : s.size ≤ 1048576) :
    Calls Tryz.prog 49 #[.agg #[v, .int .i64 (bb : Int), .int .i64 (nn : Int)], .string s] w fun e w' => TreeR w G (thereE G s) e w' ∧ Chg [] w w' := by
  obtain ⟨w0, hw0, hC, hB⟩ := start1 w #[v, .int .i64 (bb : Int), .int .i64 (nn : Int)] 56
  have HC := Asd.mk hC
  have HB := Asd.mk hB
  have HR := Asd.mk h
  have hlk := look20_calls (h.chg hC) s hs
  have b0 := cell_of_heap hB 0
  have b1 := cell_of_heap hB 1
  have b2 := cell_of_heap hB 2
  rcases look_there h.ok (s := s) with ⟨n, h1, h2, h3⟩ | ⟨p, x, h1, h2, h3, h4, h5⟩
  · rw [h3] at hlk
    have HL := Asd.mk hlk
    have HRn := Asd.mk h1
    have k1 : ¬ (n : Int) = 0 := by omega
    clear h hC hB hs hlk h1 h2 h3
    (go_enter Tryz.func49, Tryz.ntmps49)
    go_wp2_with fail
    refine HL.out.mono ?_
    rintro e w1 ⟨rfl, hC⟩
    have HC1 := Asd.mk (HC.out.trans hC)
    unfold entV
    simp only
    clear hC HL b0 b1 b2 hw0 HB HC
    go_upto_region 2 with (first | (refine wpList_store_row (o := ⟨none, _, _, _, _, _⟩) rfl 41 (.tmp 6) (.tmp 12) rfl w1.heap.size _ rfl rfl 41 _ (hp_new _ _) (size_entry _ _ _) rfl (one_entry _ _ _) ?_))
    refine wp_opaque2 (fun W hW => ?_)
    have HCW := Asd.mk (show Chg [] w W by rw [hW]; exact (HC1.out.alloc _).setRow (fun h => absurd h (by have := HC1.out.size; omega)) _)
    clear hW HC1
    go_wp2
    go_ret2
    refine ⟨?_, HCW.out⟩
    rw [HRn.out]
    rfl
  · rw [h5] at hlk
    have HL := Asd.mk hlk
    have HRn := Asd.mk h1
    have HX := Asd.mk h2
    have HOk := Asd.mk h4
    have hT := fun (W : World) (hW : Chg [] w W) => tree20_calls (65 - p.length) W (h.chg hW) p (by rw [h2]; simp) (by have := h4.1; omega) 65 (by omega)
    rw [← h3] at hT
    have HT := Asd.mk hT
    clear h hC hB hs hlk h1 h2 h3 h4 h5 hT
    (go_enter Tryz.func49, Tryz.ntmps49)
    go_wp2_with fail
    refine HL.out.mono ?_
    rintro e w1 ⟨rfl, hC⟩
    have HC1 := Asd.mk (HC.out.trans hC)
    have HB1 := Asd.mk (hC.heap HB.out (by simp))
    unfold entV
    simp only
    clear hC HL b0 b1 b2 hw0 HB HC
    go_upto_region 2 with (first | (refine wpList_store_row (o := ⟨none, _, _, _, _, _⟩) rfl 41 (.tmp 6) (.tmp 12) rfl w1.heap.size _ rfl rfl 41 _ (hp_new _ _) (size_entry _ _ _) rfl (one_entry _ _ _) ?_))
    refine wp_opaque2 (fun W hW => ?_)
    have hCW : Chg [w1.heap.size] w1 W := by rw [hW]; exact ((Chg.refl _ _).alloc _).setRow (fun _ => by simp) _
    have HCW := Asd.mk (show Chg [] w W by rw [hW]; exact (HC1.out.alloc _).setRow (fun h => absurd h (by have := HC1.out.size; omega)) _)
    have hBW := hCW.heap HB1.out (by have := lt_of_heap HB1.out; simp; omega)
    have b0 := cell_of_heap hBW 0
    have b1 := cell_of_heap hBW 1
    have b2 := cell_of_heap hBW 2
    have HT2 := Asd.mk (HT.out _ HCW.out)
    clear hW hCW HB1 HC1 hBW HT
    go_wp2_with fail
    refine HT2.out.mono ?_
    rintro e w3 ⟨v3, rfl, hV, hC⟩
    have HV := Asd.mk (own_mono hV HCW.out.size)
    have HC3 := Asd.mk (HCW.out.trans hC)
    clear hV hC HT2 b0 b1 b2
    go_wp2
    go_ret2
    refine ⟨?_, HC3.out⟩
    rw [HRn.out]
    exact ⟨_, rfl, HV.out⟩
set_option maxRecDepth 100000 in
set_option maxHeartbeats 16000000 in
theorem new20_ok (bb nn : Nat) (w : World) (hb : bb ≤ 2147483647) (hn : nn ≤ 65536) :
    Calls Tryz.prog 42 #[.int .i64 (bb : Int), .int .i64 (nn : Int)] w fun e w' => e = .returned (.tuple #[.agg #[.slice none 0 0, .int .i64 (bb : Int), .int .i64 (nn : Int)], .int .i64 0]) ∧ Chg [] w w' := by
  obtain ⟨w0, hw0, hC, hB⟩ := start1 w #[.slice none 0 0, .int .i64 0, .int .i64 0] 56
  have HC := Asd.mk hC
  have HB := Asd.mk hB
  have k1 : ¬ (bb : Int) < 0 := by omega
  have k2 : ¬ (2147483647 : Int) < (bb : Int) := by omega
  have k3 : ¬ (nn : Int) < 0 := by omega
  have k4 : ¬ (65536 : Int) < (nn : Int) := by omega
  have HL := Asd.mk (lt_of_heap hB)
  clear hC hB
  (go_enter Tryz.func42, Tryz.ntmps42)
  go_wp2_with (first | (refine wpList_store_row (o := ⟨none, _, _, _, _, _⟩) rfl 56 (.tmp 4) (.tmp 23) rfl w.heap.size _ rfl rfl 56 _ HB.out (size_tab _ _ _) rfl (one_tab _ _ _ _ _) ?_))
  refine bodyPost_ret (results_row_tmp rfl _ _ w.heap.size 56 _ (0, 0) _ rfl (setRow_heap _ _ _ _ _ _ HB.out) Tryz.underlying56 rfl (size_tab _ _ _)) rfl ?_
  exact ⟨rfl, HC.out.setRow (fun h => absurd h (by omega)) _⟩
set_option maxRecDepth 100000 in
set_option maxHeartbeats 16000000 in
theorem new20_bad (bb nn : Int) (w : World) (hb : bb < 0 ∨ 2147483647 < bb ∨ nn < 0 ∨ 65536 < nn) :
    Calls Tryz.prog 42 #[.int .i64 bb, .int .i64 nn] w fun e w' => e = .returned (.tuple #[.agg #[.slice none 0 0, .int .i64 0, .int .i64 0], .int .i64 1]) ∧ Chg [] w w' := by
  obtain ⟨w0, hw0, hC, hB⟩ := start1 w #[.slice none 0 0, .int .i64 0, .int .i64 0] 56
  have HC := Asd.mk hC
  have HB := Asd.mk hB
  have HHb := Asd.mk hb
  clear hC hB hb
  (go_enter Tryz.func42, Tryz.ntmps42)
  go_upto_region 1 with fail
  go_cut [19] from 6 to 19 (fun v19 wx => w0 = wx ∧ v19 = .bool true)
  case first =>
    by_cases k1 : bb < 0
    · go_wp2
      go_meet
      case rel => exact ⟨rfl, rfl⟩
    · by_cases k2 : (2147483647 : Int) < bb
      · go_wp2
        go_meet
        case rel => exact ⟨rfl, rfl⟩
      · by_cases k3 : nn < 0
        · go_wp2
          go_meet
          case rel => exact ⟨rfl, rfl⟩
        · have k4 : (65536 : Int) < nn := by have := HHb.out; omega
          go_wp2
          go_meet
          case rel => exact ⟨rfl, rfl⟩
  case rest =>
    obtain ⟨rfl, rfl⟩ := hcut
    go_wp2_with (first | (refine wpList_store_row (o := ⟨none, _, _, _, _, _⟩) rfl 56 (.tmp 4) (.tmp 20) rfl w.heap.size _ rfl rfl 56 _ HB.out (size_tab _ _ _) rfl (one_tab _ _ _ _ _) ?_))
    refine bodyPost_ret (results_row_tmp rfl _ _ w.heap.size 56 _ (0, 0) _ rfl (setRow_heap _ _ _ _ _ _ HB.out) Tryz.underlying56 rfl (size_tab _ _ _)) rfl ?_
    exact ⟨rfl, HC.out.setRow (fun h => absurd h (by omega)) _⟩
end Go.Proofs.YtiijbecklkccfaaGreatDoor.I
