/- Merged out of these texts: RenK3, Rename, Link, Remove. -/
import Derived.Test.YthojofeocjmglaaGreatDoorDk9
import Derived.Test.YthojofeocjmglaaGreatDoorDk10
import Derived.Test.YthojofeocjmglaaGreatDoorDk8
import Derived.Test.YthojofeocjmglaaGreatDoorDk6
/- The program's Rename: the walk where the way to what is renamed is clear: it is a directory, the goal not below it. (Printed by ren.py.) -/
namespace Go.Proofs.YthojofeocjmglaaGreatDoor.I
open Go.RowKit Go.Proofs.YthojofeocjmglaaGreatDoor.B Go.Sort
set_option linter.unusedVariables false
open Classical in
set_option maxRecDepth 100000 in
set_option maxHeartbeats 16000000 in
theorem rename_K3 (L : List Nat) (t : Nat) (fs : FS) (by' nd : Nat) (A M : Pth → Nat) (a b : ByteArray) (w : World) (hT : TabAt w L t fs by' nd A M) (hg : FsOk fs) (hr : Room fs by' nd) (hm : MaxLenAt w) (ha : a.size ≤ 4294967280) (hb : b.size ≤ 4294967280) (p q pd qd : Pth) (pn qn : Nm) (hR : partsF a = .ok p) (hR2 : partsF b = .ok q) (hp0 : p ≠ []) (hq0 : q ≠ []) (hw : wayE fs p = none) (hpe : p = pd ++ [pn]) (hqe : q = qd ++ [qn]) (x : Nd) (hx : fs.at p = some x) (hab : a ≠ b) (hk : x.kind = 2) (hbl : belowB a b = false) :
    Calls Tryz.prog 74 #[(.pointer (some ⟨t, 0, none⟩)), .string a, .string b] w fun e w' => OpPost w L t by' nd (renameF fs a b) e w' := by
  have HX := Asd.mk (And.intro hx hk)
  have hka2 : kidA fs A p = some ⟨A p, 0, none⟩ := by unfold kidA; rw [hx]; rfl
  have hnb : ¬ (x.kind = 2 ∧ a ≠ b ∧ belowB a b = true) := fun h => by rw [hbl] at h; exact absurd h.2.2 (by decide)
  have HBl := Asd.mk (fun W => below_calls a b W ha)
  rw [hbl] at HBl
  have ab1 := bytes_ne1 hab
  have ab2 := bytes_ne2 hab
  have HNB := Asd.mk hnb
  have HAB := Asd.mk hab
  have HWe := Asd.mk hw
  clear hx hnb hab hbl hk
  have hpl := partsF_len hR
  have hql := partsF_len hR2
  have hp1 : ¬ (p.length : Int) = 0 := by have := List.length_pos_iff.2 hp0; omega
  have hq1 : ¬ (q.length : Int) = 0 := by have := List.length_pos_iff.2 hq0; omega
  have hPa := parts_calls a w hm ha
  have hPb := fun (W : World) (hW : Chg [] w W) => parts_calls b W (hm.chg hW) hb
  rw [hR] at hPa
  rw [hR2] at hPb
  have HPa := Asd.mk hPa
  have HPb := Asd.mk hPb
  have HT := Asd.mk hT
  have HM := Asd.mk hm
  have hid : ∀ i ∈ L, i ∈ L ∨ w.heap.size ≤ i := fun i hi => .inl hi
  have HWy := Asd.mk (fun (r : Pth) (g : Nat) (W : World) (hW : Chg [] w W) (hr : r ≠ []) (hl : r.length ≤ 64) (hN : NmR W g 0 r) => way_calls L t fs by' nd A M r g r.length W (hT.keep0 hW) hg hr hN (by omega) (Nat.le_refl _))
  have HG := Asd.mk hg
  have HRR := Asd.mk (And.intro hR hR2)
  have HP0 := Asd.mk (And.intro hp0 hpe)
  have HQ0 := Asd.mk (And.intro hq0 hqe)
  have HPL := Asd.mk (And.intro hpl hql)
  have HRm := Asd.mk hr
  have HWp := Asd.mk hw
  obtain ⟨ka, hka⟩ : ∃ k, kidA fs A p = k := ⟨_, rfl⟩
  have HPW := Asd.mk (show ∀ e, wayPost fs A p e → e = .returned (.tuple #[.agg #[(.pointer (some ⟨A pd, 0, none⟩)), .string (nb pn), .pointer ka], .nilIface]) from fun e h => by rw [← hka]; exact way_place hpe hw h)
  have HKA := Asd.mk hka
  clear hPa hPb hR hR2 hT hg hr hm hp0 hq0 hpe hqe hpl hql hw hka
  (go_enter Tryz.func74, Tryz.ntmps74)
  go_wp2_with fail
  refine HPa.out.mono ?_
  rintro e w1 ⟨hP, hC1⟩
  obtain ⟨g1, rfl, hN1⟩ := parts_ok_ne HP0.out.1 hP
  have HC1 := Asd.mk hC1
  have HP2 := Asd.mk (HPb.out w1 hC1)
  have HN1 := Asd.mk hN1
  clear hC1 hP HPa HPb hN1
  go_wp2_with fail
  refine HP2.out.mono ?_
  rintro e w2 ⟨hP, hC2⟩
  obtain ⟨g2, rfl, hN2⟩ := parts_ok_ne HQ0.out.1 hP
  have HC2 := Asd.mk (HC1.out.trans hC2)
  have HN2 := Asd.mk hN2
  have HW1 := Asd.mk (HWy.out p g1 w2 HC2.out HP0.out.1 HPL.out.1 (HN1.out.keep hC2 (by simp)))
  clear hC2 hP HP2 hN2 HN1 HC1
  go_wp2_with fail
  refine HW1.out.mono ?_
  rintro e w3 ⟨hP3, hC3⟩
  have hP4 := HPW.out e hP3
  subst hP4
  have HC3 := Asd.mk (HC2.out.trans hC3)
  have HN3 := Asd.mk (HN2.out.keep hC3 (by simp))
  clear hC3 HW1 HC2 HN2 hP3 HPW
  go_upto_region 12 with fail
  refine wp_opaque2 (fun W hW => ?_)
  have HCW := Asd.mk (show Chg [] w W by rw [hW]; exact HC3.out.alloc _)
  have HNW := Asd.mk (show NmR W g2 0 q by rw [hW]; exact HN3.out.keep ((Chg.refl [] _).alloc _) (by simp))
  have HB := Asd.mk (show W.heap[w3.heap.size]? = some (.cells #[(.pointer (some ⟨A pd, 0, none⟩)), .string (nb pn), .pointer ka] 127 (0, 0)) by rw [hW]; exact hp_new _ _)
  have HTW := Asd.mk (HT.out.keep0 HCW.out)
  have HBw := Asd.mk (show w.heap.size ≤ w3.heap.size from HC3.out.size)
  obtain ⟨B, hB⟩ : ∃ B, w3.heap.size = B := ⟨_, rfl⟩
  rw [hB] at HB HBw ⊢
  have b2 := cell_of_heap HB.out 2
  clear hW HC3 HN3 hB
  have hk2 : ka = some ⟨A p, 0, none⟩ := by rw [← HKA.out, hka2]
  subst hk2
  have c0 := cell_of_heap (HTW.out.node p x HX.out.1) 0
  rw [HX.out.2] at c0
  clear hka2 HKA
  have HW2 := Asd.mk (HWy.out q g2 W HCW.out HQ0.out.1 HPL.out.2 HNW.out)
  clear HWy HNW
  go_wp2_with fail
  refine (HBl.out _).mono ?_
  rintro e w5 ⟨rfl, hw5⟩
  have hw6 := hw5.symm
  subst hw6
  clear hw5
  go_wp2_with fail
  refine HW2.out.mono ?_
  rintro e w5 ⟨hP5, hC5⟩
  have HC5 := Asd.mk (HCW.out.trans hC5)
  have HB5 := Asd.mk (hC5.heap HB.out (by simp))
  clear hC5 HW2 HB HCW b2 c0
  have HAE := Asd.mk (ren_eq HRR.out.1 HRR.out.2 HP0.out.1 HQ0.out.1 HWp.out HX.out.1 HNB.out)
  obtain ⟨R, hwq⟩ : ∃ R, wayE fs q = R := ⟨_, rfl⟩
  cases R with
  | some n =>
    have HA := Asd.mk (show renameF fs a b = (n, fs) by rw [HAE.out, hwq])
    have hP6 : e = .returned (.tuple #[(.agg #[.pointer none, .string ⟨#[]⟩, .pointer none]), .iface 88 (.int .i64 (n : Int))]) := by unfold wayPost at hP5; rw [hwq] at hP5; exact hP5
    subst hP6
    have HN := Asd.mk (show n ≠ 0 from fun e => by
      have : atE fs b = .error n := by unfold atE; rw [HRR.out.2]; simp only; rw [hwq]
      exact atE_pos this e)
    clear hP5 hwq
    go_wp2
    go_ret
    exact ⟨by rw [HA.out]; simp only [errV]; rw [if_neg HN.out]; rfl, (HC5.out.alloc _).mono (by simp), L, A, M, by rw [HA.out]; exact HT.out.keep0 (HC5.out.alloc _), hid⟩
  | none =>
    obtain ⟨kb, hkb⟩ : ∃ k, kidA fs A q = k := ⟨_, rfl⟩
    have hP6 : e = .returned (.tuple #[.agg #[(.pointer (some ⟨A qd, 0, none⟩)), .string (nb qn), .pointer kb], .nilIface]) := by rw [← hkb]; exact way_place HQ0.out.2 hwq hP5
    subst hP6
    have HKB := Asd.mk hkb
    have HWq := Asd.mk hwq
    clear hP5 hwq hkb
    go_upto_region 19 with fail
    refine wp_opaque2 (fun V hV => ?_)
    have HCV := Asd.mk (show Chg [] w V by rw [hV]; exact HC5.out.alloc _)
    have HBV := Asd.mk (show V.heap[B]? = some (.cells #[(.pointer (some ⟨A pd, 0, none⟩)), .string (nb pn), (.pointer (some ⟨A p, 0, none⟩))] 127 (0, 0)) by rw [hV]; exact hp_alloc HB5.out _)
    have HDV := Asd.mk (show V.heap[w5.heap.size]? = some (.cells #[(.pointer (some ⟨A qd, 0, none⟩)), .string (nb qn), .pointer kb] 127 (0, 0)) by rw [hV]; exact hp_new _ _)
    have HTV := Asd.mk (HT.out.keep0 HCV.out)
    have HDw := Asd.mk (show w.heap.size ≤ w5.heap.size from HC5.out.size)
    obtain ⟨D, hD⟩ : ∃ D, w5.heap.size = D := ⟨_, rfl⟩
    rw [hD] at HDV HDw ⊢
    have b2 := cell_of_heap HBV.out 2
    have d2 := cell_of_heap HDV.out 2
    have HGv := Asd.mk (show Calls Tryz.prog 108 #[.pointer kb, (.pointer (some ⟨A p, 0, none⟩))] V fun e w' => e = .returned (errV (givesF fs q x)) ∧ w' = V by rw [← HKB.out]; exact gives_calls L t fs by' nd A M q p x V HTV.out HG.out HX.out.1)
    have HFt := Asd.mk (show Calls Tryz.prog 109 #[(.pointer (some ⟨A p, 0, none⟩)), .string b] V fun e w' => ∃ bo, e = .returned (.bool bo) ∧ (bo = true ↔ fitsP fs p b.data.toList) ∧ Chg [] V w' by
      have hbs : b.data.toList.length ≤ 10000 := by rw [ba_len]; have := parts_size HRR.out.2; omega
      have := fits_calls L t fs by' nd A M HG.out (65 - p.length) p x b.data.toList V (by have := HPL.out.1; omega) HX.out.1 hbs HTV.out (HM.out.chg HCV.out)
      rw [nb_list] at this
      exact this)
    clear hV HC5 HB5 hD
    obtain ⟨gn, hgn⟩ : ∃ n, givesF fs q x = n := ⟨_, rfl⟩
    by_cases hg0 : gn = 0
    · have HG0 := Asd.mk (show givesF fs q x = 0 by rw [hgn, hg0])
      have HGv2 := Asd.mk (show Calls Tryz.prog 108 #[.pointer kb, (.pointer (some ⟨A p, 0, none⟩))] V fun e w' => e = .returned .nilIface ∧ w' = V by
        have := HGv.out
        rw [hgn, hg0] at this
        exact this)
      clear hgn hg0 HGv
      go_wp2_with fail
      refine HGv2.out.mono ?_
      rintro e w7 ⟨rfl, hw7⟩
      have hw8 := hw7.symm
      subst hw8
      clear hw7 HGv2
      go_wp2_with fail
      refine HFt.out.mono ?_
      rintro e U ⟨bo, rfl, hbo, hC7⟩
      have HBU := Asd.mk (hC7.heap HBV.out (by simp))
      have HDU := Asd.mk (hC7.heap HDV.out (by simp))
      have HTU := Asd.mk (HTV.out.keep0 hC7)
      have HCU := Asd.mk (HCV.out.trans hC7)
      clear hC7 HFt HBV HDV HTV HCV b2 d2
      cases bo with
      | false =>
        have HA := Asd.mk (show renameF fs a b = (2, fs) by rw [HAE.out, HWq.out]; simp only; rw [if_neg HAB.out, HG0.out, if_neg (by decide : ¬ ((0 : Nat) ≠ 0)), if_pos (fun h => by have := hbo.2 h; cases this)])
        clear hbo
        go_wp2
        go_ret
        exact ⟨by rw [HA.out]; rfl, HCU.out.mono (by simp), L, A, M, by rw [HA.out]; exact HT.out.keep0 HCU.out, hid⟩
      | true =>
        have HF := Asd.mk (hbo.1 rfl)
        have HA := Asd.mk (show renameF fs a b = (0, mvF (delF fs q) p q) by rw [HAE.out, HWq.out]; simp only; rw [if_neg HAB.out, HG0.out, if_neg (by decide : ¬ ((0 : Nat) ≠ 0)), if_neg (fun h => h HF.out)])
        have HOk := Asd.mk (ren_ok HG.out HRR.out.1 HRR.out.2 HP0.out.1 HAB.out HX.out.1 HNB.out HQ0.out.2 HWq.out HG0.out HF.out)
        clear hbo
        obtain ⟨yq, HO⟩ := HOk.out
        have HOk2 := Asd.mk HO
        obtain ⟨hg2, hp2, hq2, hqd2, hpd0⟩ := ren_after HG.out HO
        obtain ⟨z, hz1, hz2⟩ := hpd0 pd pn HP0.out.2
        have HJ := Asd.mk (fun (U : World) (hTU : TabAt U L t (delF fs q) by' nd A M) => by
          have h1 := HP0.out.2
          have h2 := HQ0.out.2
          have h := ren_two (x := x) (pn := pn) (qn := qn) hTU hg2 (by rw [← h1]; exact hp2) hz1 hz2 (by rw [← h2]; exact hq2) hqd2 HOk2.out.dk (by rw [← h1]; exact HOk2.out.np)
          rw [← h1, ← h2] at h
          exact h)
        have HND := Asd.mk (show (A pd ∈ L ∧ A qd ∈ L) ∧ (M pd ∈ L ∧ M qd ∈ L) ∧ A pd ≠ M pd ∧ A qd ≠ M pd from by
          have hx1 := at_of_del hz1
          have hx2 := HOk2.out.dir
          exact ⟨⟨(HT.out.aL _ _ hx1).1, (HT.out.aL _ _ hx2).1⟩, ⟨(HT.out.aL _ _ hx1).2 hz2, (HT.out.aL _ _ hx2).2 HOk2.out.dk⟩, HT.out.ne_map hx1 hx1 hz2, HT.out.ne_map hx2 hx1 hz2⟩)
        have HBL := Asd.mk (show B ∉ L ∧ D ∉ L from ⟨fun h => by have := HT.out.bl _ h; have := HBw.out; omega, fun h => by have := HT.out.bl _ h; have := HDw.out; omega⟩)
        have HPD := Asd.mk (And.intro hz1 hz2)
        have HQD := Asd.mk (And.intro hqd2 HOk2.out.dk)
        clear HO hg2 hp2 hq2 hqd2 hpd0 hz1 hz2
        cases hyq : fs.at q with
        | none =>
          have hk5 : kb = none := by rw [← HKB.out]; unfold kidA; rw [hyq]; rfl
          subst hk5
          have d2 := cell_of_heap HDU.out 2
          have HTD := Asd.mk (show TabAt U L t (delF fs q) by' nd A M by
            rw [del_none (not_mem HG.out.nodup HQ0.out.1 hyq)]
            exact HTU.out)
          have HCL := Asd.mk (show Chg L w U from HCU.out.mono (by simp))
          clear HCU HTU hyq
          go_upto_region 28 with fail
          clear d2
          refine wp_opaque2 (fun X hX => ?_)
          subst hX
          obtain ⟨es1, k1, hdel, hJ2⟩ := HJ.out X HTD.out
          have HJ2 := Asd.mk hJ2
          have b0 := cell_of_heap HBU.out 0
          have b1 := cell_of_heap HBU.out 1
          have pq2 := cell_of_heap (HTD.out.node pd _ HPD.out.1) 2
          rw [if_pos HPD.out.2] at pq2
          clear HJ hJ2
          go_still_tail 7, (by kernel_rfl)
          go_upto_region 29 with fail
          refine wp_opaque2 (fun Y hY => ?_)
          obtain ⟨es2, k2, hup, hTF⟩ := HJ2.out Y hY
          have HCY := Asd.mk (show Chg L w Y by rw [hY]; exact HCL.out.drew.setBlock (fun _ => HND.out.2.1.1) _)
          have HBY := Asd.mk (show Y.heap[B]? = some (.cells #[(.pointer (some ⟨A pd, 0, none⟩)), .string (nb pn), (.pointer (some ⟨A p, 0, none⟩))] 127 (0, 0)) by rw [hY]; exact hp_setBlock_other (hp_drew HBU.out) (fun e => HBL.out.1 (e ▸ HND.out.2.1.1)))
          have HDY := Asd.mk (show Y.heap[D]? = some (.cells #[(.pointer (some ⟨A qd, 0, none⟩)), .string (nb qn), .pointer _] 127 (0, 0)) by rw [hY]; exact hp_setBlock_other (hp_drew HDU.out) (fun e => HBL.out.2 (e ▸ HND.out.2.1.1)))
          have HQY := Asd.mk (show Y.heap[A qd]? = some (.cells #[.int .i64 (yq.kind : Int), .string yq.text, if yq.kind = 2 then .map (some (M qd)) else .map none] 133 (0, 0)) by rw [hY]; exact hp_setBlock_other (hp_drew (HTD.out.node qd _ HQD.out.1)) HND.out.2.2.2)
          have y2 := cell_of_heap HBY.out 2
          have y0 := cell_of_heap HDY.out 0
          have y1 := cell_of_heap HDY.out 1
          have yq2 := cell_of_heap HQY.out 2
          rw [if_pos HQD.out.2] at yq2
          have HTF := Asd.mk hTF
          clear hY hTF HJ2 hdel b0 b1 pq2
          go_still_tail 9, (by kernel_rfl)
          go_wp2
          go_ret
          exact ⟨by rw [HA.out]; rfl, HCY.out.drew.setBlock (fun _ => HND.out.2.1.2) _, L, _, _, by rw [HA.out]; exact HTF.out, hid⟩
        | some u =>
          have hk5 : kb = some ⟨A q, 0, none⟩ := by rw [← HKB.out]; unfold kidA; rw [hyq]; rfl
          subst hk5
          have d2 := cell_of_heap HDU.out 2
          have HD := Asd.mk (show Calls Tryz.prog 110 #[(.pointer (some ⟨t, 0, none⟩)), .agg #[(.pointer (some ⟨A qd, 0, none⟩)), .string (nb qn), (.pointer (some ⟨A q, 0, none⟩))]] U fun e w' => e = .returned (.tuple #[]) ∧ Chg L U w' ∧ TabAt w' L t (delF fs q) by' nd A M by
            have h2 := HQ0.out.2
            have h := drop_calls L t fs by' nd A M qd qn u yq U HTU.out HG.out HRm.out HOk2.out.dir HOk2.out.dk (by rw [← h2]; exact hyq)
            rw [← h2] at h
            exact h)
          clear HTU hyq
          go_upto_region 28 with (first | (refine wpList_load_row (o := ⟨some 105, _, _, _, _, _⟩) rfl 127 (.tmp 11) rfl D rfl 127 _ (0, 0) _ HDU.out Tryz.underlying127 rfl (size_place _ _ _) ?_) | (go_at_call 110; refine HD.out.mono ?_; rintro e U2 ⟨rfl, hC8, hT8⟩; have HB8 := Asd.mk (hC8.heap HBU.out HBL.out.1); have HD8 := Asd.mk (hC8.heap HDU.out HBL.out.2); have HC8 := Asd.mk ((HCU.out.mono (by simp)).trans hC8); have HT8 := Asd.mk hT8; clear hC8 hT8 HBU HDU HCU HD d2))
          have HBU := HB8
          have HDU := HD8
          have HTD := HT8
          have HCL := HC8
          clear HB8 HD8 HT8 HC8
          refine wp_opaque2 (fun X hX => ?_)
          subst hX
          obtain ⟨es1, k1, hdel, hJ2⟩ := HJ.out X HTD.out
          have HJ2 := Asd.mk hJ2
          have b0 := cell_of_heap HBU.out 0
          have b1 := cell_of_heap HBU.out 1
          have pq2 := cell_of_heap (HTD.out.node pd _ HPD.out.1) 2
          rw [if_pos HPD.out.2] at pq2
          clear HJ hJ2
          go_still_tail 7, (by kernel_rfl)
          go_upto_region 29 with fail
          refine wp_opaque2 (fun Y hY => ?_)
          obtain ⟨es2, k2, hup, hTF⟩ := HJ2.out Y hY
          have HCY := Asd.mk (show Chg L w Y by rw [hY]; exact HCL.out.drew.setBlock (fun _ => HND.out.2.1.1) _)
          have HBY := Asd.mk (show Y.heap[B]? = some (.cells #[(.pointer (some ⟨A pd, 0, none⟩)), .string (nb pn), (.pointer (some ⟨A p, 0, none⟩))] 127 (0, 0)) by rw [hY]; exact hp_setBlock_other (hp_drew HBU.out) (fun e => HBL.out.1 (e ▸ HND.out.2.1.1)))
          have HDY := Asd.mk (show Y.heap[D]? = some (.cells #[(.pointer (some ⟨A qd, 0, none⟩)), .string (nb qn), .pointer _] 127 (0, 0)) by rw [hY]; exact hp_setBlock_other (hp_drew HDU.out) (fun e => HBL.out.2 (e ▸ HND.out.2.1.1)))
          have HQY := Asd.mk (show Y.heap[A qd]? = some (.cells #[.int .i64 (yq.kind : Int), .string yq.text, if yq.kind = 2 then .map (some (M qd)) else .map none] 133 (0, 0)) by rw [hY]; exact hp_setBlock_other (hp_drew (HTD.out.node qd _ HQD.out.1)) HND.out.2.2.2)
          have y2 := cell_of_heap HBY.out 2
          have y0 := cell_of_heap HDY.out 0
          have y1 := cell_of_heap HDY.out 1
          have yq2 := cell_of_heap HQY.out 2
          rw [if_pos HQD.out.2] at yq2
          have HTF := Asd.mk hTF
          clear hY hTF HJ2 hdel b0 b1 pq2
          go_still_tail 9, (by kernel_rfl)
          go_wp2
          go_ret
          exact ⟨by rw [HA.out]; rfl, HCY.out.drew.setBlock (fun _ => HND.out.2.1.2) _, L, _, _, by rw [HA.out]; exact HTF.out, hid⟩
    · have HN := Asd.mk hg0
      have HA := Asd.mk (show renameF fs a b = (gn, fs) by rw [HAE.out, HWq.out]; simp only; rw [if_neg HAB.out, hgn, if_pos hg0])
      have HGv2 := Asd.mk (show Calls Tryz.prog 108 #[.pointer kb, (.pointer (some ⟨A p, 0, none⟩))] V fun e w' => e = .returned (.iface 88 (.int .i64 (gn : Int))) ∧ w' = V by
        have := HGv.out
        rw [hgn] at this
        unfold errV at this
        rw [if_neg hg0] at this
        exact this)
      clear hgn hg0 HGv HFt
      go_wp2_with fail
      refine HGv2.out.mono ?_
      rintro e w7 ⟨rfl, hw7⟩
      have hw8 := hw7.symm
      subst hw8
      clear hw7 HGv2
      go_wp2
      go_ret
      exact ⟨by rw [HA.out]; simp only [errV]; rw [if_neg HN.out]; rfl, HCV.out.mono (by simp), L, A, M, by rw [HA.out]; exact HT.out.keep0 HCV.out, hid⟩
end Go.Proofs.YthojofeocjmglaaGreatDoor.I
/- The program's Rename: the walk. -/
namespace Go.Proofs.YthojofeocjmglaaGreatDoor.I
open Go.RowKit Go.Proofs.YthojofeocjmglaaGreatDoor.B Go.Sort
set_option linter.unusedVariables false
set_option maxRecDepth 100000 in
set_option maxHeartbeats 16000000 in
theorem rename_calls (L : List Nat) (t : Nat) (fs : FS) (by' nd : Nat) (A M : Pth → Nat) (a b : ByteArray) (w : World) (hT : TabAt w L t fs by' nd A M) (hg : FsOk fs) (hr : Room fs by' nd) (hm : MaxLenAt w) (ha : a.size ≤ 4294967280) (hb : b.size ≤ 4294967280) :
    Calls Tryz.prog 74 #[(.pointer (some ⟨t, 0, none⟩)), .string a, .string b] w fun e w' => OpPost w L t by' nd (renameF fs a b) e w' := by
  have HPa := Asd.mk (parts_calls a w hm ha)
  have HPb := Asd.mk (fun (W : World) (hW : Chg [] w W) => parts_calls b W (hm.chg hW) hb)
  have HT := Asd.mk hT
  have hid : ∀ i ∈ L, i ∈ L ∨ w.heap.size ≤ i := fun i hi => .inl hi
  obtain ⟨R, hR⟩ : ∃ R, partsF a = R := ⟨_, rfl⟩
  rw [hR] at HPa
  cases R with
  | error n =>
    have HA := Asd.mk (show renameF fs a b = (n, fs) by unfold renameF; rw [hR])
    have HN := Asd.mk (partsF_pos hR)
    clear hR hT hg hr hm HPb
    (go_enter Tryz.func74, Tryz.ntmps74)
    go_wp2_with fail
    refine HPa.out.mono ?_
    rintro e w1 ⟨hP, hC1⟩
    have hP2 : e = .returned (.tuple #[.slice none 0 0, .iface 88 (.int .i64 (n : Int))]) := hP
    subst hP2
    have HC1 := Asd.mk hC1
    clear hC1 hP
    go_wp2
    go_ret
    exact ⟨by rw [HA.out]; simp only [errV]; rw [if_neg HN.out]; rfl, HC1.out.mono (by simp), L, A, M, by rw [HA.out]; exact HT.out.keep0 HC1.out, hid⟩
  | ok p =>
    obtain ⟨R2, hR2⟩ : ∃ R2, partsF b = R2 := ⟨_, rfl⟩
    rw [hR2] at HPb
    cases R2 with
    | error n =>
      have HA := Asd.mk (show renameF fs a b = (n, fs) by unfold renameF; rw [hR, hR2])
      have HN := Asd.mk (partsF_pos hR2)
      clear hR hR2 hT hg hr hm
      (go_enter Tryz.func74, Tryz.ntmps74)
      go_wp2_with fail
      refine HPa.out.mono ?_
      rintro e w1 ⟨hP, hC1⟩
      obtain ⟨A1, c1, rfl, hA1⟩ := parts_ok_form hP
      have HC1 := Asd.mk hC1
      have HP2 := Asd.mk (HPb.out w1 hC1)
      clear hC1 hP hA1 HPa HPb
      go_wp2_with fail
      refine HP2.out.mono ?_
      rintro e w2 ⟨hP, hC2⟩
      have hP2 : e = .returned (.tuple #[.slice none 0 0, .iface 88 (.int .i64 (n : Int))]) := hP
      subst hP2
      have HC2 := Asd.mk (HC1.out.trans hC2)
      clear hC2 hP HP2
      go_wp2
      go_ret
      exact ⟨by rw [HA.out]; simp only [errV]; rw [if_neg HN.out]; rfl, HC2.out.mono (by simp), L, A, M, by rw [HA.out]; exact HT.out.keep0 HC2.out, hid⟩
    | ok q =>
      have hpl := partsF_len hR
      have hql := partsF_len hR2
      by_cases hp0 : p = []
      · have HA := Asd.mk (show renameF fs a b = (1, fs) by unfold renameF; rw [hR, hR2]; simp only; rw [if_pos hp0])
        have hl0 : p.length = 0 := by rw [hp0]; rfl
        clear hR hR2 hT hg hr hm hp0
        (go_enter Tryz.func74, Tryz.ntmps74)
        go_wp2_with fail
        refine HPa.out.mono ?_
        rintro e w1 ⟨hP, hC1⟩
        obtain ⟨A1, c1, rfl, hA1⟩ := parts_ok_form hP
        rw [hl0]
        have HC1 := Asd.mk hC1
        have HP2 := Asd.mk (HPb.out w1 hC1)
        clear hC1 hP hA1 HPa HPb
        go_wp2_with fail
        refine HP2.out.mono ?_
        rintro e w2 ⟨hP, hC2⟩
        obtain ⟨A2, c2, rfl, hA2⟩ := parts_ok_form hP
        have HC2 := Asd.mk (HC1.out.trans hC2)
        clear hC2 hP hA2 HP2
        go_wp2
        go_ret
        exact ⟨by rw [HA.out]; rfl, HC2.out.mono (by simp), L, A, M, by rw [HA.out]; exact HT.out.keep0 HC2.out, hid⟩
      · have hp1 : ¬ (p.length : Int) = 0 := by have := List.length_pos_iff.2 hp0; omega
        by_cases hq0 : q = []
        · have HA := Asd.mk (show renameF fs a b = (201, fs) by unfold renameF; rw [hR, hR2]; simp only; rw [if_neg hp0, if_pos hq0])
          have hl0 : q.length = 0 := by rw [hq0]; rfl
          clear hR hR2 hT hg hr hm hp0 hq0
          (go_enter Tryz.func74, Tryz.ntmps74)
          go_wp2_with fail
          refine HPa.out.mono ?_
          rintro e w1 ⟨hP, hC1⟩
          obtain ⟨A1, c1, rfl, hA1⟩ := parts_ok_form hP
          have HC1 := Asd.mk hC1
          have HP2 := Asd.mk (HPb.out w1 hC1)
          clear hC1 hP hA1 HPa HPb
          go_wp2_with fail
          refine HP2.out.mono ?_
          rintro e w2 ⟨hP, hC2⟩
          obtain ⟨A2, c2, rfl, hA2⟩ := parts_ok_form hP
          rw [hl0]
          have HC2 := Asd.mk (HC1.out.trans hC2)
          clear hC2 hP hA2 HP2
          go_wp2
          go_ret
          exact ⟨by rw [HA.out]; rfl, HC2.out.mono (by simp), L, A, M, by rw [HA.out]; exact HT.out.keep0 HC2.out, hid⟩
        · cases hw : wayE fs p with
          | none =>
            obtain ⟨pd, pn, hpe⟩ : ∃ d n, p = d ++ [n] := ⟨p.dropLast, p.getLast hp0, (List.dropLast_concat_getLast hp0).symm⟩
            obtain ⟨qd, qn, hqe⟩ : ∃ d n, q = d ++ [n] := ⟨q.dropLast, q.getLast hq0, (List.dropLast_concat_getLast hq0).symm⟩
            cases hx : fs.at p with
            | none => exact rename_none L t fs by' nd A M a b w hT hg hr hm ha hb p q pd qd pn qn hR hR2 hp0 hq0 hw hpe hqe hx
            | some x =>
              by_cases hab : a = b
              · by_cases hk : x.kind = 2
                · exact rename_sameD L t fs by' nd A M a b w hT hg hr hm ha hb p q pd qd pn qn hR hR2 hp0 hq0 hw hpe hqe x hx hab.symm hk
                · exact rename_sameF L t fs by' nd A M a b w hT hg hr hm ha hb p q pd qd pn qn hR hR2 hp0 hq0 hw hpe hqe x hx hab.symm hk
              · by_cases hk : x.kind = 2
                · cases hbl : belowB a b with
                  | true => exact rename_inside L t fs by' nd A M a b w hT hg hr hm ha hb p q pd qd pn qn hR hR2 hp0 hq0 hw hpe hqe x hx hk hab hbl
                  | false => exact rename_K3 L t fs by' nd A M a b w hT hg hr hm ha hb p q pd qd pn qn hR hR2 hp0 hq0 hw hpe hqe x hx hab hk hbl
                · exact rename_K1 L t fs by' nd A M a b w hT hg hr hm ha hb p q pd qd pn qn hR hR2 hp0 hq0 hw hpe hqe x hx hab hk
          | some n =>
            have hq1 : ¬ (q.length : Int) = 0 := by have := List.length_pos_iff.2 hq0; omega
            have HWy := Asd.mk (fun (r : Pth) (g : Nat) (W : World) (hW : Chg [] w W) (hr : r ≠ []) (hl : r.length ≤ 64) (hN : NmR W g 0 r) => way_calls L t fs by' nd A M r g r.length W (hT.keep0 hW) hg hr hN (by omega) (Nat.le_refl _))
            (go_enter Tryz.func74, Tryz.ntmps74)
            go_wp2_with fail
            refine HPa.out.mono ?_
            rintro e w1 ⟨hP, hC1⟩
            obtain ⟨A1, c1, rfl, hA1⟩ := parts_ok_form hP
            rcases hA1 with ⟨h1, _⟩ | ⟨_, rfl, g1, rfl, hN1⟩
            · exact absurd h1 hp0
            have HC1 := Asd.mk hC1
            have HP2 := Asd.mk (HPb.out w1 hC1)
            have HN1 := Asd.mk hN1
            clear hC1 hP HPa HPb hN1
            go_wp2_with fail
            refine HP2.out.mono ?_
            rintro e w2 ⟨hP, hC2⟩
            obtain ⟨A2, c2, rfl, hA2⟩ := parts_ok_form hP
            rcases hA2 with ⟨h1, _⟩ | ⟨_, rfl, g2, rfl, hN2⟩
            · exact absurd h1 hq0
            have HC2 := Asd.mk (HC1.out.trans hC2)
            have HN2 := Asd.mk hN2
            have HWp := Asd.mk (HWy.out p g1 w2 HC2.out hp0 hpl (HN1.out.keep hC2 (by simp)))
            clear hC2 hP HP2 hN2 HN1
            go_wp2_with fail
            refine HWp.out.mono ?_
            rintro e w3 ⟨hP3, hC3⟩
            have HC3 := Asd.mk (HC2.out.trans hC3)
            have HN3 := Asd.mk (HN2.out.keep hC3 (by simp))
            clear hC3 HWp HC2 HN2
            unfold wayPost at hP3
            have HA := Asd.mk (show renameF fs a b = (n, fs) by unfold renameF; rw [hR, hR2]; simp only; rw [if_neg hp0, if_neg hq0, hw])
            rw [hw] at hP3
            simp only at hP3
            subst hP3
            have HN := Asd.mk (show n ≠ 0 from fun e => by
              have : atE fs a = .error n := by unfold atE; rw [hR]; simp only; rw [hw]
              exact atE_pos this e)
            clear hR hR2 hT hg hr hm hp0 hq0 hw HWy
            go_wp2
            go_ret
            exact ⟨by rw [HA.out]; simp only [errV]; rw [if_neg HN.out]; rfl, (HC3.out.mono (by simp)).alloc _, L, A, M, by rw [HA.out]; exact HT.out.keep0 (HC3.out.alloc _), hid⟩
end Go.Proofs.YthojofeocjmglaaGreatDoor.I
/- The program's Link: the walk. -/
namespace Go.Proofs.YthojofeocjmglaaGreatDoor.I
open Go.RowKit Go.Proofs.YthojofeocjmglaaGreatDoor.B Go.Sort
set_option linter.unusedVariables false
set_option maxRecDepth 100000 in
set_option maxHeartbeats 16000000 in
theorem link_calls (L : List Nat) (t : Nat) (fs : FS) (by' nd : Nat) (A M : Pth → Nat) (g s : ByteArray) (w : World) (hT : TabAt w L t fs by' nd A M) (hg : FsOk fs) (hr : Room fs by' nd) (hm : MaxLenAt w) (hs : s.size ≤ 4294967280) :
    Calls Tryz.prog 72 #[(.pointer (some ⟨t, 0, none⟩)), .string g, .string s] w fun e w' => OpPost w L t by' nd (linkF fs by' nd g s) e w' := by
  have HP := Asd.mk (at_calls L t fs by' nd A M s w hT hg hm hs)
  have HT := Asd.mk hT
  have HW := Asd.mk (show Chg L w w from Chg.refl _ _)
  have hid : ∀ i ∈ L, i ∈ L ∨ w.heap.size ≤ i := fun i hi => .inl hi
  have hct := Tryz.strings_Contains_one g 0 w
  obtain ⟨nu, hnu⟩ : ∃ b, nulB g = b := ⟨_, rfl⟩
  have hnu' := hnu
  unfold nulB at hnu'
  rw [hnu'] at hct
  have HCt := Asd.mk hct
  clear hct hnu'
  cases te : g.toList.isEmpty with
  | true =>
    have HA := Asd.mk (show linkF fs by' nd g s = (30, fs) by unfold linkF; rw [if_pos (.inl te)])
    clear hT hg hr hm HCt HP hnu
    (go_enter Tryz.func72, Tryz.ntmps72)
    go_wp2
    go_ret
    exact ⟨by rw [HA.out]; rfl, HW.out, L, A, M, by rw [HA.out]; exact HT.out, hid⟩
  | false =>
    by_cases h1 : 4096 < g.size
    · have HA := Asd.mk (show linkF fs by' nd g s = (30, fs) by unfold linkF; rw [if_pos (.inr (.inl h1))])
      have k1 : (4096 : Int) < (g.size : Int) := by omega
      clear hT hg hr hm HCt HP hnu
      (go_enter Tryz.func72, Tryz.ntmps72)
      go_wp2
      go_ret
      exact ⟨by rw [HA.out]; rfl, HW.out, L, A, M, by rw [HA.out]; exact HT.out, hid⟩
    · have k1 : ¬ (4096 : Int) < (g.size : Int) := by omega
      cases nu with
      | true =>
        have HA := Asd.mk (show linkF fs by' nd g s = (30, fs) by unfold linkF; rw [if_pos (.inr (.inr hnu))])
        clear hT hg hr hm HP hnu
        (go_enter Tryz.func72, Tryz.ntmps72)
        go_wp2_with fail; refine HCt.out.mono ?_; rintro e w1 ⟨rfl, hw⟩; have hw' := hw.symm; subst hw'
        go_wp2
        go_ret
        exact ⟨by rw [HA.out]; rfl, HW.out, L, A, M, by rw [HA.out]; exact HT.out, hid⟩
      | false =>
        have hAE : linkF fs by' nd g s = match atE fs s with | .error n => (n, fs) | .ok p => if (fs.at p).isSome = true then (201, fs) else putF fs by' nd p ⟨3, g⟩ := by
          have hnb : ¬ badT g := by
            rintro (h | h | h)
            · rw [te] at h; cases h
            · exact h1 h
            · rw [hnu] at h; cases h
          unfold linkF
          rw [if_neg hnb]
          all_goals
            cases atE fs s with
            | error n => rfl
            | ok p => rfl
        clear hnu HW
        obtain ⟨R, hR⟩ : ∃ R, atE fs s = R := ⟨_, rfl⟩
        rw [hR] at HP hAE
        cases R with
        | error n =>
          have HA := Asd.mk hAE
          have HN := Asd.mk (atE_pos hR)
          clear hR hT hg hr hm hAE
          (go_enter Tryz.func72, Tryz.ntmps72)
          go_wp2_with fail; refine HCt.out.mono ?_; rintro e w1 ⟨rfl, hw⟩; have hw' := hw.symm; subst hw'
          go_wp2_with fail
          refine HP.out.mono ?_
          rintro e w1 ⟨rfl, hC1⟩
          have HC1 := Asd.mk hC1
          clear hC1
          go_wp2
          go_ret
          exact ⟨by rw [HA.out]; simp only [errV]; rw [if_neg HN.out]; rfl, (HC1.out.mono (by simp)).alloc _, L, A, M, by rw [HA.out]; exact HT.out.keep0 (HC1.out.alloc _), hid⟩
        | ok p =>
          cases hp : fs.at p with
          | none =>
            obtain ⟨q, n, y, rfl, hq, hy⟩ := at_parent hg hR hp
            have HA := Asd.mk (show linkF fs by' nd g s = putF fs by' nd (q ++ [n]) ⟨3, g⟩ by rw [hAE]; simp only; rw [hp]; rfl)
            have HK := Asd.mk (show dirA A (q ++ [n]) = some ⟨A q, 0, none⟩ ∧ lastS (q ++ [n]) = nb n ∧ kidA fs A (q ++ [n]) = none from ⟨by unfold dirA; rw [if_neg (by simp)]; simp, by unfold lastS; rw [if_neg (by simp)]; simp, by unfold kidA; rw [hp]; rfl⟩)
            have HPut := Asd.mk (fun (X : World) (hX : Chg [] w X) => put_leaf L t fs by' nd A M q n ⟨3, g⟩ y X (HT.out.keep0 hX) hg hr hq hy hp (by simp) (by show g.size ≤ 4194304; omega))
            clear hR hT hg hr hm hp hq hAE
            (go_enter Tryz.func72, Tryz.ntmps72)
            go_wp2_with fail; refine HCt.out.mono ?_; rintro e w1 ⟨rfl, hw⟩; have hw' := hw.symm; subst hw'
            go_wp2_with fail
            refine HP.out.mono ?_
            rintro e w1 ⟨hPo, hC1⟩
            have hPo2 : e = .returned (.tuple #[.agg #[.pointer (some ⟨A q, 0, none⟩), .string (nb n), .pointer none], .nilIface]) := by rw [← HK.out.1, ← HK.out.2.1, ← HK.out.2.2]; exact hPo
            subst hPo2
            have HC1 := Asd.mk hC1
            clear hC1 hPo
            go_upto_region 6 with fail
            refine wp_opaque2 (fun W hW => ?_)
            have HCW := Asd.mk (show Chg [] w W by rw [hW]; exact HC1.out.alloc _)
            have HB := Asd.mk (show W.heap[w1.heap.size]? = some (.cells #[.pointer (some ⟨A q, 0, none⟩), .string (nb n), .pointer none] 127 (0, 0)) by rw [hW]; exact hp_new _ _)
            obtain ⟨B, hB⟩ : ∃ B, w1.heap.size = B := ⟨_, rfl⟩
            rw [hB] at HB ⊢
            have b2 := cell_of_heap HB.out 2
            clear hW HC1 HP hB
            go_wp2_with (first | (refine wpList_load_row (o := ⟨some 35, _, _, _, _, _⟩) rfl 127 (.tmp 7) rfl B rfl 127 _ (0, 0) _ HB.out Tryz.underlying127 rfl (size_place _ _ _) ?_) | (go_at_call 101; refine (HPut.out W HCW.out).mono ?_; rintro e w3 ⟨rfl, hO1, hO2⟩))
            obtain ⟨L', A', M', hT', hL'⟩ := hO2
            go_ret
            exact ⟨by rw [HA.out]; rfl, (HCW.out.mono (by simp)).trans hO1, L', A', M', by rw [HA.out]; exact hT', fun i hi => (hL' i hi).imp id (fun h => Nat.le_trans HCW.out.size h)⟩
          | some x =>
            have HA := Asd.mk (show linkF fs by' nd g s = (201, fs) by rw [hAE]; simp only; rw [hp]; rfl)
            have HK := Asd.mk (show kidA fs A p = some ⟨A p, 0, none⟩ by unfold kidA; rw [hp]; rfl)
            clear hR hT hg hr hm hp hAE
            (go_enter Tryz.func72, Tryz.ntmps72)
            go_wp2_with fail; refine HCt.out.mono ?_; rintro e w1 ⟨rfl, hw⟩; have hw' := hw.symm; subst hw'
            go_wp2_with fail
            refine HP.out.mono ?_
            rintro e w1 ⟨hPo, hC1⟩
            have hPo2 : e = .returned (.tuple #[.agg #[.pointer (dirA A p), .string (lastS p), .pointer (some ⟨A p, 0, none⟩)], .nilIface]) := by rw [← HK.out]; exact hPo
            subst hPo2
            obtain ⟨dp, hdp⟩ : ∃ d, dirA A p = d := ⟨_, rfl⟩
            obtain ⟨ls, hls⟩ : ∃ d, lastS p = d := ⟨_, rfl⟩
            rw [hdp, hls]
            have HC1 := Asd.mk hC1
            clear hC1 hPo HP hdp hls
            go_upto_region 6 with fail
            refine wp_opaque2 (fun W hW => ?_)
            have HCW := Asd.mk (show Chg [] w W by rw [hW]; exact HC1.out.alloc _)
            have HB := Asd.mk (show W.heap[w1.heap.size]? = some (.cells #[.pointer dp, .string ls, .pointer (some ⟨A p, 0, none⟩)] 127 (0, 0)) by rw [hW]; exact hp_new _ _)
            obtain ⟨B, hB⟩ : ∃ B, w1.heap.size = B := ⟨_, rfl⟩
            rw [hB] at HB ⊢
            have b2 := cell_of_heap HB.out 2
            clear hW HC1 hB
            go_wp2
            go_ret
            exact ⟨by rw [HA.out]; rfl, HCW.out.mono (by simp), L, A, M, by rw [HA.out]; exact HT.out.keep0 HCW.out, hid⟩
end Go.Proofs.YthojofeocjmglaaGreatDoor.I
/- The program's Remove: the walk. -/
namespace Go.Proofs.YthojofeocjmglaaGreatDoor.I
open Go.RowKit Go.Proofs.YthojofeocjmglaaGreatDoor.B Go.Sort
set_option linter.unusedVariables false
open Classical in
set_option maxRecDepth 100000 in
set_option maxHeartbeats 16000000 in
theorem remove_calls (L : List Nat) (t : Nat) (fs : FS) (by' nd : Nat) (A M : Pth → Nat) (s : ByteArray) (w : World) (hT : TabAt w L t fs by' nd A M) (hg : FsOk fs) (hr : Room fs by' nd) (hm : MaxLenAt w) (hs : s.size ≤ 4294967280) :
    Calls Tryz.prog 76 #[(.pointer (some ⟨t, 0, none⟩)), .string s] w fun e w' => OpPost w L t by' nd (removeF fs s) e w' := by
  have HP := Asd.mk (at_calls L t fs by' nd A M s w hT hg hm hs)
  have HT := Asd.mk hT
  have hid : ∀ i ∈ L, i ∈ L ∨ w.heap.size ≤ i := fun i hi => .inl hi
  obtain ⟨R, hR⟩ : ∃ R, atE fs s = R := ⟨_, rfl⟩
  rw [hR] at HP
  cases R with
  | error n =>
    have HA := Asd.mk (show removeF fs s = (n, fs) by unfold removeF; rw [hR])
    have HN := Asd.mk (atE_pos hR)
    clear hR hT hg hr hm
    (go_enter Tryz.func76, Tryz.ntmps76)
    go_wp2_with fail
    refine HP.out.mono ?_
    rintro e w1 ⟨rfl, hC1⟩
    have HC1 := Asd.mk hC1
    clear hC1
    go_wp2
    go_ret
    exact ⟨by rw [HA.out]; simp only [errV]; rw [if_neg HN.out]; rfl, (HC1.out.mono (by simp)).alloc _, L, A, M, by rw [HA.out]; exact HT.out.keep0 (HC1.out.alloc _), hid⟩
  | ok p =>
    obtain ⟨ka, hka⟩ : ∃ a, kidA fs A p = a := ⟨_, rfl⟩
    obtain ⟨dp, hdp⟩ : ∃ d, dirA A p = d := ⟨_, rfl⟩
    obtain ⟨ls, hls⟩ : ∃ d, lastS p = d := ⟨_, rfl⟩
    have HPo := Asd.mk (show ∀ e, AtPost fs A (.ok p) e → e = .returned (.tuple #[.agg #[.pointer dp, .string ls, .pointer ka], .nilIface]) from fun e h => by rw [← hka, ← hdp, ← hls]; exact h)
    (go_enter Tryz.func76, Tryz.ntmps76)
    go_wp2_with fail
    refine HP.out.mono ?_
    rintro e w1 ⟨hPo, hC1⟩
    have hPo2 := HPo.out e hPo
    subst hPo2
    have HC1 := Asd.mk hC1
    clear hC1 hPo HP HPo
    go_upto_region 4 with fail
    refine wp_opaque2 (fun W hW => ?_)
    have HCW := Asd.mk (show Chg [] w W by rw [hW]; exact HC1.out.alloc _)
    have HB := Asd.mk (show W.heap[w1.heap.size]? = some (.cells #[.pointer dp, .string ls, .pointer ka] 127 (0, 0)) by rw [hW]; exact hp_new _ _)
    have HTW := Asd.mk (hT.keep0 HCW.out)
    obtain ⟨B, hB⟩ : ∃ B, w1.heap.size = B := ⟨_, rfl⟩
    rw [hB] at HB ⊢
    have b2 := cell_of_heap HB.out 2
    have q0 := cell_of_heap HTW.out.tab 0
    clear hW HC1 hB hT hm
    by_cases hp : p = []
    · have HA := Asd.mk (show removeF fs s = (1, fs) by unfold removeF; rw [hR]; simp only; rw [if_pos hp])
      have hk : ka = some ⟨A [], 0, none⟩ := by rw [← hka, hp]; rfl
      subst hk
      have he := fun n => eql_same ⟨A [], 0, none⟩ (W.drewN n)
      clear hka hdp hls hR hg hr hp
      go_quiet (fail)
      go_wp2
      go_ret
      exact ⟨by rw [HA.out]; rfl, (HCW.out.drewN nq).mono (by simp), L, A, M, by rw [HA.out]; exact HTW.out.keep0 ((Chg.refl _ _).drewN nq), hid⟩
    · cases hx : fs.at p with
      | none =>
        have HA := Asd.mk (show removeF fs s = (200, fs) by unfold removeF; rw [hR]; simp only; rw [if_neg hp, hx])
        have hk : ka = none := by rw [← hka]; unfold kidA; rw [hx]; rfl
        subst hk
        have he := fun n => eql_none ⟨A [], 0, none⟩ (W.drewN n)
        clear hka hdp hls hR hg hr hp hx
        go_quiet (fail)
        go_wp2
        go_ret
        exact ⟨by rw [HA.out]; rfl, (HCW.out.drewN nq).mono (by simp), L, A, M, by rw [HA.out]; exact HTW.out.keep0 ((Chg.refl _ _).drewN nq), hid⟩
      | some x =>
        have hk : ka = some ⟨A p, 0, none⟩ := by rw [← hka]; unfold kidA; rw [hx]; rfl
        subst hk
        have hne : A p ≠ A [] := fun e => hp (HTW.out.injA p [] x rootN hx rfl e)
        have he := fun n => eql_other (W.drewN n) hne (hp_drewN (HTW.out.node p x hx) n) (hp_drewN (HTW.out.node [] rootN rfl) n)
        have HAE := Asd.mk (show removeF fs s = if hasKids fs p then (205, fs) else (0, delF fs p) by unfold removeF; rw [hR]; simp only; rw [if_neg hp, hx])
        obtain ⟨q, n, rfl⟩ : ∃ q n, p = q ++ [n] := ⟨p.dropLast, p.getLast hp, (List.dropLast_concat_getLast hp).symm⟩
        obtain ⟨y, hq, hy⟩ := hg.up q n (by rw [hx]; simp)
        have hdp' : dp = some ⟨A q, 0, none⟩ := by rw [← hdp]; unfold dirA; rw [if_neg (by simp)]; simp
        have hls' : ls = nb n := by rw [← hls]; unfold lastS; rw [if_neg (by simp)]; simp
        subst hdp' hls'
        have HD := Asd.mk (fun k => drop_calls L t fs by' nd A M q n x y (W.drewN k) (HTW.out.keep0 ((Chg.refl _ _).drewN k)) hg hr hq hy hx)
        have c2 := cell_of_heap (HTW.out.node _ x hx) 2
        have HX := Asd.mk hx
        by_cases hk2 : x.kind = 2
        · obtain ⟨es, clock, hM, hhk⟩ := kids_len HTW.out hx hk2
          rw [if_pos hk2] at c2
          have HM := Asd.mk hM
          by_cases hh : hasKids fs (q ++ [n])
          · have HA := Asd.mk (show removeF fs s = (205, fs) by rw [HAE.out, if_pos hh])
            have hpos : (0 : Int) < (es.size : Int) := by have := hhk.1 hh; omega
            clear hka hdp hls hR hg hr hp hx hq hy hM hhk hh hk2 hne
            go_quiet (fail)
            have hlen := len_kids (hp_drewN HM.out nq)
            go_wp2
            go_ret
            exact ⟨by rw [HA.out]; rfl, (HCW.out.drewN nq).mono (by simp), L, A, M, by rw [HA.out]; exact HTW.out.keep0 ((Chg.refl _ _).drewN nq), hid⟩
          · have HA := Asd.mk (show removeF fs s = (0, delF fs (q ++ [n])) by rw [HAE.out, if_neg hh])
            have hz : es = #[] := by
              apply Array.eq_empty_of_size_eq_zero
              have : ¬ 0 < es.size := fun e => hh (hhk.2 e)
              omega
            subst hz
            clear hka hdp hls hR hg hr hp hx hq hy hM hhk hh hk2 hne
            go_quiet (fail)
            have hlen := len_kids (hp_drewN HM.out nq)
            go_wp2_with (first | (refine wpList_load_row (o := ⟨some 41, _, _, _, _, _⟩) rfl 127 (.tmp 5) rfl B rfl 127 _ (0, 0) _ (hp_drewN HB.out nq) Tryz.underlying127 rfl (size_place _ _ _) ?_) | (go_at_call 110; refine (HD.out nq).mono ?_; rintro e w3 ⟨rfl, hC3, hT3⟩; have HC3 := Asd.mk hC3; have HT3 := Asd.mk hT3; clear hC3 hT3)); go_ret; exact ⟨by rw [HA.out]; rfl, ((HCW.out.drewN nq).mono (by simp)).trans HC3.out, L, A, M, by rw [HA.out]; exact HT3.out, hid⟩
        · rw [if_neg hk2] at c2
          have hh : ¬ hasKids fs (q ++ [n]) := by
            rintro ⟨k, hk⟩
            obtain ⟨z, hz1, hz2⟩ := hg.up _ k hk
            rw [hx] at hz1
            cases hz1
            exact hk2 hz2
          have HA := Asd.mk (show removeF fs s = (0, delF fs (q ++ [n])) by rw [HAE.out, if_neg hh])
          clear hka hdp hls hR hg hr hp hx hq hy hh hk2 hne
          go_quiet (fail)
          go_wp2_with (first | (refine wpList_load_row (o := ⟨some 41, _, _, _, _, _⟩) rfl 127 (.tmp 5) rfl B rfl 127 _ (0, 0) _ (hp_drewN HB.out nq) Tryz.underlying127 rfl (size_place _ _ _) ?_) | (go_at_call 110; refine (HD.out nq).mono ?_; rintro e w3 ⟨rfl, hC3, hT3⟩; have HC3 := Asd.mk hC3; have HT3 := Asd.mk hT3; clear hC3 hT3)); go_ret; exact ⟨by rw [HA.out]; rfl, ((HCW.out.drewN nq).mono (by simp)).trans HC3.out, L, A, M, by rw [HA.out]; exact HT3.out, hid⟩
end Go.Proofs.YthojofeocjmglaaGreatDoor.I
