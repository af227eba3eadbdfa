/- Merged out of these texts: RenTwo, RenPre, RenW. -/
import Derived.Test.YtiijbecklkccfaaGreatDoorPl8
/- A rename in memory: what stands at p is taken out of its directory and laid into the other's: the table behind. -/
namespace Go.Proofs.YtiijbecklkccfaaGreatDoor.I
open Go.RowKit Go.Proofs.YtiijbecklkccfaaGreatDoor.B Go.Sort
set_option linter.unusedVariables false
theorem sb_ne {w : World} {b i : Nat} {o : Obj} (h : i ≠ b) : (Go.ChangeMaps.setBlock w b o).heap[i]? = w.heap[i]? := by
  show (w.heap.setIfInBounds b o)[i]? = _
  rw [Array.getElem?_setIfInBounds_ne (Ne.symm h)]
theorem ren_two {W : World} {L : List Nat} {t by' nd : Nat} {fs : FS} {A M : Pth → Nat} (hT : TabAt W L t fs by' nd A M) (hg : FsOk fs) {pd qd : Pth} {pn qn : Nm} {x y z : Nd} (hp : fs.at (pd ++ [pn]) = some x) (hpd : fs.at pd = some z) (hz : z.kind = 2) (hq : fs.at (qd ++ [qn]) = none) (hqd : fs.at qd = some y) (hy : y.kind = 2) (hpq : ¬ (pd ++ [pn]) <+: qd) :
    ∃ es1 c1, (Builtin.delete_ #[83, 9] 0 #[.map (some (M pd)), .string (nb pn)]).run Tryz.prog W.drew = .ok (.tuple #[]) (Go.ChangeMaps.setBlock W.drew (M pd) (.map es1 c1)) ∧
      ∀ W2, W2 = Go.ChangeMaps.setBlock W.drew (M pd) (.map es1 c1) → ∃ es2 c2, (Instr.mapUpdate 83 (.map (some (M qd))) (.string (nb qn)) (.pointer (some ⟨A (pd ++ [pn]), 0, none⟩))).run Tryz.prog W2.drew = .ok () (Go.ChangeMaps.setBlock W2.drew (M qd) (.map es2 c2)) ∧
        TabAt (Go.ChangeMaps.setBlock W2.drew (M qd) (.map es2 c2)) L t (mvF fs (pd ++ [pn]) (qd ++ [qn])) by' nd (mvA (pd ++ [pn]) (qd ++ [qn]) A) (mvA (pd ++ [pn]) (qd ++ [qn]) M) := by
  obtain ⟨es, c1, K, hK1, hK2, hK3⟩ := hT.kids pd z hpd hz
  have hKp : K.lookup pn = some (.pointer (some ⟨A (pd ++ [pn]), 0, none⟩)) := by rw [hK3, hp]; rfl
  obtain ⟨es1, hdel, hMK⟩ := run_del (P := Tryz.prog) (k2 := 9) (ty := 0) Tryz.underlying83 Tryz.underlying9 (hp_drew hK1) hK2 (nb pn) (.pointer (some ⟨A (pd ++ [pn]), 0, none⟩)) (by rw [list_nb]; exact hKp)
  rw [list_nb] at hMK
  refine ⟨es1, c1, hdel, fun W2 hW2 => ?_⟩
  have hne : pd ++ [pn] ≠ qd ++ [qn] := fun e => by rw [e, hq] at hp; cases hp
  have h1 : W2.heap[M pd]? = some (.map es1 c1) := by rw [hW2]; exact hp_setBlock (hp_drew hK1)
  have hoth : ∀ i, i ≠ M pd → W2.heap[i]? = W.heap[i]? := fun i hi => by rw [hW2, sb_ne hi]; rfl
  have hq2 : ∃ es' c' K', W2.heap[M qd]? = some (.map es' c') ∧ MKids es' c' K' ∧ (∀ n, K'.lookup n = if pd = qd ∧ n = pn then none else (fs.at (qd ++ [n])).map fun _ => (.pointer (some ⟨A (qd ++ [n]), 0, none⟩))) := by
    by_cases e : pd = qd
    · subst e
      refine ⟨es1, c1, _, h1, hMK, fun n => ?_⟩
      rw [look_filter, hK3]
      by_cases hn : n = pn
      · rw [if_pos hn, if_pos ⟨rfl, hn⟩]
      · rw [if_neg hn, if_neg (fun h => hn h.2)]
    · obtain ⟨es', c', K', a1, a2, a3⟩ := hT.kids qd y hqd hy
      refine ⟨es', c', K', ?_, a2, fun n => ?_⟩
      · rw [hoth _ (fun e2 => e (hT.injM _ _ _ _ hpd hqd hz hy e2.symm))]
        exact a1
      · rw [a3, if_neg (fun h => e h.1)]
  obtain ⟨es', c', K', a1, a2, a3⟩ := hq2
  have hKq : K'.lookup qn = none := by
    rw [a3]
    split
    · rfl
    · rw [hq]; rfl
  obtain ⟨hup, hMK2⟩ := run_upd (P := Tryz.prog) Tryz.underlying83 Tryz.underlying9 (hp_drew a1) a2 (nb qn) (.pointer (some ⟨A (pd ++ [pn]), 0, none⟩)) (by rw [list_nb]; exact hKq)
  rw [list_nb] at hMK2
  refine ⟨_, _, hup, ?_⟩
  have hfin : ∀ i, i ≠ M pd → i ≠ M qd → (Go.ChangeMaps.setBlock W2.drew (M qd) (.map (es'.push ⟨.string (nb qn), (.pointer (some ⟨A (pd ++ [pn]), 0, none⟩)), c'⟩) (c' + 1))).heap[i]? = W.heap[i]? := fun i h1 h2 => by
    rw [sb_ne h2]
    exact hoth i h1
  refine tab_mv hT hg (by simp) (by simp) hq (hfin _ (Ne.symm (hT.tab_ne_map hpd hz)) (Ne.symm (hT.tab_ne_map hqd hy))) (fun r u hr => hfin _ (hT.ne_map hr hpd hz) (hT.ne_map hr hqd hy)) ?_ ?_
  · show W.heap.size ≤ (W2.heap.setIfInBounds _ _).size
    rw [hW2]
    show W.heap.size ≤ ((W.heap.setIfInBounds _ _).setIfInBounds _ _).size
    simp
  · refine kids_mv hT hg hp hq hpq (fun r u hr hk n1 n2 => hfin _ (fun e => n1 (hT.injM _ _ _ _ hr hpd hk hz e)) (fun e => n2 (hT.injM _ _ _ _ hr hqd hk hy e))) (fun e => ?_) ?_
    · refine ⟨es1, c1, _, ?_, hMK, fun n => ?_⟩
      · rw [sb_ne (fun e2 => e (hT.injM _ _ _ _ hpd hqd hz hy e2))]
        exact h1
      · rw [look_filter, hK3]
    · refine ⟨_, _, _, hp_setBlock (hp_drew a1), hMK2, fun n => ?_⟩
      rw [look_push hKq, a3]
/-- What a rename finds behind its drop. -/
theorem ren_after {fs : FS} (hg : FsOk fs) {a b : ByteArray} {p q d : Pth} {n : Nm} {x y : Nd} (h : RenOk fs a b p q x d n y) : FsOk (delF fs q) ∧ (delF fs q).at p = some x ∧ (delF fs q).at q = none ∧ (delF fs q).at d = some y ∧ ∀ pd pn, p = pd ++ [pn] → ∃ z, (delF fs q).at pd = some z ∧ z.kind = 2 := by
  obtain ⟨pa, pb, hp, ab, at_, rfl, dir, dk, np, no, fits⟩ := h
  have hne : d ++ [n] ≠ [] := by simp
  have hpq : p ≠ d ++ [n] := fun e => ab (parts_inj pa (by rw [e]; exact pb) hp)
  have hg2 := fsOk_del hg hne no
  have AD := fun r => at_del (fs := fs) hne r
  have hdn : d ≠ d ++ [n] := fun e => snoc_ne d n e.symm
  have h1 : (delF fs (d ++ [n])).at p = some x := by rw [AD, if_neg hpq]; exact at_
  refine ⟨hg2, h1, by rw [AD, if_pos rfl], by rw [AD, if_neg hdn]; exact dir, fun pd pn e => ?_⟩
  exact hg2.up pd pn (by rw [← e, h1]; simp)
end Go.Proofs.YtiijbecklkccfaaGreatDoor.I
/- What the walks of Rename ask of paths, texts and of the file system: plain. -/
namespace Go.Proofs.YtiijbecklkccfaaGreatDoor.I
open Go.RowKit Go.Proofs.YtiijbecklkccfaaGreatDoor.B Go.Sort
set_option linter.unusedVariables false
theorem partsF_pos {s : ByteArray} {n : Nat} (h : partsF s = .error n) : n ≠ 0 := by
  unfold partsF at h
  split at h
  · cases h; decide
  · split at h
    · cases h
    · split at h
      · cases h; decide
      · split at h
        · cases h; decide
        · cases h
/-- What Parts hands on, as one form. -/
theorem parts_ok_form {p : Pth} {e : Ending} {w' : World} (h : PartsPost (.ok p) e w') : ∃ A1 c1, e = .returned (.tuple #[.slice A1 p.length c1, .nilIface]) ∧ ((p = [] ∧ A1 = none ∧ c1 = 0) ∨ (p ≠ [] ∧ c1 = p.length ∧ ∃ g, A1 = some ⟨g, 0, none⟩ ∧ NmR w' g 0 p)) := by
  rcases h with ⟨h1, h2⟩ | ⟨h1, g, h2, h3⟩
  · exact ⟨none, 0, by rw [h2, h1]; rfl, .inl ⟨h1, rfl, rfl⟩⟩
  · exact ⟨_, _, h2, .inr ⟨h1, rfl, g, rfl, h3⟩⟩
theorem parts_ok_ne {p : Pth} {e : Ending} {w' : World} (hp : p ≠ []) (h : PartsPost (.ok p) e w') : ∃ g, e = .returned (.tuple #[.slice (some ⟨g, 0, none⟩) p.length p.length, .nilIface]) ∧ NmR w' g 0 p := by
  rcases h with ⟨h1, h2⟩ | ⟨h1, g, h2, h3⟩
  · exact absurd h1 hp
  · exact ⟨g, h2, h3⟩
theorem way_place {fs : FS} {A : Pth → Nat} {p pd : Pth} {pn : Nm} {e : Ending} (hpe : p = pd ++ [pn]) (hw : wayE fs p = none) (h : wayPost fs A p e) : e = .returned (.tuple #[.agg #[(.pointer (some ⟨A pd, 0, none⟩)), .string (nb pn), .pointer (kidA fs A p)], .nilIface]) := by
  unfold wayPost at h
  rw [hw] at h
  simp only at h
  rw [h]
  have h1 : dirA A p = some ⟨A pd, 0, none⟩ := by rw [hpe]; unfold dirA; rw [if_neg (by simp)]; simp
  have h2 : lastS p = nb pn := by rw [hpe]; unfold lastS; rw [if_neg (by simp)]; simp
  rw [h1, h2]
theorem toList_inj {a b : ByteArray} (h : a.toList = b.toList) : a = b := by
  have h := congrArg nb h
  rwa [ByteArray.toList_eq, ByteArray.toList_eq, nb_list, nb_list] at h
theorem bytes_ne1 {a b : ByteArray} (h : a ≠ b) : (a.toList == b.toList) = false := beq_eq_false_iff_ne.2 fun e => h (toList_inj e)
theorem bytes_ne2 {a b : ByteArray} (h : a ≠ b) : (b.toList == a.toList) = false := beq_eq_false_iff_ne.2 fun e => h (toList_inj e).symm
theorem ba_len (a : ByteArray) : a.data.toList.length = a.size := by show _ = a.data.size; simp
theorem at_of_del {fs : FS} {q r : Pth} {z : Nd} (h : (delF fs q).at r = some z) : fs.at r = some z := by
  by_cases hr : r = []
  · rw [hr] at h ⊢; exact h
  · rw [at_ne _ hr, lookup_del] at h
    rw [at_ne _ hr]
    split at h
    · cases h
    · exact h
open Classical in
theorem ren_eq {fs : FS} {a b : ByteArray} {p q : Pth} {x : Nd} (hR : partsF a = .ok p) (hR2 : partsF b = .ok q) (hp0 : p ≠ []) (hq0 : q ≠ []) (hw : wayE fs p = none) (hx : fs.at p = some x) (hnb : ¬ (x.kind = 2 ∧ a ≠ b ∧ belowB a b = true)) :
    renameF fs a b = match wayE fs q with
      | some n => (n, fs)
      | none => if a = b then (0, fs) else if givesF fs q x ≠ 0 then (givesF fs q x, fs) else if ¬ fitsP fs p b.data.toList then (2, fs) else (0, mvF (delF fs q) p q) := by
  unfold renameF
  rw [hR, hR2]
  simp only
  rw [if_neg hp0, if_neg hq0, hw]
  simp only
  rw [hx]
  simp only
  rw [if_neg hnb]
  all_goals
    cases wayE fs q with
    | some n => rfl
    | none => simp only
theorem ren_ok {fs : FS} (hg : FsOk fs) {a b : ByteArray} {p q qd : Pth} {qn : Nm} {x : Nd} (hR : partsF a = .ok p) (hR2 : partsF b = .ok q) (hp0 : p ≠ []) (hab : a ≠ b) (hx : fs.at p = some x) (hnb : ¬ (x.kind = 2 ∧ a ≠ b ∧ belowB a b = true)) (hqe : q = qd ++ [qn]) (hwq : wayE fs q = none) (hg0 : givesF fs q x = 0) (hf : fitsP fs p b.data.toList) : ∃ y, RenOk fs a b p q x qd qn y := by
  obtain ⟨d, n, y, h1, h2, h3⟩ := way_parent hg hwq (by rw [hqe]; simp)
  have h4 := snoc_inj (hqe.symm.trans h1)
  obtain ⟨rfl, rfl⟩ := h4
  subst hqe
  exact ⟨y, hR, hR2, hp0, hab, hx, rfl, h2, h3, ren_np hg hR hR2 hp0 hab hx h2 h3 hnb, gives_no hg hg0, hf⟩
end Go.Proofs.YtiijbecklkccfaaGreatDoor.I
/- The program's Rename: the walk where the way to what is renamed is clear: nothing stands there; the goal lies inside it; both paths are one. (Printed by ren.py.) -/
namespace Go.Proofs.YtiijbecklkccfaaGreatDoor.I
open Go.RowKit Go.Proofs.YtiijbecklkccfaaGreatDoor.B Go.Sort
set_option linter.unusedVariables false
open Classical in
set_option maxRecDepth 100000 in
set_option maxHeartbeats 16000000 in
theorem rename_none (L : List Nat) (t : Nat) (fs : FS) (by' nd : Nat) (A M : Pth → Nat) (a b : ByteArray) (w : World) (hT : TabAt w L t fs by' nd A M) (hg : FsOk fs) (hr : Room fs by' nd) (hm : MaxLenAt w) (ha : a.size ≤ 4294967280) (hb : b.size ≤ 4294967280) (p q pd qd : Pth) (pn qn : Nm) (hR : partsF a = .ok p) (hR2 : partsF b = .ok q) (hp0 : p ≠ []) (hq0 : q ≠ []) (hw : wayE fs p = none) (hpe : p = pd ++ [pn]) (hqe : q = qd ++ [qn]) (hx : fs.at p = none) :
    Calls Tryz.prog 28 #[(.pointer (some ⟨t, 0, none⟩)), .string a, .string b] w fun e w' => OpPost w L t by' nd (renameF fs a b) e w' := by
  have HA := Asd.mk (show renameF fs a b = (200, fs) by unfold renameF; rw [hR, hR2]; simp only; rw [if_neg hp0, if_neg hq0, hw]; simp only; rw [hx])
  have hk : kidA fs A p = none := by unfold kidA; rw [hx]; rfl
  clear hx
  have hpl := partsF_len hR
  have hql := partsF_len hR2
  have hp1 : ¬ (p.length : Int) = 0 := by have := List.length_pos_iff.2 hp0; omega
  have hq1 : ¬ (q.length : Int) = 0 := by have := List.length_pos_iff.2 hq0; omega
  have hPa := parts_calls a w hm ha
  have hPb := fun (W : World) (hW : Chg [] w W) => parts_calls b W (hm.chg hW) hb
  rw [hR] at hPa
  rw [hR2] at hPb
  have HPa := Asd.mk hPa
  have HPb := Asd.mk hPb
  have HT := Asd.mk hT
  have HM := Asd.mk hm
  have hid : ∀ i ∈ L, i ∈ L ∨ w.heap.size ≤ i := fun i hi => .inl hi
  have HWy := Asd.mk (fun (r : Pth) (g : Nat) (W : World) (hW : Chg [] w W) (hr : r ≠ []) (hl : r.length ≤ 64) (hN : NmR W g 0 r) => way_calls L t fs by' nd A M r g r.length W (hT.keep0 hW) hg hr hN (by omega) (Nat.le_refl _))
  have HG := Asd.mk hg
  have HRR := Asd.mk (And.intro hR hR2)
  have HP0 := Asd.mk (And.intro hp0 hpe)
  have HQ0 := Asd.mk (And.intro hq0 hqe)
  have HPL := Asd.mk (And.intro hpl hql)
  have HRm := Asd.mk hr
  have HWp := Asd.mk hw
  obtain ⟨ka, hka⟩ : ∃ k, kidA fs A p = k := ⟨_, rfl⟩
  have HPW := Asd.mk (show ∀ e, wayPost fs A p e → e = .returned (.tuple #[.agg #[(.pointer (some ⟨A pd, 0, none⟩)), .string (nb pn), .pointer ka], .nilIface]) from fun e h => by rw [← hka]; exact way_place hpe hw h)
  have HKA := Asd.mk hka
  clear hPa hPb hR hR2 hT hg hr hm hp0 hq0 hpe hqe hpl hql hw hka
  (go_enter Tryz.func28, Tryz.ntmps28)
  go_wp2_with fail
  refine HPa.out.mono ?_
  rintro e w1 ⟨hP, hC1⟩
  obtain ⟨g1, rfl, hN1⟩ := parts_ok_ne HP0.out.1 hP
  have HC1 := Asd.mk hC1
  have HP2 := Asd.mk (HPb.out w1 hC1)
  have HN1 := Asd.mk hN1
  clear hC1 hP HPa HPb hN1
  go_wp2_with fail
  refine HP2.out.mono ?_
  rintro e w2 ⟨hP, hC2⟩
  obtain ⟨g2, rfl, hN2⟩ := parts_ok_ne HQ0.out.1 hP
  have HC2 := Asd.mk (HC1.out.trans hC2)
  have HN2 := Asd.mk hN2
  have HW1 := Asd.mk (HWy.out p g1 w2 HC2.out HP0.out.1 HPL.out.1 (HN1.out.keep hC2 (by simp)))
  clear hC2 hP HP2 hN2 HN1 HC1
  go_wp2_with fail
  refine HW1.out.mono ?_
  rintro e w3 ⟨hP3, hC3⟩
  have hP4 := HPW.out e hP3
  subst hP4
  have HC3 := Asd.mk (HC2.out.trans hC3)
  have HN3 := Asd.mk (HN2.out.keep hC3 (by simp))
  clear hC3 HW1 HC2 HN2 hP3 HPW
  go_upto_region 12 with fail
  refine wp_opaque2 (fun W hW => ?_)
  have HCW := Asd.mk (show Chg [] w W by rw [hW]; exact HC3.out.alloc _)
  have HNW := Asd.mk (show NmR W g2 0 q by rw [hW]; exact HN3.out.keep ((Chg.refl [] _).alloc _) (by simp))
  have HB := Asd.mk (show W.heap[w3.heap.size]? = some (.cells #[(.pointer (some ⟨A pd, 0, none⟩)), .string (nb pn), .pointer ka] 79 (0, 0)) by rw [hW]; exact hp_new _ _)
  have HTW := Asd.mk (HT.out.keep0 HCW.out)
  have HBw := Asd.mk (show w.heap.size ≤ w3.heap.size from HC3.out.size)
  obtain ⟨B, hB⟩ : ∃ B, w3.heap.size = B := ⟨_, rfl⟩
  rw [hB] at HB HBw ⊢
  have b2 := cell_of_heap HB.out 2
  clear hW HC3 HN3 hB
  have hk2 : ka = none := by rw [← HKA.out, hk]
  subst hk2
  clear hk HKA
  go_wp2
  go_ret
  exact ⟨by rw [HA.out]; rfl, (HCW.out).mono (by simp), L, A, M, by rw [HA.out]; exact HT.out.keep0 (HCW.out), hid⟩
open Classical in
set_option maxRecDepth 100000 in
set_option maxHeartbeats 16000000 in
theorem rename_inside (L : List Nat) (t : Nat) (fs : FS) (by' nd : Nat) (A M : Pth → Nat) (a b : ByteArray) (w : World) (hT : TabAt w L t fs by' nd A M) (hg : FsOk fs) (hr : Room fs by' nd) (hm : MaxLenAt w) (ha : a.size ≤ 4294967280) (hb : b.size ≤ 4294967280) (p q pd qd : Pth) (pn qn : Nm) (hR : partsF a = .ok p) (hR2 : partsF b = .ok q) (hp0 : p ≠ []) (hq0 : q ≠ []) (hw : wayE fs p = none) (hpe : p = pd ++ [pn]) (hqe : q = qd ++ [qn]) (x : Nd) (hx : fs.at p = some x) (hk : x.kind = 2) (hab : a ≠ b) (hbl : belowB a b = true) :
    Calls Tryz.prog 28 #[(.pointer (some ⟨t, 0, none⟩)), .string a, .string b] w fun e w' => OpPost w L t by' nd (renameF fs a b) e w' := by
  have HA := Asd.mk (show renameF fs a b = (207, fs) by unfold renameF; rw [hR, hR2]; simp only; rw [if_neg hp0, if_neg hq0, hw]; simp only; rw [hx]; simp only; rw [if_pos ⟨hk, hab, hbl⟩])
  have hka2 : kidA fs A p = some ⟨A p, 0, none⟩ := by unfold kidA; rw [hx]; rfl
  have HX := Asd.mk (And.intro hx hk)
  have HBl := Asd.mk (fun W => below_calls a b W ha)
  have ab1 := bytes_ne1 hab
  have ab2 := bytes_ne2 hab
  rw [hbl] at HBl
  clear hx hk hab hbl
  have hpl := partsF_len hR
  have hql := partsF_len hR2
  have hp1 : ¬ (p.length : Int) = 0 := by have := List.length_pos_iff.2 hp0; omega
  have hq1 : ¬ (q.length : Int) = 0 := by have := List.length_pos_iff.2 hq0; omega
  have hPa := parts_calls a w hm ha
  have hPb := fun (W : World) (hW : Chg [] w W) => parts_calls b W (hm.chg hW) hb
  rw [hR] at hPa
  rw [hR2] at hPb
  have HPa := Asd.mk hPa
  have HPb := Asd.mk hPb
  have HT := Asd.mk hT
  have HM := Asd.mk hm
  have hid : ∀ i ∈ L, i ∈ L ∨ w.heap.size ≤ i := fun i hi => .inl hi
  have HWy := Asd.mk (fun (r : Pth) (g : Nat) (W : World) (hW : Chg [] w W) (hr : r ≠ []) (hl : r.length ≤ 64) (hN : NmR W g 0 r) => way_calls L t fs by' nd A M r g r.length W (hT.keep0 hW) hg hr hN (by omega) (Nat.le_refl _))
  have HG := Asd.mk hg
  have HRR := Asd.mk (And.intro hR hR2)
  have HP0 := Asd.mk (And.intro hp0 hpe)
  have HQ0 := Asd.mk (And.intro hq0 hqe)
  have HPL := Asd.mk (And.intro hpl hql)
  have HRm := Asd.mk hr
  have HWp := Asd.mk hw
  obtain ⟨ka, hka⟩ : ∃ k, kidA fs A p = k := ⟨_, rfl⟩
  have HPW := Asd.mk (show ∀ e, wayPost fs A p e → e = .returned (.tuple #[.agg #[(.pointer (some ⟨A pd, 0, none⟩)), .string (nb pn), .pointer ka], .nilIface]) from fun e h => by rw [← hka]; exact way_place hpe hw h)
  have HKA := Asd.mk hka
  clear hPa hPb hR hR2 hT hg hr hm hp0 hq0 hpe hqe hpl hql hw hka
  (go_enter Tryz.func28, Tryz.ntmps28)
  go_wp2_with fail
  refine HPa.out.mono ?_
  rintro e w1 ⟨hP, hC1⟩
  obtain ⟨g1, rfl, hN1⟩ := parts_ok_ne HP0.out.1 hP
  have HC1 := Asd.mk hC1
  have HP2 := Asd.mk (HPb.out w1 hC1)
  have HN1 := Asd.mk hN1
  clear hC1 hP HPa HPb hN1
  go_wp2_with fail
  refine HP2.out.mono ?_
  rintro e w2 ⟨hP, hC2⟩
  obtain ⟨g2, rfl, hN2⟩ := parts_ok_ne HQ0.out.1 hP
  have HC2 := Asd.mk (HC1.out.trans hC2)
  have HN2 := Asd.mk hN2
  have HW1 := Asd.mk (HWy.out p g1 w2 HC2.out HP0.out.1 HPL.out.1 (HN1.out.keep hC2 (by simp)))
  clear hC2 hP HP2 hN2 HN1 HC1
  go_wp2_with fail
  refine HW1.out.mono ?_
  rintro e w3 ⟨hP3, hC3⟩
  have hP4 := HPW.out e hP3
  subst hP4
  have HC3 := Asd.mk (HC2.out.trans hC3)
  have HN3 := Asd.mk (HN2.out.keep hC3 (by simp))
  clear hC3 HW1 HC2 HN2 hP3 HPW
  go_upto_region 12 with fail
  refine wp_opaque2 (fun W hW => ?_)
  have HCW := Asd.mk (show Chg [] w W by rw [hW]; exact HC3.out.alloc _)
  have HNW := Asd.mk (show NmR W g2 0 q by rw [hW]; exact HN3.out.keep ((Chg.refl [] _).alloc _) (by simp))
  have HB := Asd.mk (show W.heap[w3.heap.size]? = some (.cells #[(.pointer (some ⟨A pd, 0, none⟩)), .string (nb pn), .pointer ka] 79 (0, 0)) by rw [hW]; exact hp_new _ _)
  have HTW := Asd.mk (HT.out.keep0 HCW.out)
  have HBw := Asd.mk (show w.heap.size ≤ w3.heap.size from HC3.out.size)
  obtain ⟨B, hB⟩ : ∃ B, w3.heap.size = B := ⟨_, rfl⟩
  rw [hB] at HB HBw ⊢
  have b2 := cell_of_heap HB.out 2
  clear hW HC3 HN3 hB
  have hk2 : ka = some ⟨A p, 0, none⟩ := by rw [← HKA.out, hka2]
  subst hk2
  have c0 := cell_of_heap (HTW.out.node p x HX.out.1) 0
  rw [HX.out.2] at c0
  clear hka2 HKA
  go_wp2_with fail
  refine (HBl.out _).mono ?_
  rintro e w5 ⟨rfl, hw5⟩
  have hw6 := hw5.symm
  subst hw6
  clear hw5
  go_wp2
  go_ret
  exact ⟨by rw [HA.out]; rfl, (HCW.out).mono (by simp), L, A, M, by rw [HA.out]; exact HT.out.keep0 (HCW.out), hid⟩
open Classical in
set_option maxRecDepth 100000 in
set_option maxHeartbeats 16000000 in
theorem rename_sameD (L : List Nat) (t : Nat) (fs : FS) (by' nd : Nat) (A M : Pth → Nat) (a b : ByteArray) (w : World) (hT : TabAt w L t fs by' nd A M) (hg : FsOk fs) (hr : Room fs by' nd) (hm : MaxLenAt w) (ha : a.size ≤ 4294967280) (hb : b.size ≤ 4294967280) (p q pd qd : Pth) (pn qn : Nm) (hR : partsF a = .ok p) (hR2 : partsF b = .ok q) (hp0 : p ≠ []) (hq0 : q ≠ []) (hw : wayE fs p = none) (hpe : p = pd ++ [pn]) (hqe : q = qd ++ [qn]) (x : Nd) (hx : fs.at p = some x) (hab : b = a) (hk : x.kind = 2) :
    Calls Tryz.prog 28 #[(.pointer (some ⟨t, 0, none⟩)), .string a, .string b] w fun e w' => OpPost w L t by' nd (renameF fs a b) e w' := by
  subst hab
  have hqp : q = p := by rw [hR] at hR2; cases hR2; rfl
  have HA := Asd.mk (show renameF fs b b = (0, fs) by
    rw [ren_eq hR hR2 hp0 hq0 hw hx (fun h => h.2.1 rfl), hqp, hw]
    simp only [if_true])
  have HWq := Asd.mk (show wayE fs q = none by rw [hqp]; exact hw)
  have HX := Asd.mk (And.intro hx hk)
  have hka2 : kidA fs A p = some ⟨A p, 0, none⟩ := by unfold kidA; rw [hx]; rfl
  have ab0 : (b.toList == b.toList) = true := by simp
  clear hx hk hqp
  have hpl := partsF_len hR
  have hql := partsF_len hR2
  have hp1 : ¬ (p.length : Int) = 0 := by have := List.length_pos_iff.2 hp0; omega
  have hq1 : ¬ (q.length : Int) = 0 := by have := List.length_pos_iff.2 hq0; omega
  have hPa := parts_calls b w hm hb
  have hPb := fun (W : World) (hW : Chg [] w W) => parts_calls b W (hm.chg hW) hb
  rw [hR] at hPa
  rw [hR2] at hPb
  have HPa := Asd.mk hPa
  have HPb := Asd.mk hPb
  have HT := Asd.mk hT
  have HM := Asd.mk hm
  have hid : ∀ i ∈ L, i ∈ L ∨ w.heap.size ≤ i := fun i hi => .inl hi
  have HWy := Asd.mk (fun (r : Pth) (g : Nat) (W : World) (hW : Chg [] w W) (hr : r ≠ []) (hl : r.length ≤ 64) (hN : NmR W g 0 r) => way_calls L t fs by' nd A M r g r.length W (hT.keep0 hW) hg hr hN (by omega) (Nat.le_refl _))
  have HG := Asd.mk hg
  have HRR := Asd.mk (And.intro hR hR2)
  have HP0 := Asd.mk (And.intro hp0 hpe)
  have HQ0 := Asd.mk (And.intro hq0 hqe)
  have HPL := Asd.mk (And.intro hpl hql)
  have HRm := Asd.mk hr
  have HWp := Asd.mk hw
  obtain ⟨ka, hka⟩ : ∃ k, kidA fs A p = k := ⟨_, rfl⟩
  have HPW := Asd.mk (show ∀ e, wayPost fs A p e → e = .returned (.tuple #[.agg #[(.pointer (some ⟨A pd, 0, none⟩)), .string (nb pn), .pointer ka], .nilIface]) from fun e h => by rw [← hka]; exact way_place hpe hw h)
  have HKA := Asd.mk hka
  clear hPa hPb hR hR2 hT hg hr hm hp0 hq0 hpe hqe hpl hql hw hka
  (go_enter Tryz.func28, Tryz.ntmps28)
  go_wp2_with fail
  refine HPa.out.mono ?_
  rintro e w1 ⟨hP, hC1⟩
  obtain ⟨g1, rfl, hN1⟩ := parts_ok_ne HP0.out.1 hP
  have HC1 := Asd.mk hC1
  have HP2 := Asd.mk (HPb.out w1 hC1)
  have HN1 := Asd.mk hN1
  clear hC1 hP HPa HPb hN1
  go_wp2_with fail
  refine HP2.out.mono ?_
  rintro e w2 ⟨hP, hC2⟩
  obtain ⟨g2, rfl, hN2⟩ := parts_ok_ne HQ0.out.1 hP
  have HC2 := Asd.mk (HC1.out.trans hC2)
  have HN2 := Asd.mk hN2
  have HW1 := Asd.mk (HWy.out p g1 w2 HC2.out HP0.out.1 HPL.out.1 (HN1.out.keep hC2 (by simp)))
  clear hC2 hP HP2 hN2 HN1 HC1
  go_wp2_with fail
  refine HW1.out.mono ?_
  rintro e w3 ⟨hP3, hC3⟩
  have hP4 := HPW.out e hP3
  subst hP4
  have HC3 := Asd.mk (HC2.out.trans hC3)
  have HN3 := Asd.mk (HN2.out.keep hC3 (by simp))
  clear hC3 HW1 HC2 HN2 hP3 HPW
  go_upto_region 12 with fail
  refine wp_opaque2 (fun W hW => ?_)
  have HCW := Asd.mk (show Chg [] w W by rw [hW]; exact HC3.out.alloc _)
  have HNW := Asd.mk (show NmR W g2 0 q by rw [hW]; exact HN3.out.keep ((Chg.refl [] _).alloc _) (by simp))
  have HB := Asd.mk (show W.heap[w3.heap.size]? = some (.cells #[(.pointer (some ⟨A pd, 0, none⟩)), .string (nb pn), .pointer ka] 79 (0, 0)) by rw [hW]; exact hp_new _ _)
  have HTW := Asd.mk (HT.out.keep0 HCW.out)
  have HBw := Asd.mk (show w.heap.size ≤ w3.heap.size from HC3.out.size)
  obtain ⟨B, hB⟩ : ∃ B, w3.heap.size = B := ⟨_, rfl⟩
  rw [hB] at HB HBw ⊢
  have b2 := cell_of_heap HB.out 2
  clear hW HC3 HN3 hB
  have hk2 : ka = some ⟨A p, 0, none⟩ := by rw [← HKA.out, hka2]
  subst hk2
  have c0 := cell_of_heap (HTW.out.node p x HX.out.1) 0
  rw [HX.out.2] at c0
  clear hka2 HKA
  have HW2 := Asd.mk (HWy.out q g2 W HCW.out HQ0.out.1 HPL.out.2 HNW.out)
  clear HWy HNW
  go_wp2_with fail
  refine HW2.out.mono ?_
  rintro e w5 ⟨hP5, hC5⟩
  have HC5 := Asd.mk (HCW.out.trans hC5)
  have hP6 := way_place HQ0.out.2 HWq.out hP5
  subst hP6
  clear hC5 HW2 HB HCW b2 c0 hP5
  go_wp2
  go_ret
  exact ⟨by rw [HA.out]; rfl, (HC5.out.alloc _).mono (by simp), L, A, M, by rw [HA.out]; exact HT.out.keep0 (HC5.out.alloc _), hid⟩
open Classical in
set_option maxRecDepth 100000 in
set_option maxHeartbeats 16000000 in
theorem rename_sameF (L : List Nat) (t : Nat) (fs : FS) (by' nd : Nat) (A M : Pth → Nat) (a b : ByteArray) (w : World) (hT : TabAt w L t fs by' nd A M) (hg : FsOk fs) (hr : Room fs by' nd) (hm : MaxLenAt w) (ha : a.size ≤ 4294967280) (hb : b.size ≤ 4294967280) (p q pd qd : Pth) (pn qn : Nm) (hR : partsF a = .ok p) (hR2 : partsF b = .ok q) (hp0 : p ≠ []) (hq0 : q ≠ []) (hw : wayE fs p = none) (hpe : p = pd ++ [pn]) (hqe : q = qd ++ [qn]) (x : Nd) (hx : fs.at p = some x) (hab : b = a) (hk : x.kind ≠ 2) :
    Calls Tryz.prog 28 #[(.pointer (some ⟨t, 0, none⟩)), .string a, .string b] w fun e w' => OpPost w L t by' nd (renameF fs a b) e w' := by
  subst hab
  have hqp : q = p := by rw [hR] at hR2; cases hR2; rfl
  have HA := Asd.mk (show renameF fs b b = (0, fs) by
    rw [ren_eq hR hR2 hp0 hq0 hw hx (fun h => h.2.1 rfl), hqp, hw]
    simp only [if_true])
  have HWq := Asd.mk (show wayE fs q = none by rw [hqp]; exact hw)
  have HX := Asd.mk (And.intro hx hk)
  have hka2 : kidA fs A p = some ⟨A p, 0, none⟩ := by unfold kidA; rw [hx]; rfl
  have ab0 : (b.toList == b.toList) = true := by simp
  have hxk := hg.kind p x hx
  have hk3 : ¬ (x.kind : Int) = 2 := by omega
  clear hxk
  clear hx hk hqp
  have hpl := partsF_len hR
  have hql := partsF_len hR2
  have hp1 : ¬ (p.length : Int) = 0 := by have := List.length_pos_iff.2 hp0; omega
  have hq1 : ¬ (q.length : Int) = 0 := by have := List.length_pos_iff.2 hq0; omega
  have hPa := parts_calls b w hm hb
  have hPb := fun (W : World) (hW : Chg [] w W) => parts_calls b W (hm.chg hW) hb
  rw [hR] at hPa
  rw [hR2] at hPb
  have HPa := Asd.mk hPa
  have HPb := Asd.mk hPb
  have HT := Asd.mk hT
  have HM := Asd.mk hm
  have hid : ∀ i ∈ L, i ∈ L ∨ w.heap.size ≤ i := fun i hi => .inl hi
  have HWy := Asd.mk (fun (r : Pth) (g : Nat) (W : World) (hW : Chg [] w W) (hr : r ≠ []) (hl : r.length ≤ 64) (hN : NmR W g 0 r) => way_calls L t fs by' nd A M r g r.length W (hT.keep0 hW) hg hr hN (by omega) (Nat.le_refl _))
  have HG := Asd.mk hg
  have HRR := Asd.mk (And.intro hR hR2)
  have HP0 := Asd.mk (And.intro hp0 hpe)
  have HQ0 := Asd.mk (And.intro hq0 hqe)
  have HPL := Asd.mk (And.intro hpl hql)
  have HRm := Asd.mk hr
  have HWp := Asd.mk hw
  obtain ⟨ka, hka⟩ : ∃ k, kidA fs A p = k := ⟨_, rfl⟩
  have HPW := Asd.mk (show ∀ e, wayPost fs A p e → e = .returned (.tuple #[.agg #[(.pointer (some ⟨A pd, 0, none⟩)), .string (nb pn), .pointer ka], .nilIface]) from fun e h => by rw [← hka]; exact way_place hpe hw h)
  have HKA := Asd.mk hka
  clear hPa hPb hR hR2 hT hg hr hm hp0 hq0 hpe hqe hpl hql hw hka
  (go_enter Tryz.func28, Tryz.ntmps28)
  go_wp2_with fail
  refine HPa.out.mono ?_
  rintro e w1 ⟨hP, hC1⟩
  obtain ⟨g1, rfl, hN1⟩ := parts_ok_ne HP0.out.1 hP
  have HC1 := Asd.mk hC1
  have HP2 := Asd.mk (HPb.out w1 hC1)
  have HN1 := Asd.mk hN1
  clear hC1 hP HPa HPb hN1
  go_wp2_with fail
  refine HP2.out.mono ?_
  rintro e w2 ⟨hP, hC2⟩
  obtain ⟨g2, rfl, hN2⟩ := parts_ok_ne HQ0.out.1 hP
  have HC2 := Asd.mk (HC1.out.trans hC2)
  have HN2 := Asd.mk hN2
  have HW1 := Asd.mk (HWy.out p g1 w2 HC2.out HP0.out.1 HPL.out.1 (HN1.out.keep hC2 (by simp)))
  clear hC2 hP HP2 hN2 HN1 HC1
  go_wp2_with fail
  refine HW1.out.mono ?_
  rintro e w3 ⟨hP3, hC3⟩
  have hP4 := HPW.out e hP3
  subst hP4
  have HC3 := Asd.mk (HC2.out.trans hC3)
  have HN3 := Asd.mk (HN2.out.keep hC3 (by simp))
  clear hC3 HW1 HC2 HN2 hP3 HPW
  go_upto_region 12 with fail
  refine wp_opaque2 (fun W hW => ?_)
  have HCW := Asd.mk (show Chg [] w W by rw [hW]; exact HC3.out.alloc _)
  have HNW := Asd.mk (show NmR W g2 0 q by rw [hW]; exact HN3.out.keep ((Chg.refl [] _).alloc _) (by simp))
  have HB := Asd.mk (show W.heap[w3.heap.size]? = some (.cells #[(.pointer (some ⟨A pd, 0, none⟩)), .string (nb pn), .pointer ka] 79 (0, 0)) by rw [hW]; exact hp_new _ _)
  have HTW := Asd.mk (HT.out.keep0 HCW.out)
  have HBw := Asd.mk (show w.heap.size ≤ w3.heap.size from HC3.out.size)
  obtain ⟨B, hB⟩ : ∃ B, w3.heap.size = B := ⟨_, rfl⟩
  rw [hB] at HB HBw ⊢
  have b2 := cell_of_heap HB.out 2
  clear hW HC3 HN3 hB
  have hk2 : ka = some ⟨A p, 0, none⟩ := by rw [← HKA.out, hka2]
  subst hk2
  have c0 := cell_of_heap (HTW.out.node p x HX.out.1) 0
  clear hka2 HKA
  have HW2 := Asd.mk (HWy.out q g2 W HCW.out HQ0.out.1 HPL.out.2 HNW.out)
  clear HWy HNW
  go_wp2_with fail
  refine HW2.out.mono ?_
  rintro e w5 ⟨hP5, hC5⟩
  have HC5 := Asd.mk (HCW.out.trans hC5)
  have hP6 := way_place HQ0.out.2 HWq.out hP5
  subst hP6
  clear hC5 HW2 HB HCW b2 c0 hP5
  go_wp2
  go_ret
  exact ⟨by rw [HA.out]; rfl, (HC5.out.alloc _).mono (by simp), L, A, M, by rw [HA.out]; exact HT.out.keep0 (HC5.out.alloc _), hid⟩
end Go.Proofs.YtiijbecklkccfaaGreatDoor.I
