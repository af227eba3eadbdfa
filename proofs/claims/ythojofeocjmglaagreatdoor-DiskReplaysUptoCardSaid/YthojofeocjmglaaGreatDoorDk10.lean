/- Merged out of these texts: RenPre, RenW, RenK1. -/
import Derived.Test.YthojofeocjmglaaGreatDoorDk9
/- What the walks of Rename ask of paths, texts and of the file system: plain. -/
namespace Go.Proofs.YthojofeocjmglaaGreatDoor.I
open Go.RowKit Go.Proofs.YthojofeocjmglaaGreatDoor.B Go.Sort
set_option linter.unusedVariables false
theorem partsF_pos {s : ByteArray} {n : Nat} (h : partsF s = .error n) : n ≠ 0 := by
  unfold partsF at h
  split at h
  · cases h; decide
  · split at h
    · cases h
    · split at h
      · cases h; decide
      · split at h
        · cases h; decide
        · cases h
/-- What Parts hands on, as one form. -/
theorem parts_ok_form {p : Pth} {e : Ending} {w' : World} (h : PartsPost (.ok p) e w') : ∃ A1 c1, e = .returned (.tuple #[.slice A1 p.length c1, .nilIface]) ∧ ((p = [] ∧ A1 = none ∧ c1 = 0) ∨ (p ≠ [] ∧ c1 = p.length ∧ ∃ g, A1 = some ⟨g, 0, none⟩ ∧ NmR w' g 0 p)) := by
  rcases h with ⟨h1, h2⟩ | ⟨h1, g, h2, h3⟩
  · exact ⟨none, 0, by rw [h2, h1]; rfl, .inl ⟨h1, rfl, rfl⟩⟩
  · exact ⟨_, _, h2, .inr ⟨h1, rfl, g, rfl, h3⟩⟩
theorem parts_ok_ne {p : Pth} {e : Ending} {w' : World} (hp : p ≠ []) (h : PartsPost (.ok p) e w') : ∃ g, e = .returned (.tuple #[.slice (some ⟨g, 0, none⟩) p.length p.length, .nilIface]) ∧ NmR w' g 0 p := by
  rcases h with ⟨h1, h2⟩ | ⟨h1, g, h2, h3⟩
  · exact absurd h1 hp
  · exact ⟨g, h2, h3⟩
theorem way_place {fs : FS} {A : Pth → Nat} {p pd : Pth} {pn : Nm} {e : Ending} (hpe : p = pd ++ [pn]) (hw : wayE fs p = none) (h : wayPost fs A p e) : e = .returned (.tuple #[.agg #[(.pointer (some ⟨A pd, 0, none⟩)), .string (nb pn), .pointer (kidA fs A p)], .nilIface]) := by
  unfold wayPost at h
  rw [hw] at h
  simp only at h
  rw [h]
  have h1 : dirA A p = some ⟨A pd, 0, none⟩ := by rw [hpe]; unfold dirA; rw [if_neg (by simp)]; simp
  have h2 : lastS p = nb pn := by rw [hpe]; unfold lastS; rw [if_neg (by simp)]; simp
  rw [h1, h2]
theorem toList_inj {a b : ByteArray} (h : a.toList = b.toList) : a = b := by
  have h := congrArg nb h
  rwa [ByteArray.toList_eq, ByteArray.toList_eq, nb_list, nb_list] at h
theorem bytes_ne1 {a b : ByteArray} (h : a ≠ b) : (a.toList == b.toList) = false := beq_eq_false_iff_ne.2 fun e => h (toList_inj e)
theorem bytes_ne2 {a b : ByteArray} (h : a ≠ b) : (b.toList == a.toList) = false := beq_eq_false_iff_ne.2 fun e => h (toList_inj e).symm
theorem ba_len (a : ByteArray) : a.data.toList.length = a.size := by show _ = a.data.size; simp
theorem at_of_del {fs : FS} {q r : Pth} {z : Nd} (h : (delF fs q).at r = some z) : fs.at r = some z := by
  by_cases hr : r = []
  · rw [hr] at h ⊢; exact h
  · rw [at_ne _ hr, lookup_del] at h
    rw [at_ne _ hr]
    split at h
    · cases h
    · exact h
open Classical in
theorem ren_eq {fs : FS} {a b : ByteArray} {p q : Pth} {x : Nd} (hR : partsF a = .ok p) (hR2 : partsF b = .ok q) (hp0 : p ≠ []) (hq0 : q ≠ []) (hw : wayE fs p = none) (hx : fs.at p = some x) (hnb : ¬ (x.kind = 2 ∧ a ≠ b ∧ belowB a b = true)) :
    renameF fs a b = match wayE fs q with
      | some n => (n, fs)
      | none => if a = b then (0, fs) else if givesF fs q x ≠ 0 then (givesF fs q x, fs) else if ¬ fitsP fs p b.data.toList then (2, fs) else (0, mvF (delF fs q) p q) := by
  unfold renameF
  rw [hR, hR2]
  simp only
  rw [if_neg hp0, if_neg hq0, hw]
  simp only
  rw [hx]
  simp only
  rw [if_neg hnb]
  all_goals
    cases wayE fs q with
    | some n => rfl
    | none => simp only
theorem ren_ok {fs : FS} (hg : FsOk fs) {a b : ByteArray} {p q qd : Pth} {qn : Nm} {x : Nd} (hR : partsF a = .ok p) (hR2 : partsF b = .ok q) (hp0 : p ≠ []) (hab : a ≠ b) (hx : fs.at p = some x) (hnb : ¬ (x.kind = 2 ∧ a ≠ b ∧ belowB a b = true)) (hqe : q = qd ++ [qn]) (hwq : wayE fs q = none) (hg0 : givesF fs q x = 0) (hf : fitsP fs p b.data.toList) : ∃ y, RenOk fs a b p q x qd qn y := by
  obtain ⟨d, n, y, h1, h2, h3⟩ := way_parent hg hwq (by rw [hqe]; simp)
  have h4 := snoc_inj (hqe.symm.trans h1)
  obtain ⟨rfl, rfl⟩ := h4
  subst hqe
  exact ⟨y, hR, hR2, hp0, hab, hx, rfl, h2, h3, ren_np hg hR hR2 hp0 hab hx h2 h3 hnb, gives_no hg hg0, hf⟩
end Go.Proofs.YthojofeocjmglaaGreatDoor.I
/- The program's Rename: the walk where the way to what is renamed is clear: nothing stands there; the goal lies inside it; both paths are one. (Printed by ren.py.) -/
namespace Go.Proofs.YthojofeocjmglaaGreatDoor.I
open Go.RowKit Go.Proofs.YthojofeocjmglaaGreatDoor.B Go.Sort
set_option linter.unusedVariables false
open Classical in
set_option maxRecDepth 100000 in
set_option maxHeartbeats 16000000 in
theorem rename_none (L : List Nat) (t : Nat) (fs : FS) (by' nd : Nat) (A M : Pth → Nat) (a b : ByteArray) (w : World) (hT : TabAt w L t fs by' nd A M) (hg : FsOk fs) (hr : Room fs by' nd) (hm : MaxLenAt w) (ha : a.size ≤ 4294967280) (hb : b.size ≤ 4294967280) (p q pd qd : Pth) (pn qn : Nm) (hR : partsF a = .ok p) (hR2 : partsF b = .ok q) (hp0 : p ≠ []) (hq0 : q ≠ []) (hw : wayE fs p = none) (hpe : p = pd ++ [pn]) (hqe : q = qd ++ [qn]) (hx : fs.at p = none) :
    Calls Tryz.prog 74 #[(.pointer (some ⟨t, 0, none⟩)), .string a, .string b] w fun e w' => OpPost w L t by' nd (renameF fs a b) e w' := by
  have HA := Asd.mk (show renameF fs a b = (200, fs) by unfold renameF; rw [hR, hR2]; simp only; rw [if_neg hp0, if_neg hq0, hw]; simp only; rw [hx])
  have hk : kidA fs A p = none := by unfold kidA; rw [hx]; rfl
  clear hx
  have hpl := partsF_len hR
  have hql := partsF_len hR2
  have hp1 : ¬ (p.length : Int) = 0 := by have := List.length_pos_iff.2 hp0; omega
  have hq1 : ¬ (q.length : Int) = 0 := by have := List.length_pos_iff.2 hq0; omega
  have hPa := parts_calls a w hm ha
  have hPb := fun (W : World) (hW : Chg [] w W) => parts_calls b W (hm.chg hW) hb
  rw [hR] at hPa
  rw [hR2] at hPb
  have HPa := Asd.mk hPa
  have HPb := Asd.mk hPb
  have HT := Asd.mk hT
  have HM := Asd.mk hm
  have hid : ∀ i ∈ L, i ∈ L ∨ w.heap.size ≤ i := fun i hi => .inl hi
  have HWy := Asd.mk (fun (r : Pth) (g : Nat) (W : World) (hW : Chg [] w W) (hr : r ≠ []) (hl : r.length ≤ 64) (hN : NmR W g 0 r) => way_calls L t fs by' nd A M r g r.length W (hT.keep0 hW) hg hr hN (by omega) (Nat.le_refl _))
  have HG := Asd.mk hg
  have HRR := Asd.mk (And.intro hR hR2)
  have HP0 := Asd.mk (And.intro hp0 hpe)
  have HQ0 := Asd.mk (And.intro hq0 hqe)
  have HPL := Asd.mk (And.intro hpl hql)
  have HRm := Asd.mk hr
  have HWp := Asd.mk hw
  obtain ⟨ka, hka⟩ : ∃ k, kidA fs A p = k := ⟨_, rfl⟩
  have HPW := Asd.mk (show ∀ e, wayPost fs A p e → e = .returned (.tuple #[.agg #[(.pointer (some ⟨A pd, 0, none⟩)), .string (nb pn), .pointer ka], .nilIface]) from fun e h => by rw [← hka]; exact way_place hpe hw h)
  have HKA := Asd.mk hka
  clear hPa hPb hR hR2 hT hg hr hm hp0 hq0 hpe hqe hpl hql hw hka
  (go_enter Tryz.func74, Tryz.ntmps74)
  go_wp2_with fail
  refine HPa.out.mono ?_
  rintro e w1 ⟨hP, hC1⟩
  obtain ⟨g1, rfl, hN1⟩ := parts_ok_ne HP0.out.1 hP
  have HC1 := Asd.mk hC1
  have HP2 := Asd.mk (HPb.out w1 hC1)
  have HN1 := Asd.mk hN1
  clear hC1 hP HPa HPb hN1
  go_wp2_with fail
  refine HP2.out.mono ?_
  rintro e w2 ⟨hP, hC2⟩
  obtain ⟨g2, rfl, hN2⟩ := parts_ok_ne HQ0.out.1 hP
  have HC2 := Asd.mk (HC1.out.trans hC2)
  have HN2 := Asd.mk hN2
  have HW1 := Asd.mk (HWy.out p g1 w2 HC2.out HP0.out.1 HPL.out.1 (HN1.out.keep hC2 (by simp)))
  clear hC2 hP HP2 hN2 HN1 HC1
  go_wp2_with fail
  refine HW1.out.mono ?_
  rintro e w3 ⟨hP3, hC3⟩
  have hP4 := HPW.out e hP3
  subst hP4
  have HC3 := Asd.mk (HC2.out.trans hC3)
  have HN3 := Asd.mk (HN2.out.keep hC3 (by simp))
  clear hC3 HW1 HC2 HN2 hP3 HPW
  go_upto_region 12 with fail
  refine wp_opaque2 (fun W hW => ?_)
  have HCW := Asd.mk (show Chg [] w W by rw [hW]; exact HC3.out.alloc _)
  have HNW := Asd.mk (show NmR W g2 0 q by rw [hW]; exact HN3.out.keep ((Chg.refl [] _).alloc _) (by simp))
  have HB := Asd.mk (show W.heap[w3.heap.size]? = some (.cells #[(.pointer (some ⟨A pd, 0, none⟩)), .string (nb pn), .pointer ka] 127 (0, 0)) by rw [hW]; exact hp_new _ _)
  have HTW := Asd.mk (HT.out.keep0 HCW.out)
  have HBw := Asd.mk (show w.heap.size ≤ w3.heap.size from HC3.out.size)
  obtain ⟨B, hB⟩ : ∃ B, w3.heap.size = B := ⟨_, rfl⟩
  rw [hB] at HB HBw ⊢
  have b2 := cell_of_heap HB.out 2
  clear hW HC3 HN3 hB
  have hk2 : ka = none := by rw [← HKA.out, hk]
  subst hk2
  clear hk HKA
  go_wp2
  go_ret
  exact ⟨by rw [HA.out]; rfl, (HCW.out).mono (by simp), L, A, M, by rw [HA.out]; exact HT.out.keep0 (HCW.out), hid⟩
open Classical in
set_option maxRecDepth 100000 in
set_option maxHeartbeats 16000000 in
theorem rename_inside (L : List Nat) (t : Nat) (fs : FS) (by' nd : Nat) (A M : Pth → Nat) (a b : ByteArray) (w : World) (hT : TabAt w L t fs by' nd A M) (hg : FsOk fs) (hr : Room fs by' nd) (hm : MaxLenAt w) (ha : a.size ≤ 4294967280) (hb : b.size ≤ 4294967280) (p q pd qd : Pth) (pn qn : Nm) (hR : partsF a = .ok p) (hR2 : partsF b = .ok q) (hp0 : p ≠ []) (hq0 : q ≠ []) (hw : wayE fs p = none) (hpe : p = pd ++ [pn]) (hqe : q = qd ++ [qn]) (x : Nd) (hx : fs.at p = some x) (hk : x.kind = 2) (hab : a ≠ b) (hbl : belowB a b = true) :
    Calls Tryz.prog 74 #[(.pointer (some ⟨t, 0, none⟩)), .string a, .string b] w fun e w' => OpPost w L t by' nd (renameF fs a b) e w' := by
  have HA := Asd.mk (show renameF fs a b = (207, fs) by unfold renameF; rw [hR, hR2]; simp only; rw [if_neg hp0, if_neg hq0, hw]; simp only; rw [hx]; simp only; rw [if_pos ⟨hk, hab, hbl⟩])
  have hka2 : kidA fs A p = some ⟨A p, 0, none⟩ := by unfold kidA; rw [hx]; rfl
  have HX := Asd.mk (And.intro hx hk)
  have HBl := Asd.mk (fun W => below_calls a b W ha)
  have ab1 := bytes_ne1 hab
  have ab2 := bytes_ne2 hab
  rw [hbl] at HBl
  clear hx hk hab hbl
  have hpl := partsF_len hR
  have hql := partsF_len hR2
  have hp1 : ¬ (p.length : Int) = 0 := by have := List.length_pos_iff.2 hp0; omega
  have hq1 : ¬ (q.length : Int) = 0 := by have := List.length_pos_iff.2 hq0; omega
  have hPa := parts_calls a w hm ha
  have hPb := fun (W : World) (hW : Chg [] w W) => parts_calls b W (hm.chg hW) hb
  rw [hR] at hPa
  rw [hR2] at hPb
  have HPa := Asd.mk hPa
  have HPb := Asd.mk hPb
  have HT := Asd.mk hT
  have HM := Asd.mk hm
  have hid : ∀ i ∈ L, i ∈ L ∨ w.heap.size ≤ i := fun i hi => .inl hi
  have HWy := Asd.mk (fun (r : Pth) (g : Nat) (W : World) (hW : Chg [] w W) (hr : r ≠ []) (hl : r.length ≤ 64) (hN : NmR W g 0 r) => way_calls L t fs by' nd A M r g r.length W (hT.keep0 hW) hg hr hN (by omega) (Nat.le_refl _))
  have HG := Asd.mk hg
  have HRR := Asd.mk (And.intro hR hR2)
  have HP0 := Asd.mk (And.intro hp0 hpe)
  have HQ0 := Asd.mk (And.intro hq0 hqe)
  have HPL := Asd.mk (And.intro hpl hql)
  have HRm := Asd.mk hr
  have HWp := Asd.mk hw
  obtain ⟨ka, hka⟩ : ∃ k, kidA fs A p = k := ⟨_, rfl⟩
  have HPW := Asd.mk (show ∀ e, wayPost fs A p e → e = .returned (.tuple #[.agg #[(.pointer (some ⟨A pd, 0, none⟩)), .string (nb pn), .pointer ka], .nilIface]) from fun e h => by rw [← hka]; exact way_place hpe hw h)
  have HKA := Asd.mk hka
  clear hPa hPb hR hR2 hT hg hr hm hp0 hq0 hpe hqe hpl hql hw hka
  (go_enter Tryz.func74, Tryz.ntmps74)
  go_wp2_with fail
  refine HPa.out.mono ?_
  rintro e w1 ⟨hP, hC1⟩
  obtain ⟨g1, rfl, hN1⟩ := parts_ok_ne HP0.out.1 hP
  have HC1 := Asd.mk hC1
  have HP2 := Asd.mk (HPb.out w1 hC1)
  have HN1 := Asd.mk hN1
  clear hC1 hP HPa HPb hN1
  go_wp2_with fail
  refine HP2.out.mono ?_
  rintro e w2 ⟨hP, hC2⟩
  obtain ⟨g2, rfl, hN2⟩ := parts_ok_ne HQ0.out.1 hP
  have HC2 := Asd.mk (HC1.out.trans hC2)
  have HN2 := Asd.mk hN2
  have HW1 := Asd.mk (HWy.out p g1 w2 HC2.out HP0.out.1 HPL.out.1 (HN1.out.keep hC2 (by simp)))
  clear hC2 hP HP2 hN2 HN1 HC1
  go_wp2_with fail
  refine HW1.out.mono ?_
  rintro e w3 ⟨hP3, hC3⟩
  have hP4 := HPW.out e hP3
  subst hP4
  have HC3 := Asd.mk (HC2.out.trans hC3)
  have HN3 := Asd.mk (HN2.out.keep hC3 (by simp))
  clear hC3 HW1 HC2 HN2 hP3 HPW
  go_upto_region 12 with fail
  refine wp_opaque2 (fun W hW => ?_)
  have HCW := Asd.mk (show Chg [] w W by rw [hW]; exact HC3.out.alloc _)
  have HNW := Asd.mk (show NmR W g2 0 q by rw [hW]; exact HN3.out.keep ((Chg.refl [] _).alloc _) (by simp))
  have HB := Asd.mk (show W.heap[w3.heap.size]? = some (.cells #[(.pointer (some ⟨A pd, 0, none⟩)), .string (nb pn), .pointer ka] 127 (0, 0)) by rw [hW]; exact hp_new _ _)
  have HTW := Asd.mk (HT.out.keep0 HCW.out)
  have HBw := Asd.mk (show w.heap.size ≤ w3.heap.size from HC3.out.size)
  obtain ⟨B, hB⟩ : ∃ B, w3.heap.size = B := ⟨_, rfl⟩
  rw [hB] at HB HBw ⊢
  have b2 := cell_of_heap HB.out 2
  clear hW HC3 HN3 hB
  have hk2 : ka = some ⟨A p, 0, none⟩ := by rw [← HKA.out, hka2]
  subst hk2
  have c0 := cell_of_heap (HTW.out.node p x HX.out.1) 0
  rw [HX.out.2] at c0
  clear hka2 HKA
  go_wp2_with fail
  refine (HBl.out _).mono ?_
  rintro e w5 ⟨rfl, hw5⟩
  have hw6 := hw5.symm
  subst hw6
  clear hw5
  go_wp2
  go_ret
  exact ⟨by rw [HA.out]; rfl, (HCW.out).mono (by simp), L, A, M, by rw [HA.out]; exact HT.out.keep0 (HCW.out), hid⟩
open Classical in
set_option maxRecDepth 100000 in
set_option maxHeartbeats 16000000 in
theorem rename_sameD (L : List Nat) (t : Nat) (fs : FS) (by' nd : Nat) (A M : Pth → Nat) (a b : ByteArray) (w : World) (hT : TabAt w L t fs by' nd A M) (hg : FsOk fs) (hr : Room fs by' nd) (hm : MaxLenAt w) (ha : a.size ≤ 4294967280) (hb : b.size ≤ 4294967280) (p q pd qd : Pth) (pn qn : Nm) (hR : partsF a = .ok p) (hR2 : partsF b = .ok q) (hp0 : p ≠ []) (hq0 : q ≠ []) (hw : wayE fs p = none) (hpe : p = pd ++ [pn]) (hqe : q = qd ++ [qn]) (x : Nd) (hx : fs.at p = some x) (hab : b = a) (hk : x.kind = 2) :
    Calls Tryz.prog 74 #[(.pointer (some ⟨t, 0, none⟩)), .string a, .string b] w fun e w' => OpPost w L t by' nd (renameF fs a b) e w' := by
  subst hab
  have hqp : q = p := by rw [hR] at hR2; cases hR2; rfl
  have HA := Asd.mk (show renameF fs b b = (0, fs) by
    rw [ren_eq hR hR2 hp0 hq0 hw hx (fun h => h.2.1 rfl), hqp, hw]
    simp only [if_true])
  have HWq := Asd.mk (show wayE fs q = none by rw [hqp]; exact hw)
  have HX := Asd.mk (And.intro hx hk)
  have hka2 : kidA fs A p = some ⟨A p, 0, none⟩ := by unfold kidA; rw [hx]; rfl
  have ab0 : (b.toList == b.toList) = true := by simp
  clear hx hk hqp
  have hpl := partsF_len hR
  have hql := partsF_len hR2
  have hp1 : ¬ (p.length : Int) = 0 := by have := List.length_pos_iff.2 hp0; omega
  have hq1 : ¬ (q.length : Int) = 0 := by have := List.length_pos_iff.2 hq0; omega
  have hPa := parts_calls b w hm hb
  have hPb := fun (W : World) (hW : Chg [] w W) => parts_calls b W (hm.chg hW) hb
  rw [hR] at hPa
  rw [hR2] at hPb
  have HPa := Asd.mk hPa
  have HPb := Asd.mk hPb
  have HT := Asd.mk hT
  have HM := Asd.mk hm
  have hid : ∀ i ∈ L, i ∈ L ∨ w.heap.size ≤ i := fun i hi => .inl hi
  have HWy := Asd.mk (fun (r : Pth) (g : Nat) (W : World) (hW : Chg [] w W) (hr : r ≠ []) (hl : r.length ≤ 64) (hN : NmR W g 0 r) => way_calls L t fs by' nd A M r g r.length W (hT.keep0 hW) hg hr hN (by omega) (Nat.le_refl _))
  have HG := Asd.mk hg
  have HRR := Asd.mk (And.intro hR hR2)
  have HP0 := Asd.mk (And.intro hp0 hpe)
  have HQ0 := Asd.mk (And.intro hq0 hqe)
  have HPL := Asd.mk (And.intro hpl hql)
  have HRm := Asd.mk hr
  have HWp := Asd.mk hw
  obtain ⟨ka, hka⟩ : ∃ k, kidA fs A p = k := ⟨_, rfl⟩
  have HPW := Asd.mk (show ∀ e, wayPost fs A p e → e = .returned (.tuple #[.agg #[(.pointer (some ⟨A pd, 0, none⟩)), .string (nb pn), .pointer ka], .nilIface]) from fun e h => by rw [← hka]; exact way_place hpe hw h)
  have HKA := Asd.mk hka
  clear hPa hPb hR hR2 hT hg hr hm hp0 hq0 hpe hqe hpl hql hw hka
  (go_enter Tryz.func74, Tryz.ntmps74)
  go_wp2_with fail
  refine HPa.out.mono ?_
  rintro e w1 ⟨hP, hC1⟩
  obtain ⟨g1, rfl, hN1⟩ := parts_ok_ne HP0.out.1 hP
  have HC1 := Asd.mk hC1
  have HP2 := Asd.mk (HPb.out w1 hC1)
  have HN1 := Asd.mk hN1
  clear hC1 hP HPa HPb hN1
  go_wp2_with fail
  refine HP2.out.mono ?_
  rintro e w2 ⟨hP, hC2⟩
  obtain ⟨g2, rfl, hN2⟩ := parts_ok_ne HQ0.out.1 hP
  have HC2 := Asd.mk (HC1.out.trans hC2)
  have HN2 := Asd.mk hN2
  have HW1 := Asd.mk (HWy.out p g1 w2 HC2.out HP0.out.1 HPL.out.1 (HN1.out.keep hC2 (by simp)))
  clear hC2 hP HP2 hN2 HN1 HC1
  go_wp2_with fail
  refine HW1.out.mono ?_
  rintro e w3 ⟨hP3, hC3⟩
  have hP4 := HPW.out e hP3
  subst hP4
  have HC3 := Asd.mk (HC2.out.trans hC3)
  have HN3 := Asd.mk (HN2.out.keep hC3 (by simp))
  clear hC3 HW1 HC2 HN2 hP3 HPW
  go_upto_region 12 with fail
  refine wp_opaque2 (fun W hW => ?_)
  have HCW := Asd.mk (show Chg [] w W by rw [hW]; exact HC3.out.alloc _)
  have HNW := Asd.mk (show NmR W g2 0 q by rw [hW]; exact HN3.out.keep ((Chg.refl [] _).alloc _) (by simp))
  have HB := Asd.mk (show W.heap[w3.heap.size]? = some (.cells #[(.pointer (some ⟨A pd, 0, none⟩)), .string (nb pn), .pointer ka] 127 (0, 0)) by rw [hW]; exact hp_new _ _)
  have HTW := Asd.mk (HT.out.keep0 HCW.out)
  have HBw := Asd.mk (show w.heap.size ≤ w3.heap.size from HC3.out.size)
  obtain ⟨B, hB⟩ : ∃ B, w3.heap.size = B := ⟨_, rfl⟩
  rw [hB] at HB HBw ⊢
  have b2 := cell_of_heap HB.out 2
  clear hW HC3 HN3 hB
  have hk2 : ka = some ⟨A p, 0, none⟩ := by rw [← HKA.out, hka2]
  subst hk2
  have c0 := cell_of_heap (HTW.out.node p x HX.out.1) 0
  rw [HX.out.2] at c0
  clear hka2 HKA
  have HW2 := Asd.mk (HWy.out q g2 W HCW.out HQ0.out.1 HPL.out.2 HNW.out)
  clear HWy HNW
  go_wp2_with fail
  refine HW2.out.mono ?_
  rintro e w5 ⟨hP5, hC5⟩
  have HC5 := Asd.mk (HCW.out.trans hC5)
  have hP6 := way_place HQ0.out.2 HWq.out hP5
  subst hP6
  clear hC5 HW2 HB HCW b2 c0 hP5
  go_wp2
  go_ret
  exact ⟨by rw [HA.out]; rfl, (HC5.out.alloc _).mono (by simp), L, A, M, by rw [HA.out]; exact HT.out.keep0 (HC5.out.alloc _), hid⟩
open Classical in
set_option maxRecDepth 100000 in
set_option maxHeartbeats 16000000 in
theorem rename_sameF (L : List Nat) (t : Nat) (fs : FS) (by' nd : Nat) (A M : Pth → Nat) (a b : ByteArray) (w : World) (hT : TabAt w L t fs by' nd A M) (hg : FsOk fs) (hr : Room fs by' nd) (hm : MaxLenAt w) (ha : a.size ≤ 4294967280) (hb : b.size ≤ 4294967280) (p q pd qd : Pth) (pn qn : Nm) (hR : partsF a = .ok p) (hR2 : partsF b = .ok q) (hp0 : p ≠ []) (hq0 : q ≠ []) (hw : wayE fs p = none) (hpe : p = pd ++ [pn]) (hqe : q = qd ++ [qn]) (x : Nd) (hx : fs.at p = some x) (hab : b = a) (hk : x.kind ≠ 2) :
    Calls Tryz.prog 74 #[(.pointer (some ⟨t, 0, none⟩)), .string a, .string b] w fun e w' => OpPost w L t by' nd (renameF fs a b) e w' := by
  subst hab
  have hqp : q = p := by rw [hR] at hR2; cases hR2; rfl
  have HA := Asd.mk (show renameF fs b b = (0, fs) by
    rw [ren_eq hR hR2 hp0 hq0 hw hx (fun h => h.2.1 rfl), hqp, hw]
    simp only [if_true])
  have HWq := Asd.mk (show wayE fs q = none by rw [hqp]; exact hw)
  have HX := Asd.mk (And.intro hx hk)
  have hka2 : kidA fs A p = some ⟨A p, 0, none⟩ := by unfold kidA; rw [hx]; rfl
  have ab0 : (b.toList == b.toList) = true := by simp
  have hxk := hg.kind p x hx
  have hk3 : ¬ (x.kind : Int) = 2 := by omega
  clear hxk
  clear hx hk hqp
  have hpl := partsF_len hR
  have hql := partsF_len hR2
  have hp1 : ¬ (p.length : Int) = 0 := by have := List.length_pos_iff.2 hp0; omega
  have hq1 : ¬ (q.length : Int) = 0 := by have := List.length_pos_iff.2 hq0; omega
  have hPa := parts_calls b w hm hb
  have hPb := fun (W : World) (hW : Chg [] w W) => parts_calls b W (hm.chg hW) hb
  rw [hR] at hPa
  rw [hR2] at hPb
  have HPa := Asd.mk hPa
  have HPb := Asd.mk hPb
  have HT := Asd.mk hT
  have HM := Asd.mk hm
  have hid : ∀ i ∈ L, i ∈ L ∨ w.heap.size ≤ i := fun i hi => .inl hi
  have HWy := Asd.mk (fun (r : Pth) (g : Nat) (W : World) (hW : Chg [] w W) (hr : r ≠ []) (hl : r.length ≤ 64) (hN : NmR W g 0 r) => way_calls L t fs by' nd A M r g r.length W (hT.keep0 hW) hg hr hN (by omega) (Nat.le_refl _))
  have HG := Asd.mk hg
  have HRR := Asd.mk (And.intro hR hR2)
  have HP0 := Asd.mk (And.intro hp0 hpe)
  have HQ0 := Asd.mk (And.intro hq0 hqe)
  have HPL := Asd.mk (And.intro hpl hql)
  have HRm := Asd.mk hr
  have HWp := Asd.mk hw
  obtain ⟨ka, hka⟩ : ∃ k, kidA fs A p = k := ⟨_, rfl⟩
  have HPW := Asd.mk (show ∀ e, wayPost fs A p e → e = .returned (.tuple #[.agg #[(.pointer (some ⟨A pd, 0, none⟩)), .string (nb pn), .pointer ka], .nilIface]) from fun e h => by rw [← hka]; exact way_place hpe hw h)
  have HKA := Asd.mk hka
  clear hPa hPb hR hR2 hT hg hr hm hp0 hq0 hpe hqe hpl hql hw hka
  (go_enter Tryz.func74, Tryz.ntmps74)
  go_wp2_with fail
  refine HPa.out.mono ?_
  rintro e w1 ⟨hP, hC1⟩
  obtain ⟨g1, rfl, hN1⟩ := parts_ok_ne HP0.out.1 hP
  have HC1 := Asd.mk hC1
  have HP2 := Asd.mk (HPb.out w1 hC1)
  have HN1 := Asd.mk hN1
  clear hC1 hP HPa HPb hN1
  go_wp2_with fail
  refine HP2.out.mono ?_
  rintro e w2 ⟨hP, hC2⟩
  obtain ⟨g2, rfl, hN2⟩ := parts_ok_ne HQ0.out.1 hP
  have HC2 := Asd.mk (HC1.out.trans hC2)
  have HN2 := Asd.mk hN2
  have HW1 := Asd.mk (HWy.out p g1 w2 HC2.out HP0.out.1 HPL.out.1 (HN1.out.keep hC2 (by simp)))
  clear hC2 hP HP2 hN2 HN1 HC1
  go_wp2_with fail
  refine HW1.out.mono ?_
  rintro e w3 ⟨hP3, hC3⟩
  have hP4 := HPW.out e hP3
  subst hP4
  have HC3 := Asd.mk (HC2.out.trans hC3)
  have HN3 := Asd.mk (HN2.out.keep hC3 (by simp))
  clear hC3 HW1 HC2 HN2 hP3 HPW
  go_upto_region 12 with fail
  refine wp_opaque2 (fun W hW => ?_)
  have HCW := Asd.mk (show Chg [] w W by rw [hW]; exact HC3.out.alloc _)
  have HNW := Asd.mk (show NmR W g2 0 q by rw [hW]; exact HN3.out.keep ((Chg.refl [] _).alloc _) (by simp))
  have HB := Asd.mk (show W.heap[w3.heap.size]? = some (.cells #[(.pointer (some ⟨A pd, 0, none⟩)), .string (nb pn), .pointer ka] 127 (0, 0)) by rw [hW]; exact hp_new _ _)
  have HTW := Asd.mk (HT.out.keep0 HCW.out)
  have HBw := Asd.mk (show w.heap.size ≤ w3.heap.size from HC3.out.size)
  obtain ⟨B, hB⟩ : ∃ B, w3.heap.size = B := ⟨_, rfl⟩
  rw [hB] at HB HBw ⊢
  have b2 := cell_of_heap HB.out 2
  clear hW HC3 HN3 hB
  have hk2 : ka = some ⟨A p, 0, none⟩ := by rw [← HKA.out, hka2]
  subst hk2
  have c0 := cell_of_heap (HTW.out.node p x HX.out.1) 0
  clear hka2 HKA
  have HW2 := Asd.mk (HWy.out q g2 W HCW.out HQ0.out.1 HPL.out.2 HNW.out)
  clear HWy HNW
  go_wp2_with fail
  refine HW2.out.mono ?_
  rintro e w5 ⟨hP5, hC5⟩
  have HC5 := Asd.mk (HCW.out.trans hC5)
  have hP6 := way_place HQ0.out.2 HWq.out hP5
  subst hP6
  clear hC5 HW2 HB HCW b2 c0 hP5
  go_wp2
  go_ret
  exact ⟨by rw [HA.out]; rfl, (HC5.out.alloc _).mono (by simp), L, A, M, by rw [HA.out]; exact HT.out.keep0 (HC5.out.alloc _), hid⟩
end Go.Proofs.YthojofeocjmglaaGreatDoor.I
/- The program's Rename: the walk where the way to what is renamed is clear: it is no directory. (Printed by ren.py.) -/
namespace Go.Proofs.YthojofeocjmglaaGreatDoor.I
open Go.RowKit Go.Proofs.YthojofeocjmglaaGreatDoor.B Go.Sort
set_option linter.unusedVariables false
open Classical in
set_option maxRecDepth 100000 in
set_option maxHeartbeats 16000000 in
theorem rename_K1 (L : List Nat) (t : Nat) (fs : FS) (by' nd : Nat) (A M : Pth → Nat) (a b : ByteArray) (w : World) (hT : TabAt w L t fs by' nd A M) (hg : FsOk fs) (hr : Room fs by' nd) (hm : MaxLenAt w) (ha : a.size ≤ 4294967280) (hb : b.size ≤ 4294967280) (p q pd qd : Pth) (pn qn : Nm) (hR : partsF a = .ok p) (hR2 : partsF b = .ok q) (hp0 : p ≠ []) (hq0 : q ≠ []) (hw : wayE fs p = none) (hpe : p = pd ++ [pn]) (hqe : q = qd ++ [qn]) (x : Nd) (hx : fs.at p = some x) (hab : a ≠ b) (hk : x.kind ≠ 2) :
    Calls Tryz.prog 74 #[(.pointer (some ⟨t, 0, none⟩)), .string a, .string b] w fun e w' => OpPost w L t by' nd (renameF fs a b) e w' := by
  have HX := Asd.mk (And.intro hx hk)
  have hka2 : kidA fs A p = some ⟨A p, 0, none⟩ := by unfold kidA; rw [hx]; rfl
  have hnb : ¬ (x.kind = 2 ∧ a ≠ b ∧ belowB a b = true) := fun h => hk h.1
  have hxk := hg.kind p x hx
  have hk3 : ¬ (x.kind : Int) = 2 := by omega
  have ab1 := bytes_ne1 hab
  have ab2 := bytes_ne2 hab
  have HNB := Asd.mk hnb
  have HAB := Asd.mk hab
  have HWe := Asd.mk hw
  clear hx hnb hab hk hxk
  have hpl := partsF_len hR
  have hql := partsF_len hR2
  have hp1 : ¬ (p.length : Int) = 0 := by have := List.length_pos_iff.2 hp0; omega
  have hq1 : ¬ (q.length : Int) = 0 := by have := List.length_pos_iff.2 hq0; omega
  have hPa := parts_calls a w hm ha
  have hPb := fun (W : World) (hW : Chg [] w W) => parts_calls b W (hm.chg hW) hb
  rw [hR] at hPa
  rw [hR2] at hPb
  have HPa := Asd.mk hPa
  have HPb := Asd.mk hPb
  have HT := Asd.mk hT
  have HM := Asd.mk hm
  have hid : ∀ i ∈ L, i ∈ L ∨ w.heap.size ≤ i := fun i hi => .inl hi
  have HWy := Asd.mk (fun (r : Pth) (g : Nat) (W : World) (hW : Chg [] w W) (hr : r ≠ []) (hl : r.length ≤ 64) (hN : NmR W g 0 r) => way_calls L t fs by' nd A M r g r.length W (hT.keep0 hW) hg hr hN (by omega) (Nat.le_refl _))
  have HG := Asd.mk hg
  have HRR := Asd.mk (And.intro hR hR2)
  have HP0 := Asd.mk (And.intro hp0 hpe)
  have HQ0 := Asd.mk (And.intro hq0 hqe)
  have HPL := Asd.mk (And.intro hpl hql)
  have HRm := Asd.mk hr
  have HWp := Asd.mk hw
  obtain ⟨ka, hka⟩ : ∃ k, kidA fs A p = k := ⟨_, rfl⟩
  have HPW := Asd.mk (show ∀ e, wayPost fs A p e → e = .returned (.tuple #[.agg #[(.pointer (some ⟨A pd, 0, none⟩)), .string (nb pn), .pointer ka], .nilIface]) from fun e h => by rw [← hka]; exact way_place hpe hw h)
  have HKA := Asd.mk hka
  clear hPa hPb hR hR2 hT hg hr hm hp0 hq0 hpe hqe hpl hql hw hka
  (go_enter Tryz.func74, Tryz.ntmps74)
  go_wp2_with fail
  refine HPa.out.mono ?_
  rintro e w1 ⟨hP, hC1⟩
  obtain ⟨g1, rfl, hN1⟩ := parts_ok_ne HP0.out.1 hP
  have HC1 := Asd.mk hC1
  have HP2 := Asd.mk (HPb.out w1 hC1)
  have HN1 := Asd.mk hN1
  clear hC1 hP HPa HPb hN1
  go_wp2_with fail
  refine HP2.out.mono ?_
  rintro e w2 ⟨hP, hC2⟩
  obtain ⟨g2, rfl, hN2⟩ := parts_ok_ne HQ0.out.1 hP
  have HC2 := Asd.mk (HC1.out.trans hC2)
  have HN2 := Asd.mk hN2
  have HW1 := Asd.mk (HWy.out p g1 w2 HC2.out HP0.out.1 HPL.out.1 (HN1.out.keep hC2 (by simp)))
  clear hC2 hP HP2 hN2 HN1 HC1
  go_wp2_with fail
  refine HW1.out.mono ?_
  rintro e w3 ⟨hP3, hC3⟩
  have hP4 := HPW.out e hP3
  subst hP4
  have HC3 := Asd.mk (HC2.out.trans hC3)
  have HN3 := Asd.mk (HN2.out.keep hC3 (by simp))
  clear hC3 HW1 HC2 HN2 hP3 HPW
  go_upto_region 12 with fail
  refine wp_opaque2 (fun W hW => ?_)
  have HCW := Asd.mk (show Chg [] w W by rw [hW]; exact HC3.out.alloc _)
  have HNW := Asd.mk (show NmR W g2 0 q by rw [hW]; exact HN3.out.keep ((Chg.refl [] _).alloc _) (by simp))
  have HB := Asd.mk (show W.heap[w3.heap.size]? = some (.cells #[(.pointer (some ⟨A pd, 0, none⟩)), .string (nb pn), .pointer ka] 127 (0, 0)) by rw [hW]; exact hp_new _ _)
  have HTW := Asd.mk (HT.out.keep0 HCW.out)
  have HBw := Asd.mk (show w.heap.size ≤ w3.heap.size from HC3.out.size)
  obtain ⟨B, hB⟩ : ∃ B, w3.heap.size = B := ⟨_, rfl⟩
  rw [hB] at HB HBw ⊢
  have b2 := cell_of_heap HB.out 2
  clear hW HC3 HN3 hB
  have hk2 : ka = some ⟨A p, 0, none⟩ := by rw [← HKA.out, hka2]
  subst hk2
  have c0 := cell_of_heap (HTW.out.node p x HX.out.1) 0
  clear hka2 HKA
  have HW2 := Asd.mk (HWy.out q g2 W HCW.out HQ0.out.1 HPL.out.2 HNW.out)
  clear HWy HNW
  go_wp2_with fail
  refine HW2.out.mono ?_
  rintro e w5 ⟨hP5, hC5⟩
  have HC5 := Asd.mk (HCW.out.trans hC5)
  have HB5 := Asd.mk (hC5.heap HB.out (by simp))
  clear hC5 HW2 HB HCW b2 c0
  have HAE := Asd.mk (ren_eq HRR.out.1 HRR.out.2 HP0.out.1 HQ0.out.1 HWp.out HX.out.1 HNB.out)
  obtain ⟨R, hwq⟩ : ∃ R, wayE fs q = R := ⟨_, rfl⟩
  cases R with
  | some n =>
    have HA := Asd.mk (show renameF fs a b = (n, fs) by rw [HAE.out, hwq])
    have hP6 : e = .returned (.tuple #[(.agg #[.pointer none, .string ⟨#[]⟩, .pointer none]), .iface 88 (.int .i64 (n : Int))]) := by unfold wayPost at hP5; rw [hwq] at hP5; exact hP5
    subst hP6
    have HN := Asd.mk (show n ≠ 0 from fun e => by
      have : atE fs b = .error n := by unfold atE; rw [HRR.out.2]; simp only; rw [hwq]
      exact atE_pos this e)
    clear hP5 hwq
    go_wp2
    go_ret
    exact ⟨by rw [HA.out]; simp only [errV]; rw [if_neg HN.out]; rfl, (HC5.out.alloc _).mono (by simp), L, A, M, by rw [HA.out]; exact HT.out.keep0 (HC5.out.alloc _), hid⟩
  | none =>
    obtain ⟨kb, hkb⟩ : ∃ k, kidA fs A q = k := ⟨_, rfl⟩
    have hP6 : e = .returned (.tuple #[.agg #[(.pointer (some ⟨A qd, 0, none⟩)), .string (nb qn), .pointer kb], .nilIface]) := by rw [← hkb]; exact way_place HQ0.out.2 hwq hP5
    subst hP6
    have HKB := Asd.mk hkb
    have HWq := Asd.mk hwq
    clear hP5 hwq hkb
    go_upto_region 19 with fail
    refine wp_opaque2 (fun V hV => ?_)
    have HCV := Asd.mk (show Chg [] w V by rw [hV]; exact HC5.out.alloc _)
    have HBV := Asd.mk (show V.heap[B]? = some (.cells #[(.pointer (some ⟨A pd, 0, none⟩)), .string (nb pn), (.pointer (some ⟨A p, 0, none⟩))] 127 (0, 0)) by rw [hV]; exact hp_alloc HB5.out _)
    have HDV := Asd.mk (show V.heap[w5.heap.size]? = some (.cells #[(.pointer (some ⟨A qd, 0, none⟩)), .string (nb qn), .pointer kb] 127 (0, 0)) by rw [hV]; exact hp_new _ _)
    have HTV := Asd.mk (HT.out.keep0 HCV.out)
    have HDw := Asd.mk (show w.heap.size ≤ w5.heap.size from HC5.out.size)
    obtain ⟨D, hD⟩ : ∃ D, w5.heap.size = D := ⟨_, rfl⟩
    rw [hD] at HDV HDw ⊢
    have b2 := cell_of_heap HBV.out 2
    have d2 := cell_of_heap HDV.out 2
    have HGv := Asd.mk (show Calls Tryz.prog 108 #[.pointer kb, (.pointer (some ⟨A p, 0, none⟩))] V fun e w' => e = .returned (errV (givesF fs q x)) ∧ w' = V by rw [← HKB.out]; exact gives_calls L t fs by' nd A M q p x V HTV.out HG.out HX.out.1)
    have HFt := Asd.mk (show Calls Tryz.prog 109 #[(.pointer (some ⟨A p, 0, none⟩)), .string b] V fun e w' => ∃ bo, e = .returned (.bool bo) ∧ (bo = true ↔ fitsP fs p b.data.toList) ∧ Chg [] V w' by
      have hbs : b.data.toList.length ≤ 10000 := by rw [ba_len]; have := parts_size HRR.out.2; omega
      have := fits_calls L t fs by' nd A M HG.out (65 - p.length) p x b.data.toList V (by have := HPL.out.1; omega) HX.out.1 hbs HTV.out (HM.out.chg HCV.out)
      rw [nb_list] at this
      exact this)
    clear hV HC5 HB5 hD
    obtain ⟨gn, hgn⟩ : ∃ n, givesF fs q x = n := ⟨_, rfl⟩
    by_cases hg0 : gn = 0
    · have HG0 := Asd.mk (show givesF fs q x = 0 by rw [hgn, hg0])
      have HGv2 := Asd.mk (show Calls Tryz.prog 108 #[.pointer kb, (.pointer (some ⟨A p, 0, none⟩))] V fun e w' => e = .returned .nilIface ∧ w' = V by
        have := HGv.out
        rw [hgn, hg0] at this
        exact this)
      clear hgn hg0 HGv
      go_wp2_with fail
      refine HGv2.out.mono ?_
      rintro e w7 ⟨rfl, hw7⟩
      have hw8 := hw7.symm
      subst hw8
      clear hw7 HGv2
      go_wp2_with fail
      refine HFt.out.mono ?_
      rintro e U ⟨bo, rfl, hbo, hC7⟩
      have HBU := Asd.mk (hC7.heap HBV.out (by simp))
      have HDU := Asd.mk (hC7.heap HDV.out (by simp))
      have HTU := Asd.mk (HTV.out.keep0 hC7)
      have HCU := Asd.mk (HCV.out.trans hC7)
      clear hC7 HFt HBV HDV HTV HCV b2 d2
      cases bo with
      | false =>
        have HA := Asd.mk (show renameF fs a b = (2, fs) by rw [HAE.out, HWq.out]; simp only; rw [if_neg HAB.out, HG0.out, if_neg (by decide : ¬ ((0 : Nat) ≠ 0)), if_pos (fun h => by have := hbo.2 h; cases this)])
        clear hbo
        go_wp2
        go_ret
        exact ⟨by rw [HA.out]; rfl, HCU.out.mono (by simp), L, A, M, by rw [HA.out]; exact HT.out.keep0 HCU.out, hid⟩
      | true =>
        have HF := Asd.mk (hbo.1 rfl)
        have HA := Asd.mk (show renameF fs a b = (0, mvF (delF fs q) p q) by rw [HAE.out, HWq.out]; simp only; rw [if_neg HAB.out, HG0.out, if_neg (by decide : ¬ ((0 : Nat) ≠ 0)), if_neg (fun h => h HF.out)])
        have HOk := Asd.mk (ren_ok HG.out HRR.out.1 HRR.out.2 HP0.out.1 HAB.out HX.out.1 HNB.out HQ0.out.2 HWq.out HG0.out HF.out)
        clear hbo
        obtain ⟨yq, HO⟩ := HOk.out
        have HOk2 := Asd.mk HO
        obtain ⟨hg2, hp2, hq2, hqd2, hpd0⟩ := ren_after HG.out HO
        obtain ⟨z, hz1, hz2⟩ := hpd0 pd pn HP0.out.2
        have HJ := Asd.mk (fun (U : World) (hTU : TabAt U L t (delF fs q) by' nd A M) => by
          have h1 := HP0.out.2
          have h2 := HQ0.out.2
          have h := ren_two (x := x) (pn := pn) (qn := qn) hTU hg2 (by rw [← h1]; exact hp2) hz1 hz2 (by rw [← h2]; exact hq2) hqd2 HOk2.out.dk (by rw [← h1]; exact HOk2.out.np)
          rw [← h1, ← h2] at h
          exact h)
        have HND := Asd.mk (show (A pd ∈ L ∧ A qd ∈ L) ∧ (M pd ∈ L ∧ M qd ∈ L) ∧ A pd ≠ M pd ∧ A qd ≠ M pd from by
          have hx1 := at_of_del hz1
          have hx2 := HOk2.out.dir
          exact ⟨⟨(HT.out.aL _ _ hx1).1, (HT.out.aL _ _ hx2).1⟩, ⟨(HT.out.aL _ _ hx1).2 hz2, (HT.out.aL _ _ hx2).2 HOk2.out.dk⟩, HT.out.ne_map hx1 hx1 hz2, HT.out.ne_map hx2 hx1 hz2⟩)
        have HBL := Asd.mk (show B ∉ L ∧ D ∉ L from ⟨fun h => by have := HT.out.bl _ h; have := HBw.out; omega, fun h => by have := HT.out.bl _ h; have := HDw.out; omega⟩)
        have HPD := Asd.mk (And.intro hz1 hz2)
        have HQD := Asd.mk (And.intro hqd2 HOk2.out.dk)
        clear HO hg2 hp2 hq2 hqd2 hpd0 hz1 hz2
        cases hyq : fs.at q with
        | none =>
          have hk5 : kb = none := by rw [← HKB.out]; unfold kidA; rw [hyq]; rfl
          subst hk5
          have d2 := cell_of_heap HDU.out 2
          have HTD := Asd.mk (show TabAt U L t (delF fs q) by' nd A M by
            rw [del_none (not_mem HG.out.nodup HQ0.out.1 hyq)]
            exact HTU.out)
          have HCL := Asd.mk (show Chg L w U from HCU.out.mono (by simp))
          clear HCU HTU hyq
          go_upto_region 28 with fail
          clear d2
          refine wp_opaque2 (fun X hX => ?_)
          subst hX
          obtain ⟨es1, k1, hdel, hJ2⟩ := HJ.out X HTD.out
          have HJ2 := Asd.mk hJ2
          have b0 := cell_of_heap HBU.out 0
          have b1 := cell_of_heap HBU.out 1
          have pq2 := cell_of_heap (HTD.out.node pd _ HPD.out.1) 2
          rw [if_pos HPD.out.2] at pq2
          clear HJ hJ2
          go_still_tail 7, (by kernel_rfl)
          go_upto_region 29 with fail
          refine wp_opaque2 (fun Y hY => ?_)
          obtain ⟨es2, k2, hup, hTF⟩ := HJ2.out Y hY
          have HCY := Asd.mk (show Chg L w Y by rw [hY]; exact HCL.out.drew.setBlock (fun _ => HND.out.2.1.1) _)
          have HBY := Asd.mk (show Y.heap[B]? = some (.cells #[(.pointer (some ⟨A pd, 0, none⟩)), .string (nb pn), (.pointer (some ⟨A p, 0, none⟩))] 127 (0, 0)) by rw [hY]; exact hp_setBlock_other (hp_drew HBU.out) (fun e => HBL.out.1 (e ▸ HND.out.2.1.1)))
          have HDY := Asd.mk (show Y.heap[D]? = some (.cells #[(.pointer (some ⟨A qd, 0, none⟩)), .string (nb qn), .pointer _] 127 (0, 0)) by rw [hY]; exact hp_setBlock_other (hp_drew HDU.out) (fun e => HBL.out.2 (e ▸ HND.out.2.1.1)))
          have HQY := Asd.mk (show Y.heap[A qd]? = some (.cells #[.int .i64 (yq.kind : Int), .string yq.text, if yq.kind = 2 then .map (some (M qd)) else .map none] 133 (0, 0)) by rw [hY]; exact hp_setBlock_other (hp_drew (HTD.out.node qd _ HQD.out.1)) HND.out.2.2.2)
          have y2 := cell_of_heap HBY.out 2
          have y0 := cell_of_heap HDY.out 0
          have y1 := cell_of_heap HDY.out 1
          have yq2 := cell_of_heap HQY.out 2
          rw [if_pos HQD.out.2] at yq2
          have HTF := Asd.mk hTF
          clear hY hTF HJ2 hdel b0 b1 pq2
          go_still_tail 9, (by kernel_rfl)
          go_wp2
          go_ret
          exact ⟨by rw [HA.out]; rfl, HCY.out.drew.setBlock (fun _ => HND.out.2.1.2) _, L, _, _, by rw [HA.out]; exact HTF.out, hid⟩
        | some u =>
          have hk5 : kb = some ⟨A q, 0, none⟩ := by rw [← HKB.out]; unfold kidA; rw [hyq]; rfl
          subst hk5
          have d2 := cell_of_heap HDU.out 2
          have HD := Asd.mk (show Calls Tryz.prog 110 #[(.pointer (some ⟨t, 0, none⟩)), .agg #[(.pointer (some ⟨A qd, 0, none⟩)), .string (nb qn), (.pointer (some ⟨A q, 0, none⟩))]] U fun e w' => e = .returned (.tuple #[]) ∧ Chg L U w' ∧ TabAt w' L t (delF fs q) by' nd A M by
            have h2 := HQ0.out.2
            have h := drop_calls L t fs by' nd A M qd qn u yq U HTU.out HG.out HRm.out HOk2.out.dir HOk2.out.dk (by rw [← h2]; exact hyq)
            rw [← h2] at h
            exact h)
          clear HTU hyq
          go_upto_region 28 with (first | (refine wpList_load_row (o := ⟨some 105, _, _, _, _, _⟩) rfl 127 (.tmp 11) rfl D rfl 127 _ (0, 0) _ HDU.out Tryz.underlying127 rfl (size_place _ _ _) ?_) | (go_at_call 110; refine HD.out.mono ?_; rintro e U2 ⟨rfl, hC8, hT8⟩; have HB8 := Asd.mk (hC8.heap HBU.out HBL.out.1); have HD8 := Asd.mk (hC8.heap HDU.out HBL.out.2); have HC8 := Asd.mk ((HCU.out.mono (by simp)).trans hC8); have HT8 := Asd.mk hT8; clear hC8 hT8 HBU HDU HCU HD d2))
          have HBU := HB8
          have HDU := HD8
          have HTD := HT8
          have HCL := HC8
          clear HB8 HD8 HT8 HC8
          refine wp_opaque2 (fun X hX => ?_)
          subst hX
          obtain ⟨es1, k1, hdel, hJ2⟩ := HJ.out X HTD.out
          have HJ2 := Asd.mk hJ2
          have b0 := cell_of_heap HBU.out 0
          have b1 := cell_of_heap HBU.out 1
          have pq2 := cell_of_heap (HTD.out.node pd _ HPD.out.1) 2
          rw [if_pos HPD.out.2] at pq2
          clear HJ hJ2
          go_still_tail 7, (by kernel_rfl)
          go_upto_region 29 with fail
          refine wp_opaque2 (fun Y hY => ?_)
          obtain ⟨es2, k2, hup, hTF⟩ := HJ2.out Y hY
          have HCY := Asd.mk (show Chg L w Y by rw [hY]; exact HCL.out.drew.setBlock (fun _ => HND.out.2.1.1) _)
          have HBY := Asd.mk (show Y.heap[B]? = some (.cells #[(.pointer (some ⟨A pd, 0, none⟩)), .string (nb pn), (.pointer (some ⟨A p, 0, none⟩))] 127 (0, 0)) by rw [hY]; exact hp_setBlock_other (hp_drew HBU.out) (fun e => HBL.out.1 (e ▸ HND.out.2.1.1)))
          have HDY := Asd.mk (show Y.heap[D]? = some (.cells #[(.pointer (some ⟨A qd, 0, none⟩)), .string (nb qn), .pointer _] 127 (0, 0)) by rw [hY]; exact hp_setBlock_other (hp_drew HDU.out) (fun e => HBL.out.2 (e ▸ HND.out.2.1.1)))
          have HQY := Asd.mk (show Y.heap[A qd]? = some (.cells #[.int .i64 (yq.kind : Int), .string yq.text, if yq.kind = 2 then .map (some (M qd)) else .map none] 133 (0, 0)) by rw [hY]; exact hp_setBlock_other (hp_drew (HTD.out.node qd _ HQD.out.1)) HND.out.2.2.2)
          have y2 := cell_of_heap HBY.out 2
          have y0 := cell_of_heap HDY.out 0
          have y1 := cell_of_heap HDY.out 1
          have yq2 := cell_of_heap HQY.out 2
          rw [if_pos HQD.out.2] at yq2
          have HTF := Asd.mk hTF
          clear hY hTF HJ2 hdel b0 b1 pq2
          go_still_tail 9, (by kernel_rfl)
          go_wp2
          go_ret
          exact ⟨by rw [HA.out]; rfl, HCY.out.drew.setBlock (fun _ => HND.out.2.1.2) _, L, _, _, by rw [HA.out]; exact HTF.out, hid⟩
    · have HN := Asd.mk hg0
      have HA := Asd.mk (show renameF fs a b = (gn, fs) by rw [HAE.out, HWq.out]; simp only; rw [if_neg HAB.out, hgn, if_pos hg0])
      have HGv2 := Asd.mk (show Calls Tryz.prog 108 #[.pointer kb, (.pointer (some ⟨A p, 0, none⟩))] V fun e w' => e = .returned (.iface 88 (.int .i64 (gn : Int))) ∧ w' = V by
        have := HGv.out
        rw [hgn] at this
        unfold errV at this
        rw [if_neg hg0] at this
        exact this)
      clear hgn hg0 HGv HFt
      go_wp2_with fail
      refine HGv2.out.mono ?_
      rintro e w7 ⟨rfl, hw7⟩
      have hw8 := hw7.symm
      subst hw8
      clear hw7 HGv2
      go_wp2
      go_ret
      exact ⟨by rw [HA.out]; simp only [errV]; rw [if_neg HN.out]; rfl, HCV.out.mono (by simp), L, A, M, by rw [HA.out]; exact HT.out.keep0 HCV.out, hid⟩
end Go.Proofs.YthojofeocjmglaaGreatDoor.I
