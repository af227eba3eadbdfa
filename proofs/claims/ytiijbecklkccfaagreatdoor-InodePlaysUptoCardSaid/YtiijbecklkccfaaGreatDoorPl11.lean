/- Merged out of these texts: Link, Remove, IList, Sys, Done. -/
import Derived.Test.YtiijbecklkccfaaGreatDoorPl7
import Derived.Test.YtiijbecklkccfaaGreatDoorPl6
import Derived.Test.YtiijbecklkccfaaGreatDoorPl5
import Derived.Test.YtiijbecklkccfaaGreatDoorPl10
/- The program's Link: the walk. -/
namespace Go.Proofs.YtiijbecklkccfaaGreatDoor.I
open Go.RowKit Go.Proofs.YtiijbecklkccfaaGreatDoor.B Go.Sort
set_option linter.unusedVariables false
set_option maxRecDepth 100000 in
set_option maxHeartbeats 16000000 in
theorem link_calls (L : List Nat) (t : Nat) (fs : FS) (by' nd : Nat) (A M : Pth → Nat) (g s : ByteArray) (w : World) (hT : TabAt w L t fs by' nd A M) (hg : FsOk fs) (hr : Room fs by' nd) (hm : MaxLenAt w) (hs : s.size ≤ 4294967280) :
    Calls Tryz.prog 38 #[(.pointer (some ⟨t, 0, none⟩)), .string g, .string s] w fun e w' => OpPost w L t by' nd (linkF fs by' nd g s) e w' := by
  have HP := Asd.mk (at_calls L t fs by' nd A M s w hT hg hm hs)
  have HT := Asd.mk hT
  have HW := Asd.mk (show Chg L w w from Chg.refl _ _)
  have hid : ∀ i ∈ L, i ∈ L ∨ w.heap.size ≤ i := fun i hi => .inl hi
  have hct := Tryz.strings_Contains_one g 0 w
  obtain ⟨nu, hnu⟩ : ∃ b, nulB g = b := ⟨_, rfl⟩
  have hnu' := hnu
  unfold nulB at hnu'
  rw [hnu'] at hct
  have HCt := Asd.mk hct
  clear hct hnu'
  cases te : g.toList.isEmpty with
  | true =>
    have HA := Asd.mk (show linkF fs by' nd g s = (30, fs) by unfold linkF; rw [if_pos (.inl te)])
    clear hT hg hr hm HCt HP hnu
    (go_enter Tryz.func38, Tryz.ntmps38)
    go_wp2
    go_ret
    exact ⟨by rw [HA.out]; rfl, HW.out, L, A, M, by rw [HA.out]; exact HT.out, hid⟩
  | false =>
    by_cases h1 : 4096 < g.size
    · have HA := Asd.mk (show linkF fs by' nd g s = (30, fs) by unfold linkF; rw [if_pos (.inr (.inl h1))])
      have k1 : (4096 : Int) < (g.size : Int) := by omega
      clear hT hg hr hm HCt HP hnu
      (go_enter Tryz.func38, Tryz.ntmps38)
      go_wp2
      go_ret
      exact ⟨by rw [HA.out]; rfl, HW.out, L, A, M, by rw [HA.out]; exact HT.out, hid⟩
    · have k1 : ¬ (4096 : Int) < (g.size : Int) := by omega
      cases nu with
      | true =>
        have HA := Asd.mk (show linkF fs by' nd g s = (30, fs) by unfold linkF; rw [if_pos (.inr (.inr hnu))])
        clear hT hg hr hm HP hnu
        (go_enter Tryz.func38, Tryz.ntmps38)
        go_wp2_with fail; refine HCt.out.mono ?_; rintro e w1 ⟨rfl, hw⟩; have hw' := hw.symm; subst hw'
        go_wp2
        go_ret
        exact ⟨by rw [HA.out]; rfl, HW.out, L, A, M, by rw [HA.out]; exact HT.out, hid⟩
      | false =>
        have hAE : linkF fs by' nd g s = match atE fs s with | .error n => (n, fs) | .ok p => if (fs.at p).isSome = true then (201, fs) else putF fs by' nd p ⟨3, g⟩ := by
          have hnb : ¬ badT g := by
            rintro (h | h | h)
            · rw [te] at h; cases h
            · exact h1 h
            · rw [hnu] at h; cases h
          unfold linkF
          rw [if_neg hnb]
          all_goals
            cases atE fs s with
            | error n => rfl
            | ok p => rfl
        clear hnu HW
        obtain ⟨R, hR⟩ : ∃ R, atE fs s = R := ⟨_, rfl⟩
        rw [hR] at HP hAE
        cases R with
        | error n =>
          have HA := Asd.mk hAE
          have HN := Asd.mk (atE_pos hR)
          clear hR hT hg hr hm hAE
          (go_enter Tryz.func38, Tryz.ntmps38)
          go_wp2_with fail; refine HCt.out.mono ?_; rintro e w1 ⟨rfl, hw⟩; have hw' := hw.symm; subst hw'
          go_wp2_with fail
          refine HP.out.mono ?_
          rintro e w1 ⟨rfl, hC1⟩
          have HC1 := Asd.mk hC1
          clear hC1
          go_wp2
          go_ret
          exact ⟨by rw [HA.out]; simp only [errV]; rw [if_neg HN.out]; rfl, (HC1.out.mono (by simp)).alloc _, L, A, M, by rw [HA.out]; exact HT.out.keep0 (HC1.out.alloc _), hid⟩
        | ok p =>
          cases hp : fs.at p with
          | none =>
            obtain ⟨q, n, y, rfl, hq, hy⟩ := at_parent hg hR hp
            have HA := Asd.mk (show linkF fs by' nd g s = putF fs by' nd (q ++ [n]) ⟨3, g⟩ by rw [hAE]; simp only; rw [hp]; rfl)
            have HK := Asd.mk (show dirA A (q ++ [n]) = some ⟨A q, 0, none⟩ ∧ lastS (q ++ [n]) = nb n ∧ kidA fs A (q ++ [n]) = none from ⟨by unfold dirA; rw [if_neg (by simp)]; simp, by unfold lastS; rw [if_neg (by simp)]; simp, by unfold kidA; rw [hp]; rfl⟩)
            have HPut := Asd.mk (fun (X : World) (hX : Chg [] w X) => put_leaf L t fs by' nd A M q n ⟨3, g⟩ y X (HT.out.keep0 hX) hg hr hq hy hp (by simp) (by show g.size ≤ 4194304; omega))
            clear hR hT hg hr hm hp hq hAE
            (go_enter Tryz.func38, Tryz.ntmps38)
            go_wp2_with fail; refine HCt.out.mono ?_; rintro e w1 ⟨rfl, hw⟩; have hw' := hw.symm; subst hw'
            go_wp2_with fail
            refine HP.out.mono ?_
            rintro e w1 ⟨hPo, hC1⟩
            have hPo2 : e = .returned (.tuple #[.agg #[.pointer (some ⟨A q, 0, none⟩), .string (nb n), .pointer none], .nilIface]) := by rw [← HK.out.1, ← HK.out.2.1, ← HK.out.2.2]; exact hPo
            subst hPo2
            have HC1 := Asd.mk hC1
            clear hC1 hPo
            go_upto_region 6 with fail
            refine wp_opaque2 (fun W hW => ?_)
            have HCW := Asd.mk (show Chg [] w W by rw [hW]; exact HC1.out.alloc _)
            have HB := Asd.mk (show W.heap[w1.heap.size]? = some (.cells #[.pointer (some ⟨A q, 0, none⟩), .string (nb n), .pointer none] 79 (0, 0)) by rw [hW]; exact hp_new _ _)
            obtain ⟨B, hB⟩ : ∃ B, w1.heap.size = B := ⟨_, rfl⟩
            rw [hB] at HB ⊢
            have b2 := cell_of_heap HB.out 2
            clear hW HC1 HP hB
            go_wp2_with (first | (refine wpList_load_row (o := ⟨some 35, _, _, _, _, _⟩) rfl 79 (.tmp 7) rfl B rfl 79 _ (0, 0) _ HB.out Tryz.underlying79 rfl (size_place _ _ _) ?_) | (go_at_call 63; refine (HPut.out W HCW.out).mono ?_; rintro e w3 ⟨rfl, hO1, hO2⟩))
            obtain ⟨L', A', M', hT', hL'⟩ := hO2
            go_ret
            exact ⟨by rw [HA.out]; rfl, (HCW.out.mono (by simp)).trans hO1, L', A', M', by rw [HA.out]; exact hT', fun i hi => (hL' i hi).imp id (fun h => Nat.le_trans HCW.out.size h)⟩
          | some x =>
            have HA := Asd.mk (show linkF fs by' nd g s = (201, fs) by rw [hAE]; simp only; rw [hp]; rfl)
            have HK := Asd.mk (show kidA fs A p = some ⟨A p, 0, none⟩ by unfold kidA; rw [hp]; rfl)
            clear hR hT hg hr hm hp hAE
            (go_enter Tryz.func38, Tryz.ntmps38)
            go_wp2_with fail; refine HCt.out.mono ?_; rintro e w1 ⟨rfl, hw⟩; have hw' := hw.symm; subst hw'
            go_wp2_with fail
            refine HP.out.mono ?_
            rintro e w1 ⟨hPo, hC1⟩
            have hPo2 : e = .returned (.tuple #[.agg #[.pointer (dirA A p), .string (lastS p), .pointer (some ⟨A p, 0, none⟩)], .nilIface]) := by rw [← HK.out]; exact hPo
            subst hPo2
            obtain ⟨dp, hdp⟩ : ∃ d, dirA A p = d := ⟨_, rfl⟩
            obtain ⟨ls, hls⟩ : ∃ d, lastS p = d := ⟨_, rfl⟩
            rw [hdp, hls]
            have HC1 := Asd.mk hC1
            clear hC1 hPo HP hdp hls
            go_upto_region 6 with fail
            refine wp_opaque2 (fun W hW => ?_)
            have HCW := Asd.mk (show Chg [] w W by rw [hW]; exact HC1.out.alloc _)
            have HB := Asd.mk (show W.heap[w1.heap.size]? = some (.cells #[.pointer dp, .string ls, .pointer (some ⟨A p, 0, none⟩)] 79 (0, 0)) by rw [hW]; exact hp_new _ _)
            obtain ⟨B, hB⟩ : ∃ B, w1.heap.size = B := ⟨_, rfl⟩
            rw [hB] at HB ⊢
            have b2 := cell_of_heap HB.out 2
            clear hW HC1 hB
            go_wp2
            go_ret
            exact ⟨by rw [HA.out]; rfl, HCW.out.mono (by simp), L, A, M, by rw [HA.out]; exact HT.out.keep0 HCW.out, hid⟩
end Go.Proofs.YtiijbecklkccfaaGreatDoor.I
/- The program's Remove: the walk. -/
namespace Go.Proofs.YtiijbecklkccfaaGreatDoor.I
open Go.RowKit Go.Proofs.YtiijbecklkccfaaGreatDoor.B Go.Sort
set_option linter.unusedVariables false
open Classical in
set_option maxRecDepth 100000 in
set_option maxHeartbeats 16000000 in
theorem remove_calls (L : List Nat) (t : Nat) (fs : FS) (by' nd : Nat) (A M : Pth → Nat) (s : ByteArray) (w : World) (hT : TabAt w L t fs by' nd A M) (hg : FsOk fs) (hr : Room fs by' nd) (hm : MaxLenAt w) (hs : s.size ≤ 4294967280) :
    Calls Tryz.prog 29 #[(.pointer (some ⟨t, 0, none⟩)), .string s] w fun e w' => OpPost w L t by' nd (removeF fs s) e w' := by
  have HP := Asd.mk (at_calls L t fs by' nd A M s w hT hg hm hs)
  have HT := Asd.mk hT
  have hid : ∀ i ∈ L, i ∈ L ∨ w.heap.size ≤ i := fun i hi => .inl hi
  obtain ⟨R, hR⟩ : ∃ R, atE fs s = R := ⟨_, rfl⟩
  rw [hR] at HP
  cases R with
  | error n =>
    have HA := Asd.mk (show removeF fs s = (n, fs) by unfold removeF; rw [hR])
    have HN := Asd.mk (atE_pos hR)
    clear hR hT hg hr hm
    (go_enter Tryz.func29, Tryz.ntmps29)
    go_wp2_with fail
    refine HP.out.mono ?_
    rintro e w1 ⟨rfl, hC1⟩
    have HC1 := Asd.mk hC1
    clear hC1
    go_wp2
    go_ret
    exact ⟨by rw [HA.out]; simp only [errV]; rw [if_neg HN.out]; rfl, (HC1.out.mono (by simp)).alloc _, L, A, M, by rw [HA.out]; exact HT.out.keep0 (HC1.out.alloc _), hid⟩
  | ok p =>
    obtain ⟨ka, hka⟩ : ∃ a, kidA fs A p = a := ⟨_, rfl⟩
    obtain ⟨dp, hdp⟩ : ∃ d, dirA A p = d := ⟨_, rfl⟩
    obtain ⟨ls, hls⟩ : ∃ d, lastS p = d := ⟨_, rfl⟩
    have HPo := Asd.mk (show ∀ e, AtPost fs A (.ok p) e → e = .returned (.tuple #[.agg #[.pointer dp, .string ls, .pointer ka], .nilIface]) from fun e h => by rw [← hka, ← hdp, ← hls]; exact h)
    (go_enter Tryz.func29, Tryz.ntmps29)
    go_wp2_with fail
    refine HP.out.mono ?_
    rintro e w1 ⟨hPo, hC1⟩
    have hPo2 := HPo.out e hPo
    subst hPo2
    have HC1 := Asd.mk hC1
    clear hC1 hPo HP HPo
    go_upto_region 4 with fail
    refine wp_opaque2 (fun W hW => ?_)
    have HCW := Asd.mk (show Chg [] w W by rw [hW]; exact HC1.out.alloc _)
    have HB := Asd.mk (show W.heap[w1.heap.size]? = some (.cells #[.pointer dp, .string ls, .pointer ka] 79 (0, 0)) by rw [hW]; exact hp_new _ _)
    have HTW := Asd.mk (hT.keep0 HCW.out)
    obtain ⟨B, hB⟩ : ∃ B, w1.heap.size = B := ⟨_, rfl⟩
    rw [hB] at HB ⊢
    have b2 := cell_of_heap HB.out 2
    have q0 := cell_of_heap HTW.out.tab 0
    clear hW HC1 hB hT hm
    by_cases hp : p = []
    · have HA := Asd.mk (show removeF fs s = (1, fs) by unfold removeF; rw [hR]; simp only; rw [if_pos hp])
      have hk : ka = some ⟨A [], 0, none⟩ := by rw [← hka, hp]; rfl
      subst hk
      have he := fun n => eql_same ⟨A [], 0, none⟩ (W.drewN n)
      clear hka hdp hls hR hg hr hp
      go_quiet (fail)
      go_wp2
      go_ret
      exact ⟨by rw [HA.out]; rfl, (HCW.out.drewN nq).mono (by simp), L, A, M, by rw [HA.out]; exact HTW.out.keep0 ((Chg.refl _ _).drewN nq), hid⟩
    · cases hx : fs.at p with
      | none =>
        have HA := Asd.mk (show removeF fs s = (200, fs) by unfold removeF; rw [hR]; simp only; rw [if_neg hp, hx])
        have hk : ka = none := by rw [← hka]; unfold kidA; rw [hx]; rfl
        subst hk
        have he := fun n => eql_none ⟨A [], 0, none⟩ (W.drewN n)
        clear hka hdp hls hR hg hr hp hx
        go_quiet (fail)
        go_wp2
        go_ret
        exact ⟨by rw [HA.out]; rfl, (HCW.out.drewN nq).mono (by simp), L, A, M, by rw [HA.out]; exact HTW.out.keep0 ((Chg.refl _ _).drewN nq), hid⟩
      | some x =>
        have hk : ka = some ⟨A p, 0, none⟩ := by rw [← hka]; unfold kidA; rw [hx]; rfl
        subst hk
        have hne : A p ≠ A [] := fun e => hp (HTW.out.injA p [] x rootN hx rfl e)
        have he := fun n => eql_other (W.drewN n) hne (hp_drewN (HTW.out.node p x hx) n) (hp_drewN (HTW.out.node [] rootN rfl) n)
        have HAE := Asd.mk (show removeF fs s = if hasKids fs p then (205, fs) else (0, delF fs p) by unfold removeF; rw [hR]; simp only; rw [if_neg hp, hx])
        obtain ⟨q, n, rfl⟩ : ∃ q n, p = q ++ [n] := ⟨p.dropLast, p.getLast hp, (List.dropLast_concat_getLast hp).symm⟩
        obtain ⟨y, hq, hy⟩ := hg.up q n (by rw [hx]; simp)
        have hdp' : dp = some ⟨A q, 0, none⟩ := by rw [← hdp]; unfold dirA; rw [if_neg (by simp)]; simp
        have hls' : ls = nb n := by rw [← hls]; unfold lastS; rw [if_neg (by simp)]; simp
        subst hdp' hls'
        have HD := Asd.mk (fun k => drop_calls L t fs by' nd A M q n x y (W.drewN k) (HTW.out.keep0 ((Chg.refl _ _).drewN k)) hg hr hq hy hx)
        have c2 := cell_of_heap (HTW.out.node _ x hx) 2
        have HX := Asd.mk hx
        by_cases hk2 : x.kind = 2
        · obtain ⟨es, clock, hM, hhk⟩ := kids_len HTW.out hx hk2
          rw [if_pos hk2] at c2
          have HM := Asd.mk hM
          by_cases hh : hasKids fs (q ++ [n])
          · have HA := Asd.mk (show removeF fs s = (205, fs) by rw [HAE.out, if_pos hh])
            have hpos : (0 : Int) < (es.size : Int) := by have := hhk.1 hh; omega
            clear hka hdp hls hR hg hr hp hx hq hy hM hhk hh hk2 hne
            go_quiet (fail)
            have hlen := len_kids (hp_drewN HM.out nq)
            go_wp2
            go_ret
            exact ⟨by rw [HA.out]; rfl, (HCW.out.drewN nq).mono (by simp), L, A, M, by rw [HA.out]; exact HTW.out.keep0 ((Chg.refl _ _).drewN nq), hid⟩
          · have HA := Asd.mk (show removeF fs s = (0, delF fs (q ++ [n])) by rw [HAE.out, if_neg hh])
            have hz : es = #[] := by
              apply Array.eq_empty_of_size_eq_zero
              have : ¬ 0 < es.size := fun e => hh (hhk.2 e)
              omega
            subst hz
            clear hka hdp hls hR hg hr hp hx hq hy hM hhk hh hk2 hne
            go_quiet (fail)
            have hlen := len_kids (hp_drewN HM.out nq)
            go_wp2_with (first | (refine wpList_load_row (o := ⟨some 41, _, _, _, _, _⟩) rfl 79 (.tmp 5) rfl B rfl 79 _ (0, 0) _ (hp_drewN HB.out nq) Tryz.underlying79 rfl (size_place _ _ _) ?_) | (go_at_call 61; refine (HD.out nq).mono ?_; rintro e w3 ⟨rfl, hC3, hT3⟩; have HC3 := Asd.mk hC3; have HT3 := Asd.mk hT3; clear hC3 hT3)); go_ret; exact ⟨by rw [HA.out]; rfl, ((HCW.out.drewN nq).mono (by simp)).trans HC3.out, L, A, M, by rw [HA.out]; exact HT3.out, hid⟩
        · rw [if_neg hk2] at c2
          have hh : ¬ hasKids fs (q ++ [n]) := by
            rintro ⟨k, hk⟩
            obtain ⟨z, hz1, hz2⟩ := hg.up _ k hk
            rw [hx] at hz1
            cases hz1
            exact hk2 hz2
          have HA := Asd.mk (show removeF fs s = (0, delF fs (q ++ [n])) by rw [HAE.out, if_neg hh])
          clear hka hdp hls hR hg hr hp hx hq hy hh hk2 hne
          go_quiet (fail)
          go_wp2_with (first | (refine wpList_load_row (o := ⟨some 41, _, _, _, _, _⟩) rfl 79 (.tmp 5) rfl B rfl 79 _ (0, 0) _ (hp_drewN HB.out nq) Tryz.underlying79 rfl (size_place _ _ _) ?_) | (go_at_call 61; refine (HD.out nq).mono ?_; rintro e w3 ⟨rfl, hC3, hT3⟩; have HC3 := Asd.mk hC3; have HT3 := Asd.mk hT3; clear hC3 hT3)); go_ret; exact ⟨by rw [HA.out]; rfl, ((HCW.out.drewN nq).mono (by simp)).trans HC3.out, L, A, M, by rw [HA.out]; exact HT3.out, hid⟩
end Go.Proofs.YtiijbecklkccfaaGreatDoor.I
/- The program's List: the walk. -/
namespace Go.Proofs.YtiijbecklkccfaaGreatDoor.I
open Go.RowKit Go.Proofs.YtiijbecklkccfaaGreatDoor.B Go.Sort
set_option linter.unusedVariables false
/-- List: the error's number, or the directory's path. -/
def listE (fs : FS) (s : ByteArray) : Except Nat Pth := match thereE fs s with
  | .error n => .error n
  | .ok p => match fs.at p with
    | none => .ok p
    | some x => if x.kind = 1 then .error 203 else if x.kind = 3 then .error 204 else .ok p
def ListPost (fs : FS) (b : Nat) (R : Except Nat Pth) (e : Ending) (w' : World) : Prop := match R with
  | .error n => e = .returned (.tuple #[.slice none 0 0, errV n])
  | .ok p => ∃ v, e = .returned (.tuple #[v, .nilIface]) ∧ RowN fs p b w' v
set_option maxRecDepth 100000 in
set_option maxHeartbeats 16000000 in
theorem list_calls (L : List Nat) (t : Nat) (fs : FS) (by' nd : Nat) (A M : Pth → Nat) (s : ByteArray) (w : World) (hT : TabAt w L t fs by' nd A M) (hg : FsOk fs) (hrm : Room fs by' nd) (hm : MaxLenAt w) (hs : s.size ≤ 4294967280) :
    Calls Tryz.prog 19 #[(.pointer (some ⟨t, 0, none⟩)), .string s] w fun e w' => ListPost fs w.heap.size (listE fs s) e w' ∧ Chg [] w w' := by
  have HP := Asd.mk (there_calls L t fs by' nd A M s w hT hg hm hs)
  obtain ⟨R, hR⟩ : ∃ R, thereE fs s = R := ⟨_, rfl⟩
  rw [hR] at HP
  cases R with
  | error n =>
    have HA := Asd.mk (show listE fs s = .error n by unfold listE; rw [hR])
    have HN := Asd.mk (thereE_pos hR)
    clear hR hT hg hm hrm
    go_enter Tryz.func19, Tryz.ntmps19
    go_wp2_with fail
    refine HP.out.mono ?_
    rintro e w1 ⟨⟨d, l, k, rfl⟩, hC1⟩
    have HC1 := Asd.mk hC1
    clear hC1
    go_wp2
    go_ret2
    exact ⟨by rw [HA.out]; show _ = Ending.returned (.tuple #[.slice none 0 0, errV n]); simp only [errV]; rw [if_neg HN.out]; rfl, HC1.out.alloc _⟩
  | ok p =>
    obtain ⟨x, hx⟩ := thereE_ok hR
    have hAE : listE fs s = if x.kind = 1 then .error 203 else if x.kind = 3 then .error 204 else .ok p := by unfold listE; rw [hR]; simp only; rw [hx]
    have hkk := hg.kind p x hx
    have HNm := Asd.mk (fun W hW => names_calls L t fs by' nd A M hg hrm p x W hx hW)
    clear hR hm hg hrm
    go_enter Tryz.func19, Tryz.ntmps19
    go_wp2_with fail
    refine HP.out.mono ?_
    rintro e w1 ⟨hPo, hC1⟩
    have hPo2 : e = .returned (.tuple #[.agg #[.pointer (dirA A p), .string (lastS p), .pointer (some ⟨A p, 0, none⟩)], .nilIface]) := hPo
    subst hPo2
    obtain ⟨dp, hdp⟩ : ∃ d, dirA A p = d := ⟨_, rfl⟩
    obtain ⟨ls, hls⟩ : ∃ d, lastS p = d := ⟨_, rfl⟩
    rw [hdp, hls]
    have HC1 := Asd.mk hC1
    clear hC1 hPo HP hdp hls
    go_upto_region 4 with fail
    refine wp_opaque2 (fun W hW => ?_)
    have HCW := Asd.mk (show Chg [] w W by rw [hW]; exact HC1.out.alloc _)
    have HB := Asd.mk (show W.heap[w1.heap.size]? = some (.cells #[.pointer dp, .string ls, .pointer (some ⟨A p, 0, none⟩)] 79 (0, 0)) by rw [hW]; exact hp_new _ _)
    have hTW := hT.keep0 HCW.out
    obtain ⟨B, hB⟩ : ∃ B, w1.heap.size = B := ⟨_, rfl⟩
    rw [hB] at HB ⊢
    have b2 := cell_of_heap HB.out 2
    clear hW HC1 hB
    have hno := hTW.node p x hx
    have c0 := cell_of_heap hno 0
    have HNN := Asd.mk (HNm.out W hTW)
    clear hno hTW hT HNm hx
    rcases hkk with hk | hk | hk
    · rw [hk] at c0
      have HA := Asd.mk (show listE fs s = .error 203 by rw [hAE, if_pos hk])
      clear hAE hk
      go_wp2
      go_ret2
      exact ⟨by rw [HA.out]; rfl, HCW.out⟩
    · rw [hk] at c0
      have HA := Asd.mk (show listE fs s = .ok p by rw [hAE, if_neg (by omega), if_neg (by omega)])
      clear hAE hk
      go_wp2_with fail
      refine HNN.out.mono ?_
      rintro e w2 ⟨hN, hC2⟩
      obtain ⟨v, rfl, l, hN1, hN2, hN3⟩ := hN
      have hN := show RowN fs p w.heap.size w2 v from ⟨l, hN1, hN2, own_mono hN3 HCW.out.size⟩
      have HN := Asd.mk hN
      have HC2 := Asd.mk (HCW.out.trans hC2)
      clear hN hN1 hN2 hN3 hC2
      go_wp2
      go_ret2
      exact ⟨by rw [HA.out]; exact ⟨v, rfl, HN.out⟩, HC2.out⟩
    · rw [hk] at c0
      have HA := Asd.mk (show listE fs s = .error 204 by rw [hAE, if_neg (by omega), if_pos hk])
      clear hAE hk
      go_wp2
      go_ret2
      exact ⟨by rw [HA.out]; rfl, HCW.out⟩
end Go.Proofs.YtiijbecklkccfaaGreatDoor.I
/- A file system whose blocks are all new since some world: each call's contract over it. -/
namespace Go.Proofs.YtiijbecklkccfaaGreatDoor.I
open Go.RowKit Go.Proofs.YtiijbecklkccfaaGreatDoor.B Go.Sort
set_option linter.unusedVariables false
/-- What has turned in new blocks alone. -/
theorem Chg.fresh {L : List Nat} {a c : World} (h : Chg L a c) (hL : ∀ i ∈ L, a.heap.size ≤ i) : Chg [] a c :=
  ⟨h.os, h.tape, h.output, h.size, fun i hi _ => h.block i hi fun hm => by have := hL i hm; omega⟩
/-- A file system that has been made since w. -/
def Sys (w W : World) (t : Nat) (fs : FS) (by' nd : Nat) : Prop := Chg [] w W ∧ FsOk fs ∧ Room fs by' nd ∧ ∃ L A M, TabAt W L t fs by' nd A M ∧ ∀ i ∈ L, w.heap.size ≤ i
theorem Sys.chg {w W W' : World} {t : Nat} {fs : FS} {by' nd : Nat} (h : Sys w W t fs by' nd) (hC : Chg [] W W') : Sys w W' t fs by' nd := by
  obtain ⟨h1, h2, h3, L, A, M, h4, h5⟩ := h
  exact ⟨h1.trans hC, h2, h3, L, A, M, h4.keep0 hC, h5⟩
theorem Sys.op {w W W' : World} {t : Nat} {by' nd : Nat} {L : List Nat} {R : Nat × FS} {e : Ending} (hC : Chg [] w W) (h5 : ∀ i ∈ L, w.heap.size ≤ i) (h : OpPost W L t by' nd R e W') (hk : FsOk R.2 ∧ Room R.2 by' nd) : e = .returned (errV R.1) ∧ Sys w W' t R.2 by' nd := by
  obtain ⟨h1, h2, L', A', M', h3, h4⟩ := h
  exact ⟨h1, Chg.fresh ((hC.mono (by simp)).trans h2) h5, hk.1, hk.2, L', A', M', h3, fun i hi => by
    rcases h4 i hi with h6 | h6
    · exact h5 i h6
    · exact Nat.le_trans hC.size h6⟩
theorem sys_new (b n : Nat) (w W : World) (hC : Chg [] w W) (hb : b ≤ 2147483647) (hn : n ≤ 65536) :
    Calls Tryz.prog 9 #[.int .i64 (b : Int), .int .i64 (n : Int)] W fun e w' => ∃ t, e = .returned (.tuple #[(.pointer (some ⟨t, 0, none⟩)), .nilIface]) ∧ Sys w w' t [] b n := by
  refine (new_ok b n W hb hn).mono ?_
  rintro e w' ⟨t, L, A, M, rfl, h1, h2, h3⟩
  exact ⟨t, rfl, hC.trans h1, fsOk_nil, ⟨hb, hn, by unfold usedF; simp, by simp⟩, L, A, M, h2, fun i hi => Nat.le_trans hC.size (h3 i hi)⟩
variable {w W : World} {t : Nat} {fs : FS} {by' nd : Nat}
theorem sys_make (s : ByteArray) (h : Sys w W t fs by' nd) (hm : MaxLenAt w) (hs : s.size ≤ 4294967280) :
    Calls Tryz.prog 33 #[(.pointer (some ⟨t, 0, none⟩)), .string s] W fun e w' => e = .returned (errV (makeF fs by' nd s).1) ∧ Sys w w' t (makeF fs by' nd s).2 by' nd := by
  obtain ⟨h1, h2, h3, L, A, M, h4, h5⟩ := h
  exact (make_calls L t fs by' nd A M s W h4 h2 h3 (hm.chg h1) hs).mono fun e w' hp => Sys.op h1 h5 hp (makeF_keep h2 h3 s)
theorem sys_create (s : ByteArray) (h : Sys w W t fs by' nd) (hm : MaxLenAt w) (hs : s.size ≤ 4294967280) :
    Calls Tryz.prog 30 #[(.pointer (some ⟨t, 0, none⟩)), .string s] W fun e w' => e = .returned (errV (createF fs by' nd s).1) ∧ Sys w w' t (createF fs by' nd s).2 by' nd := by
  obtain ⟨h1, h2, h3, L, A, M, h4, h5⟩ := h
  exact (create_calls L t fs by' nd A M s W h4 h2 h3 (hm.chg h1) hs).mono fun e w' hp => Sys.op h1 h5 hp (createF_keep h2 h3 s)
theorem sys_append (s z : ByteArray) (h : Sys w W t fs by' nd) (hm : MaxLenAt w) (hs : s.size ≤ 4294967280) (hz : z.size ≤ 4294967280) :
    Calls Tryz.prog 31 #[(.pointer (some ⟨t, 0, none⟩)), .string s, .string z] W fun e w' => e = .returned (errV (appendF fs by' s z).1) ∧ Sys w w' t (appendF fs by' s z).2 by' nd := by
  obtain ⟨h1, h2, h3, L, A, M, h4, h5⟩ := h
  exact (append_calls L t fs by' nd A M s z W h4 h2 h3 (hm.chg h1) hs hz).mono fun e w' hp => Sys.op h1 h5 hp (appendF_keep h2 h3 s z)
theorem renameF_keep {fs : FS} (hg : FsOk fs) {by' nd : Nat} (hr : Room fs by' nd) (a b : ByteArray) : FsOk (renameF fs a b).2 ∧ Room (renameF fs a b).2 by' nd := by
  by_cases hne : (renameF fs a b).2 = fs
  · rw [hne]; exact ⟨hg, hr⟩
  · unfold renameF at hne ⊢
    cases hR : partsF a with
    | error n => rw [hR] at hne; exact absurd rfl hne
    | ok p =>
      rw [hR] at hne
      simp only at hne ⊢
      cases hR2 : partsF b with
      | error n => rw [hR2] at hne; exact absurd rfl hne
      | ok q =>
        rw [hR2] at hne
        simp only at hne ⊢
        by_cases hp0 : p = []
        · rw [if_pos hp0] at hne; exact absurd rfl hne
        · rw [if_neg hp0] at hne ⊢
          by_cases hq0 : q = []
          · rw [if_pos hq0] at hne; exact absurd rfl hne
          · rw [if_neg hq0] at hne ⊢
            cases hw : wayE fs p with
            | some n => rw [hw] at hne; exact absurd rfl hne
            | none =>
              rw [hw] at hne
              simp only at hne ⊢
              cases hx : fs.at p with
              | none => rw [hx] at hne; exact absurd rfl hne
              | some x =>
                rw [hx] at hne
                simp only at hne ⊢
                by_cases hnb : x.kind = 2 ∧ a ≠ b ∧ belowB a b = true
                · rw [if_pos hnb] at hne; exact absurd rfl hne
                · rw [if_neg hnb] at hne ⊢
                  cases hwq : wayE fs q with
                  | some n => rw [hwq] at hne; exact absurd rfl hne
                  | none =>
                    rw [hwq] at hne
                    simp only at hne ⊢
                    by_cases hab : a = b
                    · rw [if_pos hab] at hne; exact absurd rfl hne
                    · rw [if_neg hab] at hne ⊢
                      by_cases hg0 : givesF fs q x ≠ 0
                      · rw [if_pos hg0] at hne; exact absurd rfl hne
                      · rw [if_neg hg0] at hne ⊢
                        by_cases hf : ¬ fitsP fs p b.data.toList
                        · rw [if_pos hf] at hne; exact absurd rfl hne
                        · rw [if_neg hf] at hne ⊢
                          obtain ⟨y, hO⟩ := ren_ok hg hR hR2 hp0 hab hx hnb (List.dropLast_concat_getLast hq0).symm hwq (Classical.not_not.1 hg0) (Classical.not_not.1 hf)
                          exact hO.sound hg hr
theorem sys_rename (a b : ByteArray) (h : Sys w W t fs by' nd) (hm : MaxLenAt w) (ha : a.size ≤ 4294967280) (hb : b.size ≤ 4294967280) :
    Calls Tryz.prog 28 #[(.pointer (some ⟨t, 0, none⟩)), .string a, .string b] W fun e w' => e = .returned (errV (renameF fs a b).1) ∧ Sys w w' t (renameF fs a b).2 by' nd := by
  obtain ⟨h1, h2, h3, L, A, M, h4, h5⟩ := h
  exact (rename_calls L t fs by' nd A M a b W h4 h2 h3 (hm.chg h1) ha hb).mono fun e w' hp => Sys.op h1 h5 hp (renameF_keep h2 h3 a b)
theorem sys_look (s : ByteArray) (h : Sys w W t fs by' nd) (hm : MaxLenAt w) (hs : s.size ≤ 4294967280) :
    Calls Tryz.prog 27 #[(.pointer (some ⟨t, 0, none⟩)), .string s] W fun e w' => e = .returned (.tuple #[entV (lookF fs s).2, errV (lookF fs s).1]) ∧ Chg [] W w' := by
  obtain ⟨h1, h2, h3, L, A, M, h4, h5⟩ := h
  exact look_calls L t fs by' nd A M s W h4 h2 (hm.chg h1) hs
theorem sys_read (s : ByteArray) (h : Sys w W t fs by' nd) (hm : MaxLenAt w) (hs : s.size ≤ 4294967280) :
    Calls Tryz.prog 34 #[(.pointer (some ⟨t, 0, none⟩)), .string s] W fun e w' => e = .returned (.tuple #[.string (readF fs s).2, errV (readF fs s).1]) ∧ Chg [] W w' := by
  obtain ⟨h1, h2, h3, L, A, M, h4, h5⟩ := h
  exact read_calls L t fs by' nd A M s W h4 h2 (hm.chg h1) hs
theorem sys_list (s : ByteArray) (h : Sys w W t fs by' nd) (hm : MaxLenAt w) (hs : s.size ≤ 4294967280) :
    Calls Tryz.prog 19 #[(.pointer (some ⟨t, 0, none⟩)), .string s] W fun e w' => ListPost fs W.heap.size (listE fs s) e w' ∧ Chg [] W w' := by
  obtain ⟨h1, h2, h3, L, A, M, h4, h5⟩ := h
  exact list_calls L t fs by' nd A M s W h4 h2 h3 (hm.chg h1) hs
theorem sys_used (h : Sys w W t fs by' nd) :
    Calls Tryz.prog 13 #[(.pointer (some ⟨t, 0, none⟩))] W fun e w' => e = .returned (.tuple #[.int .i64 (usedF fs : Int), .int .i64 (fs.length : Int)]) ∧ Chg [] W w' := by
  obtain ⟨h1, h2, h3, L, A, M, h4, h5⟩ := h
  exact used_calls L t fs by' nd A M W h4
end Go.Proofs.YtiijbecklkccfaaGreatDoor.I
/- The law's done: a call on the program's file system, by its kind. The walk. -/
namespace Go.Proofs.YtiijbecklkccfaaGreatDoor.I
open Go.RowKit Go.Proofs.YtiijbecklkccfaaGreatDoor.B Go.Sort
set_option linter.unusedVariables false
structure OpV where
  kind : Int
  a : ByteArray
  b : ByteArray
open Classical in
noncomputable def opF (fs : FS) (by' nd : Nat) (o : OpV) : Nat × FS :=
  if o.kind = 1 then makeF fs by' nd o.a else if o.kind = 2 then createF fs by' nd o.a else if o.kind = 3 then appendF fs by' o.a o.b else if o.kind = 4 then linkF fs by' nd o.a o.b else if o.kind = 5 then renameF fs o.a o.b else removeF fs o.a
theorem opF_keep {fs : FS} (hg : FsOk fs) {by' nd : Nat} (hr : Room fs by' nd) (o : OpV) : FsOk (opF fs by' nd o).2 ∧ Room (opF fs by' nd o).2 by' nd := by
  unfold opF
  split
  · exact makeF_keep hg hr _
  · split
    · exact createF_keep hg hr _
    · split
      · exact appendF_keep hg hr _ _
      · split
        · exact linkF_keep hg hr _ _
        · split
          · exact renameF_keep hg hr _ _
          · exact removeF_keep hg hr _
theorem OpPost.pre {w w1 : World} {L : List Nat} {t by' nd : Nat} {R : Nat × FS} {e : Ending} {w' : World} (hC : Chg [] w w1) (h : OpPost w1 L t by' nd R e w') : OpPost w L t by' nd R e w' := by
  obtain ⟨h1, h2, L', A', M', h3, h4⟩ := h
  exact ⟨h1, (hC.mono (by simp)).trans h2, L', A', M', h3, fun i hi => by
    rcases h4 i hi with h | h
    · exact .inl h
    · exact .inr (Nat.le_trans hC.size h)⟩
set_option maxRecDepth 100000 in
set_option maxHeartbeats 16000000 in
theorem done_calls (L : List Nat) (t : Nat) (fs : FS) (by' nd : Nat) (A M : Pth → Nat) (k : Int) (a b : ByteArray) (w : World) (hT : TabAt w L t fs by' nd A M) (hg : FsOk fs) (hr : Room fs by' nd) (hm : MaxLenAt w) (ha : a.size ≤ 4294967280) (hb : b.size ≤ 4294967280) :
    Calls Tryz.prog 12 #[(.pointer (some ⟨t, 0, none⟩)), .agg #[.int .i64 k, .string a, .string b]] w fun e w' => OpPost w L t by' nd (opF fs by' nd ⟨k, a, b⟩) e w' := by
  have HC := Asd.mk (show Chg [] w (w.alloc (.cells #[.int .i64 k, .string a, .string b] 36)) from (Chg.refl _ _).alloc _)
  have hB := hp_new w (.cells #[.int .i64 k, .string a, .string b] 36)
  have b0 := cell_of_heap hB 0
  have b1 := cell_of_heap hB 1
  have b2 := cell_of_heap hB 2
  have hT1 := hT.keep0 HC.out
  have hm1 := hm.chg HC.out
  have H1 := Asd.mk (make_calls L t fs by' nd A M a (w.alloc (.cells #[.int .i64 k, .string a, .string b] 36)) hT1 hg hr hm1 ha)
  have H2 := Asd.mk (create_calls L t fs by' nd A M a (w.alloc (.cells #[.int .i64 k, .string a, .string b] 36)) hT1 hg hr hm1 ha)
  have H3 := Asd.mk (append_calls L t fs by' nd A M a b (w.alloc (.cells #[.int .i64 k, .string a, .string b] 36)) hT1 hg hr hm1 ha hb)
  have H4 := Asd.mk (link_calls L t fs by' nd A M a b (w.alloc (.cells #[.int .i64 k, .string a, .string b] 36)) hT1 hg hr hm1 hb)
  have H5 := Asd.mk (rename_calls L t fs by' nd A M a b (w.alloc (.cells #[.int .i64 k, .string a, .string b] 36)) hT1 hg hr hm1 ha hb)
  have H6 := Asd.mk (remove_calls L t fs by' nd A M a (w.alloc (.cells #[.int .i64 k, .string a, .string b] 36)) hT1 hg hr hm1 ha)
  clear hB hT1 hm1 hT hg hr hm
  by_cases k1 : k = 1
  · have HA := Asd.mk (show opF fs by' nd ⟨k, a, b⟩ = makeF fs by' nd a by unfold opF; rw [if_pos k1])
    subst k1
    clear H2 H3 H4 H5 H6
    (go_enter Tryz.func12, Tryz.ntmps12)
    go_wp2_with fail
    refine H1.out.mono ?_
    rintro e w1 hP
    have he : e = .returned (errV (makeF fs by' nd a).1) := hP.1
    subst he
    have HP := Asd.mk hP
    clear hP H1
    go_wp2
    go_ret
    exact by rw [HA.out]; exact HP.out.pre HC.out
  · have n1 : ¬ k = 1 := k1
    by_cases k2 : k = 2
    · have HA := Asd.mk (show opF fs by' nd ⟨k, a, b⟩ = createF fs by' nd a by unfold opF; rw [if_neg k1, if_pos k2])
      subst k2
      clear H1 H3 H4 H5 H6
      (go_enter Tryz.func12, Tryz.ntmps12)
      go_wp2_with fail
      refine H2.out.mono ?_
      rintro e w1 hP
      have he : e = .returned (errV (createF fs by' nd a).1) := hP.1
      subst he
      have HP := Asd.mk hP
      clear hP H2
      go_wp2
      go_ret
      exact by rw [HA.out]; exact HP.out.pre HC.out
    · by_cases k3 : k = 3
      · have HA := Asd.mk (show opF fs by' nd ⟨k, a, b⟩ = appendF fs by' a b by unfold opF; rw [if_neg k1, if_neg k2, if_pos k3])
        subst k3
        clear H1 H2 H4 H5 H6
        (go_enter Tryz.func12, Tryz.ntmps12)
        go_wp2_with fail
        refine H3.out.mono ?_
        rintro e w1 hP
        have he : e = .returned (errV (appendF fs by' a b).1) := hP.1
        subst he
        have HP := Asd.mk hP
        clear hP H3
        go_wp2
        go_ret
        exact by rw [HA.out]; exact HP.out.pre HC.out
      · by_cases k4 : k = 4
        · have HA := Asd.mk (show opF fs by' nd ⟨k, a, b⟩ = linkF fs by' nd a b by unfold opF; rw [if_neg k1, if_neg k2, if_neg k3, if_pos k4])
          subst k4
          clear H1 H2 H3 H5 H6
          (go_enter Tryz.func12, Tryz.ntmps12)
          go_wp2_with fail
          refine H4.out.mono ?_
          rintro e w1 hP
          have he : e = .returned (errV (linkF fs by' nd a b).1) := hP.1
          subst he
          have HP := Asd.mk hP
          clear hP H4
          go_wp2
          go_ret
          exact by rw [HA.out]; exact HP.out.pre HC.out
        · by_cases k5 : k = 5
          · have HA := Asd.mk (show opF fs by' nd ⟨k, a, b⟩ = renameF fs a b by unfold opF; rw [if_neg k1, if_neg k2, if_neg k3, if_neg k4, if_pos k5])
            subst k5
            clear H1 H2 H3 H4 H6
            (go_enter Tryz.func12, Tryz.ntmps12)
            go_wp2_with fail
            refine H5.out.mono ?_
            rintro e w1 hP
            have he : e = .returned (errV (renameF fs a b).1) := hP.1
            subst he
            have HP := Asd.mk hP
            clear hP H5
            go_wp2
            go_ret
            exact by rw [HA.out]; exact HP.out.pre HC.out
          · have HA := Asd.mk (show opF fs by' nd ⟨k, a, b⟩ = removeF fs a by unfold opF; rw [if_neg k1, if_neg k2, if_neg k3, if_neg k4, if_neg k5])
            clear H1 H2 H3 H4 H5
            (go_enter Tryz.func12, Tryz.ntmps12)
            go_wp2_with fail
            refine H6.out.mono ?_
            rintro e w1 hP
            have he : e = .returned (errV (removeF fs a).1) := hP.1
            subst he
            have HP := Asd.mk hP
            clear hP H6
            go_wp2
            go_ret
            exact by rw [HA.out]; exact HP.out.pre HC.out
end Go.Proofs.YtiijbecklkccfaaGreatDoor.I
