/- Merged out of these texts: TabSet, Append, Create, Small, TabDel. -/
import Derived.Test.YtiijbecklkccfaaGreatDoorPl4
import Derived.Laws.Rows
/- A node's bytes turned: what the file system is then, in memory. -/
namespace Go.Proofs.YtiijbecklkccfaaGreatDoor.I
open Go.RowKit Go.Proofs.YtiijbecklkccfaaGreatDoor.B Go.Sort
set_option linter.unusedVariables false
def setF (fs : FS) (p : Pth) (x : Nd) : FS := fs.map fun y => if y.1 = p then (p, x) else y
theorem lookup_set {p : Pth} {x : Nd} : ∀ {fs : FS} (r : Pth), (setF fs p x).lookup r = if r = p then (fs.lookup p).map (fun _ => x) else fs.lookup r
  | [], r => by simp [setF]
  | (q, y) :: fs, r => by
    have ih := lookup_set (p := p) (x := x) (fs := fs) r
    unfold setF at ih ⊢
    rw [List.map_cons]
    by_cases hq : q = p
    · subst hq
      rw [if_pos rfl, List.lookup_cons]
      by_cases hr : r = q
      · subst hr
        simp
      · have : (r == q) = false := by simp [hr]
        rw [this, if_neg hr]
        simp only
        rw [ih, if_neg hr, List.lookup_cons, this]
    · rw [if_neg hq, List.lookup_cons]
      by_cases hr : r = q
      · subst hr
        rw [if_neg hq]
        simp
      · have : (r == q) = false := by simp [hr]
        rw [this]
        simp only
        rw [ih]
        by_cases hrp : r = p
        · subst hrp
          rw [if_pos rfl, if_pos rfl, List.lookup_cons, this]
        · rw [if_neg hrp, if_neg hrp, List.lookup_cons, this]
theorem at_set {fs : FS} {p : Pth} {y : Nd} (x : Nd) (hp : p ≠ []) (hy : fs.at p = some y) (r : Pth) : (setF fs p x).at r = if r = p then some x else fs.at r := by
  unfold FS.at
  rw [at_ne fs hp] at hy
  by_cases hr : r = []
  · rw [if_pos hr, if_pos hr, if_neg (by rw [hr]; exact Ne.symm hp)]
  · rw [if_neg hr, if_neg hr, lookup_set, hy]
    rfl
theorem len_set (fs : FS) (p : Pth) (x : Nd) : (setF fs p x).length = fs.length := by unfold setF; simp
theorem keys_set (fs : FS) (p : Pth) (x : Nd) : (setF fs p x).map (·.1) = fs.map (·.1) := by
  unfold setF
  rw [List.map_map]
  apply List.map_congr_left
  intro y _
  simp only [Function.comp]
  split
  · rename_i h; exact h.symm
  · rfl
theorem set_none {p : Pth} {x : Nd} : ∀ {fs : FS}, p ∉ fs.map (·.1) → setF fs p x = fs
  | [], _ => rfl
  | (q, y) :: fs, h => by
    simp only [List.map_cons, List.mem_cons, not_or] at h
    unfold setF
    rw [List.map_cons, if_neg (fun e => h.1 e.symm)]
    have := set_none (x := x) h.2
    unfold setF at this
    rw [this]
theorem used_set {p : Pth} {x y : Nd} : ∀ {fs : FS}, (fs.map (·.1)).Nodup → fs.lookup p = some y → usedF (setF fs p x) + y.text.size = usedF fs + x.text.size
  | [], _, h => by simp at h
  | (q, z) :: fs, hd, h => by
    simp only [List.map_cons, List.nodup_cons] at hd
    have e : ∀ (a : Pth × Nd) (l : FS), usedF (a :: l) = a.2.text.size + usedF l := fun a l => by unfold usedF; simp
    rw [List.lookup_cons] at h
    by_cases hq : p = q
    · subst hq
      simp only [beq_self_eq_true, Option.some.injEq] at h
      subst h
      have hs : setF ((p, z) :: fs) p x = (p, x) :: fs := by
        have := set_none (x := x) hd.1
        unfold setF at this ⊢
        rw [List.map_cons, if_pos rfl, this]
      rw [hs, e, e]
      simp only
      omega
    · have hb : (p == q) = false := by simp [hq]
      rw [hb] at h
      have ih := used_set (x := x) hd.2 h
      have hs : setF ((q, z) :: fs) p x = (q, z) :: setF fs p x := by
        unfold setF
        rw [List.map_cons, if_neg (fun e => hq e.symm)]
      rw [hs, e, e]
      omega
theorem TabAt.set {w w' : World} {L : List Nat} {t by' nd : Nat} {fs : FS} {A M : Pth → Nat} (h : TabAt w L t fs by' nd A M) {p : Pth} {x y : Nd} (hp : p ≠ []) (hy : fs.at p = some y) (hyk : y.kind ≠ 2) (hxk : x.kind ≠ 2)
    (ht : w'.heap[t]? = some (.cells #[(.pointer (some ⟨A [], 0, none⟩)), .int .i64 (by' : Int), .int .i64 (nd : Int), .int .i64 (usedF (setF fs p x) : Int), .int .i64 (fs.length : Int)] 75 (0, 0)))
    (hc : w'.heap[A p]? = some (.cells #[.int .i64 (x.kind : Int), .string x.text, .map none] 85 (0, 0)))
    (hoth : ∀ i ∈ L, i ≠ t → i ≠ A p → w'.heap[i]? = w.heap[i]?) (hsz : w.heap.size ≤ w'.heap.size) : TabAt w' L t (setF fs p x) by' nd A M := by
  have hat := at_set x hp hy
  have hold : ∀ r z, r ≠ p → (setF fs p x).at r = some z → fs.at r = some z := fun r z hr hz => by
    rw [hat r, if_neg hr] at hz
    exact hz
  have hsome : ∀ r z, (setF fs p x).at r = some z → ∃ z', fs.at r = some z' := fun r z hz => by
    by_cases hr : r = p
    · subst hr; exact ⟨y, hy⟩
    · exact ⟨z, hold r z hr hz⟩
  have hk2 : ∀ r z, (setF fs p x).at r = some z → z.kind = 2 → r ≠ p ∧ fs.at r = some z := fun r z hz hk => by
    by_cases hr : r = p
    · subst hr
      rw [hat, if_pos rfl] at hz
      cases hz
      exact absurd hk hxk
    · exact ⟨hr, hold r z hr hz⟩
  refine ⟨by rw [len_set]; exact ht, ?_, ?_, h.tL, fun i hi => Nat.lt_of_lt_of_le (h.bl i hi) hsz, ?_, ?_, ?_⟩
  · intro r z hz
    by_cases hr : r = p
    · subst hr
      rw [hat, if_pos rfl] at hz
      cases hz
      rw [if_neg hxk]
      exact hc
    · have hz2 := hold r z hr hz
      rw [hoth _ (h.aL r z hz2).1 (h.ne_tab hz2) (fun e => hr (h.injA r p z y hz2 hy e))]
      exact h.node r z hz2
  · intro r z hz hk
    obtain ⟨hr, hz2⟩ := hk2 r z hz hk
    obtain ⟨es, clock, K, h1, h2, h3⟩ := h.kids r z hz2 hk
    refine ⟨es, clock, K, ?_, h2, fun k => ?_⟩
    · rw [hoth _ ((h.aL r z hz2).2 hk) (h.tab_ne_map hz2 hk) (Ne.symm (h.ne_map hy hz2 hk))]
      exact h1
    · rw [h3 k, hat]
      by_cases e : r ++ [k] = p
      · rw [if_pos e, e, hy]
        rfl
      · rw [if_neg e]
  · intro r z hz
    by_cases hr : r = p
    · subst hr
      rw [hat, if_pos rfl] at hz
      cases hz
      exact ⟨(h.aL r y hy).1, fun hk => absurd hk hxk⟩
    · exact h.aL r z (hold r z hr hz)
  · intro r1 r2 z1 z2 h1 h2 he
    obtain ⟨a, ha⟩ := hsome r1 z1 h1
    obtain ⟨b, hb⟩ := hsome r2 z2 h2
    exact h.injA r1 r2 a b ha hb he
  · intro r1 r2 z1 z2 h1 h2 k1 k2 he
    exact h.injM r1 r2 z1 z2 (hk2 r1 z1 h1 k1).2 (hk2 r2 z2 h2 k2).2 k1 k2 he
end Go.Proofs.YtiijbecklkccfaaGreatDoor.I
/- The program's Append: the walk. -/
namespace Go.Proofs.YtiijbecklkccfaaGreatDoor.I
open Go.RowKit Go.Proofs.YtiijbecklkccfaaGreatDoor.B Go.Sort
set_option linter.unusedVariables false
/-- Append. -/
def appendF (fs : FS) (by' : Nat) (s text : ByteArray) : Nat × FS := match thereE fs s with
  | .error n => (n, fs)
  | .ok p => match fs.at p with
    | none => (0, fs)
    | some x => if x.kind = 2 then (202, fs) else if x.kind = 3 then (204, fs) else if 4194304 < x.text.size + text.size then (2, fs) else if by' < usedF fs + text.size then (206, fs) else (0, setF fs p ⟨1, x.text ++ text⟩)
theorem thereE_pos {fs : FS} {s : ByteArray} {n : Nat} (h : thereE fs s = .error n) : n ≠ 0 := by
  unfold thereE at h
  split at h
  · rename_i m hm
    cases h
    exact atE_pos hm
  · split at h
    · cases h
    · cases h; decide
theorem thereE_ok {fs : FS} {s : ByteArray} {p : Pth} (h : thereE fs s = .ok p) : ∃ x, fs.at p = some x := by
  unfold thereE at h
  split at h
  · cases h
  · split at h
    · rename_i hs
      cases h
      exact Option.isSome_iff_exists.1 hs
    · cases h
set_option maxRecDepth 100000 in
set_option maxHeartbeats 16000000 in
theorem append_calls (L : List Nat) (t : Nat) (fs : FS) (by' nd : Nat) (A M : Pth → Nat) (s text : ByteArray) (w : World) (hT : TabAt w L t fs by' nd A M) (hg : FsOk fs) (hr : Room fs by' nd) (hm : MaxLenAt w) (hs : s.size ≤ 4294967280) (hz : text.size ≤ 4294967280) :
    Calls Tryz.prog 31 #[(.pointer (some ⟨t, 0, none⟩)), .string s, .string text] w fun e w' => OpPost w L t by' nd (appendF fs by' s text) e w' := by
  have HP := Asd.mk (there_calls L t fs by' nd A M s w hT hg hm hs)
  have HT := Asd.mk hT
  have hid : ∀ i ∈ L, i ∈ L ∨ w.heap.size ≤ i := fun i hi => .inl hi
  obtain ⟨R, hR⟩ : ∃ R, thereE fs s = R := ⟨_, rfl⟩
  rw [hR] at HP
  cases R with
  | error n =>
    have HA := Asd.mk (show appendF fs by' s text = (n, fs) by unfold appendF; rw [hR])
    have HN := Asd.mk (thereE_pos hR)
    clear hR hT hg hr hm
    (go_enter Tryz.func31, Tryz.ntmps31)
    go_wp2_with fail
    refine HP.out.mono ?_
    rintro e w1 ⟨⟨d, l, k, rfl⟩, hC1⟩
    have HC1 := Asd.mk hC1
    clear hC1
    go_wp2
    go_ret
    exact ⟨by rw [HA.out]; simp only [errV]; rw [if_neg HN.out]; rfl, (HC1.out.mono (by simp)).alloc _, L, A, M, by rw [HA.out]; exact HT.out.keep0 (HC1.out.alloc _), hid⟩
  | ok p =>
    obtain ⟨x, hx⟩ := thereE_ok hR
    have hAE : appendF fs by' s text = if x.kind = 2 then (202, fs) else if x.kind = 3 then (204, fs) else if 4194304 < x.text.size + text.size then (2, fs) else if by' < usedF fs + text.size then (206, fs) else (0, setF fs p ⟨1, x.text ++ text⟩) := by unfold appendF; rw [hR]; simp only; rw [hx]
    have hkk := hg.kind p x hx
    have hsm := hg.small p x hx
    have hnd := hg.nodup
    have hfile := noFile_calls (A p) x
    clear hR hm hg
    (go_enter Tryz.func31, Tryz.ntmps31)
    go_wp2_with fail
    refine HP.out.mono ?_
    rintro e w1 ⟨hPo, hC1⟩
    have hPo2 : e = .returned (.tuple #[.agg #[.pointer (dirA A p), .string (lastS p), .pointer (some ⟨A p, 0, none⟩)], .nilIface]) := hPo
    subst hPo2
    obtain ⟨dp, hdp⟩ : ∃ d, dirA A p = d := ⟨_, rfl⟩
    obtain ⟨ls, hls⟩ : ∃ d, lastS p = d := ⟨_, rfl⟩
    rw [hdp, hls]
    have HC1 := Asd.mk hC1
    clear hC1 hPo HP hdp hls
    go_upto_region 4 with fail
    refine wp_opaque2 (fun W hW => ?_)
    have HCW := Asd.mk (show Chg [] w W by rw [hW]; exact HC1.out.alloc _)
    have HB := Asd.mk (show W.heap[w1.heap.size]? = some (.cells #[.pointer dp, .string ls, .pointer (some ⟨A p, 0, none⟩)] 79 (0, 0)) by rw [hW]; exact hp_new _ _)
    have hTW := hT.keep0 HCW.out
    obtain ⟨B, hB⟩ : ∃ B, w1.heap.size = B := ⟨_, rfl⟩
    rw [hB] at HB ⊢
    have b2 := cell_of_heap HB.out 2
    clear hW HC1 hB
    have hno := hTW.node p x hx
    have hcl := hfile _ W hno hkk
    have c1 := cell_of_heap hno 1
    have q1 := cell_of_heap hTW.tab 1
    have q3 := cell_of_heap hTW.tab 3
    obtain ⟨r1, r2, r3, r4⟩ := hr
    have HTW := Asd.mk hTW
    have HNo := Asd.mk hno
    clear hfile hno hTW hT
    rcases hkk with hk | hk | hk
    · rw [hk] at hcl
      have HCl := Asd.mk hcl
      rw [if_neg (by omega), if_neg (by omega)] at hAE
      clear hcl
      by_cases hlg : 4194304 < x.text.size + text.size
      · rw [if_pos hlg] at hAE
        have HA := Asd.mk hAE
        have k1 : (4194304 : Int) - (x.text.size : Int) < (text.size : Int) := by omega
        clear hAE hk hlg
        go_wp2_with fail
        refine HCl.out.mono ?_
        rintro e w2 ⟨rfl, rfl⟩
        rw [show noFileV 1 = Value.nilIface from rfl]
        go_wp2
        go_ret
        exact ⟨by rw [HA.out]; rfl, HCW.out.mono (by simp), L, A, M, by rw [HA.out]; exact HTW.out, hid⟩
      · rw [if_neg hlg] at hAE
        have k1 : ¬ (4194304 : Int) - (x.text.size : Int) < (text.size : Int) := by omega
        obtain ⟨us, hus⟩ : ∃ k, usedF fs = k := ⟨_, rfl⟩
        rw [hus] at r3 hAE q3
        have k3 : (us : Int) ≤ (by' : Int) := by omega
        by_cases hqt : by' < us + text.size
        · rw [if_pos hqt] at hAE
          have HA := Asd.mk hAE
          have k2 : (by' : Int) - (us : Int) < (text.size : Int) := by omega
          clear hAE hk hlg hqt
          go_wp2_with fail
          refine HCl.out.mono ?_
          rintro e w2 ⟨rfl, rfl⟩
          rw [show noFileV 1 = Value.nilIface from rfl]
          go_upto_region 9 with fail
          go_quiet (fail)
          go_wp2
          go_ret
          exact ⟨by rw [HA.out]; rfl, (HCW.out.drewN nq).mono (by simp), L, A, M, by rw [HA.out]; exact HTW.out.keep0 ((Chg.refl _ _).drewN nq), hid⟩
        · rw [if_neg hqt] at hAE
          have HA := Asd.mk hAE
          have k2 : ¬ (by' : Int) - (us : Int) < (text.size : Int) := by omega
          have hpne : p ≠ [] := fun e => by rw [e, at_root] at hx; cases hx; cases hk
          have hus2 : usedF (setF fs p ⟨1, x.text ++ text⟩) = us + text.size := by
            have := used_set (x := ⟨1, x.text ++ text⟩) hnd (by rw [← at_ne fs hpne]; exact hx)
            simp only [ByteArray.size_append] at this
            omega
          have HUS := Asd.mk hus2
          have hno := HNo.out
          rw [if_neg (by omega), hk] at hno
          have HNo2 := Asd.mk hno
          have hAt := HTW.out.ne_tab hx
          have htL := HTW.out.tL
          have haL := (HTW.out.aL p x hx).1
          have HXK := Asd.mk (show x.kind ≠ 2 by omega)
          have HX := Asd.mk hx
          have HUs := Asd.mk hus
          clear hAE hk hlg hqt hus2 hno hx hus hnd HNo
          go_wp2_with fail
          refine HCl.out.mono ?_
          rintro e w2 ⟨rfl, hw2⟩
          subst hw2
          rw [show noFileV 1 = Value.nilIface from rfl]
          go_upto_region 9 with fail
          go_quiet (fail)
          go_upto_region 11 with fail
          refine wp_opaque2 (fun W1 hW1 => ?_)
          have HC1 := Asd.mk (show Chg [] w W1 by rw [hW1]; exact HCW.out.drewN _)
          have HT1 := Asd.mk (show TabAt W1 L t fs by' nd A M by rw [hW1]; exact HTW.out.keep0 ((Chg.refl _ _).drewN _))
          have HB1 := Asd.mk (show W1.heap[B]? = some (.cells #[.pointer dp, .string ls, .pointer (some ⟨A p, 0, none⟩)] 79 (0, 0)) by rw [hW1]; exact hp_drewN HB.out _)
          have HN1 := Asd.mk (show W1.heap[A p]? = some (.cells #[.int .i64 ((1 : Nat) : Int), .string x.text, .map none] 85 (0, 0)) by rw [hW1]; exact hp_drewN HNo2.out _)
          have hTt := HT1.out.tab
          rw [HUs.out] at hTt
          have HTt := Asd.mk hTt
          have q3 := cell_of_heap hTt 3
          have f3 := frozen_of_heap hTt 3
          have hBt : B ≠ t := fun e => by
            have h1 := HB1.out
            rw [e, hTt] at h1
            simp only [Option.some.injEq, Obj.cells.injEq] at h1
            exact absurd h1.2.1 (by decide)
          clear hW1 HCW HTW HNo2 HB b2 c1 q1 hTt
          go_upto_region 12 with fail
          refine wp_opaque2 (fun W2 hW2 => ?_)
          have HC2 := Asd.mk (show Chg L w W2 by rw [hW2]; exact (HC1.out.mono (by simp)).setCell (fun _ => htL) _)
          have HT2 := Asd.mk (show W2.heap[t]? = some (.cells #[(.pointer (some ⟨A [], 0, none⟩)), .int .i64 (by' : Int), .int .i64 (nd : Int), .int .i64 ((us : Int) + (text.size : Int)), .int .i64 (fs.length : Int)] 75 (0, 0)) by rw [hW2]; exact hp_set HTt.out 3 _)
          have HN2 := Asd.mk (show W2.heap[A p]? = some (.cells #[.int .i64 ((1 : Nat) : Int), .string x.text, .map none] 85 (0, 0)) by rw [hW2]; exact hp_set_other HN1.out hAt _ _)
          have HB2 := Asd.mk (show W2.heap[B]? = some (.cells #[.pointer dp, .string ls, .pointer (some ⟨A p, 0, none⟩)] 79 (0, 0)) by rw [hW2]; exact hp_set_other HB1.out hBt _ _)
          have HO2 := Asd.mk (show ∀ i, i ≠ t → W2.heap[i]? = W1.heap[i]? from fun i ht => by rw [hW2]; exact Below.heap_setCell W1 ⟨t, 3, none⟩ _ i ht)
          have HZ2 := Asd.mk (show W2.heap.size = W1.heap.size by rw [hW2]; simp [World.setCell])
          have b2 := cell_of_heap HB2.out 2
          have c1 := cell_of_heap HN2.out 1
          have f1 := frozen_of_heap HN2.out 1
          clear hW2 HC1 HTt q3 f3 HB1
          go_wp2
          go_ret
          have hsz : (W2.setCell ⟨A p, 1, none⟩ (.string (x.text ++ text))).heap.size = W2.heap.size := by simp [World.setCell]
          refine ⟨by rw [HA.out]; rfl, HC2.out.setCell (fun _ => haL) _, L, A, M, ?_, hid⟩
          rw [HA.out]
          refine HT1.out.set hpne HX.out HXK.out (by simp) ?_ (hp_set HN2.out 1 _) (fun i hi h1 h2 => ?_) (by rw [hsz, HZ2.out]; exact Nat.le_refl _)
          · rw [HUS.out]
            have := hp_set_other HT2.out (Ne.symm hAt) 1 (.string (x.text ++ text))
            rw [this]
            simp
          · exact (Below.heap_setCell W2 ⟨A p, 1, none⟩ _ i h2).trans (HO2.out i h1)
    · rw [hk] at hcl
      have HCl := Asd.mk hcl
      have HA := Asd.mk (show appendF fs by' s text = (202, fs) by rw [hAE, if_pos hk])
      clear hcl hAE hk
      go_wp2_with fail
      refine HCl.out.mono ?_
      rintro e w2 ⟨rfl, rfl⟩
      rw [show noFileV 2 = Value.iface 71 (.int .i64 202) from rfl]
      go_wp2
      go_ret
      exact ⟨by rw [HA.out]; rfl, HCW.out.mono (by simp), L, A, M, by rw [HA.out]; exact HTW.out, hid⟩
    · rw [hk] at hcl
      have HCl := Asd.mk hcl
      have HA := Asd.mk (show appendF fs by' s text = (204, fs) by rw [hAE, if_neg (by omega), if_pos hk])
      clear hcl hAE hk
      go_wp2_with fail
      refine HCl.out.mono ?_
      rintro e w2 ⟨rfl, rfl⟩
      rw [show noFileV 3 = Value.iface 71 (.int .i64 204) from rfl]
      go_wp2
      go_ret
      exact ⟨by rw [HA.out]; rfl, HCW.out.mono (by simp), L, A, M, by rw [HA.out]; exact HTW.out, hid⟩
end Go.Proofs.YtiijbecklkccfaaGreatDoor.I
/- The program's Create, Link: the walks. -/
namespace Go.Proofs.YtiijbecklkccfaaGreatDoor.I
open Go.RowKit Go.Proofs.YtiijbecklkccfaaGreatDoor.B Go.Sort
set_option linter.unusedVariables false
theorem put_leaf (L : List Nat) (t : Nat) (fs : FS) (by' nd : Nat) (A M : Pth → Nat) (q : Pth) (n : Nm) (x y : Nd) (X : World) (hT : TabAt X L t fs by' nd A M) (hg : FsOk fs) (hr : Room fs by' nd) (hq : fs.at q = some y) (hy : y.kind = 2) (hn : fs.at (q ++ [n]) = none) (hx : x.kind ≠ 2) (hz : x.text.size ≤ 4194304) :
    Calls Tryz.prog 63 #[(.pointer (some ⟨t, 0, none⟩)), .agg #[.pointer (some ⟨A q, 0, none⟩), .string (nb n), .pointer none], (.pointer (some ⟨X.heap.size, 0, none⟩))] (X.alloc (.cells #[.int .i64 (x.kind : Int), .string x.text, .map none] 85)) fun e w' => OpPost X L t by' nd (putF fs by' nd (q ++ [n]) x) e w' := by
  have hC : Chg [] X (X.alloc (.cells #[.int .i64 (x.kind : Int), .string x.text, .map none] 85)) := (Chg.refl _ _).alloc _
  have hnew := hp_new X (.cells #[.int .i64 (x.kind : Int), .string x.text, .map none] 85)
  have hbl := hT.bl
  by_cases hf : fullF fs by' nd x.text.size
  · refine (put_full L t fs by' nd A M q n x X.heap.size _ _ (hT.keep0 hC) hr hnew hz hf).mono ?_
    rintro e w' ⟨rfl, hC2⟩
    have hR : putF fs by' nd (q ++ [n]) x = (206, fs) := by unfold putF; rw [if_pos hf]
    rw [hR]
    exact ⟨rfl, (hC.trans hC2).mono (by simp), L, A, M, hT.keep0 (hC.trans hC2), fun i hi => .inl hi⟩
  · refine (put_ok L t fs by' nd A M q n x y X.heap.size X.heap.size _ (hT.keep0 hC) hg hr hq hy hn (by rw [if_neg hx]; exact hnew) (fun h => absurd h hx) (fun h => by have := hbl _ h; omega) (fun h => absurd h hx) (by simp) hz hf).mono ?_
    rintro e w' ⟨rfl, hC2, hT2⟩
    have hR : putF fs by' nd (q ++ [n]) x = (0, fs ++ [(q ++ [n], x)]) := by unfold putF; rw [if_neg hf]
    rw [hR]
    exact ⟨rfl, (hC.mono (by simp)).trans hC2, _, _, _, hT2, fun i hi => by
      simp only [List.mem_cons] at hi
      rcases hi with rfl | rfl | hi
      · exact .inr (Nat.le_refl _)
      · exact .inr (Nat.le_refl _)
      · exact .inl hi⟩
/-- Create. -/
noncomputable def createF (fs : FS) (by' nd : Nat) (s : ByteArray) : Nat × FS := match atE fs s with
  | .error n => (n, fs)
  | .ok p => match fs.at p with
    | none => putF fs by' nd p ⟨1, ⟨#[]⟩⟩
    | some x => if x.kind = 2 then (202, fs) else if x.kind = 3 then (204, fs) else (0, setF fs p ⟨1, ⟨#[]⟩⟩)
set_option maxRecDepth 100000 in
set_option maxHeartbeats 16000000 in
theorem create_calls (L : List Nat) (t : Nat) (fs : FS) (by' nd : Nat) (A M : Pth → Nat) (s : ByteArray) (w : World) (hT : TabAt w L t fs by' nd A M) (hg : FsOk fs) (hr : Room fs by' nd) (hm : MaxLenAt w) (hs : s.size ≤ 4294967280) :
    Calls Tryz.prog 30 #[(.pointer (some ⟨t, 0, none⟩)), .string s] w fun e w' => OpPost w L t by' nd (createF fs by' nd s) e w' := by
  have HP := Asd.mk (at_calls L t fs by' nd A M s w hT hg hm hs)
  have HT := Asd.mk hT
  have hid : ∀ i ∈ L, i ∈ L ∨ w.heap.size ≤ i := fun i hi => .inl hi
  obtain ⟨R, hR⟩ : ∃ R, atE fs s = R := ⟨_, rfl⟩
  rw [hR] at HP
  cases R with
  | error n =>
    have HA := Asd.mk (show createF fs by' nd s = (n, fs) by unfold createF; rw [hR])
    have HN := Asd.mk (atE_pos hR)
    clear hR hT hg hr hm
    (go_enter Tryz.func30, Tryz.ntmps30)
    go_wp2_with fail
    refine HP.out.mono ?_
    rintro e w1 ⟨rfl, hC1⟩
    have HC1 := Asd.mk hC1
    clear hC1
    go_wp2
    go_ret
    exact ⟨by rw [HA.out]; simp only [errV]; rw [if_neg HN.out]; rfl, (HC1.out.mono (by simp)).alloc _, L, A, M, by rw [HA.out]; exact HT.out.keep0 (HC1.out.alloc _), hid⟩
  | ok p =>
    cases hp : fs.at p with
    | none =>
      obtain ⟨q, n, y, rfl, hq, hy⟩ := at_parent hg hR hp
      have HA := Asd.mk (show createF fs by' nd s = putF fs by' nd (q ++ [n]) ⟨1, ⟨#[]⟩⟩ by unfold createF; rw [hR]; simp only; rw [hp])
      have HK := Asd.mk (show dirA A (q ++ [n]) = some ⟨A q, 0, none⟩ ∧ lastS (q ++ [n]) = nb n ∧ kidA fs A (q ++ [n]) = none from ⟨by unfold dirA; rw [if_neg (by simp)]; simp, by unfold lastS; rw [if_neg (by simp)]; simp, by unfold kidA; rw [hp]; rfl⟩)
      have HPut := Asd.mk (fun (X : World) (hX : Chg [] w X) => put_leaf L t fs by' nd A M q n ⟨1, ⟨#[]⟩⟩ y X (HT.out.keep0 hX) hg hr hq hy hp (by simp) (by show 0 ≤ 4194304; omega))
      clear hR hT hg hr hm hp hq
      (go_enter Tryz.func30, Tryz.ntmps30)
      go_wp2_with fail
      refine HP.out.mono ?_
      rintro e w1 ⟨hPo, hC1⟩
      have hPo2 : e = .returned (.tuple #[.agg #[.pointer (some ⟨A q, 0, none⟩), .string (nb n), .pointer none], .nilIface]) := by rw [← HK.out.1, ← HK.out.2.1, ← HK.out.2.2]; exact hPo
      subst hPo2
      have HC1 := Asd.mk hC1
      clear hC1 hPo
      go_upto_region 5 with fail
      refine wp_opaque2 (fun W hW => ?_)
      have HCW := Asd.mk (show Chg [] w W by rw [hW]; exact HC1.out.alloc _)
      have HB := Asd.mk (show W.heap[w1.heap.size]? = some (.cells #[.pointer (some ⟨A q, 0, none⟩), .string (nb n), .pointer none] 79 (0, 0)) by rw [hW]; exact hp_new _ _)
      obtain ⟨B, hB⟩ : ∃ B, w1.heap.size = B := ⟨_, rfl⟩
      rw [hB] at HB ⊢
      clear hW HC1 HP hB
      go_wp2_with (first | (refine wpList_load_row (o := ⟨some 21, _, _, _, _, _⟩) rfl 79 (.tmp 5) rfl B rfl 79 _ (0, 0) _ HB.out Tryz.underlying79 rfl (size_place _ _ _) ?_) | (go_at_call 63; refine (HPut.out W HCW.out).mono ?_; rintro e w3 ⟨rfl, hO1, hO2⟩))
      obtain ⟨L', A', M', hT', hL'⟩ := hO2
      go_ret
      exact ⟨by rw [HA.out]; rfl, (HCW.out.mono (by simp)).trans hO1, L', A', M', by rw [HA.out]; exact hT', fun i hi => (hL' i hi).imp id (fun h => Nat.le_trans HCW.out.size h)⟩
    | some x =>
      have hAE : createF fs by' nd s = if x.kind = 2 then (202, fs) else if x.kind = 3 then (204, fs) else (0, setF fs p ⟨1, ⟨#[]⟩⟩) := by unfold createF; rw [hR]; simp only; rw [hp]
      have HK := Asd.mk (show kidA fs A p = some ⟨A p, 0, none⟩ by unfold kidA; rw [hp]; rfl)
      have hkk := hg.kind p x hp
      have hsm := hg.small p x hp
      have hnd := hg.nodup
      have hfile := noFile_calls (A p) x
      clear hR hm hg
      (go_enter Tryz.func30, Tryz.ntmps30)
      go_wp2_with fail
      refine HP.out.mono ?_
      rintro e w1 ⟨hPo, hC1⟩
      have hPo2 : e = .returned (.tuple #[.agg #[.pointer (dirA A p), .string (lastS p), .pointer (some ⟨A p, 0, none⟩)], .nilIface]) := by rw [← HK.out]; exact hPo
      subst hPo2
      obtain ⟨dp, hdp⟩ : ∃ d, dirA A p = d := ⟨_, rfl⟩
      obtain ⟨ls, hls⟩ : ∃ d, lastS p = d := ⟨_, rfl⟩
      rw [hdp, hls]
      have HC1 := Asd.mk hC1
      clear hC1 hPo HP hdp hls
      go_upto_region 6 with fail
      refine wp_opaque2 (fun W hW => ?_)
      have HCW := Asd.mk (show Chg [] w W by rw [hW]; exact HC1.out.alloc _)
      have HB := Asd.mk (show W.heap[w1.heap.size]? = some (.cells #[.pointer dp, .string ls, .pointer (some ⟨A p, 0, none⟩)] 79 (0, 0)) by rw [hW]; exact hp_new _ _)
      have hTW := hT.keep0 HCW.out
      obtain ⟨B, hB⟩ : ∃ B, w1.heap.size = B := ⟨_, rfl⟩
      rw [hB] at HB ⊢
      have b2 := cell_of_heap HB.out 2
      clear hW HC1 hB
      have hno := hTW.node p x hp
      have hcl := hfile _ W hno hkk
      obtain ⟨r1, r2, r3, r4⟩ := hr
      have HTW := Asd.mk hTW
      have HNo := Asd.mk hno
      clear hfile hno hTW hT
      rcases hkk with hk | hk | hk
      · rw [hk] at hcl
        have HCl := Asd.mk hcl
        rw [if_neg (by omega), if_neg (by omega)] at hAE
        have HA := Asd.mk hAE
        have hpne : p ≠ [] := fun e => by rw [e, at_root] at hp; cases hp; cases hk
        obtain ⟨us, hus⟩ : ∃ k, usedF fs = k := ⟨_, rfl⟩
        rw [hus] at r3
        have hus2 := used_set (x := ⟨1, ⟨#[]⟩⟩) hnd (by rw [← at_ne fs hpne]; exact hp)
        rw [show (⟨1, ⟨#[]⟩⟩ : Nd).text.size = 0 from rfl, hus] at hus2
        have k1 : (x.text.size : Int) ≤ (us : Int) := by omega
        have HUS := Asd.mk hus2
        have hno := HNo.out
        rw [if_neg (by omega), hk] at hno
        have HNo2 := Asd.mk hno
        have hAt := HTW.out.ne_tab hp
        have htL := HTW.out.tL
        have haL := (HTW.out.aL p x hp).1
        have HXK := Asd.mk (show x.kind ≠ 2 by omega)
        have HX := Asd.mk hp
        have HUs := Asd.mk hus
        have hTt := HTW.out.tab
        rw [hus] at hTt
        have HTt := Asd.mk hTt
        have hBt : B ≠ t := fun e => by
          have h1 := HB.out
          rw [e, hTt] at h1
          simp only [Option.some.injEq, Obj.cells.injEq] at h1
          exact absurd h1.2.1 (by decide)
        clear hcl hAE hk hus2 hno hp hus hnd HNo hTt
        go_wp2_with fail
        refine HCl.out.mono ?_
        rintro e w2 ⟨rfl, hw2⟩
        subst hw2
        rw [show noFileV 1 = Value.nilIface from rfl]
        go_upto_region 9 with fail
        have q3 := cell_of_heap HTt.out 3
        have f3 := frozen_of_heap HTt.out 3
        have c1' := cell_of_heap HNo2.out 1
        go_still_tail 13, (by kernel_rfl)
        go_upto_region 10 with fail
        refine wp_opaque2 (fun W2 hW2 => ?_)
        have HC2 := Asd.mk (show Chg L w W2 by rw [hW2]; exact ((HCW.out.mono (by simp)).setCell (fun _ => htL) _).drew)
        have HT2 := Asd.mk (show W2.heap[t]? = some (.cells #[(.pointer (some ⟨A [], 0, none⟩)), .int .i64 (by' : Int), .int .i64 (nd : Int), .int .i64 ((us : Int) - (x.text.size : Int)), .int .i64 (fs.length : Int)] 75 (0, 0)) by rw [hW2]; exact hp_drew (hp_set HTt.out 3 _))
        have HN2 := Asd.mk (show W2.heap[A p]? = some (.cells #[.int .i64 ((1 : Nat) : Int), .string x.text, .map none] 85 (0, 0)) by rw [hW2]; exact hp_drew (hp_set_other HNo2.out hAt _ _))
        have HB2 := Asd.mk (show W2.heap[B]? = some (.cells #[.pointer dp, .string ls, .pointer (some ⟨A p, 0, none⟩)] 79 (0, 0)) by rw [hW2]; exact hp_drew (hp_set_other HB.out hBt _ _))
        have HO2 := Asd.mk (show ∀ i, i ≠ t → W2.heap[i]? = w2.heap[i]? from fun i ht => by rw [hW2]; exact Below.heap_setCell w2 ⟨t, 3, none⟩ _ i ht)
        have HZ2 := Asd.mk (show W2.heap.size = w2.heap.size by rw [hW2]; show (w2.setCell _ _).heap.size = _; simp [World.setCell])
        have b2 := cell_of_heap HB2.out 2
        have f1 := frozen_of_heap HN2.out 1
        have c1 := cell_of_heap HN2.out 1
        clear hW2 q3 f3 c1'
        go_wp2
        go_ret
        have hsz : (W2.setCell ⟨A p, 1, none⟩ (.string ⟨#[]⟩)).heap.size = W2.heap.size := by simp [World.setCell]
        refine ⟨by rw [HA.out]; rfl, HC2.out.setCell (fun _ => haL) _, L, A, M, ?_, hid⟩
        rw [HA.out]
        refine HTW.out.set hpne HX.out HXK.out (by simp) ?_ (hp_set HN2.out 1 _) (fun i hi h1 h2 => ?_) (by rw [hsz, HZ2.out]; exact Nat.le_refl _)
        · have := hp_set_other HT2.out (Ne.symm hAt) 1 (.string ⟨#[]⟩)
          rw [this]
          have he : ((us : Int) - (x.text.size : Int)) = ((usedF (setF fs p ⟨1, ⟨#[]⟩⟩) : Nat) : Int) := by have := HUS.out; omega
          rw [he]
        · exact (Below.heap_setCell W2 ⟨A p, 1, none⟩ _ i h2).trans (HO2.out i h1)
      · rw [hk] at hcl
        have HCl := Asd.mk hcl
        have HA := Asd.mk (show createF fs by' nd s = (202, fs) by rw [hAE, if_pos hk])
        clear hcl hAE hk
        go_wp2_with fail
        refine HCl.out.mono ?_
        rintro e w2 ⟨rfl, rfl⟩
        rw [show noFileV 2 = Value.iface 71 (.int .i64 202) from rfl]
        go_wp2
        go_ret
        exact ⟨by rw [HA.out]; rfl, HCW.out.mono (by simp), L, A, M, by rw [HA.out]; exact HTW.out, hid⟩
      · rw [hk] at hcl
        have HCl := Asd.mk hcl
        have HA := Asd.mk (show createF fs by' nd s = (204, fs) by rw [hAE, if_neg (by omega), if_pos hk])
        clear hcl hAE hk
        go_wp2_with fail
        refine HCl.out.mono ?_
        rintro e w2 ⟨rfl, rfl⟩
        rw [show noFileV 3 = Value.iface 71 (.int .i64 204) from rfl]
        go_wp2
        go_ret
        exact ⟨by rw [HA.out]; rfl, HCW.out.mono (by simp), L, A, M, by rw [HA.out]; exact HTW.out, hid⟩
end Go.Proofs.YtiijbecklkccfaaGreatDoor.I
/- The program's Used, New, Read, Look: the walks. -/
namespace Go.Proofs.YtiijbecklkccfaaGreatDoor.I
open Go.RowKit Go.Proofs.YtiijbecklkccfaaGreatDoor.B Go.Sort
set_option linter.unusedVariables false
set_option maxRecDepth 100000 in
set_option maxHeartbeats 16000000 in
theorem used_calls (L : List Nat) (t : Nat) (fs : FS) (by' nd : Nat) (A M : Pth → Nat) (w : World) (hT : TabAt w L t fs by' nd A M) :
    Calls Tryz.prog 13 #[(.pointer (some ⟨t, 0, none⟩))] w fun e w' => e = .returned (.tuple #[.int .i64 (usedF fs : Int), .int .i64 (fs.length : Int)]) ∧ Chg [] w w' := by
  have q3 := cell_of_heap hT.tab 3
  have q4 := cell_of_heap hT.tab 4
  clear hT
  go_enter Tryz.func13, Tryz.ntmps13
  go_wp2
  go_quiet (fail)
  go_wp2
  go_ret2
  exact ⟨rfl, (Chg.refl _ _).drewN nq⟩
theorem tab_new (w : World) (b n : Nat) : TabAt (((w.alloc (.map #[] 0)).alloc (.cells #[.int .i64 2, .string ⟨#[]⟩, .map (some w.heap.size)] 85)).alloc (.cells #[(.pointer (some ⟨w.heap.size + 1, 0, none⟩)), .int .i64 (b : Int), .int .i64 (n : Int), .int .i64 0, .int .i64 0] 75))
    [w.heap.size + 2, w.heap.size + 1, w.heap.size] (w.heap.size + 2) [] b n (fun _ => w.heap.size + 1) (fun _ => w.heap.size) := by
  have hat : ∀ p x, FS.at [] p = some x → p = [] ∧ x = rootN := fun p x h => by
    unfold FS.at at h
    split at h
    · rename_i hp; cases h; exact ⟨hp, rfl⟩
    · simp at h
  have h1 := hp_new w (.map #[] 0)
  have h2 := hp_new (w.alloc (.map #[] 0)) (.cells #[.int .i64 2, .string ⟨#[]⟩, .map (some w.heap.size)] 85)
  rw [World.size_alloc] at h2
  have h3 := hp_new ((w.alloc (.map #[] 0)).alloc (.cells #[.int .i64 2, .string ⟨#[]⟩, .map (some w.heap.size)] 85)) (.cells #[(.pointer (some ⟨w.heap.size + 1, 0, none⟩)), .int .i64 (b : Int), .int .i64 (n : Int), .int .i64 0, .int .i64 0] 75)
  rw [World.size_alloc, World.size_alloc] at h3
  refine ⟨h3, ?_, ?_, by simp, ?_, ?_, ?_, ?_⟩
  · intro p x hx
    obtain ⟨rfl, rfl⟩ := hat p x hx
    exact hp_alloc h2 _
  · intro p x hx hk
    obtain ⟨rfl, rfl⟩ := hat p x hx
    refine ⟨#[], 0, [], hp_alloc (hp_alloc h1 _) _, kids_nil 0, fun k => ?_⟩
    rw [at_ne _ (by simp)]
    rfl
  · intro i hi
    simp only [List.mem_cons, List.mem_nil_iff, or_false] at hi
    simp only [World.size_alloc]
    omega
  · intro p x hx
    exact ⟨by simp, fun _ => by simp⟩
  · intro p q x y hx hy _
    rw [(hat p x hx).1, (hat q y hy).1]
  · intro p q x y hx hy _ _ _
    rw [(hat p x hx).1, (hat q y hy).1]
set_option maxRecDepth 100000 in
set_option maxHeartbeats 16000000 in
theorem new_ok (b n : Nat) (w : World) (hb : b ≤ 2147483647) (hn : n ≤ 65536) :
    Calls Tryz.prog 9 #[.int .i64 (b : Int), .int .i64 (n : Int)] w fun e w' => ∃ t L A M, e = .returned (.tuple #[(.pointer (some ⟨t, 0, none⟩)), .nilIface]) ∧ Chg [] w w' ∧ TabAt w' L t [] b n A M ∧ ∀ i ∈ L, w.heap.size ≤ i := by
  have k1 : ¬ ((b : Int) < 0) := by omega
  have k2 : ¬ ((2147483647 : Int) < (b : Int)) := by omega
  have k3 : ¬ ((n : Int) < 0) := by omega
  have k4 : ¬ ((65536 : Int) < (n : Int)) := by omega
  have HN := Asd.mk (tab_new w b n)
  have HC := Asd.mk ((((Chg.refl [] w).alloc (.map #[] 0)).alloc (.cells #[.int .i64 2, .string ⟨#[]⟩, .map (some w.heap.size)] 85)).alloc (.cells #[(.pointer (some ⟨w.heap.size + 1, 0, none⟩)), .int .i64 (b : Int), .int .i64 (n : Int), .int .i64 0, .int .i64 0] 75))
  go_enter Tryz.func9, Tryz.ntmps9
  go_wp2_with fail
  refine (directory_calls w).mono ?_
  rintro e w1 ⟨rfl, rfl⟩
  go_wp2
  go_ret2
  exact ⟨_, _, _, _, rfl, HC.out, HN.out, fun i hi => by simp at hi; omega⟩
set_option maxRecDepth 100000 in
set_option maxHeartbeats 16000000 in
theorem new_bad (b n : Int) (w : World) (hb : b < 0 ∨ 2147483647 < b ∨ n < 0 ∨ 65536 < n) :
    Calls Tryz.prog 9 #[.int .i64 b, .int .i64 n] w fun e w' => e = .returned (.tuple #[.pointer none, .iface 71 (.int .i64 1)]) ∧ Chg [] w w' := by
  have hC := Chg.refl [] w
  by_cases h1 : b < 0
  · clear hb
    go_enter Tryz.func9, Tryz.ntmps9
    go_wp2
    go_ret2
    exact ⟨rfl, hC⟩
  · by_cases h2 : 2147483647 < b
    · clear hb
      go_enter Tryz.func9, Tryz.ntmps9
      go_wp2
      go_ret2
      exact ⟨rfl, hC⟩
    · by_cases h3 : n < 0
      · clear hb
        go_enter Tryz.func9, Tryz.ntmps9
        go_wp2
        go_ret2
        exact ⟨rfl, hC⟩
      · have h4 : 65536 < n := by omega
        clear hb
        go_enter Tryz.func9, Tryz.ntmps9
        go_wp2
        go_ret2
        exact ⟨rfl, hC⟩
/-- Read: the error's number, the bytes. -/
def readF (fs : FS) (s : ByteArray) : Nat × ByteArray := match thereE fs s with
  | .error n => (n, ⟨#[]⟩)
  | .ok p => match fs.at p with
    | none => (0, ⟨#[]⟩)
    | some x => if x.kind = 2 then (202, ⟨#[]⟩) else if x.kind = 3 then (204, ⟨#[]⟩) else (0, x.text)
set_option maxRecDepth 100000 in
set_option maxHeartbeats 16000000 in
theorem read_calls (L : List Nat) (t : Nat) (fs : FS) (by' nd : Nat) (A M : Pth → Nat) (s : ByteArray) (w : World) (hT : TabAt w L t fs by' nd A M) (hg : FsOk fs) (hm : MaxLenAt w) (hs : s.size ≤ 4294967280) :
    Calls Tryz.prog 34 #[(.pointer (some ⟨t, 0, none⟩)), .string s] w fun e w' => e = .returned (.tuple #[.string (readF fs s).2, errV (readF fs s).1]) ∧ Chg [] w w' := by
  have HP := Asd.mk (there_calls L t fs by' nd A M s w hT hg hm hs)
  obtain ⟨R, hR⟩ : ∃ R, thereE fs s = R := ⟨_, rfl⟩
  rw [hR] at HP
  cases R with
  | error n =>
    have HA := Asd.mk (show readF fs s = (n, ⟨#[]⟩) by unfold readF; rw [hR])
    have HN := Asd.mk (thereE_pos hR)
    clear hR hT hg hm
    go_enter Tryz.func34, Tryz.ntmps34
    go_wp2_with fail
    refine HP.out.mono ?_
    rintro e w1 ⟨⟨d, l, k, rfl⟩, hC1⟩
    have HC1 := Asd.mk hC1
    clear hC1
    go_wp2
    go_ret2
    exact ⟨by rw [HA.out]; simp only [errV]; rw [if_neg HN.out]; rfl, HC1.out.alloc _⟩
  | ok p =>
    obtain ⟨x, hx⟩ := thereE_ok hR
    have hAE : readF fs s = if x.kind = 2 then (202, ⟨#[]⟩) else if x.kind = 3 then (204, ⟨#[]⟩) else (0, x.text) := by unfold readF; rw [hR]; simp only; rw [hx]
    have hkk := hg.kind p x hx
    have hfile := noFile_calls (A p) x
    clear hR hm hg
    go_enter Tryz.func34, Tryz.ntmps34
    go_wp2_with fail
    refine HP.out.mono ?_
    rintro e w1 ⟨hPo, hC1⟩
    have hPo2 : e = .returned (.tuple #[.agg #[.pointer (dirA A p), .string (lastS p), .pointer (some ⟨A p, 0, none⟩)], .nilIface]) := hPo
    subst hPo2
    obtain ⟨dp, hdp⟩ : ∃ d, dirA A p = d := ⟨_, rfl⟩
    obtain ⟨ls, hls⟩ : ∃ d, lastS p = d := ⟨_, rfl⟩
    rw [hdp, hls]
    have HC1 := Asd.mk hC1
    clear hC1 hPo HP hdp hls
    go_upto_region 4 with fail
    refine wp_opaque2 (fun W hW => ?_)
    have HCW := Asd.mk (show Chg [] w W by rw [hW]; exact HC1.out.alloc _)
    have HB := Asd.mk (show W.heap[w1.heap.size]? = some (.cells #[.pointer dp, .string ls, .pointer (some ⟨A p, 0, none⟩)] 79 (0, 0)) by rw [hW]; exact hp_new _ _)
    have hTW := hT.keep0 HCW.out
    obtain ⟨B, hB⟩ : ∃ B, w1.heap.size = B := ⟨_, rfl⟩
    rw [hB] at HB ⊢
    have b2 := cell_of_heap HB.out 2
    clear hW HC1 hB
    have hno := hTW.node p x hx
    have hcl := hfile _ W hno hkk
    have c1 := cell_of_heap hno 1
    clear hfile hno hTW hT
    rcases hkk with hk | hk | hk
    · rw [hk] at hcl
      have HCl := Asd.mk hcl
      have HA := Asd.mk (show readF fs s = (0, x.text) by rw [hAE, if_neg (by omega), if_neg (by omega)])
      clear hcl hAE hk
      go_wp2_with fail
      refine HCl.out.mono ?_
      rintro e w2 ⟨rfl, rfl⟩
      rw [show noFileV 1 = Value.nilIface from rfl]
      go_wp2
      go_ret2
      exact ⟨by rw [HA.out]; rfl, HCW.out⟩
    · rw [hk] at hcl
      have HCl := Asd.mk hcl
      have HA := Asd.mk (show readF fs s = (202, ⟨#[]⟩) by rw [hAE, if_pos hk])
      clear hcl hAE hk
      go_wp2_with fail
      refine HCl.out.mono ?_
      rintro e w2 ⟨rfl, rfl⟩
      rw [show noFileV 2 = Value.iface 71 (.int .i64 202) from rfl]
      go_wp2
      go_ret2
      exact ⟨by rw [HA.out]; rfl, HCW.out⟩
    · rw [hk] at hcl
      have HCl := Asd.mk hcl
      have HA := Asd.mk (show readF fs s = (204, ⟨#[]⟩) by rw [hAE, if_neg (by omega), if_pos hk])
      clear hcl hAE hk
      go_wp2_with fail
      refine HCl.out.mono ?_
      rintro e w2 ⟨rfl, rfl⟩
      rw [show noFileV 3 = Value.iface 71 (.int .i64 204) from rfl]
      go_wp2
      go_ret2
      exact ⟨by rw [HA.out]; rfl, HCW.out⟩
end Go.Proofs.YtiijbecklkccfaaGreatDoor.I
/- A node taken out of its directory: what the file system is then, in memory. -/
namespace Go.Proofs.YtiijbecklkccfaaGreatDoor.I
open Go.RowKit Go.Proofs.YtiijbecklkccfaaGreatDoor.B Go.Sort
set_option linter.unusedVariables false
def delF (fs : FS) (p : Pth) : FS := fs.filter fun y => decide (y.1 ≠ p)
theorem lookup_del {p : Pth} : ∀ {fs : FS} (r : Pth), (delF fs p).lookup r = if r = p then none else fs.lookup r
  | [], r => by simp [delF]
  | (q, y) :: fs, r => by
    have ih := lookup_del (p := p) (fs := fs) r
    unfold delF at ih ⊢
    by_cases hq : q = p
    · subst hq
      rw [List.filter_cons_of_neg (by simp), ih]
      by_cases hr : r = q
      · rw [if_pos hr, if_pos hr]
      · rw [if_neg hr, if_neg hr, List.lookup_cons]
        have : (r == q) = false := by simp [hr]
        rw [this]
    · rw [List.filter_cons_of_pos (by simp [hq]), List.lookup_cons, List.lookup_cons]
      by_cases hr : r = q
      · subst hr
        rw [if_neg hq]
        simp
      · have : (r == q) = false := by simp [hr]
        rw [this]
        exact ih
theorem at_del {fs : FS} {p : Pth} (hp : p ≠ []) (r : Pth) : (delF fs p).at r = if r = p then none else fs.at r := by
  unfold FS.at
  by_cases hr : r = []
  · rw [if_pos hr, if_pos hr, if_neg (by rw [hr]; exact Ne.symm hp)]
  · rw [if_neg hr, if_neg hr, lookup_del]
theorem del_none {p : Pth} {fs : FS} (h : p ∉ fs.map (·.1)) : delF fs p = fs := by
  unfold delF
  rw [List.filter_eq_self]
  intro y hy
  simp only [decide_eq_true_eq]
  rintro rfl
  exact h (List.mem_map.2 ⟨y, hy, rfl⟩)
theorem count_del {p : Pth} {y : Nd} : ∀ {fs : FS}, (fs.map (·.1)).Nodup → fs.lookup p = some y → (delF fs p).length + 1 = fs.length ∧ usedF (delF fs p) + y.text.size = usedF fs
  | [], _, h => by simp at h
  | (q, z) :: fs, hd, h => by
    simp only [List.map_cons, List.nodup_cons] at hd
    have e : ∀ (a : Pth × Nd) (l : FS), usedF (a :: l) = a.2.text.size + usedF l := fun a l => by unfold usedF; simp
    rw [List.lookup_cons] at h
    by_cases hq : p = q
    · subst hq
      simp only [beq_self_eq_true, Option.some.injEq] at h
      subst h
      have hs : delF ((p, z) :: fs) p = fs := by
        have := del_none hd.1
        unfold delF at this ⊢
        rw [List.filter_cons_of_neg (by simp), this]
      rw [hs, e]
      exact ⟨by simp, Nat.add_comm _ _⟩
    · have hb : (p == q) = false := by simp [hq]
      rw [hb] at h
      obtain ⟨i1, i2⟩ := count_del hd.2 h
      have hs : delF ((q, z) :: fs) p = (q, z) :: delF fs p := by
        unfold delF
        rw [List.filter_cons_of_pos (by simp [Ne.symm hq])]
      rw [hs, e, e, List.length_cons, List.length_cons]
      omega
theorem look_filter {n : Nm} : ∀ {K : List (Nm × Value)} (k : Nm), (K.filter fun x => decide (x.1 ≠ n)).lookup k = if k = n then none else K.lookup k
  | [], k => by simp
  | (a, b) :: K, k => by
    have ih := look_filter (n := n) (K := K) k
    by_cases ha : a = n
    · subst ha
      rw [List.filter_cons_of_neg (by simp), ih]
      by_cases hk : k = a
      · rw [if_pos hk, if_pos hk]
      · rw [if_neg hk, if_neg hk, List.lookup_cons]
        have : (k == a) = false := by simp [hk]
        rw [this]
    · rw [List.filter_cons_of_pos (by simp [ha]), List.lookup_cons, List.lookup_cons]
      by_cases hk : k = a
      · subst hk
        rw [if_neg ha]
        simp
      · have : (k == a) = false := by simp [hk]
        rw [this]
        exact ih
theorem TabAt.del {w w' : World} {L : List Nat} {t by' nd : Nat} {fs : FS} {A M : Pth → Nat} (h : TabAt w L t fs by' nd A M) {q : Pth} {n : Nm} {x y : Nd} (hq : fs.at q = some y) (hy : y.kind = 2)
    (ht : w'.heap[t]? = some (.cells #[(.pointer (some ⟨A [], 0, none⟩)), .int .i64 (by' : Int), .int .i64 (nd : Int), .int .i64 (usedF (delF fs (q ++ [n])) : Int), .int .i64 ((delF fs (q ++ [n])).length : Int)] 75 (0, 0)))
    (hmap : ∃ es clock K, w'.heap[M q]? = some (.map es clock) ∧ MKids es clock K ∧ ∀ k, K.lookup k = if k = n then none else (fs.at (q ++ [k])).map fun _ => (.pointer (some ⟨A (q ++ [k]), 0, none⟩)))
    (hoth : ∀ i ∈ L, i ≠ t → i ≠ M q → w'.heap[i]? = w.heap[i]?) (hsz : w.heap.size ≤ w'.heap.size) :
    TabAt w' L t (delF fs (q ++ [n])) by' nd A M := by
  have hp : q ++ [n] ≠ [] := by simp
  have hat := at_del (fs := fs) hp
  have hold : ∀ r z, (delF fs (q ++ [n])).at r = some z → r ≠ q ++ [n] ∧ fs.at r = some z := fun r z hz => by
    rw [hat r] at hz
    split at hz
    · cases hz
    · rename_i hr; exact ⟨hr, hz⟩
  refine ⟨ht, ?_, ?_, h.tL, fun i hi => Nat.lt_of_lt_of_le (h.bl i hi) hsz, fun r z hz => h.aL r z (hold r z hz).2, ?_, ?_⟩
  · intro r z hz
    obtain ⟨hr, hz2⟩ := hold r z hz
    rw [hoth _ (h.aL r z hz2).1 (h.ne_tab hz2) (h.ne_map hz2 hq hy)]
    exact h.node r z hz2
  · intro r z hz hk
    obtain ⟨hr, hz2⟩ := hold r z hz
    by_cases hrq : r = q
    · subst hrq
      obtain ⟨es, clock, K, h1, h2, h3⟩ := hmap
      refine ⟨es, clock, K, h1, h2, fun k => ?_⟩
      rw [h3 k, hat]
      by_cases hkn : k = n
      · subst hkn
        rw [if_pos rfl, if_pos rfl]
        rfl
      · rw [if_neg hkn, if_neg (fun e => hkn (snoc_inj e).2)]
    · obtain ⟨es, clock, K, h1, h2, h3⟩ := h.kids r z hz2 hk
      refine ⟨es, clock, K, ?_, h2, fun k => ?_⟩
      · rw [hoth _ ((h.aL r z hz2).2 hk) (h.tab_ne_map hz2 hk) (fun e => hrq (h.injM r q z y hz2 hq hk hy e))]
        exact h1
      · rw [h3 k, hat, if_neg (fun e => hrq (snoc_inj e).1)]
  · intro r1 r2 z1 z2 h1 h2 he
    exact h.injA r1 r2 z1 z2 (hold r1 z1 h1).2 (hold r2 z2 h2).2 he
  · intro r1 r2 z1 z2 h1 h2 k1 k2 he
    exact h.injM r1 r2 z1 z2 (hold r1 z1 h1).2 (hold r2 z2 h2).2 k1 k2 he
end Go.Proofs.YtiijbecklkccfaaGreatDoor.I
