/- Merged out of these texts: Drop, RemDef, Gives, Same, Look, Ent, SameEnt, Rg. -/
import Derived.Test.YtiijbecklkccfaaGreatDoorPl5
import Derived.LaidEqlPtr
import Derived.WideLaws
import Derived.Test.YtiijbecklkccfaaGreatDoorPl3
import Derived.Laws.StructEq
import Derived.Test.YtiijbecklkccfaaGreatDoorPl1
import Derived.Maps.RangeRun
/- The program's drop: the walk. -/
namespace Go.Proofs.YtiijbecklkccfaaGreatDoor.I
open Go.RowKit Go.Proofs.YtiijbecklkccfaaGreatDoor.B Go.Sort
set_option linter.unusedVariables false
set_option maxRecDepth 100000 in
set_option maxHeartbeats 16000000 in
theorem drop_calls (L : List Nat) (t : Nat) (fs : FS) (by' nd : Nat) (A M : Pth → Nat) (q : Pth) (n : Nm) (x y : Nd) (w : World) (hT : TabAt w L t fs by' nd A M) (hg : FsOk fs) (hr : Room fs by' nd) (hq : fs.at q = some y) (hy : y.kind = 2) (hn : fs.at (q ++ [n]) = some x) :
    Calls Tryz.prog 61 #[(.pointer (some ⟨t, 0, none⟩)), .agg #[.pointer (some ⟨A q, 0, none⟩), .string (nb n), .pointer (some ⟨A (q ++ [n]), 0, none⟩)]] w fun e w' => e = .returned (.tuple #[]) ∧ Chg L w w' ∧ TabAt w' L t (delF fs (q ++ [n])) by' nd A M := by
  obtain ⟨es, clock, K, hK1, hK2, hK3⟩ := hT.kids q y hq hy
  have hK4 : K.lookup n = some (.pointer (some ⟨A (q ++ [n]), 0, none⟩)) := by rw [hK3, hn]; rfl
  have hqn := hT.node q y hq
  rw [if_pos hy] at hqn
  have hxn := hT.node _ x hn
  have hMt := hT.tab_ne_map hq hy
  have hAt := hT.ne_tab hq
  have hxt := hT.ne_tab hn
  have hAM := hT.ne_map hq hq hy
  have htL := hT.tL
  obtain ⟨haL, hML⟩ := hT.aL q y hq
  replace hML := hML hy
  have hpne : q ++ [n] ≠ [] := by simp
  obtain ⟨hcd1, hcd2⟩ := count_del hg.nodup (by rw [← at_ne fs hpne]; exact hn)
  have HC0 := Asd.mk (show Chg [] w (w.alloc (.cells #[.pointer (some ⟨A q, 0, none⟩), .string (nb n), .pointer (some ⟨A (q ++ [n]), 0, none⟩)] 79)) from (Chg.refl _ _).alloc _)
  have hB0 := hp_new w (.cells #[.pointer (some ⟨A q, 0, none⟩), .string (nb n), .pointer (some ⟨A (q ++ [n]), 0, none⟩)] 79)
  have hBL := hT.bl
  obtain ⟨h1, h2, h3, h4⟩ := hr
  have HFin := Asd.mk (fun w' => TabAt.del (w' := w') (n := n) (x := x) hT hq hy)
  have HT0 := Asd.mk (HC0.out.heap hT.tab (by simp))
  have HKK := Asd.mk hK2
  have HK3 := Asd.mk hK3
  have HK4 := Asd.mk hK4
  have Hx0 := Asd.mk (HC0.out.heap hxn (by simp))
  have Hq0 := Asd.mk (HC0.out.heap hqn (by simp))
  have HK0 := Asd.mk (HC0.out.heap hK1 (by simp))
  have HB0 := Asd.mk hB0
  have hBt : w.heap.size ≠ t := fun e => by have := hBL t htL; omega
  have hBM : w.heap.size ≠ M q := fun e => by have := hBL _ hML; omega
  have HBL := Asd.mk hBL
  obtain ⟨us, hus⟩ : ∃ k, usedF fs = k := ⟨_, rfl⟩
  obtain ⟨ct, hctn⟩ : ∃ k, fs.length = k := ⟨_, rfl⟩
  rw [hus] at h3 HT0 hcd2
  rw [hctn] at h4 HT0 hcd1
  have HCD := Asd.mk (And.intro hcd1 hcd2)
  have k1 : (1 : Int) ≤ (ct : Int) := by omega
  have k2 : (x.text.size : Int) ≤ (us : Int) := by omega
  have p4 := cell_of_heap HT0.out 4
  have f4 := frozen_of_heap HT0.out 4
  clear hT hg hq hn hK1 hK2 hK3 hK4 hqn hxn hB0 hBL hus hctn hcd1 hcd2 hpne
  go_enter Tryz.func61, Tryz.ntmps61
  go_upto_region 2 with fail
  refine wp_opaque2 (fun W2 hW2 => ?_)
  obtain ⟨B, hB⟩ : ∃ B, w.heap.size = B := ⟨_, rfl⟩
  have mv2 : ∀ {i : Nat} {o : Obj}, ((w.alloc (.cells #[.pointer (some ⟨A q, 0, none⟩), .string (nb n), .pointer (some ⟨A (q ++ [n]), 0, none⟩)] 79))).heap[i]? = some o → i ≠ t → W2.heap[i]? = some o := fun h hi => by rw [hW2]; exact hp_set_other h hi _ _
  have HC2 := Asd.mk (show Chg L w W2 by rw [hW2]; exact (HC0.out.mono (by simp)).setCell (fun _ => htL) _)
  have HT2 := Asd.mk (show W2.heap[t]? = some (.cells #[(.pointer (some ⟨A [], 0, none⟩)), .int .i64 (by' : Int), .int .i64 (nd : Int), .int .i64 (us : Int), .int .i64 ((ct : Int) - 1)] 75 (0, 0)) by rw [hW2]; exact hp_set HT0.out 4 _)
  have Hx2 := Asd.mk (mv2 Hx0.out hxt)
  have Hq2 := Asd.mk (mv2 Hq0.out hAt)
  have HK2 := Asd.mk (mv2 HK0.out hMt)
  have HB2 := Asd.mk (mv2 HB0.out hBt)
  have HO2 := Asd.mk (show ∀ i, i < w.heap.size → i ≠ t → W2.heap[i]? = w.heap[i]? from fun i hi ht => by
    rw [hW2]
    exact (Below.heap_setCell _ ⟨t, 4, none⟩ _ i ht).trans (HC0.out.block i hi (by simp)))
  rw [hB] at HB2 hBt hBM ⊢
  have p3 := cell_of_heap HT2.out 3
  have f3 := frozen_of_heap HT2.out 3
  have c1 := cell_of_heap Hx2.out 1
  have b2 := cell_of_heap HB2.out 2
  have HBB := Asd.mk hB
  clear mv2 hW2 HC0 HT0 Hx0 Hq0 HK0 HB0 p4 f4 hB
  go_still_tail 13, (by kernel_rfl)
  go_upto_region 3 with fail
  refine wp_opaque2 (fun W3 hW3 => ?_)
  have mv3 : ∀ {i : Nat} {o : Obj}, W2.heap[i]? = some o → i ≠ t → W3.heap[i]? = some o := fun h hi => by rw [hW3]; exact hp_drew (hp_set_other h hi _ _)
  have HC3 := Asd.mk (show Chg L w W3 by rw [hW3]; exact (HC2.out.setCell (fun _ => htL) _).drew)
  have HT3 := Asd.mk (show W3.heap[t]? = some (.cells #[(.pointer (some ⟨A [], 0, none⟩)), .int .i64 (by' : Int), .int .i64 (nd : Int), .int .i64 ((us : Int) - (x.text.size : Int)), .int .i64 ((ct : Int) - 1)] 75 (0, 0)) by rw [hW3]; exact hp_drew (hp_set HT2.out 3 _))
  have Hq3 := Asd.mk (mv3 Hq2.out hAt)
  have HK3' := Asd.mk (mv3 HK2.out hMt)
  have HB3 := Asd.mk (mv3 HB2.out hBt)
  have HO3 := Asd.mk (show ∀ i, i < w.heap.size → i ≠ t → W3.heap[i]? = w.heap[i]? from fun i hi ht => by
    rw [hW3]
    exact (Below.heap_setCell W2 ⟨t, 3, none⟩ _ i ht).trans (HO2.out i hi ht))
  have b0 := cell_of_heap HB3.out 0
  have b1 := cell_of_heap HB3.out 1
  have q2 := cell_of_heap Hq3.out 2
  obtain ⟨es', hdel, hMK⟩ := run_del (P := Tryz.prog) (k2 := 9) (ty := 0) Tryz.underlying83 Tryz.underlying9 (hp_drew HK3'.out) HKK.out (nb n) (.pointer (some ⟨A (q ++ [n]), 0, none⟩)) (by rw [list_nb]; exact HK4.out)
  rw [list_nb] at hMK
  have HMK := Asd.mk hMK
  clear mv3 hW3 HC2 HT2 Hx2 Hq2 HK2 HB2 HO2 p3 f3 c1 b2 hMK
  go_still_tail 7, (by kernel_rfl)
  go_wp2
  refine bodyPost_end (results_none rfl _ _ _) rfl ?_
  have hCf : Chg L w (Go.ChangeMaps.setBlock W3.drew (M q) (.map es' clock)) := (HC3.out.drew).setBlock (fun _ => hML) _
  refine ⟨rfl, hCf, HFin.out _ ?_ ⟨_, _, _, hp_setBlock (hp_drew HK3'.out), HMK.out, fun k => by rw [look_filter, HK3.out]⟩ (fun i hi h1 h2 => ?_) hCf.size⟩
  · rw [hp_setBlock_other (hp_drew HT3.out) (Ne.symm hMt)]
    have e1 : ((us : Int) - (x.text.size : Int)) = ((usedF (delF fs (q ++ [n])) : Nat) : Int) := by have := HCD.out.2; omega
    have e2 : ((ct : Int) - 1) = (((delF fs (q ++ [n])).length : Nat) : Int) := by have := HCD.out.1; omega
    rw [e1, e2]
  · have hlt := HBL.out i hi
    show (W3.heap.setIfInBounds (M q) _)[i]? = _
    rw [Array.getElem?_setIfInBounds_ne (Ne.symm h2)]
    exact HO3.out i hlt h1
end Go.Proofs.YtiijbecklkccfaaGreatDoor.I
/- Remove: what it makes of a file system; a directory's map and how much it holds; pointers compared. -/
namespace Go.Proofs.YtiijbecklkccfaaGreatDoor.I
open Go.RowKit Go.Proofs.YtiijbecklkccfaaGreatDoor.B Go.Sort
set_option linter.unusedVariables false
/-- Does something stand in a directory? -/
def hasKids (fs : FS) (p : Pth) : Prop := ∃ k, fs.at (p ++ [k]) ≠ none
open Classical in
/-- Remove. -/
noncomputable def removeF (fs : FS) (s : ByteArray) : Nat × FS := match atE fs s with
  | .error n => (n, fs)
  | .ok p => if p = [] then (1, fs) else match fs.at p with
    | none => (200, fs)
    | some x => if hasKids fs p then (205, fs) else (0, delF fs p)
theorem info_node : (Tryz.prog.info? 85).map (·.size) = some 3 := by kernel_rfl
theorem info_node' : ∃ j, Tryz.prog.info? 85 = some j ∧ j.size ≠ 0 := by
  cases hj : Tryz.prog.info? 85 with
  | none => have := info_node; rw [hj] at this; cases this
  | some j =>
    have h := info_node
    rw [hj] at h
    simp only [Option.map_some, Option.some.injEq] at h
    exact ⟨j, rfl, by omega⟩
theorem eql_same (a : Addr) (w : World) : (binOp .eql 72 (.pointer (some a)) (.pointer (some a))).run Tryz.prog w = .ok (.bool true) w := by
  obtain ⟨j, h1, _⟩ := info_node'
  exact run_eql_ptr_same w a Tryz.underlying72 h1
theorem eql_other {a b : Nat} {ca cb : Array Value} {ta tb : TypeId} (w : World) (hne : a ≠ b) (ha : w.heap[a]? = some (.cells ca ta (0, 0))) (hb : w.heap[b]? = some (.cells cb tb (0, 0))) : (binOp .eql 72 (.pointer (some ⟨a, 0, none⟩)) (.pointer (some ⟨b, 0, none⟩))).run Tryz.prog w = .ok (.bool false) w := by
  obtain ⟨j, h1, h2⟩ := info_node'
  exact run_eql_ptr_other w Tryz.underlying72 h1 h2 (fun e => hne (by cases e; rfl)) ha hb
theorem eql_none (a : Addr) (w : World) : (binOp .eql 72 (.pointer none) (.pointer (some a))).run Tryz.prog w = .ok (.bool false) w := by
  have h : ∀ d : Nat, (Op.equalIn (d + 1) 72 (.pointer none) (.pointer (some a))).run Tryz.prog w = .ok false w := fun d => by
    simp [Op.equalIn, run_underlying Tryz.underlying72]
  simp only [binOp]
  simp [Op.equal, Op.maxDepth, h 9999]
theorem len_kids {b : Nat} {es : Array MapEntry} {clock : Nat} {w : World} (hb : w.heap[b]? = some (.map es clock)) : (Builtin.len_ #[83] 3 #[.map (some b)]).run Tryz.prog w = .ok (.int .i64 es.size) w := by
  simp [Builtin.len_, run_underlying Tryz.underlying83, MapKept.run_getObj_map hb, goInt]
theorem kids_len {w : World} {L : List Nat} {t by' nd : Nat} {fs : FS} {A M : Pth → Nat} (h : TabAt w L t fs by' nd A M) {p : Pth} {x : Nd} (hx : fs.at p = some x) (hk : x.kind = 2) : ∃ es clock, w.heap[M p]? = some (.map es clock) ∧ (hasKids fs p ↔ 0 < es.size) := by
  obtain ⟨es, clock, K, h1, h2, h3⟩ := h.kids p x hx hk
  refine ⟨es, clock, h1, ?_⟩
  have hl : es.size = K.length := by
    have := congrArg List.length h2.ents
    simpa using this
  rw [hl]
  constructor
  · rintro ⟨k, hk⟩
    cases hK : K with
    | nil =>
      have := h3 k
      rw [hK] at this
      simp only [List.lookup_nil] at this
      cases ha : fs.at (p ++ [k]) with
      | none => exact absurd ha hk
      | some z => rw [ha] at this; cases this
    | cons a b => simp
  · intro hlen
    cases hK : K with
    | nil => rw [hK] at hlen; simp at hlen
    | cons a b =>
      refine ⟨a.1, fun e => ?_⟩
      have := h3 a.1
      rw [hK, e, List.lookup_cons] at this
      simp at this
end Go.Proofs.YtiijbecklkccfaaGreatDoor.I
/- The program's gives, path.Below: the walks. -/
namespace Go.Proofs.YtiijbecklkccfaaGreatDoor.I
open Go.RowKit Go.Proofs.YtiijbecklkccfaaGreatDoor.B Go.Sort
set_option linter.unusedVariables false
open Classical in
/-- What stands at g, does it bar what comes? The error's number. -/
noncomputable def givesF (fs : FS) (g : Pth) (x : Nd) : Nat := match fs.at g with
  | none => 0
  | some y => if y.kind = 2 ∧ x.kind ≠ 2 then 202 else if y.kind = 2 ∧ hasKids fs g then 205 else if y.kind ≠ 2 ∧ x.kind = 2 then 203 else 0
open Classical in
set_option maxRecDepth 100000 in
set_option maxHeartbeats 16000000 in
theorem gives_calls (L : List Nat) (t : Nat) (fs : FS) (by' nd : Nat) (A M : Pth → Nat) (g p : Pth) (x : Nd) (w : World) (hT : TabAt w L t fs by' nd A M) (hg : FsOk fs) (hx : fs.at p = some x) :
    Calls Tryz.prog 59 #[.pointer (kidA fs A g), (.pointer (some ⟨A p, 0, none⟩))] w fun e w' => e = .returned (errV (givesF fs g x)) ∧ w' = w := by
  have d0 := cell_of_heap (hT.node p x hx) 0
  have hxk := hg.kind p x hx
  cases hy : fs.at g with
  | none =>
    rw [show kidA fs A g = none by unfold kidA; rw [hy]; rfl, show givesF fs g x = 0 by unfold givesF; rw [hy]]
    clear hT hg hx hy d0
    (go_enter Tryz.func59, Tryz.ntmps59)
    go_wp2
    go_ret
    exact ⟨rfl, rfl⟩
  | some y =>
    rw [show kidA fs A g = some ⟨A g, 0, none⟩ by unfold kidA; rw [hy]; rfl]
    have c0 := cell_of_heap (hT.node g y hy) 0
    have c2 := cell_of_heap (hT.node g y hy) 2
    have hyk := hg.kind g y hy
    by_cases hy2 : y.kind = 2
    · rw [if_pos hy2] at c2
      rw [hy2] at c0
      obtain ⟨es, clock, hM, hhk⟩ := kids_len hT hy hy2
      have hlen := len_kids hM
      rcases hxk with h | h | h
      · rw [show givesF fs g x = 202 by unfold givesF; rw [hy]; simp [hy2, h]]
        rw [h] at d0
        clear hT hg hx hy hM hhk hyk hy2 h
        (go_enter Tryz.func59, Tryz.ntmps59)
        go_wp2
        go_ret
        exact ⟨rfl, rfl⟩
      · rw [h] at d0
        by_cases hh : hasKids fs g
        · rw [show givesF fs g x = 205 by unfold givesF; rw [hy]; simp [hy2, h, hh]]
          have hpos : (0 : Int) < (es.size : Int) := by have := hhk.1 hh; omega
          clear hT hg hx hy hM hhk hyk hy2 h hh
          (go_enter Tryz.func59, Tryz.ntmps59)
          go_wp2
          go_ret
          exact ⟨rfl, rfl⟩
        · rw [show givesF fs g x = 0 by unfold givesF; rw [hy]; simp [hy2, h, hh]]
          have hz : es = #[] := by
            apply Array.eq_empty_of_size_eq_zero
            have : ¬ 0 < es.size := fun e => hh (hhk.2 e)
            omega
          subst hz
          clear hT hg hx hy hM hhk hyk hy2 h hh
          (go_enter Tryz.func59, Tryz.ntmps59)
          go_wp2
          go_ret
          exact ⟨rfl, rfl⟩
      · rw [show givesF fs g x = 202 by unfold givesF; rw [hy]; simp [hy2, h]]
        rw [h] at d0
        clear hT hg hx hy hM hhk hyk hy2 h
        (go_enter Tryz.func59, Tryz.ntmps59)
        go_wp2
        go_ret
        exact ⟨rfl, rfl⟩
    · have hyk' : y.kind = 1 ∨ y.kind = 3 := by omega
      clear hyk
      rw [show givesF fs g x = if x.kind = 2 then 203 else 0 by unfold givesF; rw [hy]; simp [hy2]]
      rcases hyk' with h | h <;> rw [h] at c0 <;> rcases hxk with h' | h' | h' <;> rw [h'] at d0 ⊢
      all_goals
        clear hT hg hx hy hy2 h h'
        (go_enter Tryz.func59, Tryz.ntmps59)
        go_wp2
        go_ret
        exact ⟨rfl, rfl⟩
/-- Does a path stand below another? -/
def belowB (a b : ByteArray) : Bool := a.toList.isEmpty || (b.toList == a.toList) || Lib.hasPrefix b.data.toList (a ++ ⟨#[47]⟩).data.toList
set_option maxRecDepth 100000 in
set_option maxHeartbeats 16000000 in
theorem below_calls (a b : ByteArray) (w : World) (hs : a.size ≤ 4294967280) : Calls Tryz.prog 58 #[.string a, .string b] w fun e w' => e = .returned (.bool (belowB a b)) ∧ w' = w := by
  have HH := Asd.mk (Tryz.strings_HasPrefix b (a ++ ⟨#[47]⟩) w)
  cases te : a.toList.isEmpty with
  | true =>
    rw [show belowB a b = true by unfold belowB; rw [te]; rfl]
    (go_enter Tryz.func58, Tryz.ntmps58)
    go_wp2
    go_ret
    exact ⟨rfl, rfl⟩
  | false =>
    by_cases hab : b = a
    · rw [show belowB a b = true by unfold belowB; rw [hab]; simp]
      have t1 : (b.toList == a.toList) = true := by rw [hab]; simp
      clear hab
      (go_enter Tryz.func58, Tryz.ntmps58)
      go_wp2
      go_ret
      exact ⟨rfl, rfl⟩
    · have t1 : (b.toList == a.toList) = false := beq_eq_false_iff_ne.2 (fun e => hab (by have h := congrArg nb e; rwa [ByteArray.toList_eq, ByteArray.toList_eq, nb_list, nb_list] at h))
      rw [show belowB a b = Lib.hasPrefix b.data.toList (a ++ ⟨#[47]⟩).data.toList by unfold belowB; rw [te, t1]; rfl]
      obtain ⟨r, hr⟩ : ∃ r, Lib.hasPrefix b.data.toList (a ++ ⟨#[47]⟩).data.toList = r := ⟨_, rfl⟩
      rw [hr] at HH ⊢
      clear hab hr
      (go_enter Tryz.func58, Tryz.ntmps58)
      go_wp2_with fail
      refine HH.out.mono ?_
      rintro e w1 ⟨rfl, hw⟩
      have hw' := hw.symm
      subst hw'
      go_wp2
      go_ret
      exact ⟨rfl, rfl⟩
end Go.Proofs.YtiijbecklkccfaaGreatDoor.I
/- The law's sameTexts: the walk. -/
namespace Go.Proofs.YtiijbecklkccfaaGreatDoor.I
open Go.RowKit Go.Proofs.YtiijbecklkccfaaGreatDoor.B Go.Sort
set_option linter.unusedVariables false
theorem ba_eq {a b : ByteArray} (h : a.toList = b.toList) : a = b := by
  have h := congrArg nb h
  rwa [ByteArray.toList_eq, ByteArray.toList_eq, nb_list, nb_list] at h
set_option maxRecDepth 100000 in
set_option maxHeartbeats 16000000 in
theorem sameTexts_calls (L1 L2 : List ByteArray) (v1 v2 : Value) (w : World) (h1 : StrL w v1 L1) (h2 : StrL w v2 L2) (hz1 : L1.length ≤ 16777216) (hz2 : L2.length ≤ 16777216) :
    Calls Tryz.prog 20 #[v1, v2] w fun e w' => e = .returned (.bool (decide (L1 = L2))) ∧ Chg [] w w' := by
  obtain ⟨A1, c1, rfl, hc1⟩ := h1
  obtain ⟨A2, c2, rfl, hc2⟩ := h2
  have hC0 := Chg.refl [] w
  obtain ⟨R, hR⟩ : ∃ R, decide (L1 = L2) = R := ⟨_, rfl⟩
  rw [hR]
  have HR := Asd.mk hR
  clear hR
  by_cases hn : L1.length = L2.length
  · have HC1 := Asd.mk hc1
    have HC2 := Asd.mk hc2
    obtain ⟨n, hn1⟩ : ∃ n, L1.length = n := ⟨_, rfl⟩
    have hn2 : L2.length = n := by rw [← hn, hn1]
    have HN1 := Asd.mk hn1
    have HN2 := Asd.mk hn2
    rw [hn1] at hz1 ⊢
    rw [hn2] at hz2 ⊢
    clear hc1 hc2 hn hn1 hn2
    (go_enter Tryz.func20, Tryz.ntmps20)
    go_wp2
    go_loopg [5] (n + 1) (fun gk v5 wx => ∃ i : Nat, i ≤ n ∧ gk = n + 1 - i ∧ v5 = .int .i64 (i : Int) ∧ Asd (Chg [] w wx) ∧ Asd (L1.take i = L2.take i))
    case atStart => exact ⟨0, by omega, rfl, rfl, ⟨Chg.refl _ _⟩, ⟨by simp⟩⟩
    case round =>
      obtain ⟨i, hi, rfl, rfl, HC, HT⟩ := hrel
      by_cases hlt : i < n
      · have k2 : (i : Int) < (n : Int) := by omega
        have hl1 : i < L1.length := by rw [HN1.out]; exact hlt
        have hl2 : i < L2.length := by rw [HN2.out]; exact hlt
        obtain ⟨a1, rfl, d1⟩ := HC1.out i hl1
        obtain ⟨a2, rfl, d2⟩ := HC2.out i hl2
        have e1 := (HC.out.below.cell (World.block_lt_of_cell? w _ d1)).trans d1
        have e2 := (HC.out.below.cell (World.block_lt_of_cell? w _ d2)).trans d2
        obtain ⟨x, hx⟩ : ∃ x, L1[i] = x := ⟨_, rfl⟩
        obtain ⟨y, hy⟩ : ∃ y, L2[i] = y := ⟨_, rfl⟩
        rw [hx] at e1
        rw [hy] at e2
        have HX := Asd.mk hx
        have HY := Asd.mk hy
        clear d1 d2 hx hy
        by_cases hxy : x = y
        · have t1 : (x.toList == y.toList) = true := by rw [hxy]; simp
          have HT2 := Asd.mk (show L1.take (i + 1) = L2.take (i + 1) by rw [List.take_succ_eq_append_getElem hl1, List.take_succ_eq_append_getElem hl2, HT.out, HX.out, HY.out, hxy])
          clear hxy HT
          go_upto_region 6 with fail
          go_quiet (fail)
          go_wp2
          go_roundg (n + 1 - (i + 1))
          case rel => exact ⟨i + 1, by omega, by omega, by go_num, ⟨HC.out.drewN nq⟩, HT2⟩
          case measure => omega
        · have t1 : (x.toList == y.toList) = false := beq_eq_false_iff_ne.2 (fun e => hxy (ba_eq e))
          have HA := Asd.mk (show R = false by
            rw [← HR.out, decide_eq_false_iff_not]
            intro e
            apply hxy
            rw [← HX.out, ← HY.out]
            simp [e])
          clear hxy HT
          go_upto_region 6 with fail
          go_quiet (fail)
          go_wp2
          go_ret
          exact ⟨by rw [HA.out]; rfl, HC.out.drewN nq⟩
      · obtain rfl : i = n := by omega
        have HA := Asd.mk (show R = true by
          rw [← HR.out, decide_eq_true_eq]
          have := HT.out
          rw [List.take_of_length_le (by have := HN1.out; omega), List.take_of_length_le (by have := HN2.out; omega)] at this
          exact this)
        go_wp2
        go_ret
        exact ⟨by rw [HA.out]; rfl, HC.out⟩
  · have HA := Asd.mk (show R = false by
      rw [← HR.out, decide_eq_false_iff_not]
      rintro rfl
      exact hn rfl)
    have k1 : ¬ (L1.length : Int) = (L2.length : Int) := by omega
    clear hc1 hc2 hn
    (go_enter Tryz.func20, Tryz.ntmps20)
    go_wp2
    go_ret
    exact ⟨by rw [HA.out]; rfl, hC0⟩
end Go.Proofs.YtiijbecklkccfaaGreatDoor.I
/- The program's Look: the walk. -/
namespace Go.Proofs.YtiijbecklkccfaaGreatDoor.I
open Go.RowKit Go.Proofs.YtiijbecklkccfaaGreatDoor.B Go.Sort
set_option linter.unusedVariables false
theorem size_entry (a b c : Value) : (Tryz.prog.info? 41).map (·.size) = some (#[a, b, c]).size := by kernel_rfl
theorem one_entry (a b : ByteArray) (k : Int) : (#[Value.string a, .int .i64 k, .string b]).all (·.oneCell') = true := by kernel_rfl
/-- Look: the error's number; the entry. -/
def lookF (fs : FS) (s : ByteArray) : Nat × ByteArray × Nat × ByteArray := match thereE fs s with
  | .error n => (n, ⟨#[]⟩, 0, ⟨#[]⟩)
  | .ok p => match fs.at p with
    | none => (0, ⟨#[]⟩, 0, ⟨#[]⟩)
    | some x => (0, s, x.kind, x.text)
def entV (x : ByteArray × Nat × ByteArray) : Value := .agg #[.string x.1, .int .i64 (x.2.1 : Int), .string x.2.2]
set_option maxRecDepth 100000 in
set_option maxHeartbeats 16000000 in
theorem look_calls (L : List Nat) (t : Nat) (fs : FS) (by' nd : Nat) (A M : Pth → Nat) (s : ByteArray) (w : World) (hT : TabAt w L t fs by' nd A M) (hg : FsOk fs) (hm : MaxLenAt w) (hs : s.size ≤ 4294967280) :
    Calls Tryz.prog 27 #[(.pointer (some ⟨t, 0, none⟩)), .string s] w fun e w' => e = .returned (.tuple #[entV (lookF fs s).2, errV (lookF fs s).1]) ∧ Chg [] w w' := by
  have HC0 := Asd.mk (show Chg [] w (w.alloc (.cells #[.string ⟨#[]⟩, .int .i64 0, .string ⟨#[]⟩] 41)) from (Chg.refl _ _).alloc _)
  have hT0 := hT.keep0 HC0.out
  have HP := Asd.mk (there_calls L t fs by' nd A M s (w.alloc (.cells #[.string ⟨#[]⟩, .int .i64 0, .string ⟨#[]⟩] 41)) hT0 hg (hm.chg HC0.out) hs)
  have HZ0 := Asd.mk (hp_new w (.cells #[.string ⟨#[]⟩, .int .i64 0, .string ⟨#[]⟩] 41))
  obtain ⟨B, hB⟩ : ∃ B, w.heap.size = B := ⟨_, rfl⟩
  rw [hB] at HZ0
  have hBw : ¬ B < w.heap.size := by omega
  obtain ⟨R, hR⟩ : ∃ R, thereE fs s = R := ⟨_, rfl⟩
  rw [hR] at HP
  cases R with
  | error n =>
    have HA := Asd.mk (show lookF fs s = (n, ⟨#[]⟩, 0, ⟨#[]⟩) by unfold lookF; rw [hR])
    have HN := Asd.mk (thereE_pos hR)
    clear hR hT hg hm hT0
    go_enter Tryz.func27, Tryz.ntmps27
    go_wp2_with fail
    refine HP.out.mono ?_
    rintro e w1 ⟨⟨d, l, k, rfl⟩, hC1⟩
    have HZ1 := Asd.mk (hC1.heap HZ0.out (by simp))
    have HC1 := Asd.mk (HC0.out.trans hC1)
    have HZ := Asd.mk (hp_alloc HZ1.out (.cells #[.pointer d, .string l, .pointer k] 79))
    clear hC1
    go_wp2_with (first | (refine wpList_store_row (o := ⟨none, _, _, _, _, _⟩) rfl 41 (.tmp 4) (.tmp 16) rfl B _ rfl rfl 41 _ HZ.out (size_entry _ _ _) rfl (one_entry _ _ _) ?_))
    refine bodyPost_ret (results_row_tmp rfl _ _ B 41 _ (0, 0) _ rfl (setRow_heap _ _ _ _ _ _ HZ.out) Tryz.underlying41 rfl (size_entry _ _ _)) rfl ?_
    exact ⟨by rw [HA.out]; simp only [errV]; rw [if_neg HN.out]; rfl, (HC1.out.alloc _).setRow (by omega) _⟩
  | ok p =>
    obtain ⟨x, hx⟩ := thereE_ok hR
    have HA := Asd.mk (show lookF fs s = (0, s, x.kind, x.text) by unfold lookF; rw [hR]; simp only; rw [hx])
    clear hR hm hg hT
    go_enter Tryz.func27, Tryz.ntmps27
    go_wp2_with fail
    refine HP.out.mono ?_
    rintro e w1 ⟨hPo, hC1⟩
    have hPo2 : e = .returned (.tuple #[.agg #[.pointer (dirA A p), .string (lastS p), .pointer (some ⟨A p, 0, none⟩)], .nilIface]) := hPo
    subst hPo2
    obtain ⟨dp, hdp⟩ : ∃ d, dirA A p = d := ⟨_, rfl⟩
    obtain ⟨ls, hls⟩ : ∃ d, lastS p = d := ⟨_, rfl⟩
    rw [hdp, hls]
    have HZ1 := Asd.mk (hC1.heap HZ0.out (by simp))
    have HC1 := Asd.mk (HC0.out.trans hC1)
    have HTT := Asd.mk (hT0.keep0 hC1)
    clear hC1 hPo HP hdp hls hT0
    go_upto_region 4 with fail
    refine wp_opaque2 (fun W hW => ?_)
    have HCW := Asd.mk (show Chg [] w W by rw [hW]; exact HC1.out.alloc _)
    have HB := Asd.mk (show W.heap[w1.heap.size]? = some (.cells #[.pointer dp, .string ls, .pointer (some ⟨A p, 0, none⟩)] 79 (0, 0)) by rw [hW]; exact hp_new _ _)
    have HZ := Asd.mk (show W.heap[B]? = some (.cells #[.string ⟨#[]⟩, .int .i64 0, .string ⟨#[]⟩] 41 (0, 0)) by rw [hW]; exact hp_alloc HZ1.out _)
    have hno := hp_alloc (HTT.out.node p x hx) (.cells #[.pointer dp, .string ls, .pointer (some ⟨A p, 0, none⟩)] 79)
    rw [← hW] at hno
    obtain ⟨D, hD⟩ : ∃ D, w1.heap.size = D := ⟨_, rfl⟩
    rw [hD] at HB ⊢
    have b2 := cell_of_heap HB.out 2
    have c0 := cell_of_heap hno 0
    have c1 := cell_of_heap hno 1
    clear hW HC1 hD hno hx HTT
    go_still_tail 12, (by kernel_rfl)
    go_wp2_with (first | (refine wpList_store_row (o := ⟨none, _, _, _, _, _⟩) rfl 41 (.tmp 4) (.tmp 29) rfl B _ rfl rfl 41 _ HZ.out (size_entry _ _ _) rfl (one_entry _ _ _) ?_))
    refine bodyPost_ret (results_row_tmp rfl _ _ B 41 _ (0, 0) _ rfl (hp_drew (setRow_heap _ _ _ _ _ _ HZ.out)) Tryz.underlying41 rfl (size_entry _ _ _)) rfl ?_
    exact ⟨by rw [HA.out]; rfl, (HCW.out.setRow (by omega) _).drew⟩
end Go.Proofs.YtiijbecklkccfaaGreatDoor.I
/- Two entries: are they the same? The model's '==' of a struct of a text, a number, a text. -/
namespace Go.Proofs.YtiijbecklkccfaaGreatDoor.I
open Go.RowKit Go.Proofs.YtiijbecklkccfaaGreatDoor.B Go.Sort
set_option linter.unusedVariables false
theorem fld_more {P : Program} {d : Nat} {xs ys : Array Value} {f : Field} {fs : List Field} {a b : Value} {r s : Bool} {w : World} (hn : (f.name == "_") = false) (ha : (part f.type xs f.offset).run P w = .ok a w) (hb : (part f.type ys f.offset).run P w = .ok b w) (he : (Op.equalIn d f.type a b).run P w = .ok r w) (hr : (Op.eqFields d xs ys fs).run P w = .ok s w) : (Op.eqFields d xs ys (f :: fs)).run P w = .ok (r && s) w := by
  have hn' : f.name ≠ "_" := by simpa using hn
  rw [Op.eqFields]
  simp only [if_pos hn', Sem.run_bind, ha, hb, he, Result.andThen_ok]
  cases r
  · simp
  · simpa using hr
theorem struct_of {P : Program} {d : Nat} {xs ys : Array Value} {t : TypeId} {fs : Array Field} {r : Bool} {w : World} (hu : P.underlying t = some (.struct fs)) (hp : P.stoodInHeld t = false) (h : (Op.eqFields d xs ys fs.toList).run P w = .ok r w) : (Op.equalIn (d + 1) t (.agg xs) (.agg ys)).run P w = .ok r w := by
  have hf : P.fieldsOf t = fs := by simp [Program.fieldsOf, hu]
  rw [run_equalIn_struct (P := P) w d t xs ys (by rw [hf]; exact hu) hp, hf]
  exact h
theorem eqEnt (d : Nat) (w : World) (a b : ByteArray) (k l : Int) (s t : ByteArray) :
    (Op.equalIn (d + 2) 41 (.agg #[.string a, .int .i64 k, .string s]) (.agg #[.string b, .int .i64 l, .string t])).run Tryz.prog w = .ok ((a.toList == b.toList) && ((k == l) && ((s.toList == t.toList) && true))) w := by
  refine struct_of Tryz.underlying41 (by kernel_rfl) ?_
  refine fld_more (by rfl) (by go_simp; rfl) (by go_simp; rfl) (by go_simp) ?_
  refine fld_more (by rfl) (by go_simp; rfl) (by go_simp; rfl) (by go_simp) ?_
  refine fld_more (by rfl) (by go_simp; rfl) (by go_simp; rfl) (by go_simp) ?_
  simp [Op.eqFields]
end Go.Proofs.YtiijbecklkccfaaGreatDoor.I
/- The law's sameEntries: the walk. -/
namespace Go.Proofs.YtiijbecklkccfaaGreatDoor.I
open Go.RowKit Go.Proofs.YtiijbecklkccfaaGreatDoor.B Go.Sort
set_option linter.unusedVariables false
abbrev Ent := ByteArray × Nat × ByteArray
/-- A row of entries in memory. -/
def EntL (w : World) (v : Value) (E : List Ent) : Prop := ∃ A c, v = .slice A E.length c ∧ ∀ i, (h : i < E.length) → ∃ g, A = some ⟨g, 0, none⟩ ∧
  w.cell? ⟨g, i * 3, none⟩ = some (.string (E[i]'h).1) ∧ w.cell? ⟨g, i * 3 + 1, none⟩ = some (.int .i64 ((E[i]'h).2.1 : Int)) ∧ w.cell? ⟨g, i * 3 + 2, none⟩ = some (.string (E[i]'h).2.2)
theorem load_entry {w : World} {g o : Nat} {a b c : Value} (h0 : w.cell? ⟨g, o, none⟩ = some a) (h1 : w.cell? ⟨g, o + 1, none⟩ = some b) (h2 : w.cell? ⟨g, o + 2, none⟩ = some c) : (loadVar 41 ⟨g, o, none⟩).run Tryz.prog w = .ok (.agg #[a, b, c]) w := by
  have hl : (loadCells ⟨g, o, none⟩ [a, b, c].length).run Tryz.prog w = .ok [a, b, c].toArray w :=
    run_loadCells_list (P := Tryz.prog) w ⟨g, o, none⟩ [a, b, c] (fun j v hv => by
      have hadd : (⟨g, o, none⟩ : Addr).add j = ⟨g, o + j, none⟩ := by unfold Addr.add; split <;> simp_all
      rw [hadd]
      match j, hv with
      | 0, hv => simp at hv; rw [← hv]; exact h0
      | 1, hv => simp at hv; rw [← hv]; exact h1
      | 2, hv => simp at hv; rw [← hv]; exact h2
      | j + 3, hv => simp at hv)
  have hi := size_entry a b c
  cases hq : Tryz.prog.info? 41 with
  | none => simp [hq] at hi
  | some i =>
    have hs : i.size = 3 := by simpa [hq] using hi
    have hagg : (isAgg 41).run Tryz.prog w = .ok true w := by
      unfold isAgg
      rw [Sem.run_bind, run_underlying Tryz.underlying41 w]
      rfl
    simp only [List.length_cons, List.length_nil] at hl
    simp [loadVar, Sem.run_bind, hagg, sizeOf, typeInfo, hq, hs, hl]
theorem neqEnt (w : World) (a b : ByteArray) (k l : Int) (s t : ByteArray) (r : Bool) (hr : ((a.toList == b.toList) && ((k == l) && ((s.toList == t.toList) && true))) = r) :
    (binOp .neq 41 (.agg #[.string a, .int .i64 k, .string s]) (.agg #[.string b, .int .i64 l, .string t])).run Tryz.prog w = .ok (.bool (!r)) w := by
  have h := eqEnt 9998 w a b k l s t
  rw [hr] at h
  simp only [binOp]
  simp [Op.equal, Op.maxDepth, h]
theorem eqEnt2 (d : Nat) (w : World) (a b : ByteArray) (k l : Int) (s t : ByteArray) :
    (Op.equalIn (d + 2) 41 (.agg #[.string a, .int .i64 k, .string s]) (.agg #[.string b, .int .i64 l, .string t])).run Tryz.prog w = .ok (a.toList == b.toList && (k == l && s.toList == t.toList)) w := by
  rw [eqEnt, Bool.and_true]
attribute [local go_sem high] eqEnt2
set_option maxRecDepth 100000 in
set_option maxHeartbeats 16000000 in
theorem sameEntries_calls (E1 E2 : List Ent) (v1 v2 : Value) (w : World) (h1 : EntL w v1 E1) (h2 : EntL w v2 E2) (hz1 : E1.length ≤ 16777216) (hz2 : E2.length ≤ 16777216) :
    Calls Tryz.prog 14 #[v1, v2] w fun e w' => e = .returned (.bool (decide (E1 = E2))) ∧ Chg [] w w' := by
  obtain ⟨A1, c1, rfl, hc1⟩ := h1
  obtain ⟨A2, c2, rfl, hc2⟩ := h2
  have hC0 := Chg.refl [] w
  obtain ⟨R, hR⟩ : ∃ R, decide (E1 = E2) = R := ⟨_, rfl⟩
  rw [hR]
  have HR := Asd.mk hR
  clear hR
  by_cases hn : E1.length = E2.length
  · have HC1 := Asd.mk hc1
    have HC2 := Asd.mk hc2
    obtain ⟨n, hn1⟩ : ∃ n, E1.length = n := ⟨_, rfl⟩
    have hn2 : E2.length = n := by rw [← hn, hn1]
    have HN1 := Asd.mk hn1
    have HN2 := Asd.mk hn2
    rw [hn1] at hz1 ⊢
    rw [hn2] at hz2 ⊢
    clear hc1 hc2 hn hn1 hn2
    (go_enter Tryz.func14, Tryz.ntmps14)
    go_wp2
    go_loopg [5] (n + 1) (fun gk v5 wx => ∃ i : Nat, i ≤ n ∧ gk = n + 1 - i ∧ v5 = .int .i64 (i : Int) ∧ Asd (Chg [] w wx) ∧ Asd (E1.take i = E2.take i))
    case atStart => exact ⟨0, by omega, rfl, rfl, ⟨Chg.refl _ _⟩, ⟨by simp⟩⟩
    case round =>
      obtain ⟨i, hi, rfl, rfl, HC, HT⟩ := hrel
      by_cases hlt : i < n
      · have k2 : (i : Int) < (n : Int) := by omega
        have hl1 : i < E1.length := by rw [HN1.out]; exact hlt
        have hl2 : i < E2.length := by rw [HN2.out]; exact hlt
        obtain ⟨g1, rfl, d1, d2, d3⟩ := HC1.out i hl1
        obtain ⟨g2, rfl, f1, f2, f3⟩ := HC2.out i hl2
        have mv : ∀ {p : Addr} {v : Value}, w.cell? p = some v → wr.cell? p = some v := fun h => (HC.out.below.cell (World.block_lt_of_cell? w _ h)).trans h
        have e1 := fun k => load_entry (w := wr.drewN k) (mv d1) (mv d2) (mv d3)
        have e2 := fun k => load_entry (w := wr.drewN k) (mv f1) (mv f2) (mv f3)
        obtain ⟨x, hx⟩ : ∃ x, E1[i] = x := ⟨_, rfl⟩
        obtain ⟨y, hy⟩ : ∃ y, E2[i] = y := ⟨_, rfl⟩
        have p1 := mv d1
        have p2 := mv d2
        have p3 := mv d3
        have q1 := mv f1
        have q2 := mv f2
        have q3 := mv f3
        clear e1 e2
        rw [hx] at p1 p2 p3
        rw [hy] at q1 q2 q3
        have HX := Asd.mk hx
        have HY := Asd.mk hy
        clear d1 d2 d3 f1 f2 f3 mv hx hy
        by_cases hxy : x = y
        · have t1 : (x.1.toList == y.1.toList && ((x.2.1 : Int) == (y.2.1 : Int) && x.2.2.toList == y.2.2.toList)) = true := by rw [hxy]; simp
          have HT2 := Asd.mk (show E1.take (i + 1) = E2.take (i + 1) by rw [List.take_succ_eq_append_getElem hl1, List.take_succ_eq_append_getElem hl2, HT.out, HX.out, HY.out, hxy])
          clear hxy HT
          go_upto_region 6 with fail
          go_quiet (fail)
          go_wp2
          go_roundg (n + 1 - (i + 1))
          case rel => exact ⟨i + 1, by omega, by omega, by go_num, ⟨HC.out.drewN nq⟩, HT2⟩
          case measure => omega
        · have t1 : (x.1.toList == y.1.toList && ((x.2.1 : Int) == (y.2.1 : Int) && x.2.2.toList == y.2.2.toList)) = false := by
            cases hb : (x.1.toList == y.1.toList && ((x.2.1 : Int) == (y.2.1 : Int) && x.2.2.toList == y.2.2.toList)) with
            | false => rfl
            | true =>
              exfalso
              simp only [Bool.and_eq_true, beq_iff_eq] at hb
              exact hxy (Prod.ext (ba_eq hb.1) (Prod.ext (by have := hb.2.1; omega) (ba_eq hb.2.2)))
          have HA := Asd.mk (show R = false by
            rw [← HR.out, decide_eq_false_iff_not]
            intro e
            apply hxy
            rw [← HX.out, ← HY.out]
            simp [e])
          clear hxy HT
          go_upto_region 6 with fail
          go_quiet (fail)
          go_wp2
          go_ret
          exact ⟨by rw [HA.out]; rfl, HC.out.drewN nq⟩
      · obtain rfl : i = n := by omega
        have HA := Asd.mk (show R = true by
          rw [← HR.out, decide_eq_true_eq]
          have := HT.out
          rw [List.take_of_length_le (by have := HN1.out; omega), List.take_of_length_le (by have := HN2.out; omega)] at this
          exact this)
        go_wp2
        go_ret
        exact ⟨by rw [HA.out]; rfl, HC.out⟩
  · have HA := Asd.mk (show R = false by
      rw [← HR.out, decide_eq_false_iff_not]
      rintro rfl
      exact hn rfl)
    have k1 : ¬ (E1.length : Int) = (E2.length : Int) := by omega
    clear hc1 hc2 hn
    (go_enter Tryz.func14, Tryz.ntmps14)
    go_wp2
    go_ret
    exact ⟨by rw [HA.out]; rfl, hC0⟩
end Go.Proofs.YtiijbecklkccfaaGreatDoor.I
/- A loop over a map of pointers: which entries have come; what is left. -/
namespace Go.Proofs.YtiijbecklkccfaaGreatDoor.B
open Go.RowKit
set_option linter.unusedVariables false
theorem nodup_of_map {α β : Type} {f : α → β} {l : List α} (h : (l.map f).Nodup) : l.Nodup := (List.pairwise_map.1 h).imp fun h e => h (congrArg f e)
theorem map_inj_on {α : Type} {f : α → Nat} : ∀ {l : List α}, (l.map f).Nodup → ∀ {a b : α}, a ∈ l → b ∈ l → f a = f b → a = b
  | [], _, _, _, h, _, _ => by cases h
  | x :: l, hd, a, b, ha, hb, e => by
    simp only [List.map_cons, List.nodup_cons] at hd
    rcases List.mem_cons.1 ha with h1 | h1 <;> rcases List.mem_cons.1 hb with h2 | h2
    · rw [h1, h2]
    · exact absurd (List.mem_map.2 ⟨b, h2, by rw [← e, h1]⟩) hd.1
    · exact absurd (List.mem_map.2 ⟨a, h1, by rw [e, h2]⟩) hd.1
    · exact map_inj_on hd.2 h1 h2 e
/-- What has come so far. -/
def Rg (es : Array MapEntry) (seen : Array Nat) (Z : List (Nm × Value)) : Prop :=
  ∃ S : List MapEntry, (S.map (·.born)).Nodup ∧ seen.toList = S.map (·.born) ∧ (∀ e ∈ S, e ∈ es.toList) ∧ S.map (fun e => (e.key, e.val)) = Z.map fun x => (Value.string (nb x.1), x.2)
theorem rg_nil (es : Array MapEntry) : Rg es #[] [] := ⟨[], by simp, rfl, by simp, rfl⟩
def unN (x : Value × Value) : Nm × Value := match x.1 with | .string s => (s.data.toList, x.2) | _ => ([], x.2)
theorem unN_map (Z : List (Nm × Value)) : (Z.map fun x => (Value.string (nb x.1), x.2)).map unN = Z := by
  rw [List.map_map]
  refine (List.map_congr_left fun x _ => ?_).trans (List.map_id Z)
  simp [unN, list_nb]
theorem rg_end {es : Array MapEntry} {clock : Nat} {K Z : List (Nm × Value)} {seen : Array Nat} (hK : MKids es clock K) (hZ : Rg es seen Z) (h0 : (leftOf es seen).size = 0) : Z.Perm K := by
  obtain ⟨S, h1, h2, h3, h4⟩ := hZ
  have hp : S.Perm es.toList := by
    refine (List.perm_ext_iff_of_nodup (nodup_of_map h1) (nodup_of_map hK.born)).2 fun e => ⟨h3 e, fun he => ?_⟩
    have hc : e.born ∈ seen.toList := by
      have hno : e ∉ (leftOf es seen).toList := by
        have : (leftOf es seen).toList = [] := by
          apply List.eq_nil_of_length_eq_zero
          simpa using h0
        rw [this]; simp
      unfold leftOf at hno
      simp only [Array.toList_filter, List.mem_filter, not_and, Bool.not_eq_true, Bool.not_eq_false'] at hno
      have := hno he
      simpa using this
    rw [h2] at hc
    obtain ⟨e2, he2, hb⟩ := List.mem_map.1 hc
    rw [map_inj_on hK.born he (h3 _ he2) hb.symm]
    exact he2
  have := (hp.map fun e => (e.key, e.val)).map unN
  rw [h4, hK.ents, unN_map, unN_map] at this
  exact this
theorem rg_push {es : Array MapEntry} {clock : Nat} {K Z : List (Nm × Value)} {seen : Array Nat} {e : MapEntry} {n : Nm} {v : Value} (hK : MKids es clock K) (hZ : Rg es seen Z) (he : e ∈ (leftOf es seen).toList) (hkey : e.key = .string (nb n)) (hval : e.val = v) : Rg es (seen.push e.born) (Z ++ [(n, v)]) := by
  obtain ⟨S, h1, h2, h3, h4⟩ := hZ
  unfold leftOf at he
  simp only [Array.toList_filter, List.mem_filter] at he
  obtain ⟨he1, he2⟩ := he
  have hn : e.born ∉ S.map (·.born) := by
    rw [← h2]
    intro hm
    simp at he2
    exact he2 (by simpa using hm)
  refine ⟨S ++ [e], ?_, ?_, ?_, ?_⟩
  · rw [List.map_append, List.nodup_append]
    refine ⟨h1, by simp, fun a ha b hb => ?_⟩
    simp only [List.map_cons, List.map_nil, List.mem_singleton] at hb
    rw [hb]
    rintro rfl
    exact hn ha
  · simp [h2]
  · intro x hx
    rcases List.mem_append.1 hx with h | h
    · exact h3 x h
    · simp only [List.mem_singleton] at h
      rw [h]; exact he1
  · rw [List.map_append, List.map_append, h4]
    simp [hkey, hval]
/-- One round's 'next': the end, all have come; or one more comes. -/
theorem rg_next {P : Program} {w : World} (ty : TypeId) {r bm clock : Nat} {seen : Array Nat} {es : Array MapEntry} {K Z : List (Nm × Value)} (hr : w.heap[r]? = some (.mapIter (some bm) clock seen clock)) (hb : w.heap[bm]? = some (.map es clock)) (hK : MKids es clock K) (hZ : Rg es seen Z) :
    (Z.Perm K ∧ (Instr.next (.pointer (some ⟨r, 0, none⟩)) false ty).run P w = .ok (.tuple #[.bool false]) w) ∨
    ∃ (n : Nm) (v : Value) (b : Nat) (w1 : World), (w1 = w ∨ w1 = w.drew) ∧ (n, v) ∈ K ∧ (Instr.next (.pointer (some ⟨r, 0, none⟩)) false ty).run P w = .ok (.tuple #[.bool true, .string (nb n), v]) (Go.ChangeMaps.setBlock w1 r (.mapIter (some bm) clock (seen.push b) clock)) ∧ Rg es (seen.push b) (Z ++ [(n, v)]) ∧ (leftOf es (seen.push b)).size < (leftOf es seen).size ∧
      ∀ W : World, W.heap[r]? = some (.mapIter (some bm) clock (seen.push b) clock) → W.heap[bm]? = some (.map es clock) → (Instr.entry (.pointer (some ⟨r, 0, none⟩))).run P W = .ok (.tuple #[.string (nb n), v]) W := by
  rcases Go.run_next_at w ty r bm clock clock seen es clock hr hb hK.older (Nat.le_refl _) with ⟨h0, h1⟩ | ⟨e, he, w1, hw, h1⟩
  · exact .inl ⟨rg_end hK hZ h0, h1⟩
  · have hm : e ∈ es.toList := by
      unfold leftOf at he
      simp only [Array.toList_filter, List.mem_filter] at he
      exact he.1
    have hx : (e.key, e.val) ∈ K.map fun x => (Value.string (nb x.1), x.2) := by rw [← hK.ents]; exact List.mem_map.2 ⟨e, hm, rfl⟩
    obtain ⟨⟨n, v⟩, hin, hx⟩ := List.mem_map.1 hx
    simp only [Prod.mk.injEq] at hx
    refine .inr ⟨n, v, e.born, w1, hw, hin, by rw [h1, ← hx.1, ← hx.2], rg_push hK hZ he hx.1.symm hx.2.symm, left_shrinks es seen e he, fun W hr2 hb2 => ?_⟩
    rw [Go.run_entry_at W r bm clock seen es clock e hr2 hb2 hm hK.born, ← hx.1, ← hx.2]
end Go.Proofs.YtiijbecklkccfaaGreatDoor.B
