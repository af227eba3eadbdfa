/- Merged out of these texts: INames, IList, Look, Sys, Ways. -/
import Derived.Test.YtiijbecklkccfaaDoorDp7
import Derived.Test.YtiijbecklkccfaaDoorDp9
import Derived.Test.YtiijbecklkccfaaDoorDp5
/- The program's names: a directory's names, in order. The walk: a loop over a map that collects; a sort. -/
namespace Go.Proofs.YtiijbecklkccfaaDoor.I
open Go.RowKit Go.Proofs.YtiijbecklkccfaaDoor.B Go.Sort
set_option linter.unusedVariables false
def keysZ (Z : List (Nm × Value)) : List ByteArray := Z.map fun z => nb z.1
def sortN (l : List Nm) : List Nm := l.mergeSort fun x y => decide (x ≤ y)
/-- A row of names, its own block at or above b: some order in which the names came, sorted. -/
def RowN (fs : FS) (p : Pth) (b : Nat) (w' : World) (v : Value) : Prop := ∃ l : List Nm, l.Nodup ∧ (∀ k, k ∈ l ↔ fs.at (p ++ [k]) ≠ none) ∧ w'.ownsRow b 9 1 v l.length ((sortN l).map fun n => Value.string (nb n))
theorem own_none (w : World) (b : Nat) : w.ownsRow b 9 1 (.slice none 0 0) ([] : List Nm).length ((sortN []).map fun n => Value.string (nb n)) := ⟨by simp [sortN], .inl ⟨rfl, rfl⟩⟩
/-- The answer of names. -/
def NamesPost (fs : FS) (p : Pth) (b : Nat) (e : Ending) (w' : World) : Prop := ∃ v, e = .returned v ∧ RowN fs p b w' v
theorem own_mono {w : World} {a b : Nat} {t : TypeId} {v : Value} {n : Nat} {xs : List Value} (h : w.ownsRow b t 1 v n xs) (hab : a ≤ b) : w.ownsRow a t 1 v n xs := by
  obtain ⟨h1, h2⟩ := h
  refine ⟨h1, ?_⟩
  rcases h2 with h2 | ⟨g, cap, cur, hv, hb, hr⟩
  · exact .inl h2
  · exact .inr ⟨g, cap, cur, hv, Nat.le_trans hab hb, hr⟩
theorem own_chg {w w' : World} {b : Nat} {t : TypeId} {v : Value} {n : Nat} {xs : List Value} {K : List Nat} (h : w.ownsRow b t 1 v n xs) (hC : Chg K w w') (hK : ∀ i ∈ K, i < b ∨ w.heap.size ≤ i) : w'.ownsRow b t 1 v n xs := by
  obtain ⟨h1, h2⟩ := h
  refine ⟨h1, ?_⟩
  rcases h2 with h2 | ⟨g, cap, cur, hv, hb, hg, hr⟩
  · exact .inl h2
  · refine .inr ⟨g, cap, cur, hv, hb, hC.heap hg (fun h => ?_), hr⟩
    have h3 := lt_of_heap hg
    rcases hK g h with h4 | h4 <;> omega
theorem nodup_len' {α : Type} [BEq α] [LawfulBEq α] : ∀ {l m : List α}, l.Nodup → (∀ a ∈ l, a ∈ m) → l.length ≤ m.length
  | [], _, _, _ => Nat.zero_le _
  | a :: l, m, hd, hs => by
    rw [List.nodup_cons] at hd
    have h1 := nodup_len' (l := l) (m := m.erase a) hd.2 (fun b hb => (List.mem_erase_of_ne (fun e => hd.1 (by rw [← e]; exact hb))).2 (hs b (List.mem_cons_of_mem _ hb)))
    have h2 := hs a (by simp)
    rw [List.length_erase_of_mem h2] at h1
    have := List.length_pos_of_mem h2
    simp only [List.length_cons]
    omega
theorem sorted_heap {wr : World} {g : Nat} {cur : Array Value} {t : TypeId} {fr : Nat × Nat} (hg : wr.heap[g]? = some (.cells cur t fr)) (d : Array (List UInt8)) (n : Nat) (os : Array Obj) :
    (grow (putRow encStr (Sort.ahead wr n) g 0 d) os).heap[g]? = some (.cells (putCells encStr 0 d cur) t fr) := by
  have hlt := heap_size_lt hg
  show ((wr.heap.modify g _) ++ os)[g]? = _
  rw [Array.getElem?_append_left (by simpa using hlt), Array.getElem?_modify, if_pos rfl, hg]
  rfl
theorem sorted_chg {w wr : World} (hC : Chg [] w wr) {g : Nat} (hge : w.heap.size ≤ g) (d : Array (List UInt8)) (n : Nat) (os : Array Obj) : Chg [] w (grow (putRow encStr (Sort.ahead wr n) g 0 d) os) := by
  refine ⟨hC.os, hC.tape, hC.output, ?_, fun i hi hn => ?_⟩
  · have := hC.size
    simp
    show w.heap.size ≤ wr.heap.size + os.size
    omega
  · have h1 := hC.size
    show ((wr.heap.modify g _) ++ os)[i]? = _
    rw [Array.getElem?_append_left (by simp; omega), Array.getElem?_modify, if_neg (by omega)]
    exact hC.block i hi hn
theorem put_read (d : Array (List UInt8)) (cur : Array Value) (h : d.size ≤ cur.size) (i : Nat) (hi : i < d.size) : (putCells encStr 0 d cur)[i]? = some (encStr d[i]!) := by
  unfold putCells
  rw [Array.getElem?_mapIdx, Array.getElem?_eq_getElem (by omega)]
  simp [hi]
theorem encStr_nb (n : Nm) : encStr n = .string (nb n) := rfl
set_option maxRecDepth 100000 in
set_option maxHeartbeats 16000000 in
theorem names_calls (L : List Nat) (t : Nat) (fs : FS) (by' nd : Nat) (A M : Pth → Nat) (hg : FsOk fs) (hr : Room fs by' nd) (p : Pth) (x : Nd) (w : World) (hx : fs.at p = some x) (hT : TabAt w L t fs by' nd A M) :
    Calls Tryd.prog 35 #[(.pointer (some ⟨A p, 0, none⟩))] w fun e w' => NamesPost fs p w.heap.size e w' ∧ Chg [] w w' := by
  have c2 := cell_of_heap (hT.node p x hx) 2
  have hCw := Chg.refl [] w
  by_cases hk : x.kind = 2
  · rw [if_pos hk] at c2
    obtain ⟨es, clock, K, hK1, hK2, hK3⟩ := hT.kids p x hx hk
    have hrg := run_range_map (P := Tryd.prog) w 50 _ _ (M p) es clock Tryd.underlying50 hK1
    have HES := Asd.mk (show es.size ≤ 65536 by
      have h1 : es.size = K.length := by simpa using congrArg List.length hK2.ents
      have h2 : (K.map fun z => p ++ [z.1]).length ≤ (fs.map (·.1)).length := by
        refine nodup_len' ?_ ?_
        · have h3 : (K.map fun z => p ++ [z.1]) = (K.map (·.1)).map fun k => p ++ [k] := by rw [List.map_map]; rfl
          rw [h3]
          exact List.pairwise_map.2 (hK2.keys.imp fun h e => h (snoc_inj e).2)
        · intro a ha
          obtain ⟨z, hz, rfl⟩ := List.mem_map.1 ha
          have h4 := mem_lookup_kid hK2.keys (n := z.1) (v := z.2) hz
          rw [hK3] at h4
          cases h5 : fs.at (p ++ [z.1]) with
          | none => rw [h5] at h4; cases h4
          | some y =>
            rw [at_ne fs (by simp)] at h5
            exact List.mem_map.2 ⟨_, lookup_mem h5, rfl⟩
      have := hr.n
      have := hr.count
      rw [List.length_map, List.length_map] at h2
      omega)
    have HK1 := Asd.mk hK1
    have HK2 := Asd.mk hK2
    have HK3 := Asd.mk hK3
    clear hx hK1 hK2 hK3 hk hT
    go_enter Tryd.func35, Tryd.ntmps35
    go_wp2
    go_loopg [3, 4] ((leftOf es #[]).size + 1) (fun gk v3 _ wx => ∃ (seen : Array Nat) (Z : List (Nm × Value)), gk = (leftOf es seen).size + 1 ∧ Z.length + (leftOf es seen).size ≤ es.size ∧ Asd (Rg es seen Z) ∧ Asd (wx.heap[w.heap.size]? = some (.mapIter (some (M p)) clock seen clock)) ∧ Asd (Chg [] w wx) ∧ Asd (wx.ownsRow (w.heap.size + 1) 9 1 v3 (keysZ Z).length ((keysZ Z).map Value.string)))
    case atStart => exact ⟨#[], [], rfl, by simp only [List.length_nil, Nat.zero_add]; exact Array.size_filter_le, ⟨rg_nil es⟩, ⟨hp_new _ _⟩, ⟨(Chg.refl _ _).alloc _⟩, ⟨⟨by simp [keysZ], .inl ⟨rfl, rfl⟩⟩⟩⟩
    case round =>
      obtain ⟨seen, Z, rfl, hzl, HZ, HI, HC, HO⟩ := hrel
      rcases rg_next (P := Tryd.prog) (w := wr) 0 HI.out (HC.out.heap HK1.out (by simp)) HK2.out HZ.out with ⟨hper, hrun⟩ | ⟨n, v, b, w2, hw2, hin, hrun, hZ2, hlt, hent⟩
      · obtain ⟨l, hl⟩ : ∃ l, Z.map (·.1) = l := ⟨_, rfl⟩
        have hkz : keysZ Z = l.map nb := by rw [← hl, List.map_map]; rfl
        have hpk : l.Perm (K.map (·.1)) := by rw [← hl]; exact hper.map _
        have HL := Asd.mk (show l.Nodup ∧ ∀ k, k ∈ l ↔ fs.at (p ++ [k]) ≠ none from ⟨hpk.nodup_iff.2 HK2.out.keys, fun k => by
          rw [hpk.mem_iff, List.mem_map]
          constructor
          · rintro ⟨z, hz, rfl⟩ e
            have h4 := mem_lookup_kid HK2.out.keys (n := z.1) (v := z.2) hz
            rw [HK3.out, e] at h4
            cases h4
          · intro hk
            cases hz : fs.at (p ++ [k]) with
            | none => exact absurd hz hk
            | some y =>
              have h4 := HK3.out k
              rw [hz] at h4
              exact ⟨_, lookup_mem_kid h4, rfl⟩⟩)
        have hll : l.length ≤ 65536 := by
          have h1 : es.size = K.length := by simpa using congrArg List.length HK2.out.ents
          have h2 := hpk.length_eq
          rw [List.length_map] at h2
          have := HES.out
          omega
        have hO := HO.out
        rw [hkz, List.length_map, List.map_map] at hO
        obtain ⟨h1, h2⟩ := hO
        rcases h2 with ⟨rfl, h0⟩ | ⟨g, cap, cur, rfl, hb, hgc, hn, hc, hsz, ht⟩
        · have hl0 : l = [] := List.eq_nil_of_length_eq_zero h0
          have hso := Asd.mk (Tryd.slices_Sort_string_none none 0 wr)
          have HCC := Asd.mk HC.out
          clear hper HI HZ HO HC HK1 HK2 HK3 hkz hl hpk h1 h0
          go_wp2_with fail
          refine hso.out.mono ?_
          rintro e w2 ⟨rfl, hw2⟩
          have hw2' := hw2.symm
          subst hw2'
          go_wp2
          go_ret
          exact ⟨⟨_, rfl, l, HL.out.1, HL.out.2, by rw [hl0]; exact own_none _ _⟩, HCC.out⟩
        · have hcs : l.length ≤ cur.size := by
            have := congrArg List.length ht
            simp at this
            omega
          have hH : Holds encStr wr g 0 l.toArray := fun j hj => by
            have hj : j < l.length := by simpa using hj
            refine ⟨?_, frozen_of_heap hgc (0 + j)⟩
            rw [cell_of_heap hgc, Nat.zero_add]
            have h3 : (cur.toList.take (l.length * 1))[j]? = (l.map (Value.string ∘ nb))[j]? := by rw [ht]
            rw [List.getElem?_take_of_lt (by omega), List.getElem?_map, List.getElem?_eq_getElem hj] at h3
            simp [encStr_nb, hj]
            simpa using h3
          have hso := Asd.mk (Tryd.slices_Sort_string g 0 cap l wr hH (heap_size_lt hgc) (by omega))
          have HGC := Asd.mk hgc
          have HCC := Asd.mk HC.out
          have HSZ := Asd.mk hsz
          clear hper HI HZ HO HC HK1 HK2 HK3 hkz hl hpk h1 hH ht hsz
          go_wp2_with fail
          refine hso.out.mono ?_
          rintro e w2 ⟨rfl, k, os, hw2⟩
          have HC2 := Asd.mk (show Chg [] w w2 by rw [hw2]; exact sorted_chg HCC.out (by omega) _ _ _)
          have HN2 := Asd.mk (show w2.ownsRow w.heap.size 9 1 (.slice (some ⟨g, 0, none⟩) l.length cap) l.length ((sortN l).map fun n => Value.string (nb n)) from by
            have hls : (sortN l).length = l.length := by simp [sortN, List.length_mergeSort]
            refine ⟨by rw [List.length_map, hls, Nat.mul_one], .inr ⟨g, cap, putCells encStr 0 (sortN l).toArray cur, rfl, by omega, by rw [hw2]; exact sorted_heap HGC.out _ _ _, by omega, by omega, ?_, ?_⟩⟩
            · unfold putCells
              rw [Array.size_mapIdx]
              exact HSZ.out
            · apply List.ext_getElem?
              intro i
              by_cases hi : i < l.length
              · have hi2 : i < (sortN l).toArray.size := by simpa [hls] using hi
                have hs2 : (sortN l).toArray.size ≤ cur.size := by simp [sortN, List.length_mergeSort]; exact hcs
                have := put_read (sortN l).toArray cur hs2 i hi2
                rw [List.getElem?_take_of_lt (by omega), Array.getElem?_toList, this]
                simp [encStr_nb, hls, hi]
              · rw [List.getElem?_eq_none (by rw [List.length_take]; omega), List.getElem?_eq_none (by rw [List.length_map, hls]; omega)])
          clear hw2
          go_wp2
          go_ret
          exact ⟨⟨_, rfl, l, HL.out.1, HL.out.2, HN2.out⟩, HC2.out⟩
      · obtain ⟨W, hW⟩ : ∃ W, Go.ChangeMaps.setBlock w2 w.heap.size (.mapIter (some (M p)) clock (seen.push b) clock) = W := ⟨_, rfl⟩
        rw [hW] at hrun
        have hMr : M p ≠ w.heap.size := fun e => by
          have h1 := (heap_size_lt HK1.out)
          omega
        have hI2 : w2.heap[w.heap.size]? = some (.mapIter (some (M p)) clock seen clock) := by
          rcases hw2 with rfl | rfl
          · exact HI.out
          · exact hp_drew HI.out
        have hC2 : Chg [] w w2 := by
          rcases hw2 with rfl | rfl
          · exact HC.out
          · exact HC.out.drew
        have hO2 : w2.ownsRow (w.heap.size + 1) 9 1 u3 (keysZ Z).length ((keysZ Z).map Value.string) := by
          rcases hw2 with rfl | rfl
          · exact HO.out
          · exact HO.out
        have hIW : W.heap[w.heap.size]? = some (.mapIter (some (M p)) clock (seen.push b) clock) := by rw [← hW]; exact hp_setBlock hI2
        have hbW : W.heap[M p]? = some (.map es clock) := by rw [← hW, hp_setBlock_other _ hMr]; exact hC2.heap HK1.out (by simp)
        have hCW : Chg [] w W := by rw [← hW]; exact hC2.setBlock (fun h => absurd h (Nat.lt_irrefl _)) _
        have hOW : W.ownsRow (w.heap.size + 1) 9 1 u3 (keysZ Z).length ((keysZ Z).map Value.string) := by
          obtain ⟨h1, h2⟩ := hO2
          refine ⟨h1, ?_⟩
          rcases h2 with h2 | ⟨g, cap, cur, hv, hb, hg, hr⟩
          · exact .inl h2
          · exact .inr ⟨g, cap, cur, hv, hb, by rw [← hW]; exact hp_setBlock_other hg (by omega), hr⟩
        have hen := hent W hIW hbW
        have HIW := Asd.mk hIW
        have HCW := Asd.mk hCW
        have HOW := Asd.mk hOW
        have HZ2 := Asd.mk hZ2
        have hkl : (keysZ Z).length ≤ 16777216 := by have := HES.out; unfold keysZ; rw [List.length_map]; omega
        have hWs : w.heap.size + 1 ≤ W.heap.size := heap_size_lt hIW
        clear hW hw2 hin hent hIW hbW hCW hOW hO2 hI2 hC2 hMr hZ2 HI HZ HO HC
        go_wp2_with (first | (refine wpList_buildStr rfl (nb n) (W.heap.size) rfl (.tmp 15) rfl rfl ?_; simp only [Act.put, List.setIfInBounds_toArray, List.set_cons_zero, List.set_cons_succ]) | (at_builtin; refine wpList_append9 rfl (.tmp 14) (.tmp 16) rfl (w.heap.size + 1) u3 (keysZ Z) rfl (HOW.out.alloc _) (nb n) W.heap.size rfl (hp_new _ _) hkl (by simp; omega) ?_; intro v2 w9 hown9 hgrow9; replace hown9 := Asd.mk hown9; replace hgrow9 := Asd.mk hgrow9; simp only [Act.put, List.setIfInBounds_toArray, List.set_cons_zero, List.set_cons_succ]))
        go_roundg ((leftOf es (seen.push b)).size + 1)
        case rel => exact ⟨seen.push b, Z ++ [(n, v)], rfl, by rw [List.length_append]; simp only [List.length_singleton]; omega, HZ2, ⟨by
          have h1 := hp_alloc HIW.out (.cells #[.string (nb n)] 9)
          have h2 := (HOW.out.alloc (.cells #[.string (nb n)] 9)).lt
          rw [hgrow9.out.block _ (heap_size_lt h1) (fun e => by have := (h2 _ e.symm).1; omega)]
          exact h1⟩, ⟨grown_chg (HCW.out.alloc _) (HOW.out.alloc _) (by omega) hgrow9.out⟩, ⟨by
          have e : keysZ (Z ++ [(n, v)]) = keysZ Z ++ [nb n] := by simp [keysZ]
          rw [e]; exact hown9.out⟩⟩
        case measure => omega
  · rw [if_neg hk] at c2
    have HA := Asd.mk (show ∀ k, fs.at (p ++ [k]) = none from fun k => by
      cases hz : fs.at (p ++ [k]) with
      | none => rfl
      | some z =>
        obtain ⟨z2, hz2, hz3⟩ := hg.up p k (by rw [hz]; simp)
        rw [hx] at hz2
        cases hz2
        exact absurd hz3 hk)
    have hrg := run_range_nilMap (P := Tryd.prog) w 50 _ _ Tryd.underlying50
    have hnx := run_next_nilMap (P := Tryd.prog) w 0 0 0 #[]
    have hso := Asd.mk (Tryd.slices_Sort_string_none none 0 (w.alloc (.mapIter none 0 #[] 0)))
    clear hx hk hT
    go_enter Tryd.func35, Tryd.ntmps35
    go_wp2
    refine wp_loop_rounds 1 ?_
    rw [rounds_succ]
    go_wp2_with fail
    refine hso.out.mono ?_
    rintro e w2 ⟨rfl, rfl⟩
    go_wp2
    go_ret
    exact ⟨⟨_, rfl, [], by simp, fun k => by simp [HA.out k], own_none _ _⟩, hCw.alloc _⟩
end Go.Proofs.YtiijbecklkccfaaDoor.I
/- The program's List: the walk. -/
namespace Go.Proofs.YtiijbecklkccfaaDoor.I
open Go.RowKit Go.Proofs.YtiijbecklkccfaaDoor.B Go.Sort
set_option linter.unusedVariables false
/-- List: the error's number, or the directory's path. -/
def listE (fs : FS) (s : ByteArray) : Except Nat Pth := match thereE fs s with
  | .error n => .error n
  | .ok p => match fs.at p with
    | none => .ok p
    | some x => if x.kind = 1 then .error 203 else if x.kind = 3 then .error 204 else .ok p
def ListPost (fs : FS) (b : Nat) (R : Except Nat Pth) (e : Ending) (w' : World) : Prop := match R with
  | .error n => e = .returned (.tuple #[.slice none 0 0, errV n])
  | .ok p => ∃ v, e = .returned (.tuple #[v, .nilIface]) ∧ RowN fs p b w' v
set_option maxRecDepth 100000 in
set_option maxHeartbeats 16000000 in
theorem list_calls (L : List Nat) (t : Nat) (fs : FS) (by' nd : Nat) (A M : Pth → Nat) (s : ByteArray) (w : World) (hT : TabAt w L t fs by' nd A M) (hg : FsOk fs) (hrm : Room fs by' nd) (hm : MaxLenAt w) (hs : s.size ≤ 4294967280) :
    Calls Tryd.prog 24 #[(.pointer (some ⟨t, 0, none⟩)), .string s] w fun e w' => ListPost fs w.heap.size (listE fs s) e w' ∧ Chg [] w w' := by
  have HP := Asd.mk (there_calls L t fs by' nd A M s w hT hg hm hs)
  obtain ⟨R, hR⟩ : ∃ R, thereE fs s = R := ⟨_, rfl⟩
  rw [hR] at HP
  cases R with
  | error n =>
    have HA := Asd.mk (show listE fs s = .error n by unfold listE; rw [hR])
    have HN := Asd.mk (thereE_pos hR)
    clear hR hT hg hm hrm
    go_enter Tryd.func24, Tryd.ntmps24
    go_wp2_with fail
    refine HP.out.mono ?_
    rintro e w1 ⟨⟨d, l, k, rfl⟩, hC1⟩
    have HC1 := Asd.mk hC1
    clear hC1
    go_wp2
    go_ret2
    exact ⟨by rw [HA.out]; show _ = Ending.returned (.tuple #[.slice none 0 0, errV n]); simp only [errV]; rw [if_neg HN.out]; rfl, HC1.out.alloc _⟩
  | ok p =>
    obtain ⟨x, hx⟩ := thereE_ok hR
    have hAE : listE fs s = if x.kind = 1 then .error 203 else if x.kind = 3 then .error 204 else .ok p := by unfold listE; rw [hR]; simp only; rw [hx]
    have hkk := hg.kind p x hx
    have HNm := Asd.mk (fun W hW => names_calls L t fs by' nd A M hg hrm p x W hx hW)
    clear hR hm hg hrm
    go_enter Tryd.func24, Tryd.ntmps24
    go_wp2_with fail
    refine HP.out.mono ?_
    rintro e w1 ⟨hPo, hC1⟩
    have hPo2 : e = .returned (.tuple #[.agg #[.pointer (dirA A p), .string (lastS p), .pointer (some ⟨A p, 0, none⟩)], .nilIface]) := hPo
    subst hPo2
    obtain ⟨dp, hdp⟩ : ∃ d, dirA A p = d := ⟨_, rfl⟩
    obtain ⟨ls, hls⟩ : ∃ d, lastS p = d := ⟨_, rfl⟩
    rw [hdp, hls]
    have HC1 := Asd.mk hC1
    clear hC1 hPo HP hdp hls
    go_upto_region 4 with fail
    refine wp_opaque2 (fun W hW => ?_)
    have HCW := Asd.mk (show Chg [] w W by rw [hW]; exact HC1.out.alloc _)
    have HB := Asd.mk (show W.heap[w1.heap.size]? = some (.cells #[.pointer dp, .string ls, .pointer (some ⟨A p, 0, none⟩)] 42 (0, 0)) by rw [hW]; exact hp_new _ _)
    have hTW := hT.keep0 HCW.out
    obtain ⟨B, hB⟩ : ∃ B, w1.heap.size = B := ⟨_, rfl⟩
    rw [hB] at HB ⊢
    have b2 := cell_of_heap HB.out 2
    clear hW HC1 hB
    have hno := hTW.node p x hx
    have c0 := cell_of_heap hno 0
    have HNN := Asd.mk (HNm.out W hTW)
    clear hno hTW hT HNm hx
    rcases hkk with hk | hk | hk
    · rw [hk] at c0
      have HA := Asd.mk (show listE fs s = .error 203 by rw [hAE, if_pos hk])
      clear hAE hk
      go_wp2
      go_ret2
      exact ⟨by rw [HA.out]; rfl, HCW.out⟩
    · rw [hk] at c0
      have HA := Asd.mk (show listE fs s = .ok p by rw [hAE, if_neg (by omega), if_neg (by omega)])
      clear hAE hk
      go_wp2_with fail
      refine HNN.out.mono ?_
      rintro e w2 ⟨hN, hC2⟩
      obtain ⟨v, rfl, l, hN1, hN2, hN3⟩ := hN
      have hN := show RowN fs p w.heap.size w2 v from ⟨l, hN1, hN2, own_mono hN3 HCW.out.size⟩
      have HN := Asd.mk hN
      have HC2 := Asd.mk (HCW.out.trans hC2)
      clear hN hN1 hN2 hN3 hC2
      go_wp2
      go_ret2
      exact ⟨by rw [HA.out]; exact ⟨v, rfl, HN.out⟩, HC2.out⟩
    · rw [hk] at c0
      have HA := Asd.mk (show listE fs s = .error 204 by rw [hAE, if_neg (by omega), if_pos hk])
      clear hAE hk
      go_wp2
      go_ret2
      exact ⟨by rw [HA.out]; rfl, HCW.out⟩
end Go.Proofs.YtiijbecklkccfaaDoor.I
/- The program's Look: the walk. -/
namespace Go.Proofs.YtiijbecklkccfaaDoor.I
open Go.RowKit Go.Proofs.YtiijbecklkccfaaDoor.B Go.Sort
set_option linter.unusedVariables false
theorem size_entry (a b c : Value) : (Tryd.prog.info? 32).map (·.size) = some (#[a, b, c]).size := by kernel_rfl
theorem one_entry (a b : ByteArray) (k : Int) : (#[Value.string a, .int .i64 k, .string b]).all (·.oneCell') = true := by kernel_rfl
/-- Look: the error's number; the entry. -/
def lookF (fs : FS) (s : ByteArray) : Nat × ByteArray × Nat × ByteArray := match thereE fs s with
  | .error n => (n, ⟨#[]⟩, 0, ⟨#[]⟩)
  | .ok p => match fs.at p with
    | none => (0, ⟨#[]⟩, 0, ⟨#[]⟩)
    | some x => (0, s, x.kind, x.text)
def entV (x : ByteArray × Nat × ByteArray) : Value := .agg #[.string x.1, .int .i64 (x.2.1 : Int), .string x.2.2]
set_option maxRecDepth 100000 in
set_option maxHeartbeats 16000000 in
theorem look_calls (L : List Nat) (t : Nat) (fs : FS) (by' nd : Nat) (A M : Pth → Nat) (s : ByteArray) (w : World) (hT : TabAt w L t fs by' nd A M) (hg : FsOk fs) (hm : MaxLenAt w) (hs : s.size ≤ 4294967280) :
    Calls Tryd.prog 9 #[(.pointer (some ⟨t, 0, none⟩)), .string s] w fun e w' => e = .returned (.tuple #[entV (lookF fs s).2, errV (lookF fs s).1]) ∧ Chg [] w w' := by
  have HC0 := Asd.mk (show Chg [] w (w.alloc (.cells #[.string ⟨#[]⟩, .int .i64 0, .string ⟨#[]⟩] 32)) from (Chg.refl _ _).alloc _)
  have hT0 := hT.keep0 HC0.out
  have HP := Asd.mk (there_calls L t fs by' nd A M s (w.alloc (.cells #[.string ⟨#[]⟩, .int .i64 0, .string ⟨#[]⟩] 32)) hT0 hg (hm.chg HC0.out) hs)
  have HZ0 := Asd.mk (hp_new w (.cells #[.string ⟨#[]⟩, .int .i64 0, .string ⟨#[]⟩] 32))
  obtain ⟨B, hB⟩ : ∃ B, w.heap.size = B := ⟨_, rfl⟩
  rw [hB] at HZ0
  have hBw : ¬ B < w.heap.size := by omega
  obtain ⟨R, hR⟩ : ∃ R, thereE fs s = R := ⟨_, rfl⟩
  rw [hR] at HP
  cases R with
  | error n =>
    have HA := Asd.mk (show lookF fs s = (n, ⟨#[]⟩, 0, ⟨#[]⟩) by unfold lookF; rw [hR])
    have HN := Asd.mk (thereE_pos hR)
    clear hR hT hg hm hT0
    go_enter Tryd.func9, Tryd.ntmps9
    go_wp2_with fail
    refine HP.out.mono ?_
    rintro e w1 ⟨⟨d, l, k, rfl⟩, hC1⟩
    have HZ1 := Asd.mk (hC1.heap HZ0.out (by simp))
    have HC1 := Asd.mk (HC0.out.trans hC1)
    have HZ := Asd.mk (hp_alloc HZ1.out (.cells #[.pointer d, .string l, .pointer k] 42))
    clear hC1
    go_wp2_with (first | (refine wpList_store_row (o := ⟨none, _, _, _, _, _⟩) rfl 32 (.tmp 4) (.tmp 16) rfl B _ rfl rfl 32 _ HZ.out (size_entry _ _ _) rfl (one_entry _ _ _) ?_))
    refine bodyPost_ret (results_row_tmp rfl _ _ B 32 _ (0, 0) _ rfl (setRow_heap _ _ _ _ _ _ HZ.out) Tryd.underlying32 rfl (size_entry _ _ _)) rfl ?_
    exact ⟨by rw [HA.out]; simp only [errV]; rw [if_neg HN.out]; rfl, (HC1.out.alloc _).setRow (by omega) _⟩
  | ok p =>
    obtain ⟨x, hx⟩ := thereE_ok hR
    have HA := Asd.mk (show lookF fs s = (0, s, x.kind, x.text) by unfold lookF; rw [hR]; simp only; rw [hx])
    clear hR hm hg hT
    go_enter Tryd.func9, Tryd.ntmps9
    go_wp2_with fail
    refine HP.out.mono ?_
    rintro e w1 ⟨hPo, hC1⟩
    have hPo2 : e = .returned (.tuple #[.agg #[.pointer (dirA A p), .string (lastS p), .pointer (some ⟨A p, 0, none⟩)], .nilIface]) := hPo
    subst hPo2
    obtain ⟨dp, hdp⟩ : ∃ d, dirA A p = d := ⟨_, rfl⟩
    obtain ⟨ls, hls⟩ : ∃ d, lastS p = d := ⟨_, rfl⟩
    rw [hdp, hls]
    have HZ1 := Asd.mk (hC1.heap HZ0.out (by simp))
    have HC1 := Asd.mk (HC0.out.trans hC1)
    have HTT := Asd.mk (hT0.keep0 hC1)
    clear hC1 hPo HP hdp hls hT0
    go_upto_region 4 with fail
    refine wp_opaque2 (fun W hW => ?_)
    have HCW := Asd.mk (show Chg [] w W by rw [hW]; exact HC1.out.alloc _)
    have HB := Asd.mk (show W.heap[w1.heap.size]? = some (.cells #[.pointer dp, .string ls, .pointer (some ⟨A p, 0, none⟩)] 42 (0, 0)) by rw [hW]; exact hp_new _ _)
    have HZ := Asd.mk (show W.heap[B]? = some (.cells #[.string ⟨#[]⟩, .int .i64 0, .string ⟨#[]⟩] 32 (0, 0)) by rw [hW]; exact hp_alloc HZ1.out _)
    have hno := hp_alloc (HTT.out.node p x hx) (.cells #[.pointer dp, .string ls, .pointer (some ⟨A p, 0, none⟩)] 42)
    rw [← hW] at hno
    obtain ⟨D, hD⟩ : ∃ D, w1.heap.size = D := ⟨_, rfl⟩
    rw [hD] at HB ⊢
    have b2 := cell_of_heap HB.out 2
    have c0 := cell_of_heap hno 0
    have c1 := cell_of_heap hno 1
    clear hW HC1 hD hno hx HTT
    go_still_tail 12, (by kernel_rfl)
    go_wp2_with (first | (refine wpList_store_row (o := ⟨none, _, _, _, _, _⟩) rfl 32 (.tmp 4) (.tmp 29) rfl B _ rfl rfl 32 _ HZ.out (size_entry _ _ _) rfl (one_entry _ _ _) ?_))
    refine bodyPost_ret (results_row_tmp rfl _ _ B 32 _ (0, 0) _ rfl (hp_drew (setRow_heap _ _ _ _ _ _ HZ.out)) Tryd.underlying32 rfl (size_entry _ _ _)) rfl ?_
    exact ⟨by rw [HA.out]; rfl, (HCW.out.setRow (by omega) _).drew⟩
end Go.Proofs.YtiijbecklkccfaaDoor.I
/- A file system whose blocks are all new since some world: each call's contract over it. -/
namespace Go.Proofs.YtiijbecklkccfaaDoor.I
open Go.RowKit Go.Proofs.YtiijbecklkccfaaDoor.B Go.Sort
set_option linter.unusedVariables false
/-- What has turned in new blocks alone. -/
theorem Chg.fresh {L : List Nat} {a c : World} (h : Chg L a c) (hL : ∀ i ∈ L, a.heap.size ≤ i) : Chg [] a c :=
  ⟨h.os, h.tape, h.output, h.size, fun i hi _ => h.block i hi fun hm => by have := hL i hm; omega⟩
/-- A file system that has been made since w. -/
def Sys (w W : World) (t : Nat) (fs : FS) (by' nd : Nat) : Prop := Chg [] w W ∧ FsOk fs ∧ Room fs by' nd ∧ ∃ L A M, TabAt W L t fs by' nd A M ∧ ∀ i ∈ L, w.heap.size ≤ i
theorem Sys.chg {w W W' : World} {t : Nat} {fs : FS} {by' nd : Nat} (h : Sys w W t fs by' nd) (hC : Chg [] W W') : Sys w W' t fs by' nd := by
  obtain ⟨h1, h2, h3, L, A, M, h4, h5⟩ := h
  exact ⟨h1.trans hC, h2, h3, L, A, M, h4.keep0 hC, h5⟩
theorem Sys.op {w W W' : World} {t : Nat} {by' nd : Nat} {L : List Nat} {R : Nat × FS} {e : Ending} (hC : Chg [] w W) (h5 : ∀ i ∈ L, w.heap.size ≤ i) (h : OpPost W L t by' nd R e W') (hk : FsOk R.2 ∧ Room R.2 by' nd) : e = .returned (errV R.1) ∧ Sys w W' t R.2 by' nd := by
  obtain ⟨h1, h2, L', A', M', h3, h4⟩ := h
  exact ⟨h1, Chg.fresh ((hC.mono (by simp)).trans h2) h5, hk.1, hk.2, L', A', M', h3, fun i hi => by
    rcases h4 i hi with h6 | h6
    · exact h5 i h6
    · exact Nat.le_trans hC.size h6⟩
theorem sys_new (b n : Nat) (w W : World) (hC : Chg [] w W) (hb : b ≤ 2147483647) (hn : n ≤ 65536) :
    Calls Tryd.prog 4 #[.int .i64 (b : Int), .int .i64 (n : Int)] W fun e w' => ∃ t, e = .returned (.tuple #[(.pointer (some ⟨t, 0, none⟩)), .nilIface]) ∧ Sys w w' t [] b n := by
  refine (new_ok b n W hb hn).mono ?_
  rintro e w' ⟨t, L, A, M, rfl, h1, h2, h3⟩
  exact ⟨t, rfl, hC.trans h1, fsOk_nil, ⟨hb, hn, by unfold usedF; simp, by simp⟩, L, A, M, h2, fun i hi => Nat.le_trans hC.size (h3 i hi)⟩
variable {w W : World} {t : Nat} {fs : FS} {by' nd : Nat}
theorem sys_make (s : ByteArray) (h : Sys w W t fs by' nd) (hm : MaxLenAt w) (hs : s.size ≤ 4294967280) :
    Calls Tryd.prog 5 #[(.pointer (some ⟨t, 0, none⟩)), .string s] W fun e w' => e = .returned (errV (makeF fs by' nd s).1) ∧ Sys w w' t (makeF fs by' nd s).2 by' nd := by
  obtain ⟨h1, h2, h3, L, A, M, h4, h5⟩ := h
  exact (make_calls L t fs by' nd A M s W h4 h2 h3 (hm.chg h1) hs).mono fun e w' hp => Sys.op h1 h5 hp (makeF_keep h2 h3 s)
theorem sys_create (s : ByteArray) (h : Sys w W t fs by' nd) (hm : MaxLenAt w) (hs : s.size ≤ 4294967280) :
    Calls Tryd.prog 20 #[(.pointer (some ⟨t, 0, none⟩)), .string s] W fun e w' => e = .returned (errV (createF fs by' nd s).1) ∧ Sys w w' t (createF fs by' nd s).2 by' nd := by
  obtain ⟨h1, h2, h3, L, A, M, h4, h5⟩ := h
  exact (create_calls L t fs by' nd A M s W h4 h2 h3 (hm.chg h1) hs).mono fun e w' hp => Sys.op h1 h5 hp (createF_keep h2 h3 s)
theorem sys_append (s z : ByteArray) (h : Sys w W t fs by' nd) (hm : MaxLenAt w) (hs : s.size ≤ 4294967280) (hz : z.size ≤ 4294967280) :
    Calls Tryd.prog 21 #[(.pointer (some ⟨t, 0, none⟩)), .string s, .string z] W fun e w' => e = .returned (errV (appendF fs by' s z).1) ∧ Sys w w' t (appendF fs by' s z).2 by' nd := by
  obtain ⟨h1, h2, h3, L, A, M, h4, h5⟩ := h
  exact (append_calls L t fs by' nd A M s z W h4 h2 h3 (hm.chg h1) hs hz).mono fun e w' hp => Sys.op h1 h5 hp (appendF_keep h2 h3 s z)
theorem renameF_keep {fs : FS} (hg : FsOk fs) {by' nd : Nat} (hr : Room fs by' nd) (a b : ByteArray) : FsOk (renameF fs a b).2 ∧ Room (renameF fs a b).2 by' nd := by
  by_cases hne : (renameF fs a b).2 = fs
  · rw [hne]; exact ⟨hg, hr⟩
  · unfold renameF at hne ⊢
    cases hR : partsF a with
    | error n => rw [hR] at hne; exact absurd rfl hne
    | ok p =>
      rw [hR] at hne
      simp only at hne ⊢
      cases hR2 : partsF b with
      | error n => rw [hR2] at hne; exact absurd rfl hne
      | ok q =>
        rw [hR2] at hne
        simp only at hne ⊢
        by_cases hp0 : p = []
        · rw [if_pos hp0] at hne; exact absurd rfl hne
        · rw [if_neg hp0] at hne ⊢
          by_cases hq0 : q = []
          · rw [if_pos hq0] at hne; exact absurd rfl hne
          · rw [if_neg hq0] at hne ⊢
            cases hw : wayE fs p with
            | some n => rw [hw] at hne; exact absurd rfl hne
            | none =>
              rw [hw] at hne
              simp only at hne ⊢
              cases hx : fs.at p with
              | none => rw [hx] at hne; exact absurd rfl hne
              | some x =>
                rw [hx] at hne
                simp only at hne ⊢
                by_cases hnb : x.kind = 2 ∧ a ≠ b ∧ belowB a b = true
                · rw [if_pos hnb] at hne; exact absurd rfl hne
                · rw [if_neg hnb] at hne ⊢
                  cases hwq : wayE fs q with
                  | some n => rw [hwq] at hne; exact absurd rfl hne
                  | none =>
                    rw [hwq] at hne
                    simp only at hne ⊢
                    by_cases hab : a = b
                    · rw [if_pos hab] at hne; exact absurd rfl hne
                    · rw [if_neg hab] at hne ⊢
                      by_cases hg0 : givesF fs q x ≠ 0
                      · rw [if_pos hg0] at hne; exact absurd rfl hne
                      · rw [if_neg hg0] at hne ⊢
                        by_cases hf : ¬ fitsP fs p b.data.toList
                        · rw [if_pos hf] at hne; exact absurd rfl hne
                        · rw [if_neg hf] at hne ⊢
                          obtain ⟨y, hO⟩ := ren_ok hg hR hR2 hp0 hab hx hnb (List.dropLast_concat_getLast hq0).symm hwq (Classical.not_not.1 hg0) (Classical.not_not.1 hf)
                          exact hO.sound hg hr
theorem sys_rename (a b : ByteArray) (h : Sys w W t fs by' nd) (hm : MaxLenAt w) (ha : a.size ≤ 4294967280) (hb : b.size ≤ 4294967280) :
    Calls Tryd.prog 6 #[(.pointer (some ⟨t, 0, none⟩)), .string a, .string b] W fun e w' => e = .returned (errV (renameF fs a b).1) ∧ Sys w w' t (renameF fs a b).2 by' nd := by
  obtain ⟨h1, h2, h3, L, A, M, h4, h5⟩ := h
  exact (rename_calls L t fs by' nd A M a b W h4 h2 h3 (hm.chg h1) ha hb).mono fun e w' hp => Sys.op h1 h5 hp (renameF_keep h2 h3 a b)
theorem sys_look (s : ByteArray) (h : Sys w W t fs by' nd) (hm : MaxLenAt w) (hs : s.size ≤ 4294967280) :
    Calls Tryd.prog 9 #[(.pointer (some ⟨t, 0, none⟩)), .string s] W fun e w' => e = .returned (.tuple #[entV (lookF fs s).2, errV (lookF fs s).1]) ∧ Chg [] W w' := by
  obtain ⟨h1, h2, h3, L, A, M, h4, h5⟩ := h
  exact look_calls L t fs by' nd A M s W h4 h2 (hm.chg h1) hs
theorem sys_read (s : ByteArray) (h : Sys w W t fs by' nd) (hm : MaxLenAt w) (hs : s.size ≤ 4294967280) :
    Calls Tryd.prog 22 #[(.pointer (some ⟨t, 0, none⟩)), .string s] W fun e w' => e = .returned (.tuple #[.string (readF fs s).2, errV (readF fs s).1]) ∧ Chg [] W w' := by
  obtain ⟨h1, h2, h3, L, A, M, h4, h5⟩ := h
  exact read_calls L t fs by' nd A M s W h4 h2 (hm.chg h1) hs
theorem sys_list (s : ByteArray) (h : Sys w W t fs by' nd) (hm : MaxLenAt w) (hs : s.size ≤ 4294967280) :
    Calls Tryd.prog 24 #[(.pointer (some ⟨t, 0, none⟩)), .string s] W fun e w' => ListPost fs W.heap.size (listE fs s) e w' ∧ Chg [] W w' := by
  obtain ⟨h1, h2, h3, L, A, M, h4, h5⟩ := h
  exact list_calls L t fs by' nd A M s W h4 h2 h3 (hm.chg h1) hs
theorem sys_used (h : Sys w W t fs by' nd) :
    Calls Tryd.prog 23 #[(.pointer (some ⟨t, 0, none⟩))] W fun e w' => e = .returned (.tuple #[.int .i64 (usedF fs : Int), .int .i64 (fs.length : Int)]) ∧ Chg [] W w' := by
  obtain ⟨h1, h2, h3, L, A, M, h4, h5⟩ := h
  exact used_calls L t fs by' nd A M W h4
end Go.Proofs.YtiijbecklkccfaaDoor.I
/- What the calls answer where the way is clear; a path's text and its parts. Plain. -/
namespace Go.Proofs.YtiijbecklkccfaaDoor.I
open Go.RowKit Go.Proofs.YtiijbecklkccfaaDoor.B Go.Sort
set_option linter.unusedVariables false
/-- A path's text. -/
def tx (p : Pth) : ByteArray := nb (joinL 47 p)
theorem tx_list (p : Pth) : (tx p).data.toList = joinL 47 p := list_nb _
theorem way_ok {fs : FS} (hg : FsOk fs) {y : Nd} : ∀ {r d : Pth}, r ≠ [] → fs.at (d ++ r.dropLast) = some y → y.kind = 2 → wayFrom fs d r = none
  | [], _, h, _, _ => absurd rfl h
  | [n], d, _, _, _ => rfl
  | n :: m :: r, d, _, hy, hk => by
    have e : d ++ (n :: m :: r).dropLast = (d ++ [n]) ++ (m :: r).dropLast := by
      rw [List.dropLast_cons_of_ne_nil (by simp)]; simp
    rw [e] at hy
    have hx : ∃ x, fs.at (d ++ [n]) = some x ∧ x.kind = 2 := by
      by_cases h0 : (m :: r).dropLast = []
      · rw [h0, List.append_nil] at hy
        exact ⟨y, hy, hk⟩
      · exact hg.prefix (by rw [hy]; simp) h0
    obtain ⟨x, hx1, hx2⟩ := hx
    have ih := way_ok hg (r := m :: r) (d := d ++ [n]) (by simp) hy hk
    simp only [wayFrom]
    rw [hx1]
    simp only
    rw [if_neg (by omega), if_neg (by omega)]
    exact ih
theorem way_snoc {fs : FS} (hg : FsOk fs) {q : Pth} {n : Nm} {y : Nd} (hy : fs.at q = some y) (hk : y.kind = 2) : wayE fs (q ++ [n]) = none :=
  way_ok hg (by simp) (by simpa using hy) hk
theorem way_at {fs : FS} (hg : FsOk fs) {p : Pth} {x : Nd} (hx : fs.at p = some x) : wayE fs p = none := by
  by_cases hp : p = []
  · rw [hp]; rfl
  · obtain ⟨q, n, rfl⟩ : ∃ q n, p = q ++ [n] := ⟨p.dropLast, p.getLast hp, (List.dropLast_concat_getLast hp).symm⟩
    obtain ⟨y, h1, h2⟩ := hg.up q n (by rw [hx]; simp)
    exact way_snoc hg h1 h2
theorem ok_slash {p : Pth} (ho : p.all okNm = true) : ∀ k ∈ p, (47 : UInt8) ∉ k := fun k hk => no_slash (List.all_eq_true.1 ho k hk)
/-- A path that may be is its text's parts. -/
theorem parts_tx {p : Pth} (hp : p ≠ []) (ho : okP p) : partsF (tx p) = .ok p := by
  have hs := spL_join_all 47 hp (ok_slash ho.2.2)
  have hz : (tx p).size = (joinL 47 p).length := nb_size _
  unfold partsF
  rw [if_neg (by rw [hz]; have := ho.2.1; omega), tx_list, hs]
  have h0 : (tx p).size ≠ 0 := by
    rw [hz]
    intro e
    have e2 := List.eq_nil_of_length_eq_zero e
    rw [e2] at hs
    have h2 : p = [[]] := by rw [← hs]; simp [spL]
    have ho2 := ho.2.2
    rw [h2] at ho2
    have h3 := (bad_ok (n := [])).1 (List.all_eq_true.1 ho2 [] (by simp))
    exact h3.1 rfl
  rw [if_neg h0, if_neg (by rw [ho.2.2]; decide), if_neg (by have := ho.1; omega)]
theorem parts_empty : partsF ⟨#[]⟩ = .ok [] := rfl
theorem join_cons (k : Nm) (r : Pth) : (k :: r).flatMap (fun k => 47 :: k) = 47 :: joinL 47 (k :: r) := by
  induction r generalizing k with
  | nil => simp [joinL]
  | cons m r ih =>
    rw [List.flatMap_cons, ih m]
    simp [joinL]
/-- A path's text with names put behind it. -/
theorem glue_join {q : Pth} (hq : q ≠ []) (r : Pth) : glueR (joinL 47 q) r = joinL 47 (q ++ r) := by
  cases r with
  | nil => simp [glueR]
  | cons k r =>
    rw [join_app 47 hq (by simp)]
    unfold glueR
    rw [join_cons]
theorem tx_snoc {p : Pth} (hp : p ≠ []) (n : Nm) : tx (p ++ [n]) = tx p ++ nb (47 :: n) := by
  unfold tx
  rw [join_app 47 hp (by simp)]
  apply ByteArray.ext
  simp [nb, joinL]
theorem join_len1 : ∀ {p : Pth}, (∀ n ∈ p, n.length ≤ 1) → (joinL 47 p).length ≤ 2 * p.length
  | [], _ => by simp [joinL]
  | [x], h => by
    have := h x (by simp)
    simp [joinL]
    omega
  | x :: y :: p, h => by
    have ih := join_len1 (p := y :: p) (fun n hn => h n (List.mem_cons_of_mem _ hn))
    have := h x (by simp)
    simp only [joinL, List.length_append, List.length_cons] at ih ⊢
    omega
/-- A path of names of one byte may be, where it has at most 64 of them. -/
theorem okP_one {p : Pth} (h : ∀ n ∈ p, okNm n = true ∧ n.length ≤ 1) (hl : p.length ≤ 64) : okP p :=
  ⟨hl, by have := join_len1 (p := p) (fun n hn => (h n hn).2); omega, List.all_eq_true.2 fun n hn => (h n hn).1⟩
theorem atE_snoc {fs : FS} (hg : FsOk fs) {q : Pth} {n : Nm} {y : Nd} {s : ByteArray} (hy : fs.at q = some y) (hk : y.kind = 2) (hs : partsF s = .ok (q ++ [n])) : atE fs s = .ok (q ++ [n]) := by
  unfold atE
  rw [hs]
  simp only
  rw [way_snoc hg hy hk]
theorem atE_at {fs : FS} (hg : FsOk fs) {p : Pth} {x : Nd} {s : ByteArray} (hx : fs.at p = some x) (hs : partsF s = .ok p) : atE fs s = .ok p := by
  unfold atE
  rw [hs]
  simp only
  rw [way_at hg hx]
theorem thereE_at {fs : FS} (hg : FsOk fs) {p : Pth} {x : Nd} {s : ByteArray} (hx : fs.at p = some x) (hs : partsF s = .ok p) : thereE fs s = .ok p := by
  unfold thereE
  rw [atE_at hg hx hs]
  simp only
  rw [hx]
  rfl
theorem thereE_no {fs : FS} (hg : FsOk fs) {q : Pth} {n : Nm} {y : Nd} {s : ByteArray} (hy : fs.at q = some y) (hk : y.kind = 2) (hn : fs.at (q ++ [n]) = none) (hs : partsF s = .ok (q ++ [n])) : thereE fs s = .error 200 := by
  unfold thereE
  rw [atE_snoc hg hy hk hs]
  simp only
  rw [hn]
  rfl
theorem putF_free {fs : FS} {by' nd : Nat} {p : Pth} {x : Nd} (h1 : fs.length < nd) (h2 : usedF fs + x.text.size ≤ by') : putF fs by' nd p x = (0, fs ++ [(p, x)]) := by
  unfold putF
  rw [if_neg]
  unfold fullF
  omega
theorem makeF_new {fs : FS} (hg : FsOk fs) {by' nd : Nat} {q : Pth} {n : Nm} {y : Nd} {s : ByteArray} (hy : fs.at q = some y) (hk : y.kind = 2) (hn : fs.at (q ++ [n]) = none) (hs : partsF s = .ok (q ++ [n])) (h1 : fs.length < nd) (h2 : usedF fs ≤ by') : makeF fs by' nd s = (0, fs ++ [(q ++ [n], rootN)]) := by
  unfold makeF
  rw [atE_snoc hg hy hk hs]
  simp only
  rw [hn]
  exact putF_free h1 (show usedF fs + 0 ≤ by' from h2)
theorem createF_new {fs : FS} (hg : FsOk fs) {by' nd : Nat} {q : Pth} {n : Nm} {y : Nd} {s : ByteArray} (hy : fs.at q = some y) (hk : y.kind = 2) (hn : fs.at (q ++ [n]) = none) (hs : partsF s = .ok (q ++ [n])) (h1 : fs.length < nd) (h2 : usedF fs ≤ by') : createF fs by' nd s = (0, fs ++ [(q ++ [n], ⟨1, ⟨#[]⟩⟩)]) := by
  unfold createF
  rw [atE_snoc hg hy hk hs]
  simp only
  rw [hn]
  exact putF_free h1 (show usedF fs + 0 ≤ by' from h2)
theorem appendF_file {fs : FS} (hg : FsOk fs) {by' : Nat} {p : Pth} {x : Nd} {s z : ByteArray} (hx : fs.at p = some x) (hk : x.kind = 1) (hs : partsF s = .ok p) (hz : x.text.size + z.size ≤ 4194304) :
    appendF fs by' s z = if by' < usedF fs + z.size then (206, fs) else (0, setF fs p ⟨1, x.text ++ z⟩) := by
  unfold appendF
  rw [thereE_at hg hx hs]
  simp only
  rw [hx]
  simp only
  rw [if_neg (by omega), if_neg (by omega), if_neg (by omega)]
open Classical in
/-- A rename to where nothing stands. -/
theorem renameF_new {fs : FS} (hg : FsOk fs) {a b : ByteArray} {p qd : Pth} {qn : Nm} {x y : Nd} (ha : partsF a = .ok p) (hb : partsF b = .ok (qd ++ [qn])) (hp : p ≠ []) (hx : fs.at p = some x) (hbl : x.kind = 2 → belowB a b = false) (hy : fs.at qd = some y) (hk : y.kind = 2) (hn : fs.at (qd ++ [qn]) = none) :
    renameF fs a b = if fitsP fs p b.data.toList then (0, mvF fs p (qd ++ [qn])) else (2, fs) := by
  have hab : a ≠ b := by
    rintro rfl
    rw [ha] at hb
    cases hb
    rw [hx] at hn
    cases hn
  have hq0 : qd ++ [qn] ≠ [] := by simp
  unfold renameF
  rw [ha, hb]
  simp only
  rw [if_neg hp, if_neg hq0, way_at hg hx]
  simp only
  rw [hx]
  simp only
  rw [if_neg (fun h => by have := hbl h.1; rw [this] at h; exact absurd h.2.2 (by decide)), way_snoc hg hy hk]
  simp only
  have hgv : givesF fs (qd ++ [qn]) x = 0 := by unfold givesF; rw [hn]
  rw [if_neg hab, hgv, if_neg (by decide : ¬ ((0 : Nat) ≠ 0)), del_none (not_mem hg.nodup hq0 hn)]
  by_cases hf : fitsP fs p b.data.toList
  · rw [if_neg (fun h => h hf), if_pos hf]
  · rw [if_pos hf, if_neg hf]
theorem lookF_at {fs : FS} (hg : FsOk fs) {p : Pth} {x : Nd} {s : ByteArray} (hx : fs.at p = some x) (hs : partsF s = .ok p) : lookF fs s = (0, s, x.kind, x.text) := by
  unfold lookF
  rw [thereE_at hg hx hs]
  simp only
  rw [hx]
theorem readF_file {fs : FS} (hg : FsOk fs) {p : Pth} {x : Nd} {s : ByteArray} (hx : fs.at p = some x) (hk : x.kind = 1) (hs : partsF s = .ok p) : readF fs s = (0, x.text) := by
  unfold readF
  rw [thereE_at hg hx hs]
  simp only
  rw [hx]
  simp only
  rw [if_neg (by omega), if_neg (by omega)]
end Go.Proofs.YtiijbecklkccfaaDoor.I
