/- Merged out of these texts: INames, EntRow, LinkDef, Keep, Mv. -/
import Derived.Test.YthojofeocjmglaaGreatDoorDk7
import Derived.Test.YthojofeocjmglaaGreatDoorDk4
import Derived.Deep.AppendLies
import Derived.Test.YthojofeocjmglaaGreatDoorDk6
/- The program's names: a directory's names, in order. The walk: a loop over a map that collects; a sort. -/
namespace Go.Proofs.YthojofeocjmglaaGreatDoor.I
open Go.RowKit Go.Proofs.YthojofeocjmglaaGreatDoor.B Go.Sort
set_option linter.unusedVariables false
def keysZ (Z : List (Nm × Value)) : List ByteArray := Z.map fun z => nb z.1
def sortN (l : List Nm) : List Nm := l.mergeSort fun x y => decide (x ≤ y)
/-- A row of names, its own block at or above b: some order in which the names came, sorted. -/
def RowN (fs : FS) (p : Pth) (b : Nat) (w' : World) (v : Value) : Prop := ∃ l : List Nm, l.Nodup ∧ (∀ k, k ∈ l ↔ fs.at (p ++ [k]) ≠ none) ∧ w'.ownsRow b 9 1 v l.length ((sortN l).map fun n => Value.string (nb n))
theorem own_none (w : World) (b : Nat) : w.ownsRow b 9 1 (.slice none 0 0) ([] : List Nm).length ((sortN []).map fun n => Value.string (nb n)) := ⟨by simp [sortN], .inl ⟨rfl, rfl⟩⟩
/-- The answer of names. -/
def NamesPost (fs : FS) (p : Pth) (b : Nat) (e : Ending) (w' : World) : Prop := ∃ v, e = .returned v ∧ RowN fs p b w' v
theorem own_mono {w : World} {a b z : Nat} {t : TypeId} {v : Value} {n : Nat} {xs : List Value} (h : w.ownsRow b t z v n xs) (hab : a ≤ b) : w.ownsRow a t z v n xs := by
  obtain ⟨h1, h2⟩ := h
  refine ⟨h1, ?_⟩
  rcases h2 with h2 | ⟨g, cap, cur, hv, hb, hr⟩
  · exact .inl h2
  · exact .inr ⟨g, cap, cur, hv, Nat.le_trans hab hb, hr⟩
theorem own_chg {w w' : World} {b z : Nat} {t : TypeId} {v : Value} {n : Nat} {xs : List Value} {K : List Nat} (h : w.ownsRow b t z v n xs) (hC : Chg K w w') (hK : ∀ i ∈ K, i < b ∨ w.heap.size ≤ i) : w'.ownsRow b t z v n xs := by
  obtain ⟨h1, h2⟩ := h
  refine ⟨h1, ?_⟩
  rcases h2 with h2 | ⟨g, cap, cur, hv, hb, hg, hr⟩
  · exact .inl h2
  · refine .inr ⟨g, cap, cur, hv, hb, hC.heap hg (fun h => ?_), hr⟩
    have h3 := lt_of_heap hg
    rcases hK g h with h4 | h4 <;> omega
theorem nodup_len' {α : Type} [BEq α] [LawfulBEq α] : ∀ {l m : List α}, l.Nodup → (∀ a ∈ l, a ∈ m) → l.length ≤ m.length
  | [], _, _, _ => Nat.zero_le _
  | a :: l, m, hd, hs => by
    rw [List.nodup_cons] at hd
    have h1 := nodup_len' (l := l) (m := m.erase a) hd.2 (fun b hb => (List.mem_erase_of_ne (fun e => hd.1 (by rw [← e]; exact hb))).2 (hs b (List.mem_cons_of_mem _ hb)))
    have h2 := hs a (by simp)
    rw [List.length_erase_of_mem h2] at h1
    have := List.length_pos_of_mem h2
    simp only [List.length_cons]
    omega
theorem sorted_heap {wr : World} {g : Nat} {cur : Array Value} {t : TypeId} {fr : Nat × Nat} (hg : wr.heap[g]? = some (.cells cur t fr)) (d : Array (List UInt8)) (n : Nat) (os : Array Obj) :
    (grow (putRow encStr (Sort.ahead wr n) g 0 d) os).heap[g]? = some (.cells (putCells encStr 0 d cur) t fr) := by
  have hlt := heap_size_lt hg
  show ((wr.heap.modify g _) ++ os)[g]? = _
  rw [Array.getElem?_append_left (by simpa using hlt), Array.getElem?_modify, if_pos rfl, hg]
  rfl
theorem sorted_chg {w wr : World} (hC : Chg [] w wr) {g : Nat} (hge : w.heap.size ≤ g) (d : Array (List UInt8)) (n : Nat) (os : Array Obj) : Chg [] w (grow (putRow encStr (Sort.ahead wr n) g 0 d) os) := by
  refine ⟨hC.os, hC.tape, hC.output, ?_, fun i hi hn => ?_⟩
  · have := hC.size
    simp
    show w.heap.size ≤ wr.heap.size + os.size
    omega
  · have h1 := hC.size
    show ((wr.heap.modify g _) ++ os)[i]? = _
    rw [Array.getElem?_append_left (by simp; omega), Array.getElem?_modify, if_neg (by omega)]
    exact hC.block i hi hn
theorem put_read (d : Array (List UInt8)) (cur : Array Value) (h : d.size ≤ cur.size) (i : Nat) (hi : i < d.size) : (putCells encStr 0 d cur)[i]? = some (encStr d[i]!) := by
  unfold putCells
  rw [Array.getElem?_mapIdx, Array.getElem?_eq_getElem (by omega)]
  simp [hi]
theorem encStr_nb (n : Nm) : encStr n = .string (nb n) := rfl
set_option maxRecDepth 100000 in
set_option maxHeartbeats 16000000 in
theorem names_calls (L : List Nat) (t : Nat) (fs : FS) (by' nd : Nat) (A M : Pth → Nat) (hg : FsOk fs) (hr : Room fs by' nd) (p : Pth) (x : Nd) (w : World) (hx : fs.at p = some x) (hT : TabAt w L t fs by' nd A M) :
    Calls Tryz.prog 82 #[(.pointer (some ⟨A p, 0, none⟩))] w fun e w' => NamesPost fs p w.heap.size e w' ∧ Chg [] w w' := by
  have c2 := cell_of_heap (hT.node p x hx) 2
  have hCw := Chg.refl [] w
  by_cases hk : x.kind = 2
  · rw [if_pos hk] at c2
    obtain ⟨es, clock, K, hK1, hK2, hK3⟩ := hT.kids p x hx hk
    have hrg := run_range_map (P := Tryz.prog) w 131 _ _ (M p) es clock Tryz.underlying131 hK1
    have HES := Asd.mk (show es.size ≤ 65536 by
      have h1 : es.size = K.length := by simpa using congrArg List.length hK2.ents
      have h2 : (K.map fun z => p ++ [z.1]).length ≤ (fs.map (·.1)).length := by
        refine nodup_len' ?_ ?_
        · have h3 : (K.map fun z => p ++ [z.1]) = (K.map (·.1)).map fun k => p ++ [k] := by rw [List.map_map]; rfl
          rw [h3]
          exact List.pairwise_map.2 (hK2.keys.imp fun h e => h (snoc_inj e).2)
        · intro a ha
          obtain ⟨z, hz, rfl⟩ := List.mem_map.1 ha
          have h4 := mem_lookup_kid hK2.keys (n := z.1) (v := z.2) hz
          rw [hK3] at h4
          cases h5 : fs.at (p ++ [z.1]) with
          | none => rw [h5] at h4; cases h4
          | some y =>
            rw [at_ne fs (by simp)] at h5
            exact List.mem_map.2 ⟨_, lookup_mem h5, rfl⟩
      have := hr.n
      have := hr.count
      rw [List.length_map, List.length_map] at h2
      omega)
    have HK1 := Asd.mk hK1
    have HK2 := Asd.mk hK2
    have HK3 := Asd.mk hK3
    clear hx hK1 hK2 hK3 hk hT
    go_enter Tryz.func82, Tryz.ntmps82
    go_wp2
    go_loopg [3, 4] ((leftOf es #[]).size + 1) (fun gk v3 _ wx => ∃ (seen : Array Nat) (Z : List (Nm × Value)), gk = (leftOf es seen).size + 1 ∧ Z.length + (leftOf es seen).size ≤ es.size ∧ Asd (Rg es seen Z) ∧ Asd (wx.heap[w.heap.size]? = some (.mapIter (some (M p)) clock seen clock)) ∧ Asd (Chg [] w wx) ∧ Asd (wx.ownsRow (w.heap.size + 1) 9 1 v3 (keysZ Z).length ((keysZ Z).map Value.string)))
    case atStart => exact ⟨#[], [], rfl, by simp only [List.length_nil, Nat.zero_add]; exact Array.size_filter_le, ⟨rg_nil es⟩, ⟨hp_new _ _⟩, ⟨(Chg.refl _ _).alloc _⟩, ⟨⟨by simp [keysZ], .inl ⟨rfl, rfl⟩⟩⟩⟩
    case round =>
      obtain ⟨seen, Z, rfl, hzl, HZ, HI, HC, HO⟩ := hrel
      rcases rg_next (P := Tryz.prog) (w := wr) 0 HI.out (HC.out.heap HK1.out (by simp)) HK2.out HZ.out with ⟨hper, hrun⟩ | ⟨n, v, b, w2, hw2, hin, hrun, hZ2, hlt, hent⟩
      · obtain ⟨l, hl⟩ : ∃ l, Z.map (·.1) = l := ⟨_, rfl⟩
        have hkz : keysZ Z = l.map nb := by rw [← hl, List.map_map]; rfl
        have hpk : l.Perm (K.map (·.1)) := by rw [← hl]; exact hper.map _
        have HL := Asd.mk (show l.Nodup ∧ ∀ k, k ∈ l ↔ fs.at (p ++ [k]) ≠ none from ⟨hpk.nodup_iff.2 HK2.out.keys, fun k => by
          rw [hpk.mem_iff, List.mem_map]
          constructor
          · rintro ⟨z, hz, rfl⟩ e
            have h4 := mem_lookup_kid HK2.out.keys (n := z.1) (v := z.2) hz
            rw [HK3.out, e] at h4
            cases h4
          · intro hk
            cases hz : fs.at (p ++ [k]) with
            | none => exact absurd hz hk
            | some y =>
              have h4 := HK3.out k
              rw [hz] at h4
              exact ⟨_, lookup_mem_kid h4, rfl⟩⟩)
        have hll : l.length ≤ 65536 := by
          have h1 : es.size = K.length := by simpa using congrArg List.length HK2.out.ents
          have h2 := hpk.length_eq
          rw [List.length_map] at h2
          have := HES.out
          omega
        have hO := HO.out
        rw [hkz, List.length_map, List.map_map] at hO
        obtain ⟨h1, h2⟩ := hO
        rcases h2 with ⟨rfl, h0⟩ | ⟨g, cap, cur, rfl, hb, hgc, hn, hc, hsz, ht⟩
        · have hl0 : l = [] := List.eq_nil_of_length_eq_zero h0
          have hso := Asd.mk (Tryz.slices_Sort_string_none none 0 wr)
          have HCC := Asd.mk HC.out
          clear hper HI HZ HO HC HK1 HK2 HK3 hkz hl hpk h1 h0
          go_wp2_with fail
          refine hso.out.mono ?_
          rintro e w2 ⟨rfl, hw2⟩
          have hw2' := hw2.symm
          subst hw2'
          go_wp2
          go_ret
          exact ⟨⟨_, rfl, l, HL.out.1, HL.out.2, by rw [hl0]; exact own_none _ _⟩, HCC.out⟩
        · have hcs : l.length ≤ cur.size := by
            have := congrArg List.length ht
            simp at this
            omega
          have hH : Holds encStr wr g 0 l.toArray := fun j hj => by
            have hj : j < l.length := by simpa using hj
            refine ⟨?_, frozen_of_heap hgc (0 + j)⟩
            rw [cell_of_heap hgc, Nat.zero_add]
            have h3 : (cur.toList.take (l.length * 1))[j]? = (l.map (Value.string ∘ nb))[j]? := by rw [ht]
            rw [List.getElem?_take_of_lt (by omega), List.getElem?_map, List.getElem?_eq_getElem hj] at h3
            simp [encStr_nb, hj]
            simpa using h3
          have hso := Asd.mk (Tryz.slices_Sort_string g 0 cap l wr hH (heap_size_lt hgc) (by omega))
          have HGC := Asd.mk hgc
          have HCC := Asd.mk HC.out
          have HSZ := Asd.mk hsz
          clear hper HI HZ HO HC HK1 HK2 HK3 hkz hl hpk h1 hH ht hsz
          go_wp2_with fail
          refine hso.out.mono ?_
          rintro e w2 ⟨rfl, k, os, hw2⟩
          have HC2 := Asd.mk (show Chg [] w w2 by rw [hw2]; exact sorted_chg HCC.out (by omega) _ _ _)
          have HN2 := Asd.mk (show w2.ownsRow w.heap.size 9 1 (.slice (some ⟨g, 0, none⟩) l.length cap) l.length ((sortN l).map fun n => Value.string (nb n)) from by
            have hls : (sortN l).length = l.length := by simp [sortN, List.length_mergeSort]
            refine ⟨by rw [List.length_map, hls, Nat.mul_one], .inr ⟨g, cap, putCells encStr 0 (sortN l).toArray cur, rfl, by omega, by rw [hw2]; exact sorted_heap HGC.out _ _ _, by omega, by omega, ?_, ?_⟩⟩
            · unfold putCells
              rw [Array.size_mapIdx]
              exact HSZ.out
            · apply List.ext_getElem?
              intro i
              by_cases hi : i < l.length
              · have hi2 : i < (sortN l).toArray.size := by simpa [hls] using hi
                have hs2 : (sortN l).toArray.size ≤ cur.size := by simp [sortN, List.length_mergeSort]; exact hcs
                have := put_read (sortN l).toArray cur hs2 i hi2
                rw [List.getElem?_take_of_lt (by omega), Array.getElem?_toList, this]
                simp [encStr_nb, hls, hi]
              · rw [List.getElem?_eq_none (by rw [List.length_take]; omega), List.getElem?_eq_none (by rw [List.length_map, hls]; omega)])
          clear hw2
          go_wp2
          go_ret
          exact ⟨⟨_, rfl, l, HL.out.1, HL.out.2, HN2.out⟩, HC2.out⟩
      · obtain ⟨W, hW⟩ : ∃ W, Go.ChangeMaps.setBlock w2 w.heap.size (.mapIter (some (M p)) clock (seen.push b) clock) = W := ⟨_, rfl⟩
        rw [hW] at hrun
        have hMr : M p ≠ w.heap.size := fun e => by
          have h1 := (heap_size_lt HK1.out)
          omega
        have hI2 : w2.heap[w.heap.size]? = some (.mapIter (some (M p)) clock seen clock) := by
          rcases hw2 with rfl | rfl
          · exact HI.out
          · exact hp_drew HI.out
        have hC2 : Chg [] w w2 := by
          rcases hw2 with rfl | rfl
          · exact HC.out
          · exact HC.out.drew
        have hO2 : w2.ownsRow (w.heap.size + 1) 9 1 u3 (keysZ Z).length ((keysZ Z).map Value.string) := by
          rcases hw2 with rfl | rfl
          · exact HO.out
          · exact HO.out
        have hIW : W.heap[w.heap.size]? = some (.mapIter (some (M p)) clock (seen.push b) clock) := by rw [← hW]; exact hp_setBlock hI2
        have hbW : W.heap[M p]? = some (.map es clock) := by rw [← hW, hp_setBlock_other _ hMr]; exact hC2.heap HK1.out (by simp)
        have hCW : Chg [] w W := by rw [← hW]; exact hC2.setBlock (fun h => absurd h (Nat.lt_irrefl _)) _
        have hOW : W.ownsRow (w.heap.size + 1) 9 1 u3 (keysZ Z).length ((keysZ Z).map Value.string) := by
          obtain ⟨h1, h2⟩ := hO2
          refine ⟨h1, ?_⟩
          rcases h2 with h2 | ⟨g, cap, cur, hv, hb, hg, hr⟩
          · exact .inl h2
          · exact .inr ⟨g, cap, cur, hv, hb, by rw [← hW]; exact hp_setBlock_other hg (by omega), hr⟩
        have hen := hent W hIW hbW
        have HIW := Asd.mk hIW
        have HCW := Asd.mk hCW
        have HOW := Asd.mk hOW
        have HZ2 := Asd.mk hZ2
        have hkl : (keysZ Z).length ≤ 16777216 := by have := HES.out; unfold keysZ; rw [List.length_map]; omega
        have hWs : w.heap.size + 1 ≤ W.heap.size := heap_size_lt hIW
        clear hW hw2 hin hent hIW hbW hCW hOW hO2 hI2 hC2 hMr hZ2 HI HZ HO HC
        go_wp2_with (first | (refine wpList_buildStr rfl (nb n) (W.heap.size) rfl (.tmp 15) rfl rfl ?_; simp only [Act.put, List.setIfInBounds_toArray, List.set_cons_zero, List.set_cons_succ]) | (at_builtin; refine wpList_append9 rfl (.tmp 14) (.tmp 16) rfl (w.heap.size + 1) u3 (keysZ Z) rfl (HOW.out.alloc _) (nb n) W.heap.size rfl (hp_new _ _) hkl (by simp; omega) ?_; intro v2 w9 hown9 hgrow9; replace hown9 := Asd.mk hown9; replace hgrow9 := Asd.mk hgrow9; simp only [Act.put, List.setIfInBounds_toArray, List.set_cons_zero, List.set_cons_succ]))
        go_roundg ((leftOf es (seen.push b)).size + 1)
        case rel => exact ⟨seen.push b, Z ++ [(n, v)], rfl, by rw [List.length_append]; simp only [List.length_singleton]; omega, HZ2, ⟨by
          have h1 := hp_alloc HIW.out (.cells #[.string (nb n)] 9)
          have h2 := (HOW.out.alloc (.cells #[.string (nb n)] 9)).lt
          rw [hgrow9.out.block _ (heap_size_lt h1) (fun e => by have := (h2 _ e.symm).1; omega)]
          exact h1⟩, ⟨grown_chg (HCW.out.alloc _) (HOW.out.alloc _) (by omega) hgrow9.out⟩, ⟨by
          have e : keysZ (Z ++ [(n, v)]) = keysZ Z ++ [nb n] := by simp [keysZ]
          rw [e]; exact hown9.out⟩⟩
        case measure => omega
  · rw [if_neg hk] at c2
    have HA := Asd.mk (show ∀ k, fs.at (p ++ [k]) = none from fun k => by
      cases hz : fs.at (p ++ [k]) with
      | none => rfl
      | some z =>
        obtain ⟨z2, hz2, hz3⟩ := hg.up p k (by rw [hz]; simp)
        rw [hx] at hz2
        cases hz2
        exact absurd hz3 hk)
    have hrg := run_range_nilMap (P := Tryz.prog) w 131 _ _ Tryz.underlying131
    have hnx := run_next_nilMap (P := Tryz.prog) w 0 0 0 #[]
    have hso := Asd.mk (Tryz.slices_Sort_string_none none 0 (w.alloc (.mapIter none 0 #[] 0)))
    clear hx hk hT
    go_enter Tryz.func82, Tryz.ntmps82
    go_wp2
    refine wp_loop_rounds 1 ?_
    rw [rounds_succ]
    go_wp2_with fail
    refine hso.out.mono ?_
    rintro e w2 ⟨rfl, rfl⟩
    go_wp2
    go_ret
    exact ⟨⟨_, rfl, [], by simp, fun k => by simp [HA.out k], own_none _ _⟩, hCw.alloc _⟩
end Go.Proofs.YthojofeocjmglaaGreatDoor.I
/- Rows of entries: what the operations of a region that appends one run to. -/
namespace Go.Proofs.YthojofeocjmglaaGreatDoor.I
open Go.RowKit Go.Proofs.YthojofeocjmglaaGreatDoor.B Go.Sort
set_option linter.unusedVariables false
/-- An entry's cells. -/
def entC (x : Ent) : Array Value := #[.string x.1, .int .i64 (x.2.1 : Int), .string x.2.2]
def flatE (E : List Ent) : List Value := E.flatMap fun x => (entC x).toList
theorem flatE_len (E : List Ent) : (flatE E).length = E.length * 3 := by
  induction E with
  | nil => rfl
  | cons x E ih =>
    have : flatE (x :: E) = (entC x).toList ++ flatE E := by simp [flatE]
    rw [this, List.length_append, ih, List.length_cons]
    simp [entC]
    omega
theorem flatE_snoc (E : List Ent) (x : Ent) : flatE (E ++ [x]) = flatE E ++ (entC x).toList := by simp [flatE]
theorem info_ent : (Tryz.prog.info? 64).map (fun i => (i.zero, i.size, i.bytes)) = some (some (.agg #[.string ⟨#[]⟩, .int .i64 0, .string ⟨#[]⟩]), 3, 40) := by kernel_rfl
theorem info_ent' : ∃ ie z, Tryz.prog.info? 64 = some ie ∧ ie.zero = some z ∧ ie.size = 3 ∧ ie.bytes = 40 ∧ z.cells.size = 3 := by
  cases hie : Tryz.prog.info? 64 with
  | none => have := info_ent; rw [hie] at this; cases this
  | some ie =>
    have h := info_ent
    rw [hie] at h
    simp only [Option.map_some, Option.some.injEq, Prod.mk.injEq] at h
    exact ⟨ie, _, rfl, h.1, h.2.1, h.2.2, rfl⟩
theorem build_ent (x : Ent) (w : World) : (Instr.buildSlice 39 1 #[(0, .agg (entC x))]).run Tryz.prog w = .ok (.slice (some ⟨w.heap.size, 0, none⟩) 1 1) (w.alloc (.cells (entC x) 64)) := by
  obtain ⟨ie, z, h1, h2, h3, h4, h5⟩ := info_ent'
  refine Go.run_buildSlice w 39 64 1 _ _ ie _ Tryz.underlying39 h1 h2 (by rw [h3]; decide) (by rw [h3]; decide) ?_
  rw [h3]
  have := Great.fill_whole (s := 3) (by omega) [.agg (entC x)] ((Array.range (1 * 3)).map (z.cells[· % z.cells.size]!)) (by simp [Value.cells, entC]) (by simp)
  simpa [Value.cells] using this
theorem wp_build_ent (x : Ent) {o : Oper} {a : Act} {w : World} {K : Act → World → Prop} {Q : Exit → Act → World → Prop} (y : Operand) (ho : o.op = .buildSlice 39 1 #[(0, y)]) (hy : a.eval y = .agg (entC x))
    (h : K (a.put o.dst (.slice (some ⟨w.heap.size, 0, none⟩) 1 1)) (w.alloc (.cells (entC x) 64))) : o.wp Tryz.prog a w K Q := by
  unfold Oper.wp execOp
  simp only [ho, List.map_toArray, List.map_cons, List.map_nil, hy, Sem.run_bind, build_ent, Result.andThen_ok]
  exact h
set_option maxRecDepth 100000 in
theorem wp_append_ent (x : Ent) {o : Oper} {a : Act} {w : World} {K : Act → World → Prop} {Q : Exit → Act → World → Prop} (s y : Operand)
    (ho : o.op = .call { callee := .builtin .append, args := #[s, y], argTypes := #[39, 39] }) (base : Nat) (v : Value) (E : List Ent) (hs : a.eval s = v) (hown : w.ownsRow base 64 3 v E.length (flatE E))
    (g : Nat) (hy : a.eval y = .slice (some ⟨g, 0, none⟩) 1 1) (hg : w.heap[g]? = some (.cells (entC x) 64 (0, 0))) (hL : E.length ≤ 1048576) (hb : base ≤ w.heap.size)
    (h : ∀ g' cap w', w'.ownsRow base 64 3 (.slice (some ⟨g', 0, none⟩) (E.length + 1) cap) (E ++ [x]).length (flatE (E ++ [x])) → w.grownBy w' v.ownBlock → (v.ownBlock = some g' ∨ g' = w.heap.size) → K (a.put o.dst (.slice (some ⟨g', 0, none⟩) (E.length + 1) cap)) w') : o.wp Tryz.prog a w K Q := by
  obtain ⟨ie, z, h1, h2, h3, h4, h5⟩ := info_ent'
  refine wp_append_lies w s y 39 ho base 64 ie z 3 40 Tryz.underlying39 h1 h2 h3 h4 h5 (by decide) v E.length (flatE E) hs hown ⟨g, 0, none⟩ 1 1 (entC x).toList hy ?_ ?_ ?_ (by decide) ?_ ?_ hb _ rfl ?_
  · rfl
  · intro j u hu
    have e : (⟨g, 0, none⟩ : Addr).add j = ⟨g, j, none⟩ := by
      unfold Addr.add
      split
      · subst_vars; rfl
      · simp
    rw [e, cell_of_heap hg]
    simpa using hu
  · intro u hu
    have h7 : (entC x).all (·.oneCell') = true := one_entry _ _ _
    exact (Array.all_eq_true_iff_forall_mem.1 h7) u (Array.mem_def.2 hu)
  · unfold maxLen; omega
  · omega
  · intro g' cap w' q1 q2 q3 _
    refine h g' cap w' ?_ q2 q3
    rw [flatE_snoc, List.length_append]
    exact q1
end Go.Proofs.YthojofeocjmglaaGreatDoor.I
/- Link: what it makes of a file system. -/
namespace Go.Proofs.YthojofeocjmglaaGreatDoor.I
open Go.RowKit Go.Proofs.YthojofeocjmglaaGreatDoor.B Go.Sort
set_option linter.unusedVariables false
/-- Has a text a zero byte? -/
def nulB (s : ByteArray) : Bool := decide (0 ≤ Lib.indexByte s.data.toList 0)
/-- What no link may say. -/
def badT (s : ByteArray) : Prop := s.toList.isEmpty = true ∨ 4096 < s.size ∨ nulB s = true
open Classical in
/-- Link. -/
noncomputable def linkF (fs : FS) (by' nd : Nat) (g s : ByteArray) : Nat × FS := if badT g then (30, fs) else match atE fs s with
  | .error n => (n, fs)
  | .ok p => if (fs.at p).isSome = true then (201, fs) else putF fs by' nd p ⟨3, g⟩
end Go.Proofs.YthojofeocjmglaaGreatDoor.I
/- What every call keeps: a file system as calls make it, within its room. -/
namespace Go.Proofs.YthojofeocjmglaaGreatDoor.I
open Go.RowKit Go.Proofs.YthojofeocjmglaaGreatDoor.B Go.Sort
set_option linter.unusedVariables false
/-- A path that may be. -/
def okP (p : Pth) : Prop := p.length ≤ 64 ∧ (joinL 47 p).length ≤ 4096 ∧ p.all okNm = true
/-- A node that may be. -/
def okN (x : Nd) : Prop := (x.kind = 1 ∨ x.kind = 2 ∨ x.kind = 3) ∧ (x.kind = 2 → x.text = ⟨#[]⟩) ∧ x.text.size ≤ 4194304
theorem not_mem {fs : FS} {p : Pth} (hd : (fs.map (·.1)).Nodup) (hp : p ≠ []) (h : fs.at p = none) : p ∉ fs.map (·.1) := by
  intro hm
  obtain ⟨⟨a, b⟩, hab, rfl⟩ := List.mem_map.1 hm
  rw [at_ne fs hp, mem_lookup hd hab] at h
  cases h
theorem fsOk_put {fs : FS} (hg : FsOk fs) {q : Pth} {n : Nm} {x y : Nd} (hq : fs.at q = some y) (hy : y.kind = 2) (hn : fs.at (q ++ [n]) = none) (hx : okN x) (hp : okP (q ++ [n])) : FsOk (fs ++ [(q ++ [n], x)]) := by
  have hne : q ++ [n] ≠ [] := by simp
  have A := at_put x hne hn
  refine ⟨?_, ?_, ?_, ?_, ?_, ?_, ?_⟩
  · rw [List.map_append, List.nodup_append]
    refine ⟨hg.nodup, by simp, ?_⟩
    intro a ha b hb
    simp only [List.map_cons, List.map_nil, List.mem_singleton] at hb
    rw [hb]
    rintro rfl
    exact not_mem hg.nodup hne hn ha
  · intro z hz
    rcases List.mem_append.1 hz with h | h
    · exact hg.ne z h
    · simp only [List.mem_singleton] at h
      rw [h]; exact hne
  · intro p m h
    rw [A] at h
    split at h
    · rename_i e
      obtain ⟨rfl, rfl⟩ := snoc_inj e
      refine ⟨y, ?_, hy⟩
      rw [A, if_neg (fun e => snoc_ne _ _ e.symm)]
      exact hq
    · obtain ⟨z, hz, hz2⟩ := hg.up p m h
      refine ⟨z, ?_, hz2⟩
      rw [A, if_neg (fun e => by rw [e, hn] at hz; cases hz)]
      exact hz
  · intro p z h
    rw [A] at h
    split at h
    · cases h; exact hx.1
    · exact hg.kind p z h
  · intro p z h
    rw [A] at h
    split at h
    · cases h; exact hx.2.1
    · exact hg.dirs p z h
  · intro p z h
    rw [A] at h
    split at h
    · cases h; exact hx.2.2
    · exact hg.small p z h
  · intro p z h
    rw [A] at h
    split at h
    · rename_i e; rw [e]; exact hp
    · exact hg.okp p z h
theorem fsOk_set {fs : FS} (hg : FsOk fs) {p : Pth} {x y : Nd} (hp : p ≠ []) (hy : fs.at p = some y) (hk : y.kind = 2 → x.kind = 2) (hx : okN x) : FsOk (setF fs p x) := by
  have A := at_set x hp hy
  have hm : (setF fs p x).map (·.1) = fs.map (·.1) := by
    unfold setF
    rw [List.map_map]
    refine List.map_congr_left fun z _ => ?_
    simp only [Function.comp]
    split
    · rename_i e; exact e.symm
    · rfl
  refine ⟨by rw [hm]; exact hg.nodup, ?_, ?_, ?_, ?_, ?_, ?_⟩
  · intro z hz
    have : z.1 ∈ fs.map (·.1) := by rw [← hm]; exact List.mem_map.2 ⟨z, hz, rfl⟩
    obtain ⟨u, hu, e⟩ := List.mem_map.1 this
    rw [← e]
    exact hg.ne u hu
  · intro r m h
    have h2 : fs.at (r ++ [m]) ≠ none := by
      rw [A] at h
      split at h
      · rename_i e; rw [e, hy]; simp
      · exact h
    obtain ⟨z, hz, hz2⟩ := hg.up r m h2
    by_cases e : r = p
    · rw [e, hy] at hz
      cases hz
      exact ⟨x, by rw [A, if_pos e], hk hz2⟩
    · exact ⟨z, by rw [A, if_neg e]; exact hz, hz2⟩
  · intro r z h
    rw [A] at h
    split at h
    · cases h; exact hx.1
    · exact hg.kind r z h
  · intro r z h
    rw [A] at h
    split at h
    · cases h; exact hx.2.1
    · exact hg.dirs r z h
  · intro r z h
    rw [A] at h
    split at h
    · cases h; exact hx.2.2
    · exact hg.small r z h
  · intro r z h
    rw [A] at h
    split at h
    · rename_i e; rw [e]; exact hg.okp p y hy
    · exact hg.okp r z h
theorem fsOk_del {fs : FS} (hg : FsOk fs) {p : Pth} (hp : p ≠ []) (hk : ¬ hasKids fs p) : FsOk (delF fs p) := by
  have A := at_del (fs := fs) hp
  have A2 : ∀ {r z}, (delF fs p).at r = some z → fs.at r = some z := fun {r z} h => by
    rw [A] at h
    split at h
    · cases h
    · exact h
  refine ⟨?_, fun z hz => hg.ne z (List.mem_filter.1 hz).1, ?_, fun r z h => hg.kind r z (A2 h), fun r z h => hg.dirs r z (A2 h), fun r z h => hg.small r z (A2 h), fun r z h => hg.okp r z (A2 h)⟩
  · exact List.Nodup.sublist (List.Sublist.map _ List.filter_sublist) hg.nodup
  · intro r m h
    rw [A] at h
    split at h
    · exact absurd rfl h
    · obtain ⟨z, hz, hz2⟩ := hg.up r m h
      refine ⟨z, ?_, hz2⟩
      rw [A, if_neg (fun e => hk ⟨m, by rw [← e]; exact h⟩)]
      exact hz
theorem partsF_ok {s : ByteArray} {p : Pth} (h : partsF s = .ok p) : okP p := by
  unfold partsF at h
  split at h
  · cases h
  · rename_i hs
    split at h
    · cases h; exact ⟨by simp, by simp [joinL], by simp⟩
    · split at h
      · cases h
      · rename_i h1
        split at h
        · cases h
        · rename_i h2
          cases h
          refine ⟨by omega, ?_, by simpa using h1⟩
          rw [join_spL]
          show s.data.toList.length ≤ 4096
          have : s.data.toList.length = s.size := by rw [Array.length_toList]; rfl
          omega
theorem atE_parts {fs : FS} {s : ByteArray} {p : Pth} (h : atE fs s = .ok p) : partsF s = .ok p := by
  unfold atE at h
  split at h
  · cases h
  · rename_i p2 hp
    split at h
    · cases h
    · cases h; exact hp
theorem Room.set {fs : FS} {by' nd : Nat} (hr : Room fs by' nd) {p : Pth} {x : Nd} (h : usedF (setF fs p x) ≤ by') : Room (setF fs p x) by' nd :=
  ⟨hr.b, hr.n, h, by unfold setF; rw [List.length_map]; exact hr.count⟩
theorem putF_keep {fs : FS} (hg : FsOk fs) {by' nd : Nat} (hr : Room fs by' nd) {q : Pth} {n : Nm} {x y : Nd} (hq : fs.at q = some y) (hy : y.kind = 2) (hn : fs.at (q ++ [n]) = none) (hx : okN x) (hp : okP (q ++ [n])) : FsOk (putF fs by' nd (q ++ [n]) x).2 ∧ Room (putF fs by' nd (q ++ [n]) x).2 by' nd := by
  unfold putF
  split
  · exact ⟨hg, hr⟩
  · rename_i hf
    unfold fullF at hf
    refine ⟨fsOk_put hg hq hy hn hx hp, hr.b, hr.n, ?_, ?_⟩
    · show usedF (fs ++ [_]) ≤ by'
      have : usedF (fs ++ [(q ++ [n], x)]) = usedF fs + x.text.size := by simp [usedF]
      omega
    · show (fs ++ [_]).length ≤ nd
      rw [List.length_append]
      simp only [List.length_singleton]
      omega
theorem okN_dir : okN ⟨2, ⟨#[]⟩⟩ := ⟨.inr (.inl rfl), fun _ => rfl, by show 0 ≤ 4194304; omega⟩
theorem okN_file : okN ⟨1, ⟨#[]⟩⟩ := ⟨.inl rfl, fun _ => rfl, by show 0 ≤ 4194304; omega⟩
theorem makeF_keep {fs : FS} (hg : FsOk fs) {by' nd : Nat} (hr : Room fs by' nd) (s : ByteArray) : FsOk (makeF fs by' nd s).2 ∧ Room (makeF fs by' nd s).2 by' nd := by
  unfold makeF
  split
  · exact ⟨hg, hr⟩
  · rename_i p hp
    split
    · exact ⟨hg, hr⟩
    · rename_i hn
      have hn : fs.at p = none := by simpa using hn
      obtain ⟨q, n, y, rfl, hq, hy⟩ := at_parent hg hp hn
      exact putF_keep hg hr hq hy hn okN_dir (partsF_ok (atE_parts hp))
theorem linkF_keep {fs : FS} (hg : FsOk fs) {by' nd : Nat} (hr : Room fs by' nd) (g s : ByteArray) : FsOk (linkF fs by' nd g s).2 ∧ Room (linkF fs by' nd g s).2 by' nd := by
  unfold linkF
  split
  · exact ⟨hg, hr⟩
  · rename_i hb
    split
    · exact ⟨hg, hr⟩
    · rename_i p hp
      split
      · exact ⟨hg, hr⟩
      · rename_i hn
        have hn : fs.at p = none := by simpa using hn
        obtain ⟨q, n, y, rfl, hq, hy⟩ := at_parent hg hp hn
        refine putF_keep hg hr hq hy hn ⟨.inr (.inr rfl), fun h => absurd h (by simp), ?_⟩ (partsF_ok (atE_parts hp))
        show g.size ≤ 4194304
        have : ¬ 4096 < g.size := fun e => hb (.inr (.inl e))
        omega
theorem createF_keep {fs : FS} (hg : FsOk fs) {by' nd : Nat} (hr : Room fs by' nd) (s : ByteArray) : FsOk (createF fs by' nd s).2 ∧ Room (createF fs by' nd s).2 by' nd := by
  unfold createF
  split
  · exact ⟨hg, hr⟩
  · rename_i p hp
    split
    · rename_i hn
      obtain ⟨q, n, y, rfl, hq, hy⟩ := at_parent hg hp hn
      exact putF_keep hg hr hq hy hn okN_file (partsF_ok (atE_parts hp))
    · rename_i x hx
      split
      · exact ⟨hg, hr⟩
      · rename_i h2
        split
        · exact ⟨hg, hr⟩
        · have hne : p ≠ [] := fun e => by rw [e, at_root] at hx; cases hx; exact h2 rfl
          refine ⟨fsOk_set hg hne hx (fun h => absurd h h2) okN_file, hr.set ?_⟩
          have := used_set (x := ⟨1, ⟨#[]⟩⟩) hg.nodup (by rw [← at_ne fs hne]; exact hx)
          have h0 : (⟨1, ⟨#[]⟩⟩ : Nd).text.size = 0 := rfl
          have := hr.used
          omega
theorem appendF_keep {fs : FS} (hg : FsOk fs) {by' nd : Nat} (hr : Room fs by' nd) (s text : ByteArray) : FsOk (appendF fs by' s text).2 ∧ Room (appendF fs by' s text).2 by' nd := by
  unfold appendF
  split
  · exact ⟨hg, hr⟩
  · rename_i p hp
    split
    · exact ⟨hg, hr⟩
    · rename_i x hx
      split
      · exact ⟨hg, hr⟩
      · rename_i h2
        split
        · exact ⟨hg, hr⟩
        · split
          · exact ⟨hg, hr⟩
          · rename_i h4
            split
            · exact ⟨hg, hr⟩
            · rename_i h5
              have hne : p ≠ [] := fun e => by rw [e, at_root] at hx; cases hx; exact h2 rfl
              have hsz : (x.text ++ text).size = x.text.size + text.size := ByteArray.size_append
              refine ⟨fsOk_set hg hne hx (fun h => absurd h h2) ⟨.inl rfl, fun h => absurd h (by simp), by show (x.text ++ text).size ≤ _; omega⟩, hr.set ?_⟩
              have := used_set (x := ⟨1, x.text ++ text⟩) hg.nodup (by rw [← at_ne fs hne]; exact hx)
              have h0 : (⟨1, x.text ++ text⟩ : Nd).text.size = x.text.size + text.size := hsz
              omega
theorem removeF_keep {fs : FS} (hg : FsOk fs) {by' nd : Nat} (hr : Room fs by' nd) (s : ByteArray) : FsOk (removeF fs s).2 ∧ Room (removeF fs s).2 by' nd := by
  unfold removeF
  split
  · exact ⟨hg, hr⟩
  · rename_i p hp
    split
    · exact ⟨hg, hr⟩
    · rename_i hne
      split
      · exact ⟨hg, hr⟩
      · rename_i x hx
        split
        · exact ⟨hg, hr⟩
        · rename_i hk
          obtain ⟨h1, h2⟩ := count_del hg.nodup (by rw [← at_ne fs hne]; exact hx)
          have := hr.used
          have := hr.count
          exact ⟨fsOk_del hg hne hk, hr.b, hr.n, by show usedF (delF fs p) ≤ by'; omega, by show (delF fs p).length ≤ nd; omega⟩
end Go.Proofs.YthojofeocjmglaaGreatDoor.I
/- What stands where behind a rename: paths under p lie under q then. Plain. -/
namespace Go.Proofs.YthojofeocjmglaaGreatDoor.I
open Go.RowKit Go.Proofs.YthojofeocjmglaaGreatDoor.B Go.Sort
set_option linter.unusedVariables false
open Classical in
/-- Where a path lies behind a rename of p to q. -/
noncomputable def mvP (p q r : Pth) : Pth := if p <+: r then q ++ r.drop p.length else r
noncomputable def mvF (fs : FS) (p q : Pth) : FS := fs.map fun y => (mvP p q y.1, y.2)
theorem mvP_in (p q s : Pth) : mvP p q (p ++ s) = q ++ s := by
  unfold mvP
  rw [if_pos (List.prefix_append p s)]
  simp
theorem mvP_out {p q r : Pth} (h : ¬ p <+: r) : mvP p q r = r := by
  unfold mvP
  rw [if_neg h]
theorem lookup_hit {p : Pth} {x : Nd} {fs : FS} : List.lookup p ((p, x) :: fs) = some x := by rw [List.lookup_cons]; simp
theorem lookup_miss {p r : Pth} {x : Nd} {fs : FS} (h : r ≠ p) : List.lookup r ((p, x) :: fs) = fs.lookup r := by
  rw [List.lookup_cons]
  have : (r == p) = false := by simpa using h
  rw [this]
open Classical in
theorem lookup_mv {p q : Pth} : ∀ {fs : FS}, (∀ y ∈ fs, ¬ q <+: y.1) → ∀ r, (mvF fs p q).lookup r = if q <+: r then fs.lookup (p ++ r.drop q.length) else if p <+: r then none else fs.lookup r
  | [], _, r => by simp [mvF]
  | (y, x) :: fs, h, r => by
    have ih := lookup_mv (p := p) (q := q) (fs := fs) (fun z hz => h z (List.mem_cons_of_mem _ hz)) r
    have hy : ¬ q <+: y := h (y, x) (by simp)
    unfold mvF at ih ⊢
    rw [List.map_cons]
    simp only
    by_cases hq : q <+: r
    · obtain ⟨s, rfl⟩ := hq
      rw [if_pos (List.prefix_append q s)] at ih ⊢
      rw [List.drop_left] at ih ⊢
      by_cases hp : p <+: y
      · obtain ⟨s2, rfl⟩ := hp
        rw [mvP_in]
        by_cases hs : s = s2
        · rw [hs, lookup_hit, lookup_hit]
        · rw [lookup_miss (fun e => hs (List.append_cancel_left e)), lookup_miss (fun e => hs (List.append_cancel_left e))]
          exact ih
      · rw [mvP_out hp, lookup_miss (fun e => hy (by rw [← e]; exact List.prefix_append q s)), lookup_miss (fun e => hp (by rw [← e]; exact List.prefix_append p s))]
        exact ih
    · rw [if_neg hq] at ih ⊢
      by_cases hpr : p <+: r
      · rw [if_pos hpr] at ih ⊢
        by_cases hp : p <+: y
        · obtain ⟨s2, rfl⟩ := hp
          rw [mvP_in, lookup_miss (fun e => hq (by rw [e]; exact List.prefix_append q s2))]
          exact ih
        · rw [mvP_out hp, lookup_miss (fun e => hp (by rw [← e]; exact hpr))]
          exact ih
      · rw [if_neg hpr] at ih ⊢
        by_cases hp : p <+: y
        · obtain ⟨s2, rfl⟩ := hp
          rw [mvP_in, lookup_miss (fun e => hq (by rw [e]; exact List.prefix_append q s2)), lookup_miss (fun e => hpr (by rw [e]; exact List.prefix_append p s2))]
          exact ih
        · rw [mvP_out hp]
          by_cases hr : r = y
          · rw [hr, lookup_hit, lookup_hit]
          · rw [lookup_miss hr, lookup_miss hr]
            exact ih
theorem not_under {fs : FS} (hg : FsOk fs) {q : Pth} (hq : fs.at q = none) (s : Pth) : fs.at (q ++ s) = none := by
  cases hs : fs.at (q ++ s) with
  | none => rfl
  | some x =>
    cases s with
    | nil => rw [List.append_nil, hq] at hs; cases hs
    | cons a s =>
      obtain ⟨y, hy, _⟩ := hg.prefix (q := a :: s) (p := q) (by rw [hs]; simp) (by simp)
      rw [hq] at hy; cases hy
open Classical in
/-- What stands at r behind a rename of p to q, at which nothing stands, and which is not below p. -/
theorem at_mv {fs : FS} (hg : FsOk fs) {p q : Pth} (hp : p ≠ []) (hq0 : q ≠ []) (hq : fs.at q = none) (r : Pth) :
    (mvF fs p q).at r = if q <+: r then fs.at (p ++ r.drop q.length) else if p <+: r then none else fs.at r := by
  have hno : ∀ y ∈ fs, ¬ q <+: y.1 := fun y hy ⟨s, e⟩ => by
    have h1 := mem_lookup hg.nodup (p := y.1) (x := y.2) hy
    rw [← at_ne fs (hg.ne y hy), ← e, not_under hg hq s] at h1
    cases h1
  have hl := lookup_mv (p := p) (q := q) hno r
  by_cases hr : r = []
  · subst hr
    have h1 : ¬ q <+: [] := fun h => hq0 (List.prefix_nil.1 h)
    have h2 : ¬ p <+: [] := fun h => hp (List.prefix_nil.1 h)
    rw [if_neg h1, if_neg h2]
    rfl
  · rw [at_ne _ hr, hl, at_ne _ hr, at_ne fs (p := p ++ r.drop q.length) (by simp [hp])]
theorem mv_len (fs : FS) (p q : Pth) : (mvF fs p q).length = fs.length := by unfold mvF; rw [List.length_map]
theorem mv_used (fs : FS) (p q : Pth) : usedF (mvF fs p q) = usedF fs := by
  unfold usedF mvF
  rw [List.map_map]
  rfl
theorem mvP_inj {p q a b : Pth} (ha : ¬ q <+: a) (hb : ¬ q <+: b) (h : mvP p q a = mvP p q b) : a = b := by
  by_cases h1 : p <+: a
  · obtain ⟨s, rfl⟩ := h1
    by_cases h2 : p <+: b
    · obtain ⟨t, rfl⟩ := h2
      rw [mvP_in, mvP_in] at h
      rw [List.append_cancel_left h]
    · rw [mvP_in, mvP_out h2] at h
      exact absurd (by rw [← h]; exact List.prefix_append q s) hb
  · by_cases h2 : p <+: b
    · obtain ⟨t, rfl⟩ := h2
      rw [mvP_in, mvP_out h1] at h
      exact absurd (by rw [h]; exact List.prefix_append q t) ha
    · rw [mvP_out h1, mvP_out h2] at h
      exact h
/-- A file system behind a rename is sound. -/
theorem fsOk_mv {fs : FS} (hg : FsOk fs) {p qd : Pth} {qn : Nm} {y : Nd} (hp : p ≠ []) (hqd : fs.at qd = some y) (hy : y.kind = 2) (hpq : ¬ p <+: qd) (hq : fs.at (qd ++ [qn]) = none) (hf : ∀ r, fs.at (p ++ r) ≠ none → okP ((qd ++ [qn]) ++ r)) : FsOk (mvF fs p (qd ++ [qn])) := by
  have hq0 : qd ++ [qn] ≠ [] := by simp
  have A := at_mv hg hp hq0 hq
  have hno : ∀ z ∈ fs, ¬ (qd ++ [qn]) <+: z.1 := fun z hz ⟨s, e⟩ => by
    have h1 := mem_lookup hg.nodup (p := z.1) (x := z.2) hz
    rw [← at_ne fs (hg.ne z hz), ← e, not_under hg hq s] at h1
    cases h1
  have B : ∀ {r z}, (mvF fs p (qd ++ [qn])).at r = some z → ∃ r', fs.at r' = some z := fun {r z} h => by
    rw [A] at h
    split at h
    · exact ⟨_, h⟩
    · split at h
      · cases h
      · exact ⟨_, h⟩
  refine ⟨?_, ?_, ?_, fun r z h => ?_, fun r z h => ?_, fun r z h => ?_, ?_⟩
  · unfold mvF
    rw [List.map_map]
    refine List.pairwise_map.2 ?_
    refine List.Pairwise.imp_of_mem ?_ (List.pairwise_map.1 hg.nodup)
    intro a b ha hb hab e
    exact hab (mvP_inj (hno a ha) (hno b hb) e)
  · intro z hz
    unfold mvF at hz
    obtain ⟨u, hu, rfl⟩ := List.mem_map.1 hz
    show mvP p (qd ++ [qn]) u.1 ≠ []
    unfold mvP
    split
    · simp
    · exact hg.ne u hu
  · intro r n h
    rw [A] at h
    split at h
    · rename_i hpre
      obtain ⟨s, hs⟩ := hpre
      rcases List.eq_nil_or_concat s with rfl | ⟨s2, m, rfl⟩
      · rw [List.append_nil] at hs
        obtain ⟨rfl, rfl⟩ := snoc_inj hs
        refine ⟨y, ?_, hy⟩
        rw [A, if_neg (fun ⟨t, ht⟩ => by have := congrArg List.length ht; simp at this), if_neg hpq]
        exact hqd
      · rw [List.concat_eq_append, ← List.append_assoc] at hs
        obtain ⟨rfl, rfl⟩ := snoc_inj hs
        have h2 : fs.at ((p ++ s2) ++ [m]) ≠ none := by
          have e : (qd ++ [qn] ++ s2 ++ [m]).drop (qd ++ [qn]).length = s2 ++ [m] := by rw [List.append_assoc, List.drop_left]
          rw [e, ← List.append_assoc] at h
          exact h
        obtain ⟨z, hz, hz2⟩ := hg.up _ _ h2
        refine ⟨z, ?_, hz2⟩
        rw [A, if_pos (List.prefix_append _ _), List.drop_left]
        exact hz
    · rename_i h1
      split at h
      · exact absurd rfl h
      · rename_i h2
        obtain ⟨z, hz, hz2⟩ := hg.up r n h
        refine ⟨z, ?_, hz2⟩
        rw [A, if_neg (fun e => h1 (e.trans (List.prefix_append r [n]))), if_neg (fun e => h2 (e.trans (List.prefix_append r [n])))]
        exact hz
  · obtain ⟨r', h'⟩ := B h
    exact hg.kind r' z h'
  · obtain ⟨r', h'⟩ := B h
    exact hg.dirs r' z h'
  · obtain ⟨r', h'⟩ := B h
    exact hg.small r' z h'
  · intro r z h
    rw [A] at h
    split at h
    · rename_i hpre
      obtain ⟨s, rfl⟩ := hpre
      rw [List.drop_left] at h
      exact hf s (by rw [h]; simp)
    · split at h
      · cases h
      · exact hg.okp r z h
end Go.Proofs.YthojofeocjmglaaGreatDoor.I
