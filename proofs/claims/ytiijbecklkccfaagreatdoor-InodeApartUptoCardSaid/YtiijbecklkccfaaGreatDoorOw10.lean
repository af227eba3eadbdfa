/- Merged out of these texts: IRow, INames, IList, Look, Sys. -/
import Derived.Test.YtiijbecklkccfaaGreatDoorOw2
import Derived.Great.BuildSlice
import Derived.Great.FillDense
import Derived.Test.YtiijbecklkccfaaGreatDoorOw7
import Derived.Test.YtiijbecklkccfaaGreatDoorOw5
import Derived.Test.YtiijbecklkccfaaGreatDoorOw9
/- A row of strings that one makes, or reads. -/
namespace Go.Proofs.YtiijbecklkccfaaGreatDoor.I
open Go.RowKit Go.Proofs.YtiijbecklkccfaaGreatDoor.B
set_option linter.unusedVariables false
theorem info9 : (Tryz.prog.info? 9).map (fun i => (i.zero, i.size, i.bytes)) = some (some (.string ⟨#[]⟩), 1, 16) := by kernel_rfl
theorem info9' : ∃ ie, Tryz.prog.info? 9 = some ie ∧ ie.zero = some (.string ⟨#[]⟩) ∧ ie.size = 1 ∧ ie.bytes = 16 := by
  cases hie : Tryz.prog.info? 9 with
  | none => have := info9; rw [hie] at this; cases this
  | some ie =>
    have h := info9
    rw [hie] at h
    simp only [Option.map_some, Option.some.injEq, Prod.mk.injEq] at h
    exact ⟨ie, rfl, h.1, h.2.1, h.2.2⟩
theorem buildStr (s : ByteArray) (w : World) : (Instr.buildSlice 42 1 #[(0, .string s)]).run Tryz.prog w = .ok (.slice (some ⟨w.heap.size, 0, none⟩) 1 1) (w.alloc (.cells #[.string s] 9)) := by
  obtain ⟨ie, h1, h2, h3, h4⟩ := info9'
  refine Go.run_buildSlice w 42 9 1 _ _ ie _ Tryz.underlying42 h1 h2 (by rw [h3]; decide) (by rw [h3]; decide) ?_
  rw [h3]
  have := Great.fill_whole (s := 1) (by omega) [.string s] ((Array.range (1 * 1)).map ((Value.string ⟨#[]⟩).cells[· % (Value.string ⟨#[]⟩).cells.size]!)) (by simp [Value.cells]) (by simp)
  simpa [Value.cells] using this
theorem wp_buildStr (s : ByteArray) {o : Oper} {a : Act} {w : World} {K : Act → World → Prop} {Q : Exit → Act → World → Prop} (x : Operand) (ho : o.op = .buildSlice 42 1 #[(0, x)]) (hx : a.eval x = .string s)
    (h : K (a.put o.dst (.slice (some ⟨w.heap.size, 0, none⟩) 1 1)) (w.alloc (.cells #[.string s] 9))) : o.wp Tryz.prog a w K Q := by
  unfold Oper.wp execOp
  simp only [ho, List.map_toArray, List.map_cons, List.map_nil, hx, Sem.run_bind, buildStr, Result.andThen_ok]
  exact h
theorem wpList_buildStr {ops : Array Oper} {rest : List Oper} {o : Oper} {a : Act} {w : World} {Q : Exit → Act → World → Prop} (hgd : o.guard = none) (s : ByteArray) (n : Nat) (hn : w.heap.size = n) (x : Operand) (ho : o.op = .buildSlice 42 1 #[(0, x)]) (hx : a.eval x = .string s)
    (h : wpList Tryz.prog ops Q rest (a.put o.dst (.slice (some ⟨n, 0, none⟩) 1 1)) (w.alloc (.cells #[.string s] 9))) : wpList Tryz.prog ops Q (o :: rest) a w :=
  wpList_plain hgd fun _ hK => wp_buildStr s x ho hx (hK _ _ (by subst hn; exact h))
theorem wpList_append9 {ops : Array Oper} {rest : List Oper} {o : Oper} {a : Act} {w : World} {Q : Exit → Act → World → Prop} (hgd : o.guard = none) (s x : Operand)
    (ho : o.op = .call { callee := .builtin .append, args := #[s, x], argTypes := #[42, 42] }) (base : Nat) (v : Value) (L : List ByteArray) (hs : a.eval s = v) (hown : w.ownsRow base 9 1 v L.length (L.map Value.string))
    (p : ByteArray) (g : Nat) (hx : a.eval x = .slice (some ⟨g, 0, none⟩) 1 1) (hg : w.heap[g]? = some (.cells #[.string p] 9 (0, 0))) (hL : L.length ≤ 16777216) (hb : base ≤ w.heap.size)
    (h : ∀ v' w', w'.ownsRow base 9 1 v' (L ++ [p]).length ((L ++ [p]).map Value.string) → w.grownBy w' v.ownBlock → wpList Tryz.prog ops Q rest (a.put o.dst v') w') : wpList Tryz.prog ops Q (o :: rest) a w := by
  obtain ⟨ie, h1, h2, h3, h4⟩ := info9'
  refine wpList_append_own _ hgd s x 42 ho base 9 ie _ 1 16 Tryz.underlying42 h1 h2 h3 h4 rfl (by decide) v L.length (L.map Value.string) hs hown ⟨g, 0, none⟩ 1 1 [.string p] hx rfl ?_ (fun u hu => by simp at hu; subst hu; rfl) ?_ ?_ hb ?_
  · intro j u hu
    have h0 : j = 0 := by
      cases j with
      | zero => rfl
      | succ j => simp at hu
    subst h0
    have e : (⟨g, 0, none⟩ : Addr).add 0 = ⟨g, 0, none⟩ := rfl
    rw [e, cell_of_heap hg]
    simpa using hu
  · unfold maxLen; omega
  · omega
  · intro v' w' q1 q2 q3
    refine h v' w' ?_ q2
    rw [List.length_append, List.map_append]
    exact q1
/-- A row of strings in memory. -/
def StrL (w : World) (v : Value) (L : List ByteArray) : Prop := ∃ A c, v = .slice A L.length c ∧ ∀ i, (h : i < L.length) → ∃ a, A = some a ∧ w.cell? (a.add i) = some (.string (L[i]'h))
theorem StrL.chg {w w' : World} {v : Value} {L : List ByteArray} (h : StrL w v L) (hc : Chg [] w w') : StrL w' v L := by
  obtain ⟨A, c, hv, h1⟩ := h
  refine ⟨A, c, hv, fun i hi => ?_⟩
  obtain ⟨a, h2, h3⟩ := h1 i hi
  exact ⟨a, h2, (hc.below.cell (World.block_lt_of_cell? w _ h3)).trans h3⟩
theorem strL_of_own {w : World} {base : Nat} {v : Value} {L : List ByteArray} (h : w.ownsRow base 9 1 v L.length (L.map Value.string)) : StrL w v L := by
  obtain ⟨h1, h2⟩ := h
  rcases h2 with ⟨rfl, h0⟩ | ⟨g, cap, cur, rfl, hb, hg, hn, hc, hsz, ht⟩
  · exact ⟨none, 0, by rw [h0], fun p hp => by omega⟩
  · refine ⟨_, cap, rfl, fun i hi => ⟨_, rfl, ?_⟩⟩
    have e : (⟨g, 0, none⟩ : Addr).add i = ⟨g, i, none⟩ := by
      unfold Addr.add
      split
      · subst_vars; rfl
      · simp
    rw [e, cell_of_heap hg]
    have h3 : (cur.toList.take (L.length * 1))[i]? = (L.map Value.string)[i]? := by rw [ht]
    rw [List.getElem?_take_of_lt (by omega), List.getElem?_map, List.getElem?_eq_getElem hi] at h3
    simpa using h3
theorem chg_rgrown {L : List Nat} {a b c : World} {row : Option Nat} (h : Chg L a b) (k : b.grownBy c row) (hr : ∀ g, row = some g → g < a.heap.size → g ∈ L) : Chg L a c :=
  ⟨k.os.trans h.os, k.tape.trans h.tape, k.output.trans h.output, Nat.le_trans h.size k.size, fun i hi hn =>
    (k.block i (Nat.lt_of_lt_of_le hi h.size) (fun e => hn (hr i e.symm hi))).trans (h.block i hi hn)⟩
theorem grown_chg {w wr w' : World} {base : Nat} {t : TypeId} {z n : Nat} {v : Value} {l : List Value} (hc : Chg [] w wr) (ho : wr.ownsRow base t z v n l) (hb : w.heap.size ≤ base) (hg : wr.grownBy w' v.ownBlock) : Chg [] w w' :=
  chg_rgrown hc hg (fun g e hk => by have := (ho.lt g e).1; omega)
end Go.Proofs.YtiijbecklkccfaaGreatDoor.I
/- The program's names: a directory's names, in order. The walk: a loop over a map that collects; a sort. -/
namespace Go.Proofs.YtiijbecklkccfaaGreatDoor.I
open Go.RowKit Go.Proofs.YtiijbecklkccfaaGreatDoor.B Go.Sort
set_option linter.unusedVariables false
def keysZ (Z : List (Nm × Value)) : List ByteArray := Z.map fun z => nb z.1
def sortN (l : List Nm) : List Nm := l.mergeSort fun x y => decide (x ≤ y)
/-- A row of names, its own block at or above b: some order in which the names came, sorted. -/
def RowN (fs : FS) (p : Pth) (b : Nat) (w' : World) (v : Value) : Prop := ∃ l : List Nm, l.Nodup ∧ (∀ k, k ∈ l ↔ fs.at (p ++ [k]) ≠ none) ∧ w'.ownsRow b 9 1 v l.length ((sortN l).map fun n => Value.string (nb n))
theorem own_none (w : World) (b : Nat) : w.ownsRow b 9 1 (.slice none 0 0) ([] : List Nm).length ((sortN []).map fun n => Value.string (nb n)) := ⟨by simp [sortN], .inl ⟨rfl, rfl⟩⟩
/-- The answer of names. -/
def NamesPost (fs : FS) (p : Pth) (b : Nat) (e : Ending) (w' : World) : Prop := ∃ v, e = .returned v ∧ RowN fs p b w' v
theorem own_mono {w : World} {a b z : Nat} {t : TypeId} {v : Value} {n : Nat} {xs : List Value} (h : w.ownsRow b t z v n xs) (hab : a ≤ b) : w.ownsRow a t z v n xs := by
  obtain ⟨h1, h2⟩ := h
  refine ⟨h1, ?_⟩
  rcases h2 with h2 | ⟨g, cap, cur, hv, hb, hr⟩
  · exact .inl h2
  · exact .inr ⟨g, cap, cur, hv, Nat.le_trans hab hb, hr⟩
theorem own_chg {w w' : World} {b z : Nat} {t : TypeId} {v : Value} {n : Nat} {xs : List Value} {K : List Nat} (h : w.ownsRow b t z v n xs) (hC : Chg K w w') (hK : ∀ i ∈ K, i < b ∨ w.heap.size ≤ i) : w'.ownsRow b t z v n xs := by
  obtain ⟨h1, h2⟩ := h
  refine ⟨h1, ?_⟩
  rcases h2 with h2 | ⟨g, cap, cur, hv, hb, hg, hr⟩
  · exact .inl h2
  · refine .inr ⟨g, cap, cur, hv, hb, hC.heap hg (fun h => ?_), hr⟩
    have h3 := lt_of_heap hg
    rcases hK g h with h4 | h4 <;> omega
theorem nodup_len' {α : Type} [BEq α] [LawfulBEq α] : ∀ {l m : List α}, l.Nodup → (∀ a ∈ l, a ∈ m) → l.length ≤ m.length
  | [], _, _, _ => Nat.zero_le _
  | a :: l, m, hd, hs => by
    rw [List.nodup_cons] at hd
    have h1 := nodup_len' (l := l) (m := m.erase a) hd.2 (fun b hb => (List.mem_erase_of_ne (fun e => hd.1 (by rw [← e]; exact hb))).2 (hs b (List.mem_cons_of_mem _ hb)))
    have h2 := hs a (by simp)
    rw [List.length_erase_of_mem h2] at h1
    have := List.length_pos_of_mem h2
    simp only [List.length_cons]
    omega
theorem sorted_heap {wr : World} {g : Nat} {cur : Array Value} {t : TypeId} {fr : Nat × Nat} (hg : wr.heap[g]? = some (.cells cur t fr)) (d : Array (List UInt8)) (n : Nat) (os : Array Obj) :
    (grow (putRow encStr (Sort.ahead wr n) g 0 d) os).heap[g]? = some (.cells (putCells encStr 0 d cur) t fr) := by
  have hlt := heap_size_lt hg
  show ((wr.heap.modify g _) ++ os)[g]? = _
  rw [Array.getElem?_append_left (by simpa using hlt), Array.getElem?_modify, if_pos rfl, hg]
  rfl
theorem sorted_chg {w wr : World} (hC : Chg [] w wr) {g : Nat} (hge : w.heap.size ≤ g) (d : Array (List UInt8)) (n : Nat) (os : Array Obj) : Chg [] w (grow (putRow encStr (Sort.ahead wr n) g 0 d) os) := by
  refine ⟨hC.os, hC.tape, hC.output, ?_, fun i hi hn => ?_⟩
  · have := hC.size
    simp
    show w.heap.size ≤ wr.heap.size + os.size
    omega
  · have h1 := hC.size
    show ((wr.heap.modify g _) ++ os)[i]? = _
    rw [Array.getElem?_append_left (by simp; omega), Array.getElem?_modify, if_neg (by omega)]
    exact hC.block i hi hn
theorem put_read (d : Array (List UInt8)) (cur : Array Value) (h : d.size ≤ cur.size) (i : Nat) (hi : i < d.size) : (putCells encStr 0 d cur)[i]? = some (encStr d[i]!) := by
  unfold putCells
  rw [Array.getElem?_mapIdx, Array.getElem?_eq_getElem (by omega)]
  simp [hi]
theorem encStr_nb (n : Nm) : encStr n = .string (nb n) := rfl
set_option maxRecDepth 100000 in
set_option maxHeartbeats 16000000 in
theorem names_calls (L : List Nat) (t : Nat) (fs : FS) (by' nd : Nat) (A M : Pth → Nat) (hg : FsOk fs) (hr : Room fs by' nd) (p : Pth) (x : Nd) (w : World) (hx : fs.at p = some x) (hT : TabAt w L t fs by' nd A M) :
    Calls Tryz.prog 37 #[(.pointer (some ⟨A p, 0, none⟩))] w fun e w' => NamesPost fs p w.heap.size e w' ∧ Chg [] w w' := by
  have c2 := cell_of_heap (hT.node p x hx) 2
  have hCw := Chg.refl [] w
  by_cases hk : x.kind = 2
  · rw [if_pos hk] at c2
    obtain ⟨es, clock, K, hK1, hK2, hK3⟩ := hT.kids p x hx hk
    have hrg := run_range_map (P := Tryz.prog) w 83 _ _ (M p) es clock Tryz.underlying83 hK1
    have HES := Asd.mk (show es.size ≤ 65536 by
      have h1 : es.size = K.length := by simpa using congrArg List.length hK2.ents
      have h2 : (K.map fun z => p ++ [z.1]).length ≤ (fs.map (·.1)).length := by
        refine nodup_len' ?_ ?_
        · have h3 : (K.map fun z => p ++ [z.1]) = (K.map (·.1)).map fun k => p ++ [k] := by rw [List.map_map]; rfl
          rw [h3]
          exact List.pairwise_map.2 (hK2.keys.imp fun h e => h (snoc_inj e).2)
        · intro a ha
          obtain ⟨z, hz, rfl⟩ := List.mem_map.1 ha
          have h4 := mem_lookup_kid hK2.keys (n := z.1) (v := z.2) hz
          rw [hK3] at h4
          cases h5 : fs.at (p ++ [z.1]) with
          | none => rw [h5] at h4; cases h4
          | some y =>
            rw [at_ne fs (by simp)] at h5
            exact List.mem_map.2 ⟨_, lookup_mem h5, rfl⟩
      have := hr.n
      have := hr.count
      rw [List.length_map, List.length_map] at h2
      omega)
    have HK1 := Asd.mk hK1
    have HK2 := Asd.mk hK2
    have HK3 := Asd.mk hK3
    clear hx hK1 hK2 hK3 hk hT
    go_enter Tryz.func37, Tryz.ntmps37
    go_wp2
    go_loopg [3, 4] ((leftOf es #[]).size + 1) (fun gk v3 _ wx => ∃ (seen : Array Nat) (Z : List (Nm × Value)), gk = (leftOf es seen).size + 1 ∧ Z.length + (leftOf es seen).size ≤ es.size ∧ Asd (Rg es seen Z) ∧ Asd (wx.heap[w.heap.size]? = some (.mapIter (some (M p)) clock seen clock)) ∧ Asd (Chg [] w wx) ∧ Asd (wx.ownsRow (w.heap.size + 1) 9 1 v3 (keysZ Z).length ((keysZ Z).map Value.string)))
    case atStart => exact ⟨#[], [], rfl, by simp only [List.length_nil, Nat.zero_add]; exact Array.size_filter_le, ⟨rg_nil es⟩, ⟨hp_new _ _⟩, ⟨(Chg.refl _ _).alloc _⟩, ⟨⟨by simp [keysZ], .inl ⟨rfl, rfl⟩⟩⟩⟩
    case round =>
      obtain ⟨seen, Z, rfl, hzl, HZ, HI, HC, HO⟩ := hrel
      rcases rg_next (P := Tryz.prog) (w := wr) 0 HI.out (HC.out.heap HK1.out (by simp)) HK2.out HZ.out with ⟨hper, hrun⟩ | ⟨n, v, b, w2, hw2, hin, hrun, hZ2, hlt, hent⟩
      · obtain ⟨l, hl⟩ : ∃ l, Z.map (·.1) = l := ⟨_, rfl⟩
        have hkz : keysZ Z = l.map nb := by rw [← hl, List.map_map]; rfl
        have hpk : l.Perm (K.map (·.1)) := by rw [← hl]; exact hper.map _
        have HL := Asd.mk (show l.Nodup ∧ ∀ k, k ∈ l ↔ fs.at (p ++ [k]) ≠ none from ⟨hpk.nodup_iff.2 HK2.out.keys, fun k => by
          rw [hpk.mem_iff, List.mem_map]
          constructor
          · rintro ⟨z, hz, rfl⟩ e
            have h4 := mem_lookup_kid HK2.out.keys (n := z.1) (v := z.2) hz
            rw [HK3.out, e] at h4
            cases h4
          · intro hk
            cases hz : fs.at (p ++ [k]) with
            | none => exact absurd hz hk
            | some y =>
              have h4 := HK3.out k
              rw [hz] at h4
              exact ⟨_, lookup_mem_kid h4, rfl⟩⟩)
        have hll : l.length ≤ 65536 := by
          have h1 : es.size = K.length := by simpa using congrArg List.length HK2.out.ents
          have h2 := hpk.length_eq
          rw [List.length_map] at h2
          have := HES.out
          omega
        have hO := HO.out
        rw [hkz, List.length_map, List.map_map] at hO
        obtain ⟨h1, h2⟩ := hO
        rcases h2 with ⟨rfl, h0⟩ | ⟨g, cap, cur, rfl, hb, hgc, hn, hc, hsz, ht⟩
        · have hl0 : l = [] := List.eq_nil_of_length_eq_zero h0
          have hso := Asd.mk (Tryz.slices_Sort_string_none none 0 wr)
          have HCC := Asd.mk HC.out
          clear hper HI HZ HO HC HK1 HK2 HK3 hkz hl hpk h1 h0
          go_wp2_with fail
          refine hso.out.mono ?_
          rintro e w2 ⟨rfl, hw2⟩
          have hw2' := hw2.symm
          subst hw2'
          go_wp2
          go_ret
          exact ⟨⟨_, rfl, l, HL.out.1, HL.out.2, by rw [hl0]; exact own_none _ _⟩, HCC.out⟩
        · have hcs : l.length ≤ cur.size := by
            have := congrArg List.length ht
            simp at this
            omega
          have hH : Holds encStr wr g 0 l.toArray := fun j hj => by
            have hj : j < l.length := by simpa using hj
            refine ⟨?_, frozen_of_heap hgc (0 + j)⟩
            rw [cell_of_heap hgc, Nat.zero_add]
            have h3 : (cur.toList.take (l.length * 1))[j]? = (l.map (Value.string ∘ nb))[j]? := by rw [ht]
            rw [List.getElem?_take_of_lt (by omega), List.getElem?_map, List.getElem?_eq_getElem hj] at h3
            simp [encStr_nb, hj]
            simpa using h3
          have hso := Asd.mk (Tryz.slices_Sort_string g 0 cap l wr hH (heap_size_lt hgc) (by omega))
          have HGC := Asd.mk hgc
          have HCC := Asd.mk HC.out
          have HSZ := Asd.mk hsz
          clear hper HI HZ HO HC HK1 HK2 HK3 hkz hl hpk h1 hH ht hsz
          go_wp2_with fail
          refine hso.out.mono ?_
          rintro e w2 ⟨rfl, k, os, hw2⟩
          have HC2 := Asd.mk (show Chg [] w w2 by rw [hw2]; exact sorted_chg HCC.out (by omega) _ _ _)
          have HN2 := Asd.mk (show w2.ownsRow w.heap.size 9 1 (.slice (some ⟨g, 0, none⟩) l.length cap) l.length ((sortN l).map fun n => Value.string (nb n)) from by
            have hls : (sortN l).length = l.length := by simp [sortN, List.length_mergeSort]
            refine ⟨by rw [List.length_map, hls, Nat.mul_one], .inr ⟨g, cap, putCells encStr 0 (sortN l).toArray cur, rfl, by omega, by rw [hw2]; exact sorted_heap HGC.out _ _ _, by omega, by omega, ?_, ?_⟩⟩
            · unfold putCells
              rw [Array.size_mapIdx]
              exact HSZ.out
            · apply List.ext_getElem?
              intro i
              by_cases hi : i < l.length
              · have hi2 : i < (sortN l).toArray.size := by simpa [hls] using hi
                have hs2 : (sortN l).toArray.size ≤ cur.size := by simp [sortN, List.length_mergeSort]; exact hcs
                have := put_read (sortN l).toArray cur hs2 i hi2
                rw [List.getElem?_take_of_lt (by omega), Array.getElem?_toList, this]
                simp [encStr_nb, hls, hi]
              · rw [List.getElem?_eq_none (by rw [List.length_take]; omega), List.getElem?_eq_none (by rw [List.length_map, hls]; omega)])
          clear hw2
          go_wp2
          go_ret
          exact ⟨⟨_, rfl, l, HL.out.1, HL.out.2, HN2.out⟩, HC2.out⟩
      · obtain ⟨W, hW⟩ : ∃ W, Go.ChangeMaps.setBlock w2 w.heap.size (.mapIter (some (M p)) clock (seen.push b) clock) = W := ⟨_, rfl⟩
        rw [hW] at hrun
        have hMr : M p ≠ w.heap.size := fun e => by
          have h1 := (heap_size_lt HK1.out)
          omega
        have hI2 : w2.heap[w.heap.size]? = some (.mapIter (some (M p)) clock seen clock) := by
          rcases hw2 with rfl | rfl
          · exact HI.out
          · exact hp_drew HI.out
        have hC2 : Chg [] w w2 := by
          rcases hw2 with rfl | rfl
          · exact HC.out
          · exact HC.out.drew
        have hO2 : w2.ownsRow (w.heap.size + 1) 9 1 u3 (keysZ Z).length ((keysZ Z).map Value.string) := by
          rcases hw2 with rfl | rfl
          · exact HO.out
          · exact HO.out
        have hIW : W.heap[w.heap.size]? = some (.mapIter (some (M p)) clock (seen.push b) clock) := by rw [← hW]; exact hp_setBlock hI2
        have hbW : W.heap[M p]? = some (.map es clock) := by rw [← hW, hp_setBlock_other _ hMr]; exact hC2.heap HK1.out (by simp)
        have hCW : Chg [] w W := by rw [← hW]; exact hC2.setBlock (fun h => absurd h (Nat.lt_irrefl _)) _
        have hOW : W.ownsRow (w.heap.size + 1) 9 1 u3 (keysZ Z).length ((keysZ Z).map Value.string) := by
          obtain ⟨h1, h2⟩ := hO2
          refine ⟨h1, ?_⟩
          rcases h2 with h2 | ⟨g, cap, cur, hv, hb, hg, hr⟩
          · exact .inl h2
          · exact .inr ⟨g, cap, cur, hv, hb, by rw [← hW]; exact hp_setBlock_other hg (by omega), hr⟩
        have hen := hent W hIW hbW
        have HIW := Asd.mk hIW
        have HCW := Asd.mk hCW
        have HOW := Asd.mk hOW
        have HZ2 := Asd.mk hZ2
        have hkl : (keysZ Z).length ≤ 16777216 := by have := HES.out; unfold keysZ; rw [List.length_map]; omega
        have hWs : w.heap.size + 1 ≤ W.heap.size := heap_size_lt hIW
        clear hW hw2 hin hent hIW hbW hCW hOW hO2 hI2 hC2 hMr hZ2 HI HZ HO HC
        go_wp2_with (first | (refine wpList_buildStr rfl (nb n) (W.heap.size) rfl (.tmp 15) rfl rfl ?_; simp only [Act.put, List.setIfInBounds_toArray, List.set_cons_zero, List.set_cons_succ]) | (at_builtin; refine wpList_append9 rfl (.tmp 14) (.tmp 16) rfl (w.heap.size + 1) u3 (keysZ Z) rfl (HOW.out.alloc _) (nb n) W.heap.size rfl (hp_new _ _) hkl (by simp; omega) ?_; intro v2 w9 hown9 hgrow9; replace hown9 := Asd.mk hown9; replace hgrow9 := Asd.mk hgrow9; simp only [Act.put, List.setIfInBounds_toArray, List.set_cons_zero, List.set_cons_succ]))
        go_roundg ((leftOf es (seen.push b)).size + 1)
        case rel => exact ⟨seen.push b, Z ++ [(n, v)], rfl, by rw [List.length_append]; simp only [List.length_singleton]; omega, HZ2, ⟨by
          have h1 := hp_alloc HIW.out (.cells #[.string (nb n)] 9)
          have h2 := (HOW.out.alloc (.cells #[.string (nb n)] 9)).lt
          rw [hgrow9.out.block _ (heap_size_lt h1) (fun e => by have := (h2 _ e.symm).1; omega)]
          exact h1⟩, ⟨grown_chg (HCW.out.alloc _) (HOW.out.alloc _) (by omega) hgrow9.out⟩, ⟨by
          have e : keysZ (Z ++ [(n, v)]) = keysZ Z ++ [nb n] := by simp [keysZ]
          rw [e]; exact hown9.out⟩⟩
        case measure => omega
  · rw [if_neg hk] at c2
    have HA := Asd.mk (show ∀ k, fs.at (p ++ [k]) = none from fun k => by
      cases hz : fs.at (p ++ [k]) with
      | none => rfl
      | some z =>
        obtain ⟨z2, hz2, hz3⟩ := hg.up p k (by rw [hz]; simp)
        rw [hx] at hz2
        cases hz2
        exact absurd hz3 hk)
    have hrg := run_range_nilMap (P := Tryz.prog) w 83 _ _ Tryz.underlying83
    have hnx := run_next_nilMap (P := Tryz.prog) w 0 0 0 #[]
    have hso := Asd.mk (Tryz.slices_Sort_string_none none 0 (w.alloc (.mapIter none 0 #[] 0)))
    clear hx hk hT
    go_enter Tryz.func37, Tryz.ntmps37
    go_wp2
    refine wp_loop_rounds 1 ?_
    rw [rounds_succ]
    go_wp2_with fail
    refine hso.out.mono ?_
    rintro e w2 ⟨rfl, rfl⟩
    go_wp2
    go_ret
    exact ⟨⟨_, rfl, [], by simp, fun k => by simp [HA.out k], own_none _ _⟩, hCw.alloc _⟩
end Go.Proofs.YtiijbecklkccfaaGreatDoor.I
/- The program's List: the walk. -/
namespace Go.Proofs.YtiijbecklkccfaaGreatDoor.I
open Go.RowKit Go.Proofs.YtiijbecklkccfaaGreatDoor.B Go.Sort
set_option linter.unusedVariables false
/-- List: the error's number, or the directory's path. -/
def listE (fs : FS) (s : ByteArray) : Except Nat Pth := match thereE fs s with
  | .error n => .error n
  | .ok p => match fs.at p with
    | none => .ok p
    | some x => if x.kind = 1 then .error 203 else if x.kind = 3 then .error 204 else .ok p
def ListPost (fs : FS) (b : Nat) (R : Except Nat Pth) (e : Ending) (w' : World) : Prop := match R with
  | .error n => e = .returned (.tuple #[.slice none 0 0, errV n])
  | .ok p => ∃ v, e = .returned (.tuple #[v, .nilIface]) ∧ RowN fs p b w' v
set_option maxRecDepth 100000 in
set_option maxHeartbeats 16000000 in
theorem list_calls (L : List Nat) (t : Nat) (fs : FS) (by' nd : Nat) (A M : Pth → Nat) (s : ByteArray) (w : World) (hT : TabAt w L t fs by' nd A M) (hg : FsOk fs) (hrm : Room fs by' nd) (hm : MaxLenAt w) (hs : s.size ≤ 4294967280) :
    Calls Tryz.prog 19 #[(.pointer (some ⟨t, 0, none⟩)), .string s] w fun e w' => ListPost fs w.heap.size (listE fs s) e w' ∧ Chg [] w w' := by
  have HP := Asd.mk (there_calls L t fs by' nd A M s w hT hg hm hs)
  obtain ⟨R, hR⟩ : ∃ R, thereE fs s = R := ⟨_, rfl⟩
  rw [hR] at HP
  cases R with
  | error n =>
    have HA := Asd.mk (show listE fs s = .error n by unfold listE; rw [hR])
    have HN := Asd.mk (thereE_pos hR)
    clear hR hT hg hm hrm
    go_enter Tryz.func19, Tryz.ntmps19
    go_wp2_with fail
    refine HP.out.mono ?_
    rintro e w1 ⟨⟨d, l, k, rfl⟩, hC1⟩
    have HC1 := Asd.mk hC1
    clear hC1
    go_wp2
    go_ret2
    exact ⟨by rw [HA.out]; show _ = Ending.returned (.tuple #[.slice none 0 0, errV n]); simp only [errV]; rw [if_neg HN.out]; rfl, HC1.out.alloc _⟩
  | ok p =>
    obtain ⟨x, hx⟩ := thereE_ok hR
    have hAE : listE fs s = if x.kind = 1 then .error 203 else if x.kind = 3 then .error 204 else .ok p := by unfold listE; rw [hR]; simp only; rw [hx]
    have hkk := hg.kind p x hx
    have HNm := Asd.mk (fun W hW => names_calls L t fs by' nd A M hg hrm p x W hx hW)
    clear hR hm hg hrm
    go_enter Tryz.func19, Tryz.ntmps19
    go_wp2_with fail
    refine HP.out.mono ?_
    rintro e w1 ⟨hPo, hC1⟩
    have hPo2 : e = .returned (.tuple #[.agg #[.pointer (dirA A p), .string (lastS p), .pointer (some ⟨A p, 0, none⟩)], .nilIface]) := hPo
    subst hPo2
    obtain ⟨dp, hdp⟩ : ∃ d, dirA A p = d := ⟨_, rfl⟩
    obtain ⟨ls, hls⟩ : ∃ d, lastS p = d := ⟨_, rfl⟩
    rw [hdp, hls]
    have HC1 := Asd.mk hC1
    clear hC1 hPo HP hdp hls
    go_upto_region 4 with fail
    refine wp_opaque2 (fun W hW => ?_)
    have HCW := Asd.mk (show Chg [] w W by rw [hW]; exact HC1.out.alloc _)
    have HB := Asd.mk (show W.heap[w1.heap.size]? = some (.cells #[.pointer dp, .string ls, .pointer (some ⟨A p, 0, none⟩)] 79 (0, 0)) by rw [hW]; exact hp_new _ _)
    have hTW := hT.keep0 HCW.out
    obtain ⟨B, hB⟩ : ∃ B, w1.heap.size = B := ⟨_, rfl⟩
    rw [hB] at HB ⊢
    have b2 := cell_of_heap HB.out 2
    clear hW HC1 hB
    have hno := hTW.node p x hx
    have c0 := cell_of_heap hno 0
    have HNN := Asd.mk (HNm.out W hTW)
    clear hno hTW hT HNm hx
    rcases hkk with hk | hk | hk
    · rw [hk] at c0
      have HA := Asd.mk (show listE fs s = .error 203 by rw [hAE, if_pos hk])
      clear hAE hk
      go_wp2
      go_ret2
      exact ⟨by rw [HA.out]; rfl, HCW.out⟩
    · rw [hk] at c0
      have HA := Asd.mk (show listE fs s = .ok p by rw [hAE, if_neg (by omega), if_neg (by omega)])
      clear hAE hk
      go_wp2_with fail
      refine HNN.out.mono ?_
      rintro e w2 ⟨hN, hC2⟩
      obtain ⟨v, rfl, l, hN1, hN2, hN3⟩ := hN
      have hN := show RowN fs p w.heap.size w2 v from ⟨l, hN1, hN2, own_mono hN3 HCW.out.size⟩
      have HN := Asd.mk hN
      have HC2 := Asd.mk (HCW.out.trans hC2)
      clear hN hN1 hN2 hN3 hC2
      go_wp2
      go_ret2
      exact ⟨by rw [HA.out]; exact ⟨v, rfl, HN.out⟩, HC2.out⟩
    · rw [hk] at c0
      have HA := Asd.mk (show listE fs s = .error 204 by rw [hAE, if_neg (by omega), if_pos hk])
      clear hAE hk
      go_wp2
      go_ret2
      exact ⟨by rw [HA.out]; rfl, HCW.out⟩
end Go.Proofs.YtiijbecklkccfaaGreatDoor.I
/- The program's Look: the walk. -/
namespace Go.Proofs.YtiijbecklkccfaaGreatDoor.I
open Go.RowKit Go.Proofs.YtiijbecklkccfaaGreatDoor.B Go.Sort
set_option linter.unusedVariables false
theorem size_entry (a b c : Value) : (Tryz.prog.info? 41).map (·.size) = some (#[a, b, c]).size := by kernel_rfl
theorem one_entry (a b : ByteArray) (k : Int) : (#[Value.string a, .int .i64 k, .string b]).all (·.oneCell') = true := by kernel_rfl
/-- Look: the error's number; the entry. -/
def lookF (fs : FS) (s : ByteArray) : Nat × ByteArray × Nat × ByteArray := match thereE fs s with
  | .error n => (n, ⟨#[]⟩, 0, ⟨#[]⟩)
  | .ok p => match fs.at p with
    | none => (0, ⟨#[]⟩, 0, ⟨#[]⟩)
    | some x => (0, s, x.kind, x.text)
def entV (x : ByteArray × Nat × ByteArray) : Value := .agg #[.string x.1, .int .i64 (x.2.1 : Int), .string x.2.2]
set_option maxRecDepth 100000 in
set_option maxHeartbeats 16000000 in
theorem look_calls (L : List Nat) (t : Nat) (fs : FS) (by' nd : Nat) (A M : Pth → Nat) (s : ByteArray) (w : World) (hT : TabAt w L t fs by' nd A M) (hg : FsOk fs) (hm : MaxLenAt w) (hs : s.size ≤ 4294967280) :
    Calls Tryz.prog 27 #[(.pointer (some ⟨t, 0, none⟩)), .string s] w fun e w' => e = .returned (.tuple #[entV (lookF fs s).2, errV (lookF fs s).1]) ∧ Chg [] w w' := by
  have HC0 := Asd.mk (show Chg [] w (w.alloc (.cells #[.string ⟨#[]⟩, .int .i64 0, .string ⟨#[]⟩] 41)) from (Chg.refl _ _).alloc _)
  have hT0 := hT.keep0 HC0.out
  have HP := Asd.mk (there_calls L t fs by' nd A M s (w.alloc (.cells #[.string ⟨#[]⟩, .int .i64 0, .string ⟨#[]⟩] 41)) hT0 hg (hm.chg HC0.out) hs)
  have HZ0 := Asd.mk (hp_new w (.cells #[.string ⟨#[]⟩, .int .i64 0, .string ⟨#[]⟩] 41))
  obtain ⟨B, hB⟩ : ∃ B, w.heap.size = B := ⟨_, rfl⟩
  rw [hB] at HZ0
  have hBw : ¬ B < w.heap.size := by omega
  obtain ⟨R, hR⟩ : ∃ R, thereE fs s = R := ⟨_, rfl⟩
  rw [hR] at HP
  cases R with
  | error n =>
    have HA := Asd.mk (show lookF fs s = (n, ⟨#[]⟩, 0, ⟨#[]⟩) by unfold lookF; rw [hR])
    have HN := Asd.mk (thereE_pos hR)
    clear hR hT hg hm hT0
    go_enter Tryz.func27, Tryz.ntmps27
    go_wp2_with fail
    refine HP.out.mono ?_
    rintro e w1 ⟨⟨d, l, k, rfl⟩, hC1⟩
    have HZ1 := Asd.mk (hC1.heap HZ0.out (by simp))
    have HC1 := Asd.mk (HC0.out.trans hC1)
    have HZ := Asd.mk (hp_alloc HZ1.out (.cells #[.pointer d, .string l, .pointer k] 79))
    clear hC1
    go_wp2_with (first | (refine wpList_store_row (o := ⟨none, _, _, _, _, _⟩) rfl 41 (.tmp 4) (.tmp 16) rfl B _ rfl rfl 41 _ HZ.out (size_entry _ _ _) rfl (one_entry _ _ _) ?_))
    refine bodyPost_ret (results_row_tmp rfl _ _ B 41 _ (0, 0) _ rfl (setRow_heap _ _ _ _ _ _ HZ.out) Tryz.underlying41 rfl (size_entry _ _ _)) rfl ?_
    exact ⟨by rw [HA.out]; simp only [errV]; rw [if_neg HN.out]; rfl, (HC1.out.alloc _).setRow (by omega) _⟩
  | ok p =>
    obtain ⟨x, hx⟩ := thereE_ok hR
    have HA := Asd.mk (show lookF fs s = (0, s, x.kind, x.text) by unfold lookF; rw [hR]; simp only; rw [hx])
    clear hR hm hg hT
    go_enter Tryz.func27, Tryz.ntmps27
    go_wp2_with fail
    refine HP.out.mono ?_
    rintro e w1 ⟨hPo, hC1⟩
    have hPo2 : e = .returned (.tuple #[.agg #[.pointer (dirA A p), .string (lastS p), .pointer (some ⟨A p, 0, none⟩)], .nilIface]) := hPo
    subst hPo2
    obtain ⟨dp, hdp⟩ : ∃ d, dirA A p = d := ⟨_, rfl⟩
    obtain ⟨ls, hls⟩ : ∃ d, lastS p = d := ⟨_, rfl⟩
    rw [hdp, hls]
    have HZ1 := Asd.mk (hC1.heap HZ0.out (by simp))
    have HC1 := Asd.mk (HC0.out.trans hC1)
    have HTT := Asd.mk (hT0.keep0 hC1)
    clear hC1 hPo HP hdp hls hT0
    go_upto_region 4 with fail
    refine wp_opaque2 (fun W hW => ?_)
    have HCW := Asd.mk (show Chg [] w W by rw [hW]; exact HC1.out.alloc _)
    have HB := Asd.mk (show W.heap[w1.heap.size]? = some (.cells #[.pointer dp, .string ls, .pointer (some ⟨A p, 0, none⟩)] 79 (0, 0)) by rw [hW]; exact hp_new _ _)
    have HZ := Asd.mk (show W.heap[B]? = some (.cells #[.string ⟨#[]⟩, .int .i64 0, .string ⟨#[]⟩] 41 (0, 0)) by rw [hW]; exact hp_alloc HZ1.out _)
    have hno := hp_alloc (HTT.out.node p x hx) (.cells #[.pointer dp, .string ls, .pointer (some ⟨A p, 0, none⟩)] 79)
    rw [← hW] at hno
    obtain ⟨D, hD⟩ : ∃ D, w1.heap.size = D := ⟨_, rfl⟩
    rw [hD] at HB ⊢
    have b2 := cell_of_heap HB.out 2
    have c0 := cell_of_heap hno 0
    have c1 := cell_of_heap hno 1
    clear hW HC1 hD hno hx HTT
    go_still_tail 12, (by kernel_rfl)
    go_wp2_with (first | (refine wpList_store_row (o := ⟨none, _, _, _, _, _⟩) rfl 41 (.tmp 4) (.tmp 29) rfl B _ rfl rfl 41 _ HZ.out (size_entry _ _ _) rfl (one_entry _ _ _) ?_))
    refine bodyPost_ret (results_row_tmp rfl _ _ B 41 _ (0, 0) _ rfl (hp_drew (setRow_heap _ _ _ _ _ _ HZ.out)) Tryz.underlying41 rfl (size_entry _ _ _)) rfl ?_
    exact ⟨by rw [HA.out]; rfl, (HCW.out.setRow (by omega) _).drew⟩
end Go.Proofs.YtiijbecklkccfaaGreatDoor.I
/- A file system whose blocks are all new since some world: each call's contract over it. -/
namespace Go.Proofs.YtiijbecklkccfaaGreatDoor.I
open Go.RowKit Go.Proofs.YtiijbecklkccfaaGreatDoor.B Go.Sort
set_option linter.unusedVariables false
/-- What has turned in new blocks alone. -/
theorem Chg.fresh {L : List Nat} {a c : World} (h : Chg L a c) (hL : ∀ i ∈ L, a.heap.size ≤ i) : Chg [] a c :=
  ⟨h.os, h.tape, h.output, h.size, fun i hi _ => h.block i hi fun hm => by have := hL i hm; omega⟩
/-- A file system that has been made since w. -/
def Sys (w W : World) (t : Nat) (fs : FS) (by' nd : Nat) : Prop := Chg [] w W ∧ FsOk fs ∧ Room fs by' nd ∧ ∃ L A M, TabAt W L t fs by' nd A M ∧ ∀ i ∈ L, w.heap.size ≤ i
theorem Sys.chg {w W W' : World} {t : Nat} {fs : FS} {by' nd : Nat} (h : Sys w W t fs by' nd) (hC : Chg [] W W') : Sys w W' t fs by' nd := by
  obtain ⟨h1, h2, h3, L, A, M, h4, h5⟩ := h
  exact ⟨h1.trans hC, h2, h3, L, A, M, h4.keep0 hC, h5⟩
theorem Sys.op {w W W' : World} {t : Nat} {by' nd : Nat} {L : List Nat} {R : Nat × FS} {e : Ending} (hC : Chg [] w W) (h5 : ∀ i ∈ L, w.heap.size ≤ i) (h : OpPost W L t by' nd R e W') (hk : FsOk R.2 ∧ Room R.2 by' nd) : e = .returned (errV R.1) ∧ Sys w W' t R.2 by' nd := by
  obtain ⟨h1, h2, L', A', M', h3, h4⟩ := h
  exact ⟨h1, Chg.fresh ((hC.mono (by simp)).trans h2) h5, hk.1, hk.2, L', A', M', h3, fun i hi => by
    rcases h4 i hi with h6 | h6
    · exact h5 i h6
    · exact Nat.le_trans hC.size h6⟩
theorem sys_new (b n : Nat) (w W : World) (hC : Chg [] w W) (hb : b ≤ 2147483647) (hn : n ≤ 65536) :
    Calls Tryz.prog 9 #[.int .i64 (b : Int), .int .i64 (n : Int)] W fun e w' => ∃ t, e = .returned (.tuple #[(.pointer (some ⟨t, 0, none⟩)), .nilIface]) ∧ Sys w w' t [] b n := by
  refine (new_ok b n W hb hn).mono ?_
  rintro e w' ⟨t, L, A, M, rfl, h1, h2, h3⟩
  exact ⟨t, rfl, hC.trans h1, fsOk_nil, ⟨hb, hn, by unfold usedF; simp, by simp⟩, L, A, M, h2, fun i hi => Nat.le_trans hC.size (h3 i hi)⟩
variable {w W : World} {t : Nat} {fs : FS} {by' nd : Nat}
theorem sys_make (s : ByteArray) (h : Sys w W t fs by' nd) (hm : MaxLenAt w) (hs : s.size ≤ 4294967280) :
    Calls Tryz.prog 33 #[(.pointer (some ⟨t, 0, none⟩)), .string s] W fun e w' => e = .returned (errV (makeF fs by' nd s).1) ∧ Sys w w' t (makeF fs by' nd s).2 by' nd := by
  obtain ⟨h1, h2, h3, L, A, M, h4, h5⟩ := h
  exact (make_calls L t fs by' nd A M s W h4 h2 h3 (hm.chg h1) hs).mono fun e w' hp => Sys.op h1 h5 hp (makeF_keep h2 h3 s)
theorem sys_create (s : ByteArray) (h : Sys w W t fs by' nd) (hm : MaxLenAt w) (hs : s.size ≤ 4294967280) :
    Calls Tryz.prog 30 #[(.pointer (some ⟨t, 0, none⟩)), .string s] W fun e w' => e = .returned (errV (createF fs by' nd s).1) ∧ Sys w w' t (createF fs by' nd s).2 by' nd := by
  obtain ⟨h1, h2, h3, L, A, M, h4, h5⟩ := h
  exact (create_calls L t fs by' nd A M s W h4 h2 h3 (hm.chg h1) hs).mono fun e w' hp => Sys.op h1 h5 hp (createF_keep h2 h3 s)
theorem sys_append (s z : ByteArray) (h : Sys w W t fs by' nd) (hm : MaxLenAt w) (hs : s.size ≤ 4294967280) (hz : z.size ≤ 4294967280) :
    Calls Tryz.prog 31 #[(.pointer (some ⟨t, 0, none⟩)), .string s, .string z] W fun e w' => e = .returned (errV (appendF fs by' s z).1) ∧ Sys w w' t (appendF fs by' s z).2 by' nd := by
  obtain ⟨h1, h2, h3, L, A, M, h4, h5⟩ := h
  exact (append_calls L t fs by' nd A M s z W h4 h2 h3 (hm.chg h1) hs hz).mono fun e w' hp => Sys.op h1 h5 hp (appendF_keep h2 h3 s z)
theorem renameF_keep {fs : FS} (hg : FsOk fs) {by' nd : Nat} (hr : Room fs by' nd) (a b : ByteArray) : FsOk (renameF fs a b).2 ∧ Room (renameF fs a b).2 by' nd := by
  by_cases hne : (renameF fs a b).2 = fs
  · rw [hne]; exact ⟨hg, hr⟩
  · unfold renameF at hne ⊢
    cases hR : partsF a with
    | error n => rw [hR] at hne; exact absurd rfl hne
    | ok p =>
      rw [hR] at hne
      simp only at hne ⊢
      cases hR2 : partsF b with
      | error n => rw [hR2] at hne; exact absurd rfl hne
      | ok q =>
        rw [hR2] at hne
        simp only at hne ⊢
        by_cases hp0 : p = []
        · rw [if_pos hp0] at hne; exact absurd rfl hne
        · rw [if_neg hp0] at hne ⊢
          by_cases hq0 : q = []
          · rw [if_pos hq0] at hne; exact absurd rfl hne
          · rw [if_neg hq0] at hne ⊢
            cases hw : wayE fs p with
            | some n => rw [hw] at hne; exact absurd rfl hne
            | none =>
              rw [hw] at hne
              simp only at hne ⊢
              cases hx : fs.at p with
              | none => rw [hx] at hne; exact absurd rfl hne
              | some x =>
                rw [hx] at hne
                simp only at hne ⊢
                by_cases hnb : x.kind = 2 ∧ a ≠ b ∧ belowB a b = true
                · rw [if_pos hnb] at hne; exact absurd rfl hne
                · rw [if_neg hnb] at hne ⊢
                  cases hwq : wayE fs q with
                  | some n => rw [hwq] at hne; exact absurd rfl hne
                  | none =>
                    rw [hwq] at hne
                    simp only at hne ⊢
                    by_cases hab : a = b
                    · rw [if_pos hab] at hne; exact absurd rfl hne
                    · rw [if_neg hab] at hne ⊢
                      by_cases hg0 : givesF fs q x ≠ 0
                      · rw [if_pos hg0] at hne; exact absurd rfl hne
                      · rw [if_neg hg0] at hne ⊢
                        by_cases hf : ¬ fitsP fs p b.data.toList
                        · rw [if_pos hf] at hne; exact absurd rfl hne
                        · rw [if_neg hf] at hne ⊢
                          obtain ⟨y, hO⟩ := ren_ok hg hR hR2 hp0 hab hx hnb (List.dropLast_concat_getLast hq0).symm hwq (Classical.not_not.1 hg0) (Classical.not_not.1 hf)
                          exact hO.sound hg hr
theorem sys_rename (a b : ByteArray) (h : Sys w W t fs by' nd) (hm : MaxLenAt w) (ha : a.size ≤ 4294967280) (hb : b.size ≤ 4294967280) :
    Calls Tryz.prog 28 #[(.pointer (some ⟨t, 0, none⟩)), .string a, .string b] W fun e w' => e = .returned (errV (renameF fs a b).1) ∧ Sys w w' t (renameF fs a b).2 by' nd := by
  obtain ⟨h1, h2, h3, L, A, M, h4, h5⟩ := h
  exact (rename_calls L t fs by' nd A M a b W h4 h2 h3 (hm.chg h1) ha hb).mono fun e w' hp => Sys.op h1 h5 hp (renameF_keep h2 h3 a b)
theorem sys_look (s : ByteArray) (h : Sys w W t fs by' nd) (hm : MaxLenAt w) (hs : s.size ≤ 4294967280) :
    Calls Tryz.prog 27 #[(.pointer (some ⟨t, 0, none⟩)), .string s] W fun e w' => e = .returned (.tuple #[entV (lookF fs s).2, errV (lookF fs s).1]) ∧ Chg [] W w' := by
  obtain ⟨h1, h2, h3, L, A, M, h4, h5⟩ := h
  exact look_calls L t fs by' nd A M s W h4 h2 (hm.chg h1) hs
theorem sys_read (s : ByteArray) (h : Sys w W t fs by' nd) (hm : MaxLenAt w) (hs : s.size ≤ 4294967280) :
    Calls Tryz.prog 34 #[(.pointer (some ⟨t, 0, none⟩)), .string s] W fun e w' => e = .returned (.tuple #[.string (readF fs s).2, errV (readF fs s).1]) ∧ Chg [] W w' := by
  obtain ⟨h1, h2, h3, L, A, M, h4, h5⟩ := h
  exact read_calls L t fs by' nd A M s W h4 h2 (hm.chg h1) hs
theorem sys_list (s : ByteArray) (h : Sys w W t fs by' nd) (hm : MaxLenAt w) (hs : s.size ≤ 4294967280) :
    Calls Tryz.prog 19 #[(.pointer (some ⟨t, 0, none⟩)), .string s] W fun e w' => ListPost fs W.heap.size (listE fs s) e w' ∧ Chg [] W w' := by
  obtain ⟨h1, h2, h3, L, A, M, h4, h5⟩ := h
  exact list_calls L t fs by' nd A M s W h4 h2 h3 (hm.chg h1) hs
theorem sys_used (h : Sys w W t fs by' nd) :
    Calls Tryz.prog 13 #[(.pointer (some ⟨t, 0, none⟩))] W fun e w' => e = .returned (.tuple #[.int .i64 (usedF fs : Int), .int .i64 (fs.length : Int)]) ∧ Chg [] W w' := by
  obtain ⟨h1, h2, h3, L, A, M, h4, h5⟩ := h
  exact used_calls L t fs by' nd A M W h4
end Go.Proofs.YtiijbecklkccfaaGreatDoor.I
