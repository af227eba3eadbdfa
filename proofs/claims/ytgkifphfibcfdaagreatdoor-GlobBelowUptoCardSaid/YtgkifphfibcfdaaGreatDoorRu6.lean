/- Merged out of these texts: RPart, RBuild, RCut, RLines, HeapK, RRuleB, ReadDef. -/
import Derived.Test.YtgkifphfibcfdaaGreatDoorRu5
import Derived.Test.YtgkifphfibcfdaaGreatDoorRu1
import Derived.Deep.WholeRow
import Derived.Great.BuildSlice
import Derived.Deep.CutRange
import Derived.Deep.CutBlock
import Derived.Test.YtgkifphfibcfdaaGreatDoorRu3
/- A part of the reference's in memory; the reference's one. -/
namespace Go.Proofs.YtgkifphfibcfdaaGreatDoor.G
open Go.RowKit Go.Proofs.YtgkifphfibcfdaaGreatDoor.B
set_option linter.unusedVariables false
/-- A part of the reference's in memory. -/
def RPartAt (w : World) (c : Nat) (a : Bool) (T : Nat → Bool) : Prop := w.heap[c]? = some (.cells (cellsOf a T) 72 (0, 0))
theorem RPartAt.cell {w : World} {c : Nat} {a : Bool} {T : Nat → Bool} (h : RPartAt w c a T) (i : Nat) (hi : i < 256) : w.cell? ⟨c, 1 + i, none⟩ = some (.bool (T i)) := (cell_of_heap h _).trans (cellsOf_at a T i hi)
theorem RPartAt.frozen {w : World} {c : Nat} {a : Bool} {T : Nat → Bool} (h : RPartAt w c a T) (i : Nat) : w.frozen? ⟨c, i, none⟩ = false := frozen_of_heap h _
theorem RPartAt.set {w : World} {c : Nat} {a : Bool} {T : Nat → Bool} (h : RPartAt w c a T) (i : Nat) (v : Bool) : RPartAt (w.setCell ⟨c, 1 + i, none⟩ (.bool v)) c a (upd T i v) := by
  have := hp_set h (1 + i) (.bool v)
  rw [cellsOf_set] at this
  exact this
theorem RPartAt.congr {w : World} {c : Nat} {a : Bool} {T U : Nat → Bool} (h : RPartAt w c a T) (e : ∀ i, i < 256 → T i = U i) : RPartAt w c a U := by
  unfold RPartAt at *
  rw [← cellsOf_congr a e]
  exact h
set_option maxHeartbeats 2000000 in
theorem size72 (a : Bool) (T : Nat → Bool) : (Tryz.prog.info? 72).map (·.size) = some (cellsOf a T).size := by
  rw [cellsOf_size]
  kernel_rfl
set_option maxHeartbeats 2000000 in
theorem zero72 : Tryz.zeroCells72 = cellsOf false (fun _ => false) := by kernel_rfl
set_option maxHeartbeats 2000000 in
theorem store72 (Z : Array Value) (hZ : Z = cellsOf false (fun _ => false)) (w : World) (n : Nat) (hn : w.heap.size = n) : (storeCells ⟨n, 0, none⟩ Z.toList).run Tryz.prog (w.alloc (.cells Z 72)) = .ok () (w.alloc (.cells Z 72)) := by
  subst hn
  exact run_storeCells_new w 72 Z Z (by rw [hZ]; exact size72 _ _) rfl (by rw [hZ]; exact cellsOf_one _ _)
theorem store72z (w : World) (n : Nat) (hn : w.heap.size = n) : (storeCells ⟨n, 0, none⟩ Tryz.zeroCells72.toList).run Tryz.prog (w.alloc (.cells Tryz.zeroCells72 72)) = .ok () (w.alloc (.cells Tryz.zeroCells72 72)) := store72 _ zero72 w n hn
theorem sub_starts (s p : ByteArray) (i : Nat) : startsAt (s.extract i s.size) 0 p = startsAt s i p := by
  have e : ∀ b : ByteArray, b.extract 0 b.size = b := fun b => by
    apply ByteArray.ext
    simp
  show startsB ((s.extract i s.size).extract 0 (s.extract i s.size).size) p = startsB (s.extract i s.size) p
  rw [e]
theorem sub_class (s : ByteArray) (i : Nat) : ∀ n k, classNo (s.extract i s.size) 0 k n = classNo s i k n
  | 0, _ => rfl
  | n + 1, k => by
    simp only [classNo]
    rw [sub_starts, sub_class s i n (k + 1)]
theorem chas_hi (k : Nat) (hk : k < 12) (c : Nat) (h : 128 ≤ c) : chas k c = false := by
  have h' : (128 : Int) ≤ c := by omega
  exact twelve (p := fun k => chas k c = false) k hk (decide_eq_false (by omega)) (decide_eq_false (by omega)) (decide_eq_false (by omega)) (decide_eq_false (by omega)) (decide_eq_false (by omega)) (decide_eq_false (by omega)) (decide_eq_false (by omega)) (decide_eq_false (by omega)) (decide_eq_false (by omega)) (decide_eq_false (by omega)) (decide_eq_false (by omega)) (decide_eq_false (by omega))
theorem results_row1 {P : Program} {fn : Func} {p : Tmp} {ty : TypeId} (h : fn.results = #[.cell p ty]) (tmps : Array Value) (w : World) (g : Nat) (t : TypeId) (cs : Array Value) (fr : Nat × Nat) (d : TypeDesc)
    (hp : tmps.getD p undef = .pointer (some ⟨g, 0, none⟩)) (hg : w.heap[g]? = some (.cells cs t fr))
    (hu : P.underlying ty = some d) (hd : (match d with | .struct _ | .array _ _ => true | _ => false) = true) (hi : (P.info? ty).map (·.size) = some cs.size) :
    (results fn tmps).run P w = .ok (.agg cs) w := by
  have hp' : tmps[p]?.getD undef = .pointer (some ⟨g, 0, none⟩) := by simpa using hp
  simp [results, h, hp', asAddr, run_loadVar_row w g t ty cs fr d hg hu hd hi]
set_option maxRecDepth 100000 in
set_option maxHeartbeats 4000000 in
/-- one: the part that means one byte. -/
theorem one_calls (c : Nat) (w : World) (hc : c ≤ 255) : Calls Tryz.prog 29 #[.int .u8 (c : Int)] w fun e w' => e = .returned (.agg (cellsOf false (upd (fun _ => false) c true))) ∧ Chg [] w w' := by
  have hst := store72z (w.alloc (.cells Tryz.zeroCells72 72)) (w.heap.size + 1) (by simp)
  have z1 : RPartAt (w.alloc (.cells Tryz.zeroCells72 72)) w.heap.size false (fun _ => false) := by unfold RPartAt; rw [← zero72]; exact hp_new _ _
  have z2 : RPartAt ((w.alloc (.cells Tryz.zeroCells72 72)).alloc (.cells Tryz.zeroCells72 72)) (w.heap.size + 1) false (fun _ => false) := by
    have h := hp_new (w.alloc (.cells Tryz.zeroCells72 72)) (.cells Tryz.zeroCells72 72)
    rw [World.size_alloc] at h
    unfold RPartAt; rw [← zero72]; exact h
  have p0 := z2.cell c (by omega)
  have pf := z2.frozen (1 + c)
  have b1 : (c : Int) < 256 := by omega
  have b0 : 0 ≤ (c : Int) := by omega
  -- the walk folds the store into the block that was made last
  have z3 : RPartAt ((w.alloc (.cells Tryz.zeroCells72 72)).alloc (.cells (Tryz.zeroCells72.setIfInBounds (1 + c) (.bool true)) 72)) (w.heap.size + 1) false (upd (fun _ => false) c true) := by
    have h := hp_new (w.alloc (.cells Tryz.zeroCells72 72)) (.cells (Tryz.zeroCells72.setIfInBounds (1 + c) (.bool true)) 72)
    rw [World.size_alloc] at h
    unfold RPartAt
    rw [← cellsOf_set, ← zero72]
    exact h
  have ZS := Asd.mk z3
  have ZV := Asd.mk (show RPartAt ((w.alloc (.cells Tryz.zeroCells72 72)).alloc (.cells (Tryz.zeroCells72.setIfInBounds (1 + c) (.bool true)) 72)) w.heap.size false (fun _ => false) from hp_alloc z1 _)
  have HC := Asd.mk (show Chg [] w ((w.alloc (.cells Tryz.zeroCells72 72)).alloc (.cells (Tryz.zeroCells72.setIfInBounds (1 + c) (.bool true)) 72)) from ((Chg.refl _ _).alloc _).alloc _)
  clear z3
  clear z1 z2
  go_enter Tryz.func29, Tryz.ntmps29
  go_wp2_with (first | (refine wpList_load_row (o := ⟨some 8, _, _, _, _, _⟩) rfl 72 (.tmp 3) rfl (w.heap.size + 1) rfl 72 _ (0, 0) _ (ZS.out) Tryz.underlying72 rfl (size72 _ _) ?_) | (refine wpList_store_row (o := ⟨none, _, _, _, _, _⟩) rfl 72 (.tmp 2) (.tmp 8) rfl w.heap.size _ rfl rfl 72 _ (ZV.out) (size72 _ _) (by rw [cellsOf_size, cellsOf_size]) (cellsOf_one _ _) ?_))
  refine bodyPost_ret (results_row1 rfl _ _ w.heap.size 72 _ (0, 0) _ rfl (setRow_heap _ _ _ _ _ _ (ZV.out)) Tryz.underlying72 rfl (size72 _ _)) rfl ?_
  exact ⟨rfl, (HC.out).setRow (by simp) _⟩
end Go.Proofs.YtgkifphfibcfdaaGreatDoor.G
/- The reference's row of parts that is being made: words for its Compile. -/
namespace Go.Proofs.YtgkifphfibcfdaaGreatDoor.G
open Go.RowKit Go.Proofs.YtgkifphfibcfdaaGreatDoor.B
set_option linter.unusedVariables false
theorem info72 : (Tryz.prog.info? 72).map (fun i => (i.zero, i.size, i.bytes)) = some (some (.agg Tryz.zeroCells72), 257, 257) := by kernel_rfl
theorem zsize72 : (Value.agg Tryz.zeroCells72).cells.size = 257 := by kernel_rfl
theorem info72' : ∃ ie z, Tryz.prog.info? 72 = some ie ∧ ie.zero = some z ∧ ie.size = 257 ∧ ie.bytes = 257 ∧ z.cells.size = 257 := by
  cases hie : Tryz.prog.info? 72 with
  | none => have := info72; rw [hie] at this; cases this
  | some ie =>
    have h := info72
    rw [hie] at h
    simp only [Option.map_some, Option.some.injEq, Prod.mk.injEq] at h
    exact ⟨ie, _, rfl, h.1, h.2.1, h.2.2, zsize72⟩
theorem fill72 (b : Bool) (T : Nat → Bool) (Z : Array Value) (hZ : Z.size = 257) : Instr.fill (fun i => some (i * 257, 257)) Z [(0, .agg (cellsOf b T))] = some (cellsOf b T) := by
  have := Great.fill_whole (s := 257) (by omega) [.agg (cellsOf b T)] Z (by simpa [Value.cells] using cellsOf_size b T) (by simp [hZ])
  simpa [Value.cells] using this
theorem build27 (b : Bool) (T : Nat → Bool) (w : World) : (Instr.buildSlice 27 1 #[(0, .agg (cellsOf b T))]).run Tryz.prog w = .ok (.slice (some ⟨w.heap.size, 0, none⟩) 1 1) (w.alloc (.cells (cellsOf b T) 72)) := by
  cases hie : Tryz.prog.info? 72 with
  | none => have := info72; rw [hie] at this; cases this
  | some ie =>
    have h := info72
    rw [hie] at h
    simp only [Option.map_some, Option.some.injEq, Prod.mk.injEq] at h
    obtain ⟨h1, h2, h3⟩ := h
    refine Go.run_buildSlice w 27 72 1 _ _ ie _ Tryz.underlying27 hie h1 (by rw [h2]; decide) (by rw [h2]; decide) ?_
    rw [h2]
    exact fill72 b T _ (by simp)
theorem wpList_build27 {ops : Array Oper} {rest : List Oper} {o : Oper} {a : Act} {w : World} {Q : Exit → Act → World → Prop} (hgd : o.guard = none) (C : Array Value) (b : Bool) (T : Nat → Bool) (hC : C = cellsOf b T) (n : Nat) (hn : w.heap.size = n) (x : Operand) (ho : o.op = .buildSlice 27 1 #[(0, x)]) (hx : a.eval x = .agg C)
    (h : wpList Tryz.prog ops Q rest (a.put o.dst (.slice (some ⟨n, 0, none⟩) 1 1)) (w.alloc (.cells C 72))) : wpList Tryz.prog ops Q (o :: rest) a w := by
  subst hC hn
  refine wpList_plain hgd fun K hK => ?_
  unfold Oper.wp execOp
  simp only [ho, List.map_toArray, List.map_cons, List.map_nil, hx, Sem.run_bind, build27, Result.andThen_ok]
  exact hK _ _ h
set_option maxRecDepth 100000 in
theorem wpList_append72 {ops : Array Oper} {rest : List Oper} {o : Oper} {a : Act} {w : World} {Q : Exit → Act → World → Prop} (hgd : o.guard = none) (C : Array Value) (b : Bool) (T : Nat → Bool) (hC : C = cellsOf b T) (s x : Operand)
    (ho : o.op = .call { callee := .builtin .append, args := #[s, x], argTypes := #[27, 27] }) (base : Nat) (v : Value) (L : List PartV) (hs : a.eval s = v) (hown : w.ownsRow base 72 257 v L.length (flat L))
    (g : Nat) (hx : a.eval x = .slice (some ⟨g, 0, none⟩) 1 1) (hg : w.heap[g]? = some (.cells C 72 (0, 0))) (hL : L.length ≤ 1048576) (hb : base ≤ w.heap.size)
    (h : ∀ v' w', w'.ownsRow base 72 257 v' (L ++ [((b, T) : PartV)]).length (flat (L ++ [((b, T) : PartV)])) → w.grownBy w' v.ownBlock → wpList Tryz.prog ops Q rest (a.put o.dst v') w') : wpList Tryz.prog ops Q (o :: rest) a w := by
  obtain ⟨ie, z, h1, h2, h3, h4, h5⟩ := info72'
  refine wpList_append_own _ hgd s x 27 ho base 72 ie z 257 257 Tryz.underlying27 h1 h2 h3 h4 h5 (by decide) v L.length (flat L) hs hown ⟨g, 0, none⟩ 1 1 C.toList hx ?_ ?_ ?_ ?_ ?_ hb ?_
  · rw [hC, Array.length_toList, cellsOf_size]
  · intro j u hu
    have e : (⟨g, 0, none⟩ : Addr).add j = ⟨g, j, none⟩ := by
      unfold Addr.add
      split
      · subst_vars; rfl
      · simp
    rw [e, cell_of_heap hg]
    simpa using hu
  · intro u hu
    have h7 := cellsOf_one b T
    rw [← hC] at h7
    exact (Array.all_eq_true_iff_forall_mem.1 h7) u (Array.mem_def.2 hu)
  · unfold maxLen; omega
  · omega
  · intro v' w' q1 q2 q3
    refine h v' w' ?_ q2
    rw [flat_snoc, List.length_append]
    rw [hC] at q1
    exact q1
theorem rparts_of_own {w : World} {base : Nat} {t : TypeId} {v : Value} {L : List PartV} (h : w.ownsRow base t 257 v L.length (flat L)) : ∃ A c, v = .slice A L.length c ∧ PartsAt w A L := by
  obtain ⟨h1, h2⟩ := h
  rcases h2 with ⟨rfl, h0⟩ | ⟨g, cap, cur, rfl, hb, hg, hn, hc, hsz, ht⟩
  · exact ⟨none, 0, by rw [h0], fun p hp => by omega⟩
  · refine ⟨_, cap, rfl, fun p hp => ⟨g, rfl, fun j hj => ?_⟩⟩
    rw [cell_of_heap hg, ← flat_get L p hp j hj, ← ht]
    have hlt : p * 257 + j < L.length * 257 := by
      have : (p + 1) * 257 ≤ L.length * 257 := Nat.mul_le_mul_right _ hp
      omega
    rw [List.getElem?_take_of_lt hlt]
    simp
theorem rown_chg {w w' : World} {base : Nat} {t : TypeId} {z : Nat} {v : Value} {n : Nat} {l : List Value} (h : w.ownsRow base t z v n l) (hb : ∀ g, v.ownBlock = some g → g < w.heap.size → w'.heap[g]? = w.heap[g]?) : w'.ownsRow base t z v n l := by
  refine ⟨h.1, ?_⟩
  rcases h.2 with hn | ⟨g, cap, cur, hv, h1, hg, rest⟩
  · exact .inl hn
  · exact .inr ⟨g, cap, cur, hv, h1, (hb g (by rw [hv]; rfl) (lt_of_heap hg)).trans hg, rest⟩
theorem Chg.rgrown {L : List Nat} {a b c : World} {row : Option Nat} (h : Chg L a b) (k : b.grownBy c row) (hr : ∀ g, row = some g → g < a.heap.size → g ∈ L) : Chg L a c :=
  ⟨k.os.trans h.os, k.tape.trans h.tape, k.output.trans h.output, Nat.le_trans h.size k.size, fun i hi hn =>
    (k.block i (Nat.lt_of_lt_of_le hi h.size) (fun e => hn (hr i e.symm hi))).trans (h.block i hi hn)⟩
/-- What the reference's Compile holds: the row of parts. -/
structure ROwn (w wr : World) (L : List PartV) (v : Value) : Prop where
  chg : Chg [] w wr
  own : wr.ownsRow w.heap.size 72 257 v L.length (flat L)
theorem ROwn.out {w wr : World} {L : List PartV} {v : Value} (h : ROwn w wr L v) {g : Nat} (e : v.ownBlock = some g) : w.heap.size ≤ g ∧ g < wr.heap.size := h.own.lt g e
theorem ROwn.alloc {w wr : World} {L : List PartV} {v : Value} (h : ROwn w wr L v) (o : Obj) : ROwn w (wr.alloc o) L v := ⟨h.chg.alloc o, h.own.alloc o⟩
theorem ROwn.setCell {w wr : World} {L : List PartV} {v : Value} (h : ROwn w wr L v) {g : Nat} (hg : w.heap.size ≤ g) (hv : v.ownBlock ≠ some g) (j : Nat) (u : Value) : ROwn w (wr.setCell ⟨g, j, none⟩ u) L v :=
  ⟨h.chg.setCell (fun hh => absurd (show g < w.heap.size from hh) (by omega)) _, rown_chg h.own (fun k e hk => Below.heap_setCell wr ⟨g, j, none⟩ u k (fun e2 => hv (by rw [e, e2])))⟩
theorem ROwn.setRow {w wr : World} {L : List PartV} {v : Value} (h : ROwn w wr L v) {g : Nat} (hg : w.heap.size ≤ g) (hv : v.ownBlock ≠ some g) (cs : Array Value) : ROwn w (wr.setRow g cs) L v :=
  ⟨h.chg.setRow (fun hh => absurd hh (by omega)) _, rown_chg h.own (fun k e hk => hp_setRow_other (fun e2 => hv (by rw [e, e2])))⟩
theorem ROwn.step {w wr w' : World} {L : List PartV} {v : Value} (h : ROwn w wr L v) (hc : Chg [] wr w') : ROwn w w' L v :=
  ⟨h.chg.trans hc, rown_chg h.own (fun k e hk => hc.block k hk (by simp))⟩
theorem ROwn.grow {w wr w' : World} {L L' : List PartV} {v v' : Value} (h : ROwn w wr L v) (hg : wr.grownBy w' v.ownBlock) (ho : w'.ownsRow w.heap.size 72 257 v' L'.length (flat L')) : ROwn w w' L' v' :=
  ⟨Chg.rgrown h.chg hg (fun g e hk => by have := (h.out e).1; omega), ho⟩
theorem notAt_out {s : ByteArray} {i : Nat} (h : ¬ i < s.size) : notAt s i = false := by
  cases hn : notAt s i with
  | false => rfl
  | true => exact absurd (notAt_in hn) h
theorem notAt_33 {s : ByteArray} {i : Nat} (h : i < s.size) (e : bn s i = 33) : notAt s i = true := by
  unfold notAt
  rw [one_bn.2 ⟨h, by rw [e]; rfl⟩]; rfl
theorem notAt_94 {s : ByteArray} {i : Nat} (h : i < s.size) (e : bn s i = 94) : notAt s i = true := by
  unfold notAt
  rw [Bool.or_eq_true]
  exact .inr (one_bn.2 ⟨h, by rw [e]; rfl⟩)
theorem notAt_no {s : ByteArray} {i : Nat} (h1 : bn s i ≠ 33) (h2 : bn s i ≠ 94) : notAt s i = false := by
  unfold notAt
  rw [Bool.or_eq_false_iff]
  exact ⟨Bool.eq_false_iff.2 (fun h => h1 (one_bn.1 h).2), Bool.eq_false_iff.2 (fun h => h2 (one_bn.1 h).2)⟩
theorem store72c (C : Array Value) (b : Bool) (T : Nat → Bool) (hC : C = cellsOf b T) (w : World) : (storeCells ⟨w.heap.size, 0, none⟩ C.toList).run Tryz.prog (w.alloc (.cells Tryz.zeroCells72 72)) = .ok () (w.alloc (.cells C 72)) := by
  subst hC
  exact run_storeCells_new w 72 Tryz.zeroCells72 (cellsOf b T) (size72 _ _) (by rw [zero72, cellsOf_size, cellsOf_size]) (cellsOf_one _ _)
end Go.Proofs.YtgkifphfibcfdaaGreatDoor.G
/- The reference's cut, lines, trimmed. -/
namespace Go.Proofs.YtgkifphfibcfdaaGreatDoor.G
open Go.RowKit Go.Proofs.YtgkifphfibcfdaaGreatDoor.B
set_option linter.unusedVariables false
theorem grown_chg {w wr w' : World} {base : Nat} {t : TypeId} {z n : Nat} {v : Value} {l : List Value} (hc : Chg [] w wr) (ho : wr.ownsRow base t z v n l) (hb : w.heap.size ≤ base) (hg : wr.grownBy w' v.ownBlock) : Chg [] w w' :=
  Chg.rgrown hc hg (fun g e hk => by have := (ho.lt g e).1; omega)
set_option maxRecDepth 100000 in
set_option maxHeartbeats 8000000 in
theorem rcut_calls (s : ByteArray) (w : World) (hs : s.size ≤ 1048576) :
    Calls Tryz.prog 43 #[.string s] w fun e w' => ∃ v, e = .returned v ∧ Chg [] w w' ∧ w'.ownsRow w.heap.size 9 1 v (spl 47 s).length ((spl 47 s).map Value.string) := by
  go_enter Tryz.func43, Tryz.ntmps43
  go_wp2
  go_loopg [3, 4, 5] (s.size + 2) (fun gk v3 v4 v5 wr => ∃ (i f : Nat) (L : List ByteArray), i ≤ s.size + 1 ∧ f ≤ i ∧ gk = s.size + 2 - i ∧ v4 = .int .i64 (f : Int) ∧ v5 = .int .i64 (i : Int) ∧ L.length ≤ i ∧ Asd (if i ≤ s.size then L ++ pieces 47 s (s.size - i) f i = spl 47 s else L = spl 47 s) ∧ Asd (Chg [] w wr) ∧ Asd (wr.ownsRow w.heap.size 9 1 v3 L.length (L.map Value.string)))
  case atStart => exact ⟨0, 0, [], by omega, by omega, by omega, rfl, rfl, by simp, ⟨by rw [if_pos (by omega)]; rfl⟩, ⟨Chg.refl _ _⟩, ⟨World.ownsRow_nil _ _ _ _⟩⟩
  case round =>
    obtain ⟨i, f, L, hi, hf, rfl, rfl, rfl, hL, HP, HC, HO⟩ := hrel
    have hz := HC.out.size
    by_cases hle : i ≤ s.size
    · have hP := HP.out
      rw [if_pos hle] at hP
      have k1 : (f : Int) ≤ (i : Int) := by omega
      have k2 : (i : Int) ≤ (s.size : Int) := by omega
      obtain ⟨p, hp⟩ : ∃ p, s.extract f i = p := ⟨_, rfl⟩
      by_cases hlt : i < s.size
      · rw [pieces_go hlt] at hP
        have hbn : bn s i = s[i].toNat := by unfold bn; rw [dif_pos hlt]
        have t0 : ((i : Int) == (s.size : Int)) = false := by simp; omega
        by_cases h47 : bn s i = 47
        · rw [if_pos h47, hp] at hP
          have t1 : (((s[i].toNat : Nat) : Int) == 47) = true := by rw [← hbn, h47]; rfl
          have HP2 := Asd.mk (show (if i + 1 ≤ s.size then (L ++ [p]) ++ pieces 47 s (s.size - (i + 1)) (i + 1) (i + 1) = spl 47 s else L ++ [p] = spl 47 s) by rw [if_pos (by omega), List.append_assoc]; exact hP)
          clear hbn h47 hP HP
          go_wp2_with (first | (refine wpList_build41 rfl p (wr.heap.size) (by simp) (.tmp 26) rfl (by rw [← hp]; rfl) ?_; simp only [Act.put, List.setIfInBounds_toArray, List.set_cons_zero, List.set_cons_succ]) | (at_builtin; refine wpList_append9 rfl (.tmp 22) (.tmp 27) rfl w.heap.size u3 L rfl (HO.out.alloc _) p wr.heap.size rfl (hp_new _ _) (by omega) (by simp; omega) ?_; intro v2 w9 hown9 hgrow9; replace hown9 := Asd.mk hown9; replace hgrow9 := Asd.mk hgrow9; simp only [Act.put, List.setIfInBounds_toArray, List.set_cons_zero, List.set_cons_succ]))
          go_roundg (s.size + 2 - (i + 1))
          case rel => exact ⟨i + 1, i + 1, L ++ [p], by omega, by omega, by omega, by go_num, by go_num, by rw [List.length_append]; simp; omega, HP2, ⟨grown_chg (HC.out.alloc _) (HO.out.alloc _) (Nat.le_refl _) hgrow9.out⟩, hown9⟩
          case measure => omega
        · rw [if_neg h47] at hP
          have t1 : (((s[i].toNat : Nat) : Int) == 47) = false := by rw [← hbn]; simp; omega
          have HP2 := Asd.mk (show (if i + 1 ≤ s.size then L ++ pieces 47 s (s.size - (i + 1)) f (i + 1) = spl 47 s else L = spl 47 s) by rw [if_pos (by omega)]; exact hP)
          clear hbn h47 hP HP
          go_wp2
          go_roundg (s.size + 2 - (i + 1))
          case rel => exact ⟨i + 1, f, L, by omega, by omega, by omega, rfl, by go_num, by omega, HP2, HC, HO⟩
          case measure => omega
      · obtain rfl : i = s.size := by omega
        rw [pieces_end, hp] at hP
        have t0 : ((s.size : Int) == (s.size : Int)) = true := by simp
        have HP2 := Asd.mk (show (if s.size + 1 ≤ s.size then (L ++ [p]) ++ pieces 47 s (s.size - (s.size + 1)) (s.size + 1) (s.size + 1) = spl 47 s else L ++ [p] = spl 47 s) by rw [if_neg (by omega)]; exact hP)
        clear hP HP
        go_wp2_with (first | (refine wpList_build41 rfl p (wr.heap.size) (by simp) (.tmp 26) rfl (by rw [← hp]; rfl) ?_; simp only [Act.put, List.setIfInBounds_toArray, List.set_cons_zero, List.set_cons_succ]) | (at_builtin; refine wpList_append9 rfl (.tmp 22) (.tmp 27) rfl w.heap.size u3 L rfl (HO.out.alloc _) p wr.heap.size rfl (hp_new _ _) (by omega) (by simp; omega) ?_; intro v2 w9 hown9 hgrow9; replace hown9 := Asd.mk hown9; replace hgrow9 := Asd.mk hgrow9; simp only [Act.put, List.setIfInBounds_toArray, List.set_cons_zero, List.set_cons_succ]))
        go_roundg (s.size + 2 - (s.size + 1))
        case rel => exact ⟨s.size + 1, s.size + 1, L ++ [p], by omega, by omega, by omega, by go_num, by go_num, by rw [List.length_append]; simp; omega, HP2, ⟨grown_chg (HC.out.alloc _) (HO.out.alloc _) (Nat.le_refl _) hgrow9.out⟩, hown9⟩
        case measure => omega
    · have hP := HP.out
      rw [if_neg hle] at hP
      have HP2 := Asd.mk hP
      clear hP HP
      go_wp2
      go_ret
      exact ⟨_, rfl, HC.out, by rw [← HP2.out]; exact HO.out⟩
end Go.Proofs.YtgkifphfibcfdaaGreatDoor.G
/- The reference's lines, trimmed. -/
namespace Go.Proofs.YtgkifphfibcfdaaGreatDoor.G
open Go.RowKit Go.Proofs.YtgkifphfibcfdaaGreatDoor.B
set_option linter.unusedVariables false
/-- A text's lines: its pieces, without the last one where it is empty. -/
def linesS (s : ByteArray) : List ByteArray := if ((spl 10 s).getLast?.map (·.size)) = some 0 then (spl 10 s).dropLast else spl 10 s
theorem linesS_nil {s : ByteArray} {L : List ByteArray} {p : ByteArray} (h : L ++ [p] = spl 10 s) (hp : p.size = 0) : linesS s = L := by
  unfold linesS
  rw [← h]
  simp [hp]
theorem linesS_all {s : ByteArray} {L : List ByteArray} {p : ByteArray} (h : L ++ [p] = spl 10 s) (hp : p.size ≠ 0) : linesS s = L ++ [p] := by
  unfold linesS
  rw [← h]
  simp [hp]
set_option maxRecDepth 100000 in
set_option maxHeartbeats 8000000 in
theorem rlines_calls (s : ByteArray) (w : World) (hs : s.size ≤ 1048576) :
    Calls Tryz.prog 37 #[.string s] w fun e w' => ∃ v, e = .returned v ∧ Chg [] w w' ∧ w'.ownsRow w.heap.size 9 1 v (linesS s).length ((linesS s).map Value.string) := by
  go_enter Tryz.func37, Tryz.ntmps37
  go_wp2
  go_loopg [3, 4, 5] (s.size + 1) (fun gk v3 v4 v5 wr => ∃ (i f : Nat) (L : List ByteArray), i ≤ s.size ∧ f ≤ i ∧ gk = s.size + 1 - i ∧ v4 = .int .i64 (f : Int) ∧ v5 = .int .i64 (i : Int) ∧ L.length ≤ i ∧ Asd (L ++ pieces 10 s (s.size - i) f i = spl 10 s) ∧ Asd (Chg [] w wr) ∧ Asd (wr.ownsRow w.heap.size 9 1 v3 L.length (L.map Value.string)))
  case atStart => exact ⟨0, 0, [], by omega, by omega, by omega, rfl, rfl, by simp, ⟨rfl⟩, ⟨Chg.refl _ _⟩, ⟨World.ownsRow_nil _ _ _ _⟩⟩
  case round =>
    obtain ⟨i, f, L, hi, hf, rfl, rfl, rfl, hL, HP, HC, HO⟩ := hrel
    have hz := HC.out.size
    have hP := HP.out
    obtain ⟨p, hp⟩ : ∃ p, s.extract f i = p := ⟨_, rfl⟩
    by_cases hlt : i < s.size
    · have k1 : (f : Int) ≤ (i : Int) := by omega
      have k2 : (i : Int) ≤ (s.size : Int) := by omega
      rw [pieces_go hlt] at hP
      have hbn : bn s i = s[i].toNat := by unfold bn; rw [dif_pos hlt]
      by_cases h47 : bn s i = 10
      · rw [if_pos h47, hp] at hP
        have t1 : (((s[i].toNat : Nat) : Int) == 10) = true := by rw [← hbn, h47]; rfl
        have HP2 := Asd.mk (show (L ++ [p]) ++ pieces 10 s (s.size - (i + 1)) (i + 1) (i + 1) = spl 10 s by rw [List.append_assoc]; exact hP)
        clear hbn h47 hP HP
        go_wp2_with (first | (refine wpList_build41 rfl p (wr.heap.size) (by simp) (.tmp 20) rfl (by rw [← hp]; rfl) ?_; simp only [Act.put, List.setIfInBounds_toArray, List.set_cons_zero, List.set_cons_succ]) | (at_builtin; refine wpList_append9 rfl (.tmp 16) (.tmp 21) rfl w.heap.size u3 L rfl (HO.out.alloc _) p wr.heap.size rfl (hp_new _ _) (by omega) (by simp; omega) ?_; intro v2 w9 hown9 hgrow9; replace hown9 := Asd.mk hown9; replace hgrow9 := Asd.mk hgrow9; simp only [Act.put, List.setIfInBounds_toArray, List.set_cons_zero, List.set_cons_succ]))
        go_roundg (s.size + 1 - (i + 1))
        case rel => exact ⟨i + 1, i + 1, L ++ [p], by omega, by omega, by omega, by go_num, by go_num, by rw [List.length_append]; simp; omega, HP2, ⟨grown_chg (HC.out.alloc _) (HO.out.alloc _) (Nat.le_refl _) hgrow9.out⟩, hown9⟩
        case measure => omega
      · rw [if_neg h47] at hP
        have t1 : (((s[i].toNat : Nat) : Int) == 10) = false := by rw [← hbn]; simp; omega
        have HP2 := Asd.mk hP
        clear hbn h47 hP HP
        go_wp2
        go_roundg (s.size + 1 - (i + 1))
        case rel => exact ⟨i + 1, f, L, by omega, by omega, by omega, rfl, by go_num, by omega, HP2, HC, HO⟩
        case measure => omega
    · obtain rfl : i = s.size := by omega
      rw [pieces_end, hp] at hP
      have hps : p.size = s.size - f := by rw [← hp, ByteArray.size_extract]; omega
      by_cases hfs : f < s.size
      · have HP2 := Asd.mk (linesS_all hP (by omega))
        have k1 : (f : Int) ≤ (s.size : Int) := by omega
        clear hP HP hps
        go_wp2_with (first | (refine wpList_build41 rfl p (wr.heap.size) (by simp) (.tmp 32) rfl (by rw [← hp]; rfl) ?_; simp only [Act.put, List.setIfInBounds_toArray, List.set_cons_zero, List.set_cons_succ]) | (at_builtin; refine wpList_append9 rfl (.tmp 29) (.tmp 33) rfl w.heap.size u3 L rfl (HO.out.alloc _) p wr.heap.size rfl (hp_new _ _) (by omega) (by simp; omega) ?_; intro v2 w9 hown9 hgrow9; replace hown9 := Asd.mk hown9; replace hgrow9 := Asd.mk hgrow9; simp only [Act.put, List.setIfInBounds_toArray, List.set_cons_zero, List.set_cons_succ]))
        go_ret
        exact ⟨_, rfl, grown_chg (HC.out.alloc _) (HO.out.alloc _) (Nat.le_refl _) hgrow9.out, by rw [HP2.out]; exact hown9.out⟩
      · have HP2 := Asd.mk (linesS_nil hP (by omega))
        clear hP HP hps
        go_wp2
        go_ret
        exact ⟨_, rfl, HC.out, by rw [HP2.out]; exact HO.out⟩
/-- A line without the blanks at its end, but one behind a backslash. -/
def trimK : Nat → ByteArray → ByteArray
  | 0, s => s
  | k + 1, s => if bn s (s.size - 1) = 32 ∧ (s.size < 2 ∨ bn s (s.size - 2) ≠ 92) then trimK k (s.extract 0 (s.size - 1)) else s
def trimS (s : ByteArray) : ByteArray := trimK s.size s
theorem trimS_go {s : ByteArray} (h : 0 < s.size) (h1 : bn s (s.size - 1) = 32) (h2 : s.size < 2 ∨ bn s (s.size - 2) ≠ 92) : trimS s = trimS (s.extract 0 (s.size - 1)) := by
  obtain ⟨n, hn⟩ : ∃ n, s.size = n + 1 := ⟨s.size - 1, by omega⟩
  have hz : (s.extract 0 (s.size - 1)).size = n := by rw [ByteArray.size_extract]; omega
  unfold trimS
  rw [hz]
  conv => lhs; rw [hn]
  simp only [trimK]
  rw [if_pos ⟨h1, h2⟩]
theorem trimS_stop {s : ByteArray} (h : ¬ (0 < s.size ∧ bn s (s.size - 1) = 32 ∧ (s.size < 2 ∨ bn s (s.size - 2) ≠ 92))) : trimS s = s := by
  unfold trimS
  cases hn : s.size with
  | zero => rfl
  | succ n =>
    simp only [trimK]
    rw [if_neg]
    rw [hn] at h
    rw [hn]
    exact fun hh => h ⟨by omega, hh⟩
theorem nonempty_list {s : ByteArray} (h : 0 < s.size) : (s.toList == []) = false := by
  apply Bool.eq_false_iff.2
  intro hh
  rw [beq_iff_eq, ByteArray.toList_eq] at hh
  have h2 := congrArg List.length hh
  have h3 : s.data.toList.length = s.size := by simp
  simp only [List.length_nil] at h2
  omega
theorem empty_bytes {s : ByteArray} (h : ¬ 0 < s.size) : s = ⟨#[]⟩ := by
  have h0 : s.size = 0 := by omega
  apply ByteArray.ext
  exact Array.eq_empty_of_size_eq_zero h0
set_option maxRecDepth 100000 in
set_option maxHeartbeats 8000000 in
theorem rtrimmed_calls (s : ByteArray) (w : World) (hs : s.size ≤ 1048576) :
    Calls Tryz.prog 38 #[.string s] w fun e w' => e = .returned (.string (trimS s)) ∧ w' = w := by
  go_enter Tryz.func38, Tryz.ntmps38
  go_wp2
  go_loopg [0] (s.size + 1) (fun gk v0 wr => w = wr ∧ ∃ S : ByteArray, v0 = .string S ∧ S.size ≤ s.size ∧ gk = S.size + 1 ∧ Asd (trimS S = trimS s))
  case atStart => exact ⟨rfl, s, rfl, by omega, rfl, ⟨rfl⟩⟩
  case round =>
    obtain ⟨rfl, S, rfl, hS, rfl, HT⟩ := hrel
    by_cases hz : 0 < S.size
    · obtain ⟨n, hn⟩ : ∃ n, S.size = n + 1 := ⟨S.size - 1, by omega⟩
      have te : S.toList.isEmpty = false := by
        cases hh : S.toList with
        | nil => have := nonempty_list hz; rw [hh] at this; cases this
        | cons b l => rfl
      have hlt : n < S.size := by omega
      have hbn : bn S n = S[n].toNat := by unfold bn; rw [dif_pos hlt]
      obtain ⟨p, hp⟩ : ∃ p, S.extract 0 n = p := ⟨_, rfl⟩
      have hpz : p.size = n := by rw [← hp, ByteArray.size_extract]; omega
      have k1 : (n : Int) ≤ (S.size : Int) := by omega
      by_cases h32 : bn S n = 32
      · have t1 : (((S[n].toNat : Nat) : Int) == 32) = true := by rw [← hbn, h32]; rfl
        cases n with
        | zero =>
          have hT := HT.out
          rw [trimS_go hz (by rw [hn]; exact h32) (.inl (by omega)), hn] at hT
          have HT2 := Asd.mk (show trimS p = trimS s by rw [← hp]; exact hT)
          clear hT HT hbn h32
          go_wp2
          go_roundg 1
          case rel => exact ⟨rfl, p, by rw [empty_bytes (s := p) (by omega)]; rfl, by omega, by omega, HT2⟩
          case measure => omega
        | succ m =>
          have hlt2 : m < S.size := by omega
          have hbm : bn S m = S[m].toNat := by unfold bn; rw [dif_pos hlt2]
          by_cases h92 : bn S m = 92
          · have t2 : (((S[m].toNat : Nat) : Int) != 92) = false := by rw [← hbm, h92]; rfl
            have HT2 := Asd.mk (show trimS s = S by
              rw [← HT.out]
              refine trimS_stop (fun hh => ?_)
              rcases hh.2.2 with h | h
              · omega
              · exact h (by rw [hn, show m + 1 + 1 - 2 = m by omega]; exact h92))
            clear HT hbn hbm h32 h92
            go_wp2
            go_ret
            exact ⟨by rw [HT2.out]; rfl, rfl⟩
          · have t2 : (((S[m].toNat : Nat) : Int) != 92) = true := by rw [← hbm]; simp; omega
            have hT := HT.out
            rw [trimS_go hz (by rw [hn]; exact h32) (.inr (by rw [hn, show m + 1 + 1 - 2 = m by omega]; exact h92)), hn] at hT
            have HT2 := Asd.mk (show trimS p = trimS s by rw [← hp]; exact hT)
            clear hT HT hbn hbm h32 h92
            go_wp2
            go_roundg (m + 1 + 1)
            case rel => exact ⟨rfl, p, by rw [← hp], by omega, by omega, HT2⟩
            case measure => omega
      · have t1 : (((S[n].toNat : Nat) : Int) == 32) = false := by rw [← hbn]; simp; omega
        have HT2 := Asd.mk (show trimS s = S by
          rw [← HT.out]
          exact trimS_stop (fun hh => h32 (by have := hh.2.1; rw [hn] at this; exact this)))
        clear HT hbn h32
        go_wp2
        go_ret
        exact ⟨by rw [HT2.out]; rfl, rfl⟩
    · obtain rfl := empty_bytes hz
      have HT2 := Asd.mk (show trimS s = ⟨#[]⟩ by rw [← HT.out]; rfl)
      have te : (⟨#[]⟩ : ByteArray).toList.isEmpty = true := by rw [ByteArray.toList_eq]; rfl
      clear HT hz hS
      go_wp2
      go_ret
      exact ⟨by rw [HT2.out]; rfl, rfl⟩
end Go.Proofs.YtgkifphfibcfdaaGreatDoor.G
/- What stays in memory while rows of some types turn; pieces and rules as plain values, and in memory. -/
namespace Go.Proofs.YtgkifphfibcfdaaGreatDoor.G
open Go.RowKit Go.Proofs.YtgkifphfibcfdaaGreatDoor.B
set_option linter.unusedVariables false
/-- Only blocks of the types T have turned. -/
def Keeps (T : List TypeId) (w w' : World) : Prop := w.heap.size ≤ w'.heap.size ∧ ∀ (g : Nat) (cs : Array Value) (t : TypeId) (fr : Nat × Nat), w.heap[g]? = some (Obj.cells cs t fr) → t ∉ T → w'.heap[g]? = some (Obj.cells cs t fr)
theorem Keeps.refl (T : List TypeId) (w : World) : Keeps T w w := ⟨Nat.le_refl _, fun _ _ _ _ h _ => h⟩
theorem Keeps.trans {T : List TypeId} {a b c : World} (h : Keeps T a b) (k : Keeps T b c) : Keeps T a c := ⟨Nat.le_trans h.1 k.1, fun g cs t fr hg ht => k.2 g cs t fr (h.2 g cs t fr hg ht) ht⟩
theorem Keeps.of_chg {T : List TypeId} {w w' : World} (h : Chg [] w w') : Keeps T w w' := ⟨h.size, fun g cs t fr hg ht => h.heap hg (by simp)⟩
theorem Keeps.alloc {T : List TypeId} (w : World) (o : Obj) : Keeps T w (w.alloc o) := Keeps.of_chg ((Chg.refl [] w).alloc o)
theorem Keeps.drew {T : List TypeId} (w : World) : Keeps T w w.drew := Keeps.of_chg (Chg.refl [] w).drew
theorem Keeps.setCell {T : List TypeId} {w : World} {g : Nat} {cs : Array Value} {t : TypeId} {fr : Nat × Nat} (hg : w.heap[g]? = some (.cells cs t fr)) (ht : t ∈ T) (j : Nat) (u : Value) : Keeps T w (w.setCell ⟨g, j, none⟩ u) :=
  ⟨by simp [World.setCell], fun k cs' t' fr' hk hn => hp_set_other hk (fun e => by
    subst e
    rw [hg] at hk
    simp only [Option.some.injEq, Obj.cells.injEq] at hk
    exact hn (hk.2.1 ▸ ht)) _ _⟩
theorem Keeps.setRow {T : List TypeId} {w : World} {g : Nat} {cs : Array Value} {t : TypeId} {fr : Nat × Nat} (hg : w.heap[g]? = some (.cells cs t fr)) (ht : t ∈ T) (c' : Array Value) : Keeps T w (w.setRow g c') :=
  ⟨by simp [World.setRow], fun k cs' t' fr' hk hn => (hp_setRow_other (fun e => by
    subst e
    rw [hg] at hk
    simp only [Option.some.injEq, Obj.cells.injEq] at hk
    exact hn (hk.2.1 ▸ ht))).trans hk⟩
theorem Keeps.grown {T : List TypeId} {w w' : World} {base : Nat} {t : TypeId} {z n : Nat} {v : Value} {l : List Value} (ho : w.ownsRow base t z v n l) (ht : t ∈ T) (hg : w.grownBy w' v.ownBlock) : Keeps T w w' :=
  ⟨hg.size, fun k cs' t' fr' hk hn => (hg.block k (lt_of_heap hk) (fun e => by
    rcases ho.2 with ⟨rfl, _⟩ | ⟨g, cap, cur, rfl, _, hb, _⟩
    · cases e
    · obtain rfl : k = g := Option.some.inj e
      rw [hb] at hk
      simp only [Option.some.injEq, Obj.cells.injEq] at hk
      exact hn (hk.2.1 ▸ ht))).trans hk⟩
theorem own_keeps {T : List TypeId} {w w' : World} {base : Nat} {t : TypeId} {z n : Nat} {v : Value} {l : List Value} (ho : w.ownsRow base t z v n l) (hk : Keeps T w w') (ht : t ∉ T) : w'.ownsRow base t z v n l := by
  refine ⟨ho.1, ?_⟩
  rcases ho.2 with h | ⟨g, cap, cur, hv, hb, hg, rest⟩
  · exact .inl h
  · exact .inr ⟨g, cap, cur, hv, hb, hk.2 _ _ _ _ hg ht, rest⟩
theorem own_weak {w : World} {base b2 : Nat} {t : TypeId} {z n : Nat} {v : Value} {l : List Value} (ho : w.ownsRow base t z v n l) (hb2 : b2 ≤ base) : w.ownsRow b2 t z v n l := by
  refine ⟨ho.1, ?_⟩
  rcases ho.2 with h | ⟨g, cap, cur, hv, hb, rest⟩
  · exact .inl h
  · exact .inr ⟨g, cap, cur, hv, Nat.le_trans hb2 hb, rest⟩
/-- A cell of a row that one owns. -/
theorem own_cell {w : World} {base : Nat} {t : TypeId} {n : Nat} {v : Value} {l : List Value} (ho : w.ownsRow base t 1 v n l) {i : Nat} (hi : i < l.length) : ∃ g cap, v = .slice (some ⟨g, 0, none⟩) n cap ∧ w.cell? ⟨g, i, none⟩ = some (l[i]) := by
  have hl := ho.1
  rcases ho.2 with ⟨rfl, h0⟩ | ⟨g, cap, cur, rfl, hb, hg, hn, hc, hsz, ht⟩
  · omega
  · refine ⟨g, cap, rfl, ?_⟩
    rw [cell_of_heap hg]
    have h3 : (cur.toList.take (n * 1))[i]? = l[i]? := by rw [ht]
    rw [List.getElem?_take_of_lt (by omega), List.getElem?_eq_getElem hi] at h3
    simpa using h3
theorem own_len {w : World} {base : Nat} {t : TypeId} {z n : Nat} {v : Value} {l : List Value} (ho : w.ownsRow base t z v n l) : ∃ A c, v = .slice A n c := by
  rcases ho.2 with ⟨rfl, h0⟩ | ⟨g, cap, cur, rfl, _⟩
  · exact ⟨none, 0, by rw [h0]⟩
  · exact ⟨_, _, rfl⟩
/-- A piece of a rule: any number of names, or a pattern of one. -/
abbrev PieceV := Option (List PartV)
/-- A rule: whether it takes back, means directories alone, is rooted; its pieces. -/
structure RuleV where
  back : Bool
  dir : Bool
  rooted : Bool
  pieces : List PieceV
/-- The pieces that texts make; the number of the first error. -/
def piecesF (rooted : Bool) : List ByteArray → Except Nat (List PieceV)
  | [] => .ok []
  | p :: r => if rooted = true ∧ p = ⟨#[42, 42]⟩ then (match piecesF rooted r with | .ok l => .ok (none :: l) | .error e => .error e)
    else if 1024 < p.size then .error 2 else match parts p with
      | none => .error 40
      | some L => match piecesF rooted r with | .ok l => .ok (some L :: l) | .error e => .error e
/-- A rule's text without '!' ahead and '/' behind. -/
def isBack (s : ByteArray) : Bool := decide (0 < s.size ∧ bn s 0 = 33)
def cutBack (s : ByteArray) : ByteArray := if isBack s = true then s.extract 1 s.size else s
def isDir (s : ByteArray) : Bool := decide (0 < s.size ∧ bn s (s.size - 1) = 47)
def cutDir (s : ByteArray) : ByteArray := if isDir s = true then s.extract 0 (s.size - 1) else s
def rootedF (s : ByteArray) : Bool := decide (1 < (spl 47 s).length)
def unroot (l : List ByteArray) : List ByteArray := match l with | p :: r => if p.size = 0 ∧ r ≠ [] then r else p :: r | [] => []
/-- The rule that a line makes; the number of its error. -/
def ruleF (s : ByteArray) : Except Nat RuleV :=
  if (cutDir (cutBack s)).size = 0 then .error 40
  else match piecesF (rootedF (cutDir (cutBack s))) (unroot (spl 47 (cutDir (cutBack s)))) with
    | .ok l => .ok ⟨isBack s, isDir (cutBack s), rootedF (cutDir (cutBack s)), l⟩
    | .error e => .error e
end Go.Proofs.YtgkifphfibcfdaaGreatDoor.G
/- The reference's pieces in memory: words for its rule. -/
namespace Go.Proofs.YtgkifphfibcfdaaGreatDoor.G
open Go.RowKit Go.Proofs.YtgkifphfibcfdaaGreatDoor.B
set_option linter.unusedVariables false
theorem info143 : (Tryz.prog.info? 143).map (fun i => (i.zero, i.size, i.bytes)) = some (some (.agg #[.bool false, .slice none 0 0]), 2, 32) := by kernel_rfl
theorem info143' : ∃ ie, Tryz.prog.info? 143 = some ie ∧ ie.zero = some (.agg #[.bool false, .slice none 0 0]) ∧ ie.size = 2 ∧ ie.bytes = 32 := by
  cases hie : Tryz.prog.info? 143 with
  | none => have := info143; rw [hie] at this; cases this
  | some ie =>
    have h := info143
    rw [hie] at h
    simp only [Option.map_some, Option.some.injEq, Prod.mk.injEq] at h
    exact ⟨ie, rfl, h.1, h.2.1, h.2.2⟩
theorem build91 (b : Bool) (A : Option Addr) (n m : Nat) (w : World) : (Instr.buildSlice 91 1 #[(0, .agg #[.bool b, .slice A n m])]).run Tryz.prog w = .ok (.slice (some ⟨w.heap.size, 0, none⟩) 1 1) (w.alloc (.cells #[.bool b, .slice A n m] 143)) := by
  obtain ⟨ie, h1, h2, h3, h4⟩ := info143'
  refine Go.run_buildSlice w 91 143 1 _ _ ie _ Tryz.underlying91 h1 h2 (by rw [h3]; decide) (by rw [h3]; decide) ?_
  rw [h3]
  have := Great.fill_whole (s := 2) (by omega) [.agg #[.bool b, .slice A n m]] ((Array.range (1 * 2)).map ((Value.agg #[.bool false, .slice none 0 0]).cells[· % (Value.agg #[.bool false, .slice none 0 0]).cells.size]!)) (by simp [Value.cells]) (by simp)
  simpa [Value.cells] using this
theorem wpList_build91 {ops : Array Oper} {rest : List Oper} {o : Oper} {a : Act} {w : World} {Q : Exit → Act → World → Prop} (hgd : o.guard = none) (b : Bool) (A : Option Addr) (k m : Nat) (n : Nat) (hn : w.heap.size = n) (x : Operand) (ho : o.op = .buildSlice 91 1 #[(0, x)]) (hx : a.eval x = .agg #[.bool b, .slice A k m])
    (h : wpList Tryz.prog ops Q rest (a.put o.dst (.slice (some ⟨n, 0, none⟩) 1 1)) (w.alloc (.cells #[.bool b, .slice A k m] 143))) : wpList Tryz.prog ops Q (o :: rest) a w := by
  subst hn
  refine wpList_plain hgd fun K hK => ?_
  unfold Oper.wp execOp
  simp only [ho, List.map_toArray, List.map_cons, List.map_nil, hx, Sem.run_bind, build91, Result.andThen_ok]
  exact hK _ _ h
/-- The cells of pieces; what lies at each. -/
def rcells (Z : List (PieceV × Value)) : List Value := Z.flatMap fun z => [.bool z.1.isNone, z.2]
theorem rcells_snoc (Z : List (PieceV × Value)) (z : PieceV × Value) : rcells (Z ++ [z]) = rcells Z ++ [.bool z.1.isNone, z.2] := by simp [rcells, List.flatMap_append]
theorem rcells_len (Z : List (PieceV × Value)) : (rcells Z).length = Z.length * 2 := by
  induction Z with
  | nil => rfl
  | cons z r ih =>
    have h : rcells (z :: r) = [.bool z.1.isNone, z.2] ++ rcells r := by simp [rcells]
    rw [h, List.length_append, ih]
    simp
    omega
def RPartH (w : World) (v : Value) (L : List PartV) : Prop := (∃ b, w.ownsRow b 72 257 v L.length (flat L)) ∧ L.length ≤ 1048576
def RPieceH (w : World) (z : PieceV × Value) : Prop := match z.1 with | none => True | some L => RPartH w z.2 L
theorem RPieceH.keeps {T : List TypeId} {w w' : World} {z : PieceV × Value} (h : RPieceH w z) (hk : Keeps T w w') (ht : 72 ∉ T) : RPieceH w' z := by
  unfold RPieceH at *
  split
  · trivial
  · rename_i L hz
    rw [hz] at h
    obtain ⟨⟨b, hb⟩, hL⟩ := h
    exact ⟨⟨b, own_keeps hb hk ht⟩, hL⟩
set_option maxRecDepth 100000 in
theorem wpList_append143 {ops : Array Oper} {rest : List Oper} {o : Oper} {a : Act} {w : World} {Q : Exit → Act → World → Prop} (hgd : o.guard = none) (s x : Operand)
    (ho : o.op = .call { callee := .builtin .append, args := #[s, x], argTypes := #[91, 91] }) (base : Nat) (v : Value) (Z : List (PieceV × Value)) (hs : a.eval s = v) (hown : w.ownsRow base 143 2 v Z.length (rcells Z))
    (z : PieceV) (A : Option Addr) (k m : Nat) (g : Nat) (hx : a.eval x = .slice (some ⟨g, 0, none⟩) 1 1) (hg : w.heap[g]? = some (.cells #[.bool z.isNone, .slice A k m] 143 (0, 0))) (hL : Z.length ≤ 16777216) (hb : base ≤ w.heap.size)
    (h : ∀ v' w', w'.ownsRow base 143 2 v' (Z ++ [((z, Value.slice A k m) : PieceV × Value)]).length (rcells (Z ++ [((z, Value.slice A k m) : PieceV × Value)])) → w.grownBy w' v.ownBlock → wpList Tryz.prog ops Q rest (a.put o.dst v') w') : wpList Tryz.prog ops Q (o :: rest) a w := by
  obtain ⟨ie, h1, h2, h3, h4⟩ := info143'
  refine wpList_append_own _ hgd s x 91 ho base 143 ie _ 2 32 Tryz.underlying91 h1 h2 h3 h4 rfl (by decide) v Z.length (rcells Z) hs hown ⟨g, 0, none⟩ 1 1 [.bool z.isNone, .slice A k m] hx rfl ?_ (fun u hu => by simp at hu; rcases hu with rfl | rfl <;> rfl) ?_ ?_ hb ?_
  · intro j u hu
    have e : (⟨g, 0, none⟩ : Addr).add j = ⟨g, j, none⟩ := by
      unfold Addr.add
      split
      · subst_vars; rfl
      · simp
    rw [e, cell_of_heap hg]
    simpa using hu
  · unfold maxLen; omega
  · omega
  · intro v' w' q1 q2 q3
    refine h v' w' ?_ q2
    rw [List.length_append, rcells_snoc]
    exact q1
/-- Pieces behind some that are there. -/
def accF (rooted : Bool) (acc : List PieceV) (l : List ByteArray) : Except Nat (List PieceV) := match piecesF rooted l with | .ok q => .ok (acc ++ q) | .error e => .error e
theorem accF_nil (rooted : Bool) (l : List ByteArray) : accF rooted [] l = piecesF rooted l := by
  unfold accF
  cases piecesF rooted l <;> rfl
theorem accF_end (rooted : Bool) (acc : List PieceV) : accF rooted acc [] = .ok acc := by simp [accF, piecesF]
theorem accF_any {rooted : Bool} {acc : List PieceV} {p : ByteArray} {r : List ByteArray} (h : rooted = true ∧ p = ⟨#[42, 42]⟩) : accF rooted acc (p :: r) = accF rooted (acc ++ [none]) r := by
  unfold accF
  simp only [piecesF]
  rw [if_pos h]
  cases piecesF rooted r <;> simp
theorem accF_long {rooted : Bool} {acc : List PieceV} {p : ByteArray} {r : List ByteArray} (h : ¬ (rooted = true ∧ p = ⟨#[42, 42]⟩)) (hl : 1024 < p.size) : accF rooted acc (p :: r) = .error 2 := by
  unfold accF
  simp only [piecesF]
  rw [if_neg h, if_pos hl]
theorem accF_none {rooted : Bool} {acc : List PieceV} {p : ByteArray} {r : List ByteArray} (h : ¬ (rooted = true ∧ p = ⟨#[42, 42]⟩)) (hl : ¬ 1024 < p.size) (hp : parts p = none) : accF rooted acc (p :: r) = .error 40 := by
  unfold accF
  simp only [piecesF]
  rw [if_neg h, if_neg hl, hp]
theorem accF_some {rooted : Bool} {acc : List PieceV} {p : ByteArray} {r : List ByteArray} {L : List PartV} (h : ¬ (rooted = true ∧ p = ⟨#[42, 42]⟩)) (hl : ¬ 1024 < p.size) (hp : parts p = some L) : accF rooted acc (p :: r) = accF rooted (acc ++ [some L]) r := by
  unfold accF
  simp only [piecesF]
  rw [if_neg h, if_neg hl, hp]
  cases piecesF rooted r <;> simp
/-- A part of a row of strings. -/
def StrR (w : World) (g o : Nat) (l : List ByteArray) : Prop := ∃ cs, w.heap[g]? = some (.cells cs 9 (0, 0)) ∧ ∀ i, (h : i < l.length) → cs[o + i]? = some (.string (l[i]'h))
theorem StrR.keeps {T : List TypeId} {w w' : World} {g o : Nat} {l : List ByteArray} (h : StrR w g o l) (hk : Keeps T w w') (ht : 9 ∉ T) : StrR w' g o l := by
  obtain ⟨cs, h1, h2⟩ := h
  exact ⟨cs, hk.2 _ _ _ _ h1 ht, h2⟩
theorem StrR.cell {w : World} {g o : Nat} {l : List ByteArray} (h : StrR w g o l) {i : Nat} (hi : i < l.length) : w.cell? ⟨g, o + i, none⟩ = some (.string (l[i])) := by
  obtain ⟨cs, h1, h2⟩ := h
  exact (cell_of_heap h1 _).trans (h2 i hi)
theorem strR_of_own {w : World} {base : Nat} {v : Value} {l : List ByteArray} (h : w.ownsRow base 9 1 v l.length (l.map Value.string)) (hl : 0 < l.length) : ∃ g c, v = .slice (some ⟨g, 0, none⟩) l.length c ∧ l.length ≤ c ∧ base ≤ g ∧ StrR w g 0 l := by
  rcases h.2 with ⟨rfl, h0⟩ | ⟨g, cap, cur, rfl, hb, hg, hn, hc, hsz, ht⟩
  · omega
  · refine ⟨g, cap, rfl, hn, hb, cur, hg, fun i hi => ?_⟩
    have h3 : (cur.toList.take (l.length * 1))[i]? = (l.map Value.string)[i]? := by rw [ht]
    rw [List.getElem?_take_of_lt (by omega), List.getElem?_map, List.getElem?_eq_getElem hi] at h3
    rw [Nat.zero_add]
    simpa using h3
theorem own_ne {w : World} {base : Nat} {t t2 : TypeId} {z n : Nat} {v : Value} {l : List Value} {b : Nat} {cs : Array Value} {fr : Nat × Nat} (ho : w.ownsRow base t z v n l) (hb : w.heap[b]? = some (.cells cs t2 fr)) (ht : t ≠ t2) : v.ownBlock ≠ some b := by
  intro e
  rcases ho.2 with ⟨rfl, _⟩ | ⟨g, cap, cur, rfl, _, hg, _⟩
  · cases e
  · obtain rfl : g = b := Option.some.inj e
    rw [hg] at hb
    simp only [Option.some.injEq, Obj.cells.injEq] at hb
    exact ht hb.2.1
theorem pieces_size (c : Nat) (s : ByteArray) : ∀ k f i, i + k = s.size → ∀ p ∈ pieces c s k f i, p.size ≤ s.size
  | 0, f, i, _, p, hp => by
    simp only [pieces, List.mem_singleton] at hp
    rw [hp, ByteArray.size_extract]; omega
  | k + 1, f, i, h, p, hp => by
    simp only [pieces] at hp
    split at hp
    · rcases List.mem_cons.1 hp with rfl | hp
      · rw [ByteArray.size_extract]; omega
      · exact pieces_size c s k _ _ (by omega) p hp
    · exact pieces_size c s k _ _ (by omega) p hp
theorem spl_size {c : Nat} {s p : ByteArray} (h : p ∈ spl c s) : p.size ≤ s.size := pieces_size c s _ _ _ (by omega) p h
theorem unroot_mem {l : List ByteArray} {p : ByteArray} (h : p ∈ unroot l) : p ∈ l := by
  cases l with
  | nil => exact h
  | cons q r =>
    simp only [unroot] at h
    split at h
    · exact List.mem_cons_of_mem _ h
    · exact h
/-- A rule of the reference's in memory. -/
def RRuleAt (w : World) (b : Nat) (bk dr rt : Bool) (v : Value) : Prop := w.heap[b]? = some (.cells #[.bool bk, .bool dr, .bool rt, v] 93 (0, 0))
/-- What the reference's rule leaves. -/
def RRulePost (w : World) (R : Except Nat RuleV) (e : Ending) (w' : World) : Prop :=
  Chg [] w w' ∧ match R with
  | .ok r => ∃ v Z, e = .returned (.tuple #[.agg #[.bool r.back, .bool r.dir, .bool r.rooted, v], .int .i64 0]) ∧ w'.ownsRow w.heap.size 143 2 v Z.length (rcells Z) ∧ (∀ z ∈ Z, RPieceH w' z) ∧ Z.map (·.1) = r.pieces
  | .error n => ∃ b1 b2 b3 A k m, e = .returned (.tuple #[.agg #[.bool b1, .bool b2, .bool b3, .slice A k m], .int .i64 (n : Int)]) ∧ n ≠ 0
end Go.Proofs.YtgkifphfibcfdaaGreatDoor.G
/- The rules of a text, as plain functions; the reference's rules in memory. -/
namespace Go.Proofs.YtgkifphfibcfdaaGreatDoor.G
open Go.RowKit Go.Proofs.YtgkifphfibcfdaaGreatDoor.B
set_option linter.unusedVariables false
/-- Does a line say nothing? -/
def isSilent (t : ByteArray) : Bool := decide (t.size = 0 ∨ bn t 0 = 35)
/-- The rules that lines make (i: the first one's number); the number of the first that is none, and the error's. -/
def readL : List ByteArray → Nat → Except (Nat × Nat) (List RuleV)
  | [], _ => .ok []
  | l :: r, i => if isSilent (trimS l) = true then readL r (i + 1) else match ruleF (trimS l) with
    | .error e => .error (i + 1, e)
    | .ok x => match readL r (i + 1) with | .ok q => .ok (x :: q) | .error e => .error e
def accR (acc : List RuleV) (l : List ByteArray) (i : Nat) : Except (Nat × Nat) (List RuleV) := match readL l i with | .ok q => .ok (acc ++ q) | .error e => .error e
theorem accR_nil (l : List ByteArray) (i : Nat) : accR [] l i = readL l i := by
  unfold accR
  cases readL l i <;> rfl
theorem accR_end (acc : List RuleV) (i : Nat) : accR acc [] i = .ok acc := by simp [accR, readL]
theorem accR_skip {acc : List RuleV} {l : ByteArray} {r : List ByteArray} {i : Nat} (h : isSilent (trimS l) = true) : accR acc (l :: r) i = accR acc r (i + 1) := by
  unfold accR
  simp only [readL]
  rw [if_pos h]
theorem accR_bad {acc : List RuleV} {l : ByteArray} {r : List ByteArray} {i e : Nat} (h : isSilent (trimS l) = false) (hr : ruleF (trimS l) = .error e) : accR acc (l :: r) i = .error (i + 1, e) := by
  unfold accR
  simp only [readL]
  rw [if_neg (by rw [h]; decide), hr]
theorem accR_go {acc : List RuleV} {l : ByteArray} {r : List ByteArray} {i : Nat} {x : RuleV} (h : isSilent (trimS l) = false) (hr : ruleF (trimS l) = .ok x) : accR acc (l :: r) i = accR (acc ++ [x]) r (i + 1) := by
  unfold accR
  simp only [readL]
  rw [if_neg (by rw [h]; decide), hr]
  cases readL r (i + 1) <;> simp
theorem trimK_le : ∀ (k : Nat) (s : ByteArray), (trimK k s).size ≤ s.size
  | 0, s => Nat.le_refl _
  | k + 1, s => by
    simp only [trimK]
    split
    · have := trimK_le k (s.extract 0 (s.size - 1))
      rw [ByteArray.size_extract] at this
      omega
    · omega
theorem trimS_le (s : ByteArray) : (trimS s).size ≤ s.size := trimK_le _ _
/-- A rule of the reference's, where its pieces lie, what they are. -/
structure XR where
  r : RuleV
  v : Value
  Z : List (PieceV × Value)
def xcells (X : List XR) : List Value := X.flatMap fun x => [.bool x.r.back, .bool x.r.dir, .bool x.r.rooted, x.v]
theorem xcells_snoc (X : List XR) (x : XR) : xcells (X ++ [x]) = xcells X ++ [.bool x.r.back, .bool x.r.dir, .bool x.r.rooted, x.v] := by simp [xcells, List.flatMap_append]
def XRH (w : World) (x : XR) : Prop := (∃ b, w.ownsRow b 143 2 x.v x.Z.length (rcells x.Z)) ∧ (∀ z ∈ x.Z, RPieceH w z) ∧ x.Z.map (·.1) = x.r.pieces
theorem XRH.keeps {T : List TypeId} {w w' : World} {x : XR} (h : XRH w x) (hk : Keeps T w w') (h1 : 143 ∉ T) (h2 : 72 ∉ T) : XRH w' x := by
  obtain ⟨⟨b, hb⟩, hz, he⟩ := h
  exact ⟨⟨b, own_keeps hb hk h1⟩, fun z hz' => (hz z hz').keeps hk h2, he⟩
theorem info93 : (Tryz.prog.info? 93).map (fun i => (i.zero, i.size, i.bytes)) = some (some (.agg #[.bool false, .bool false, .bool false, .slice none 0 0]), 4, 32) := by kernel_rfl
theorem info93' : ∃ ie, Tryz.prog.info? 93 = some ie ∧ ie.zero = some (.agg #[.bool false, .bool false, .bool false, .slice none 0 0]) ∧ ie.size = 4 ∧ ie.bytes = 32 := by
  cases hie : Tryz.prog.info? 93 with
  | none => have := info93; rw [hie] at this; cases this
  | some ie =>
    have h := info93
    rw [hie] at h
    simp only [Option.map_some, Option.some.injEq, Prod.mk.injEq] at h
    exact ⟨ie, rfl, h.1, h.2.1, h.2.2⟩
theorem build50 (b1 b2 b3 : Bool) (A : Option Addr) (n m : Nat) (w : World) : (Instr.buildSlice 50 1 #[(0, .agg #[.bool b1, .bool b2, .bool b3, .slice A n m])]).run Tryz.prog w = .ok (.slice (some ⟨w.heap.size, 0, none⟩) 1 1) (w.alloc (.cells #[.bool b1, .bool b2, .bool b3, .slice A n m] 93)) := by
  obtain ⟨ie, h1, h2, h3, h4⟩ := info93'
  refine Go.run_buildSlice w 50 93 1 _ _ ie _ Tryz.underlying50 h1 h2 (by rw [h3]; decide) (by rw [h3]; decide) ?_
  rw [h3]
  have := Great.fill_whole (s := 4) (by omega) [.agg #[.bool b1, .bool b2, .bool b3, .slice A n m]] ((Array.range (1 * 4)).map ((Value.agg #[.bool false, .bool false, .bool false, .slice none 0 0]).cells[· % (Value.agg #[.bool false, .bool false, .bool false, .slice none 0 0]).cells.size]!)) (by simp [Value.cells]) (by simp)
  simpa [Value.cells] using this
theorem wpList_build50 {ops : Array Oper} {rest : List Oper} {o : Oper} {a : Act} {w : World} {Q : Exit → Act → World → Prop} (hgd : o.guard = none) (b1 b2 b3 : Bool) (A : Option Addr) (k m : Nat) (n : Nat) (hn : w.heap.size = n) (x : Operand) (ho : o.op = .buildSlice 50 1 #[(0, x)]) (hx : a.eval x = .agg #[.bool b1, .bool b2, .bool b3, .slice A k m])
    (h : wpList Tryz.prog ops Q rest (a.put o.dst (.slice (some ⟨n, 0, none⟩) 1 1)) (w.alloc (.cells #[.bool b1, .bool b2, .bool b3, .slice A k m] 93))) : wpList Tryz.prog ops Q (o :: rest) a w := by
  subst hn
  refine wpList_plain hgd fun K hK => ?_
  unfold Oper.wp execOp
  simp only [ho, List.map_toArray, List.map_cons, List.map_nil, hx, Sem.run_bind, build50, Result.andThen_ok]
  exact hK _ _ h
set_option maxRecDepth 100000 in
theorem wpList_append93 {ops : Array Oper} {rest : List Oper} {o : Oper} {a : Act} {w : World} {Q : Exit → Act → World → Prop} (hgd : o.guard = none) (s y : Operand)
    (ho : o.op = .call { callee := .builtin .append, args := #[s, y], argTypes := #[50, 50] }) (base : Nat) (v : Value) (X : List XR) (hs : a.eval s = v) (hown : w.ownsRow base 93 4 v X.length (xcells X))
    (x : XR) (A : Option Addr) (k m : Nat) (hv : x.v = .slice A k m) (g : Nat) (hx : a.eval y = .slice (some ⟨g, 0, none⟩) 1 1) (hg : w.heap[g]? = some (.cells #[.bool x.r.back, .bool x.r.dir, .bool x.r.rooted, .slice A k m] 93 (0, 0))) (hL : X.length ≤ 16777216) (hb : base ≤ w.heap.size)
    (h : ∀ v' w', w'.ownsRow base 93 4 v' (X ++ [x]).length (xcells (X ++ [x])) → w.grownBy w' v.ownBlock → wpList Tryz.prog ops Q rest (a.put o.dst v') w') : wpList Tryz.prog ops Q (o :: rest) a w := by
  obtain ⟨ie, h1, h2, h3, h4⟩ := info93'
  refine wpList_append_own _ hgd s y 50 ho base 93 ie _ 4 32 Tryz.underlying50 h1 h2 h3 h4 rfl (by decide) v X.length (xcells X) hs hown ⟨g, 0, none⟩ 1 1 [.bool x.r.back, .bool x.r.dir, .bool x.r.rooted, .slice A k m] hx rfl ?_ (fun u hu => by simp at hu; rcases hu with rfl | rfl | rfl | rfl <;> rfl) ?_ ?_ hb ?_
  · intro j u hu
    have e : (⟨g, 0, none⟩ : Addr).add j = ⟨g, j, none⟩ := by
      unfold Addr.add
      split
      · subst_vars; rfl
      · simp
    rw [e, cell_of_heap hg]
    simpa using hu
  · unfold maxLen; omega
  · omega
  · intro v' w' q1 q2 q3
    refine h v' w' ?_ q2
    rw [List.length_append, xcells_snoc, hv]
    exact q1
/-- What the reference's Read leaves. -/
def RReadPost (w : World) (R : Except (Nat × Nat) (List RuleV)) (e : Ending) (w' : World) : Prop :=
  Chg [] w w' ∧ match R with
  | .ok rs => ∃ v X, e = .returned (.tuple #[v, .int .i64 0, .int .i64 0]) ∧ w'.ownsRow w.heap.size 93 4 v X.length (xcells X) ∧ (∀ x ∈ X, XRH w' x) ∧ X.map (·.r) = rs
  | .error (i, n) => e = .returned (.tuple #[.slice none 0 0, .int .i64 (i : Int), .int .i64 (n : Int)]) ∧ n ≠ 0
end Go.Proofs.YtgkifphfibcfdaaGreatDoor.G
