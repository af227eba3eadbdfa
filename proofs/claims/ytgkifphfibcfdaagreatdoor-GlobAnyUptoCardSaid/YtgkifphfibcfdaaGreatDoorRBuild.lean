/- The reference's row of parts that is being made: words for its Compile. -/
import Derived.Test.YtgkifphfibcfdaaGreatDoorRPart
import Derived.Great.BuildSlice
import Derived.Deep.CutRange
import Derived.Deep.CutBlock
namespace Go.Proofs.YtgkifphfibcfdaaGreatDoor.G
open Go.RowKit Go.Proofs.YtgkifphfibcfdaaGreatDoor.B
set_option linter.unusedVariables false
theorem info72 : (Tryz.prog.info? 72).map (fun i => (i.zero, i.size, i.bytes)) = some (some (.agg Tryz.zeroCells72), 257, 257) := by kernel_rfl
theorem zsize72 : (Value.agg Tryz.zeroCells72).cells.size = 257 := by kernel_rfl
theorem info72' : ∃ ie z, Tryz.prog.info? 72 = some ie ∧ ie.zero = some z ∧ ie.size = 257 ∧ ie.bytes = 257 ∧ z.cells.size = 257 := by
  cases hie : Tryz.prog.info? 72 with
  | none => have := info72; rw [hie] at this; cases this
  | some ie =>
    have h := info72
    rw [hie] at h
    simp only [Option.map_some, Option.some.injEq, Prod.mk.injEq] at h
    exact ⟨ie, _, rfl, h.1, h.2.1, h.2.2, zsize72⟩
theorem fill72 (b : Bool) (T : Nat → Bool) (Z : Array Value) (hZ : Z.size = 257) : Instr.fill (fun i => some (i * 257, 257)) Z [(0, .agg (cellsOf b T))] = some (cellsOf b T) := by
  have := Great.fill_whole (s := 257) (by omega) [.agg (cellsOf b T)] Z (by simpa [Value.cells] using cellsOf_size b T) (by simp [hZ])
  simpa [Value.cells] using this
theorem build27 (b : Bool) (T : Nat → Bool) (w : World) : (Instr.buildSlice 27 1 #[(0, .agg (cellsOf b T))]).run Tryz.prog w = .ok (.slice (some ⟨w.heap.size, 0, none⟩) 1 1) (w.alloc (.cells (cellsOf b T) 72)) := by
  cases hie : Tryz.prog.info? 72 with
  | none => have := info72; rw [hie] at this; cases this
  | some ie =>
    have h := info72
    rw [hie] at h
    simp only [Option.map_some, Option.some.injEq, Prod.mk.injEq] at h
    obtain ⟨h1, h2, h3⟩ := h
    refine Go.run_buildSlice w 27 72 1 _ _ ie _ Tryz.underlying27 hie h1 (by rw [h2]; decide) (by rw [h2]; decide) ?_
    rw [h2]
    exact fill72 b T _ (by simp)
theorem wpList_build27 {ops : Array Oper} {rest : List Oper} {o : Oper} {a : Act} {w : World} {Q : Exit → Act → World → Prop} (hgd : o.guard = none) (C : Array Value) (b : Bool) (T : Nat → Bool) (hC : C = cellsOf b T) (n : Nat) (hn : w.heap.size = n) (x : Operand) (ho : o.op = .buildSlice 27 1 #[(0, x)]) (hx : a.eval x = .agg C)
    (h : wpList Tryz.prog ops Q rest (a.put o.dst (.slice (some ⟨n, 0, none⟩) 1 1)) (w.alloc (.cells C 72))) : wpList Tryz.prog ops Q (o :: rest) a w := by
  subst hC hn
  refine wpList_plain hgd fun K hK => ?_
  unfold Oper.wp execOp
  simp only [ho, List.map_toArray, List.map_cons, List.map_nil, hx, Sem.run_bind, build27, Result.andThen_ok]
  exact hK _ _ h
set_option maxRecDepth 100000 in
theorem wpList_append72 {ops : Array Oper} {rest : List Oper} {o : Oper} {a : Act} {w : World} {Q : Exit → Act → World → Prop} (hgd : o.guard = none) (C : Array Value) (b : Bool) (T : Nat → Bool) (hC : C = cellsOf b T) (s x : Operand)
    (ho : o.op = .call { callee := .builtin .append, args := #[s, x], argTypes := #[27, 27] }) (base : Nat) (v : Value) (L : List PartV) (hs : a.eval s = v) (hown : w.ownsRow base 72 257 v L.length (flat L))
    (g : Nat) (hx : a.eval x = .slice (some ⟨g, 0, none⟩) 1 1) (hg : w.heap[g]? = some (.cells C 72 (0, 0))) (hL : L.length ≤ 1048576) (hb : base ≤ w.heap.size)
    (h : ∀ v' w', w'.ownsRow base 72 257 v' (L ++ [((b, T) : PartV)]).length (flat (L ++ [((b, T) : PartV)])) → w.grownBy w' v.ownBlock → wpList Tryz.prog ops Q rest (a.put o.dst v') w') : wpList Tryz.prog ops Q (o :: rest) a w := by
  obtain ⟨ie, z, h1, h2, h3, h4, h5⟩ := info72'
  refine wpList_append_own _ hgd s x 27 ho base 72 ie z 257 257 Tryz.underlying27 h1 h2 h3 h4 h5 (by decide) v L.length (flat L) hs hown ⟨g, 0, none⟩ 1 1 C.toList hx ?_ ?_ ?_ ?_ ?_ hb ?_
  · rw [hC, Array.length_toList, cellsOf_size]
  · intro j u hu
    have e : (⟨g, 0, none⟩ : Addr).add j = ⟨g, j, none⟩ := by
      unfold Addr.add
      split
      · subst_vars; rfl
      · simp
    rw [e, cell_of_heap hg]
    simpa using hu
  · intro u hu
    have h7 := cellsOf_one b T
    rw [← hC] at h7
    exact (Array.all_eq_true_iff_forall_mem.1 h7) u (Array.mem_def.2 hu)
  · unfold maxLen; omega
  · omega
  · intro v' w' q1 q2 q3
    refine h v' w' ?_ q2
    rw [flat_snoc, List.length_append]
    rw [hC] at q1
    exact q1
theorem rparts_of_own {w : World} {base : Nat} {t : TypeId} {v : Value} {L : List PartV} (h : w.ownsRow base t 257 v L.length (flat L)) : ∃ A c, v = .slice A L.length c ∧ PartsAt w A L := by
  obtain ⟨h1, h2⟩ := h
  rcases h2 with ⟨rfl, h0⟩ | ⟨g, cap, cur, rfl, hb, hg, hn, hc, hsz, ht⟩
  · exact ⟨none, 0, by rw [h0], fun p hp => by omega⟩
  · refine ⟨_, cap, rfl, fun p hp => ⟨g, rfl, fun j hj => ?_⟩⟩
    rw [cell_of_heap hg, ← flat_get L p hp j hj, ← ht]
    have hlt : p * 257 + j < L.length * 257 := by
      have : (p + 1) * 257 ≤ L.length * 257 := Nat.mul_le_mul_right _ hp
      omega
    rw [List.getElem?_take_of_lt hlt]
    simp
theorem rown_chg {w w' : World} {base : Nat} {t : TypeId} {z : Nat} {v : Value} {n : Nat} {l : List Value} (h : w.ownsRow base t z v n l) (hb : ∀ g, v.ownBlock = some g → g < w.heap.size → w'.heap[g]? = w.heap[g]?) : w'.ownsRow base t z v n l := by
  refine ⟨h.1, ?_⟩
  rcases h.2 with hn | ⟨g, cap, cur, hv, h1, hg, rest⟩
  · exact .inl hn
  · exact .inr ⟨g, cap, cur, hv, h1, (hb g (by rw [hv]; rfl) (lt_of_heap hg)).trans hg, rest⟩
theorem Chg.rgrown {L : List Nat} {a b c : World} {row : Option Nat} (h : Chg L a b) (k : b.grownBy c row) (hr : ∀ g, row = some g → g < a.heap.size → g ∈ L) : Chg L a c :=
  ⟨k.os.trans h.os, k.tape.trans h.tape, k.output.trans h.output, Nat.le_trans h.size k.size, fun i hi hn =>
    (k.block i (Nat.lt_of_lt_of_le hi h.size) (fun e => hn (hr i e.symm hi))).trans (h.block i hi hn)⟩
/-- What the reference's Compile holds: the row of parts. -/
structure ROwn (w wr : World) (L : List PartV) (v : Value) : Prop where
  chg : Chg [] w wr
  own : wr.ownsRow w.heap.size 72 257 v L.length (flat L)
theorem ROwn.out {w wr : World} {L : List PartV} {v : Value} (h : ROwn w wr L v) {g : Nat} (e : v.ownBlock = some g) : w.heap.size ≤ g ∧ g < wr.heap.size := h.own.lt g e
theorem ROwn.alloc {w wr : World} {L : List PartV} {v : Value} (h : ROwn w wr L v) (o : Obj) : ROwn w (wr.alloc o) L v := ⟨h.chg.alloc o, h.own.alloc o⟩
theorem ROwn.setCell {w wr : World} {L : List PartV} {v : Value} (h : ROwn w wr L v) {g : Nat} (hg : w.heap.size ≤ g) (hv : v.ownBlock ≠ some g) (j : Nat) (u : Value) : ROwn w (wr.setCell ⟨g, j, none⟩ u) L v :=
  ⟨h.chg.setCell (fun hh => absurd (show g < w.heap.size from hh) (by omega)) _, rown_chg h.own (fun k e hk => Below.heap_setCell wr ⟨g, j, none⟩ u k (fun e2 => hv (by rw [e, e2])))⟩
theorem ROwn.setRow {w wr : World} {L : List PartV} {v : Value} (h : ROwn w wr L v) {g : Nat} (hg : w.heap.size ≤ g) (hv : v.ownBlock ≠ some g) (cs : Array Value) : ROwn w (wr.setRow g cs) L v :=
  ⟨h.chg.setRow (fun hh => absurd hh (by omega)) _, rown_chg h.own (fun k e hk => hp_setRow_other (fun e2 => hv (by rw [e, e2])))⟩
theorem ROwn.step {w wr w' : World} {L : List PartV} {v : Value} (h : ROwn w wr L v) (hc : Chg [] wr w') : ROwn w w' L v :=
  ⟨h.chg.trans hc, rown_chg h.own (fun k e hk => hc.block k hk (by simp))⟩
theorem ROwn.grow {w wr w' : World} {L L' : List PartV} {v v' : Value} (h : ROwn w wr L v) (hg : wr.grownBy w' v.ownBlock) (ho : w'.ownsRow w.heap.size 72 257 v' L'.length (flat L')) : ROwn w w' L' v' :=
  ⟨Chg.rgrown h.chg hg (fun g e hk => by have := (h.out e).1; omega), ho⟩
theorem notAt_out {s : ByteArray} {i : Nat} (h : ¬ i < s.size) : notAt s i = false := by
  cases hn : notAt s i with
  | false => rfl
  | true => exact absurd (notAt_in hn) h
theorem notAt_33 {s : ByteArray} {i : Nat} (h : i < s.size) (e : bn s i = 33) : notAt s i = true := by
  unfold notAt
  rw [one_bn.2 ⟨h, by rw [e]; rfl⟩]; rfl
theorem notAt_94 {s : ByteArray} {i : Nat} (h : i < s.size) (e : bn s i = 94) : notAt s i = true := by
  unfold notAt
  rw [Bool.or_eq_true]
  exact .inr (one_bn.2 ⟨h, by rw [e]; rfl⟩)
theorem notAt_no {s : ByteArray} {i : Nat} (h1 : bn s i ≠ 33) (h2 : bn s i ≠ 94) : notAt s i = false := by
  unfold notAt
  rw [Bool.or_eq_false_iff]
  exact ⟨Bool.eq_false_iff.2 (fun h => h1 (one_bn.1 h).2), Bool.eq_false_iff.2 (fun h => h2 (one_bn.1 h).2)⟩
theorem store72c (C : Array Value) (b : Bool) (T : Nat → Bool) (hC : C = cellsOf b T) (w : World) : (storeCells ⟨w.heap.size, 0, none⟩ C.toList).run Tryz.prog (w.alloc (.cells Tryz.zeroCells72 72)) = .ok () (w.alloc (.cells C 72)) := by
  subst hC
  exact run_storeCells_new w 72 Tryz.zeroCells72 (cellsOf b T) (size72 _ _) (by rw [zero72, cellsOf_size, cellsOf_size]) (cellsOf_one _ _)
end Go.Proofs.YtgkifphfibcfdaaGreatDoor.G
