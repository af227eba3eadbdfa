/- The reference's Match: the walk of its table. -/
import Derived.Test.YtgkifphfibcfdaaGreatDoorRu3
import Derived.Test.YtgkifphfibcfdaaGreatDoorRu1
import Derived.Deep.CutRange
import Derived.Deep.CutBlock
namespace Go.Proofs.YtgkifphfibcfdaaGreatDoor.G
open Go.RowKit Go.Proofs.YtgkifphfibcfdaaGreatDoor.B
set_option linter.unusedVariables false
set_option linter.unusedSimpArgs false
theorem info4 : (Tryz.prog.info? 4).map (fun i => (i.zero, i.size, i.bytes)) = some (some (.bool false), 1, 1) := by kernel_rfl
/-- A row of Booleans. -/
def rowB (f : Nat → Bool) (N : Nat) : Array Value := ((List.range N).map fun k => Value.bool (f k)).toArray
theorem rowB_size (f : Nat → Bool) (N : Nat) : (rowB f N).size = N := by simp [rowB]
theorem rowB_at (f : Nat → Bool) {N k : Nat} (h : k < N) : (rowB f N)[k]? = some (.bool (f k)) := by simp [rowB, h]
def updB (f : Nat → Bool) (i : Nat) (v : Bool) : Nat → Bool := fun j => if j = i then v else f j
theorem rowB_set (f : Nat → Bool) {N k : Nat} (h : k < N) (v : Bool) : (rowB f N).setIfInBounds k (.bool v) = rowB (updB f k v) N := by
  apply Array.ext_getElem?
  intro j
  rw [Array.getElem?_setIfInBounds]
  by_cases hj : k = j
  · subst hj
    rw [if_pos rfl, if_pos (by rw [rowB_size]; exact h), rowB_at _ h]
    simp [updB]
  · rw [if_neg hj]
    by_cases h1 : j < N
    · rw [rowB_at _ h1, rowB_at _ h1]
      simp only [updB]
      rw [if_neg (fun e => hj e.symm)]
    · rw [Array.getElem?_eq_none (by rw [rowB_size]; omega), Array.getElem?_eq_none (by rw [rowB_size]; omega)]
theorem rowB_congr {f g : Nat → Bool} {N : Nat} (h : ∀ k, k < N → f k = g k) : rowB f N = rowB g N := by
  unfold rowB
  congr 1
  exact List.map_congr_left fun k hk => by rw [h k (by simpa using hk)]
theorem make_bools (N : Nat) (w : World) (hN : N ≤ 16777217) : (Instr.makeSlice 78 (.int .i64 (N : Int)) (.int .i64 (N : Int))).run Tryz.prog w = .ok (.slice (some ⟨w.heap.size, 0, none⟩) N N) (w.alloc (.cells (rowB (fun _ => false) N) 4)) := by
  cases hie : Tryz.prog.info? 4 with
  | none => have := info4; rw [hie] at this; cases this
  | some ie =>
    have h := info4
    rw [hie] at h
    simp only [Option.map_some, Option.some.injEq, Prod.mk.injEq] at h
    obtain ⟨h2, h3, h4⟩ := h
    have h := run_make (P := Tryz.prog) w 78 4 ie _ Tryz.underlying78 hie h2 .i64 .i64 (N : Int) (N : Int) (by omega) (by omega) (by rw [h4]; omega) (by omega)
    rw [h3] at h
    have e : madeCells (Value.bool false).cells ((N : Int).toNat * 1) = rowB (fun _ => false) N := by
      apply Array.ext
      · simp [madeCells, rowB]
      · intro i h1 h2
        simp [madeCells, rowB, Value.cells, Nat.mod_one]
    rw [e] at h
    exact h
/-- The first p parts mean the first k bytes. -/
def pm (L : List PartV) (s : ByteArray) (p k : Nat) : Bool := mt (L.take p) ((bl s).take k)
theorem pm_zero (L : List PartV) (s : ByteArray) (k : Nat) (hk : k ≤ s.size) : pm L s 0 k = decide (k = 0) := by
  unfold pm
  rw [List.take_zero]
  cases k with
  | zero => simp [mt]
  | succ k =>
    simp only [mt]
    rw [Bool.eq_iff_iff]
    simp only [List.isEmpty_iff, List.take_eq_nil_iff, decide_eq_true_eq]
    constructor
    · rintro (h | h)
      · omega
      · have := congrArg List.length h
        rw [bl_length] at this
        simp only [List.length_nil] at this
        omega
    · intro h; omega
theorem take_part {L : List PartV} {p : Nat} (h : p < L.length) : L.take (p + 1) = L.take p ++ [L[p]] := by rw [List.take_succ_eq_append_getElem h]
theorem take_byte {s : ByteArray} {k : Nat} (h : k < s.size) : (bl s).take (k + 1) = (bl s).take k ++ [bn s k] := by
  rw [List.take_succ_eq_append_getElem (by rw [bl_length]; exact h)]
  simp [bl]
theorem pm_star {L : List PartV} {s : ByteArray} {p : Nat} (hp : p < L.length) (ha : (L[p]).1 = true) (k : Nat) (hk : k ≤ s.size) : pm L s (p + 1) k = true ↔ ∃ j, j ≤ k ∧ pm L s p j = true := by
  unfold pm
  rw [take_part hp, mt_snoc_star _ _ ha]
  rw [List.length_take, bl_length]
  constructor
  · rintro ⟨j, h1, h2⟩
    rw [List.take_take, Nat.min_eq_left (by omega)] at h2
    exact ⟨j, by omega, h2⟩
  · rintro ⟨j, h1, h2⟩
    exact ⟨j, by omega, by rw [List.take_take, Nat.min_eq_left h1]; exact h2⟩
theorem pm_star_zero {L : List PartV} {s : ByteArray} {p : Nat} (hp : p < L.length) (ha : (L[p]).1 = true) : pm L s (p + 1) 0 = pm L s p 0 := by
  apply Bool.eq_iff_iff.2
  rw [pm_star hp ha 0 (Nat.zero_le _)]
  constructor
  · rintro ⟨j, h1, h2⟩
    obtain rfl : j = 0 := by omega
    exact h2
  · intro h; exact ⟨0, Nat.le_refl _, h⟩
theorem pm_star_succ {L : List PartV} {s : ByteArray} {p k : Nat} (hp : p < L.length) (ha : (L[p]).1 = true) (hk : k + 1 ≤ s.size) : pm L s (p + 1) (k + 1) = (pm L s p (k + 1) || pm L s (p + 1) k) := by
  apply Bool.eq_iff_iff.2
  rw [Bool.or_eq_true, pm_star hp ha (k + 1) hk, pm_star hp ha k (by omega)]
  constructor
  · rintro ⟨j, h1, h2⟩
    by_cases hj : j = k + 1
    · rw [hj] at h2; exact .inl h2
    · exact .inr ⟨j, by omega, h2⟩
  · rintro (h | ⟨j, h1, h2⟩)
    · exact ⟨k + 1, Nat.le_refl _, h⟩
    · exact ⟨j, by omega, h2⟩
theorem pm_one_zero {L : List PartV} {s : ByteArray} {p : Nat} (hp : p < L.length) (ha : (L[p]).1 = false) : pm L s (p + 1) 0 = false := by
  unfold pm
  rw [take_part hp, List.take_zero]
  exact mt_snoc_one_nil _ ha
theorem pm_one_succ {L : List PartV} {s : ByteArray} {p k : Nat} (hp : p < L.length) (ha : (L[p]).1 = false) (hk : k < s.size) : pm L s (p + 1) (k + 1) = (pm L s p k && (L[p]).2 (bn s k)) := by
  unfold pm
  rw [take_part hp, take_byte hk, mt_snoc_one _ _ _ ha]
theorem pm_end (L : List PartV) (s : ByteArray) : pm L s L.length s.size = mt L (bl s) := by
  unfold pm
  rw [List.take_of_length_le (Nat.le_refl _), List.take_of_length_le (by rw [bl_length]; exact Nat.le_refl _)]
theorem PartsAt.chg2 {w w' : World} {A : Option Addr} {L : List PartV} (h : PartsAt w A L) (hc : Chg [] w w') : PartsAt w' A L := by
  intro p hp
  obtain ⟨g, hA, hj⟩ := h p hp
  refine ⟨g, hA, fun j hjl => ?_⟩
  have h1 := hj j hjl
  obtain ⟨v, hv⟩ : ∃ v, (cellsOf (L[p]'hp).1 (L[p]'hp).2)[j]? = some v := ⟨_, Array.getElem?_eq_getElem (by rw [cellsOf_size]; exact hjl)⟩
  rw [hv] at h1 ⊢
  exact (hc.below.cell (p := ⟨g, p * 257 + j, none⟩) (World.block_lt_of_cell? w _ h1)).trans h1
/-- The row that is being made: so far it is told. -/
def soFar (f : Nat → Bool) (k : Nat) : Nat → Bool := fun j => decide (j < k) && f j
theorem soFar_step (f : Nat → Bool) (k : Nat) (v : Bool) (h : v = f k) (j : Nat) : updB (soFar f k) k v j = soFar f (k + 1) j := by
  simp only [updB, soFar]
  by_cases hj : j = k
  · subst hj
    rw [if_pos rfl, h]; simp
  · rw [if_neg hj]
    congr 1
    exact decide_eq_decide.2 (by omega)
theorem yield_at {ops : Array Oper} {A : Act} {j : Nat} {o : Oper} {t : Tmp} {b : Bool} (ho : ops[j]? = some o) (hd : o.dst = some t) (hs : t < A.tmps.size) (h : A.eval (.tmp t) = .bool b) : yielded ops A.tmps j = some b := by
  have ht : A.tmps[t]? = some (.bool b) := by
    rw [Array.getElem?_eq_getElem hs]
    simp only [Act.eval] at h
    simpa [hs] using h
  unfold yielded
  rw [ho]
  simp [hd, ht]
theorem wants_at {ops : Array Oper} {A : Act} {o : Oper} {j : Nat} {want b : Bool} (hg : o.guard = some (j, want)) (hy : yielded ops A.tmps j = some b) : Region.wanted o (yielded ops A.tmps) = (b == want) := by
  unfold Region.wanted
  rw [hg]
  simp only [hy]
  cases b <;> cases want <;> rfl
theorem wants_no {ops : Array Oper} {A : Act} {o : Oper} (hg : o.guard = none) : Region.wanted o (yielded ops A.tmps) = true := by
  unfold Region.wanted
  rw [hg]
theorem st_val {P : Program} {ops : Array Oper} {w : World} {Q : Act → Prop} {o : Oper} {rest : List Oper} {A : Act} (v : Value) (hw : Region.wanted o (yielded ops A.tmps) = true) (hx : (execOp A.eval o).run P w = .ok (.value v) w) (h : ∀ B, B = A.put o.dst v → wpStill P ops w Q rest B) : wpStill P ops w Q (o :: rest) A := by
  unfold wpStill
  rw [hw]
  simp only [if_true]
  unfold Oper.still
  rw [hx, Oper.stillUpon_value]
  exact h _ rfl
theorem st_no {P : Program} {ops : Array Oper} {w : World} {Q : Act → Prop} {o : Oper} {rest : List Oper} {A : Act} (hw : Region.wanted o (yielded ops A.tmps) = false) (h : ∀ B, B = A.put o.dst undef → wpStill P ops w Q rest B) : wpStill P ops w Q (o :: rest) A := by
  unfold wpStill
  rw [hw]
  simp only [Bool.false_eq_true, if_false]
  exact h _ rfl
theorem ev_same2 (a : Act) (t : Tmp) (v : Value) (h : t < a.tmps.size) : (a.put (some t) v).eval (.tmp t) = v := by simp [Act.put, Act.eval, h]
theorem ev_ne2 (a : Act) (t u : Tmp) (v : Value) (h : t ≠ u) : (a.put (some t) v).eval (.tmp u) = a.eval (.tmp u) := by simp [Act.put, Act.eval, h]
theorem sz_put2 (a : Act) (d : Option Tmp) (v : Value) : (a.put d v).tmps.size = a.tmps.size := by cases d <;> simp [Act.put]
theorem wp_any_frame {P : Program} {c : Code} {Q : Exit → Act → World → Prop} {a : Act} {w : World} (F : Act → Act → World → Prop) (key : ∀ (K : Exit → Act → World → Prop) (A : Act), A = a → (∀ A' W', F A A' W' → K .normal A' W') → c.wp P K A w) (h : ∀ A' W', F a A' W' → Q .normal A' W') : c.wp P Q a w := key Q a rfl h
theorem wpList_store4 {ops : Array Oper} {Q : Exit → Act → World → Prop} {o : Oper} {a : Act} {w : World} (p x : Operand) (hgd : o.guard = none) (ho : o.op = .store 4 p x) (hd : o.dst = none) (g j : Nat) (u : Value) (b : Bool) (hp : a.eval p = .pointer (some ⟨g, j, none⟩)) (hx : a.eval x = .bool b)
    (hc : w.cell? ⟨g, j, none⟩ = some u) (hf : w.frozen? ⟨g, j, none⟩ = false) (h : Q .normal a (w.setCell ⟨g, j, none⟩ (.bool b))) : wpList Tryz.prog ops Q [o] a w := by
  refine wpList_plain hgd fun K hK => ?_
  obtain ⟨d, op, t, gd, y, z⟩ := o
  simp only at ho hd
  subst ho hd
  unfold Oper.wp
  simp only [execOp, hp, hx]
  go_simp
  exact hK _ _ h
theorem still_mv {P : Program} {ev : Operand → Value} {x : Operand} {v : Value} {d : Option Tmp} {t g y z} (h : ev x = v) (w : World) : (execOp ev (⟨d, .move x, t, g, y, z⟩ : Oper)).run P w = .ok (.value v) w := by
  simp [execOp, h]
theorem wp_opaque2 {P : Program} {c : Code} {Q : Exit → Act → World → Prop} {a : Act} {w : World} (h : ∀ W, W = w → c.wp P Q a W) : c.wp P Q a w := h _ rfl
set_option maxRecDepth 100000 in
set_option maxHeartbeats 8000000 in
theorem rmatch_calls (A : Option Addr) (c : Nat) (L : List PartV) (s : ByteArray) (w : World) (hP : PartsAt w A L) (hL : L.length ≤ 1048576) (hs : s.size ≤ 16777216) :
    Calls Tryz.prog 16 #[.slice A L.length c, .string s] w fun e w' => e = .returned (.bool (mt L (bl s))) ∧ Chg [] w w' := by
  have HP := Asd.mk hP
  obtain ⟨N, hN⟩ : ∃ N, N = s.size + 1 := ⟨_, rfl⟩
  have hmk : ∀ W : World, (Instr.makeSlice 78 (.int .i64 ((s.size : Int) + 1)) (.int .i64 ((s.size : Int) + 1))).run Tryz.prog W = .ok (.slice (some ⟨W.heap.size, 0, none⟩) N N) (W.alloc (.cells (rowB (fun _ => false) N) 4)) := fun W => by
    have := make_bools N W (by omega)
    rw [show (N : Int) = (s.size : Int) + 1 by omega] at this
    exact this
  have h0c : (w.alloc (.cells (rowB (fun _ => false) N) 4)).cell? ⟨w.heap.size, 0, none⟩ = some (.bool false) := (cell_of_heap (hp_new _ _) 0).trans (rowB_at _ (by omega))
  have h0f := frozen_of_heap (hp_new w (.cells (rowB (fun _ => false) N) 4)) 0
  have n1 : (0 : Int) < (N : Int) := by omega
  have HN := Asd.mk hN
  clear hP hN
  go_enter Tryz.func16, Tryz.ntmps16
  go_wp2
  clear h0c h0f
  go_loopg [5, 6] (L.length + 1) (fun gk v5 v6 wr => ∃ (p g : Nat), p ≤ L.length ∧ gk = L.length + 1 - p ∧ v6 = .int .i64 (p : Int) ∧ v5 = .slice (some ⟨g, 0, none⟩) N N ∧ Asd (Chg [] w wr) ∧ Asd (w.heap.size ≤ g) ∧ Asd (wr.heap[g]? = some (.cells (rowB (pm L s p) N) 4 (0, 0))))
  case atStart =>
    refine ⟨0, w.heap.size, by omega, by omega, rfl, rfl, ⟨(Chg.refl _ _).alloc _⟩, ⟨Nat.le_refl _⟩, ⟨?_⟩⟩
    rw [rowB_set _ (by have := HN.out; omega), rowB_congr (f := pm L s 0) (g := updB (fun _ => false) 0 true) (fun k hk => by
      rw [pm_zero L s k (by have := HN.out; omega)]
      simp only [updB]
      by_cases h0 : k = 0 <;> simp [h0])]
    exact hp_new _ _
  case round =>
    obtain ⟨p, g, hp, rfl, rfl, rfl, HC, HG, HR⟩ := hrel
    by_cases hlt : p < L.length
    · go_wp2
      clear hmk
      refine wp_opaque2 (fun W hW => ?_)
      have HC1 := Asd.mk (show Chg [] w W by rw [hW]; exact HC.out.alloc _)
      have HR1 := Asd.mk (show W.heap[g]? = some (.cells (rowB (pm L s p) N) 4 (0, 0)) by rw [hW]; exact hp_alloc HR.out _)
      have HX1 := Asd.mk (show W.heap[wr.heap.size]? = some (.cells (rowB (soFar (pm L s (p + 1)) 0) N) 4 (0, 0)) by rw [hW]; rw [rowB_congr (g := fun _ => false) (fun k hk => by simp [soFar])]; exact hp_new _ _)
      have hgl : g < wr.heap.size := lt_of_heap HR.out
      obtain ⟨BX, hBX⟩ : ∃ B, B = wr.heap.size := ⟨_, rfl⟩
      rw [← hBX] at HX1 hgl ⊢
      have hBw : w.heap.size ≤ BX := by rw [hBX]; exact HC.out.size
      clear hW hBX
      go_loopg [8] (s.size + 2) (fun gk v8 wx => ∃ k : Nat, k ≤ N ∧ gk = s.size + 2 - k ∧ v8 = .int .i64 (k : Int) ∧ Asd (Chg [] w wx) ∧ Asd (wx.heap[g]? = some (.cells (rowB (pm L s p) N) 4 (0, 0))) ∧ Asd (wx.heap[BX]? = some (.cells (rowB (soFar (pm L s (p + 1)) k) N) 4 (0, 0))))
      case atStart => exact ⟨0, by omega, by omega, rfl, HC1, HR1, HX1⟩
      case round =>
        obtain ⟨k, hk, rfl, rfl, HC2, HR2, HX2⟩ := hrel
        have hNN := HN.out
        obtain ⟨ga, hA, ca, ct⟩ := (HP.out.chg2 HC2.out).any p hlt
        subst hA
        by_cases hkl : k ≤ s.size
        · cases ha : (L[p]'hlt).1 with
          | true =>
            rw [ha] at ca
            clear ct
            cases k with
            | zero =>
              have c0 : wr.cell? ⟨g, 0, none⟩ = some (.bool (pm L s p (0))) := (cell_of_heap HR2.out (0)).trans (rowB_at _ (by omega))
              have x0 : wr.cell? ⟨BX, 0, none⟩ = some (.bool (soFar (pm L s (p + 1)) (0) (0))) := (cell_of_heap HX2.out (0)).trans (rowB_at _ (by omega))
              have xf := frozen_of_heap HX2.out (0)
              have k1 : ((0 : Nat) : Int) < (N : Int) := by omega
              have k2 : ((0 : Nat) : Int) ≤ (s.size : Int) := by omega
              have HV := Asd.mk (pm_star_zero (s := s) hlt ha)
              cases hb : pm L s p 0 with
              | true =>
                rw [hb] at c0
                have HB := Asd.mk hb
                clear hb ha
                go_wp2
                go_roundg (s.size + 2 - (0 + 1))
                case rel => exact ⟨0 + 1, by omega, by omega, by go_num, ⟨HC2.out.setCell (fun h => absurd (show BX < w.heap.size from h) (by omega)) _⟩, ⟨hp_set_other HR2.out (by omega) _ _⟩, ⟨by
                  have h := hp_set HX2.out (0) (.bool true)
                  rw [rowB_set _ (by omega), rowB_congr (fun j _ => soFar_step _ _ _ (by rw [HV.out, HB.out]) j)] at h
                  exact h⟩⟩
                case measure => omega
              | false =>
                rw [hb] at c0
                have HB := Asd.mk hb
                clear hb ha
                go_wp2
                go_roundg (s.size + 2 - (0 + 1))
                case rel => exact ⟨0 + 1, by omega, by omega, by go_num, ⟨HC2.out.setCell (fun h => absurd (show BX < w.heap.size from h) (by omega)) _⟩, ⟨hp_set_other HR2.out (by omega) _ _⟩, ⟨by
                  have h := hp_set HX2.out (0) (.bool false)
                  rw [rowB_set _ (by omega), rowB_congr (fun j _ => soFar_step _ _ _ (by rw [HV.out, HB.out]) j)] at h
                  exact h⟩⟩
                case measure => omega
            | succ j =>
              have c0 : wr.cell? ⟨g, j + 1, none⟩ = some (.bool (pm L s p (j + 1))) := (cell_of_heap HR2.out (j + 1)).trans (rowB_at _ (by omega))
              have x0 : wr.cell? ⟨BX, j + 1, none⟩ = some (.bool (soFar (pm L s (p + 1)) (j + 1) (j + 1))) := (cell_of_heap HX2.out (j + 1)).trans (rowB_at _ (by omega))
              have xf := frozen_of_heap HX2.out (j + 1)
              have k1 : ((j + 1 : Nat) : Int) < (N : Int) := by omega
              have k2 : ((j + 1 : Nat) : Int) ≤ (s.size : Int) := by omega
              have HV := Asd.mk (pm_star_succ (s := s) hlt ha hkl)
              have xp : wr.cell? ⟨BX, j, none⟩ = some (.bool (pm L s (p + 1) j)) := (cell_of_heap HX2.out j).trans ((rowB_at _ (by omega)).trans (by simp [soFar]))
              have k3 : ((j : Nat) : Int) < (N : Int) := by omega
              cases hb : pm L s p (j + 1) with
              | true =>
                rw [hb] at c0
                have HB := Asd.mk hb
                clear hb ha xp
                go_wp2
                go_roundg (s.size + 2 - (j + 1 + 1))
                case rel => exact ⟨j + 1 + 1, by omega, by omega, by go_num, ⟨HC2.out.setCell (fun h => absurd (show BX < w.heap.size from h) (by omega)) _⟩, ⟨hp_set_other HR2.out (by omega) _ _⟩, ⟨by
                  have h := hp_set HX2.out (j + 1) (.bool true)
                  rw [rowB_set _ (by omega), rowB_congr (fun j _ => soFar_step _ _ _ (by rw [HV.out, HB.out]; rfl) j)] at h
                  exact h⟩⟩
                case measure => omega
              | false =>
                rw [hb] at c0
                have HB := Asd.mk hb
                clear hb ha
                cases hc : pm L s (p + 1) j with
                | true =>
                  rw [hc] at xp
                  have HD := Asd.mk hc
                  clear hc
                  go_wp2
                  go_roundg (s.size + 2 - (j + 1 + 1))
                  case rel => exact ⟨j + 1 + 1, by omega, by omega, by go_num, ⟨HC2.out.setCell (fun h => absurd (show BX < w.heap.size from h) (by omega)) _⟩, ⟨hp_set_other HR2.out (by omega) _ _⟩, ⟨by
                    have h := hp_set HX2.out (j + 1) (.bool true)
                    rw [rowB_set _ (by omega), rowB_congr (fun j _ => soFar_step _ _ _ (by rw [HV.out, HB.out, HD.out]; rfl) j)] at h
                    exact h⟩⟩
                  case measure => omega
                | false =>
                  rw [hc] at xp
                  have HD := Asd.mk hc
                  clear hc
                  go_wp2
                  go_roundg (s.size + 2 - (j + 1 + 1))
                  case rel => exact ⟨j + 1 + 1, by omega, by omega, by go_num, ⟨HC2.out.setCell (fun h => absurd (show BX < w.heap.size from h) (by omega)) _⟩, ⟨hp_set_other HR2.out (by omega) _ _⟩, ⟨by
                    have h := hp_set HX2.out (j + 1) (.bool false)
                    rw [rowB_set _ (by omega), rowB_congr (fun j _ => soFar_step _ _ _ (by rw [HV.out, HB.out, HD.out]; rfl) j)] at h
                    exact h⟩⟩
                  case measure => omega
          | false =>
            rw [ha] at ca
            cases k with
            | zero =>
              have c0 : wr.cell? ⟨g, 0, none⟩ = some (.bool (pm L s p (0))) := (cell_of_heap HR2.out (0)).trans (rowB_at _ (by omega))
              have x0 : wr.cell? ⟨BX, 0, none⟩ = some (.bool (soFar (pm L s (p + 1)) (0) (0))) := (cell_of_heap HX2.out (0)).trans (rowB_at _ (by omega))
              have xf := frozen_of_heap HX2.out (0)
              have x0d : wr.drew.cell? ⟨BX, 0, none⟩ = some (.bool (soFar (pm L s (p + 1)) (0) (0))) := x0
              have xfd : wr.drew.frozen? ⟨BX, 0, none⟩ = false := xf
              have k1 : ((0 : Nat) : Int) < (N : Int) := by omega
              have k2 : ((0 : Nat) : Int) ≤ (s.size : Int) := by omega
              have HV := Asd.mk (pm_one_zero (s := s) hlt ha)
              clear ct ha
              go_upto_region 12 with fail
              refine wp_any_frame (fun a A' W' => ∃ x54 x55 x56 x57 x58 x59 x60 x61 x62 x63 x64 x65 x66 x67 x68 x69 x70 x71 x72 x73 x74 x75 x76 x77, A' = ((((((((((((((((((((((((a).put (some 54) x54).put (some 55) x55).put (some 56) x56).put (some 57) x57).put (some 58) x58).put (some 59) x59).put (some 60) x60).put (some 61) x61).put (some 62) x62).put (some 63) x63).put (some 64) x64).put (some 65) x65).put (some 66) x66).put (some 67) x67).put (some 68) x68).put (some 69) x69).put (some 70) x70).put (some 71) x71).put (some 72) x72).put (some 73) x73).put (some 74) x74).put (some 75) x75).put (some 76) x76).put (some 77) x77 ∧ W' = (wr.drew).setCell ⟨BX, 0, none⟩ (.bool false)) (fun K A hA hK => ?_) ?_
              · have sA : A.tmps.size = 84 := by rw [hA]; rfl
                have e7_A : A.eval (.tmp 7) = .slice (some ⟨BX, 0, none⟩) N N := by rw [hA]; rfl
                have e8_A : A.eval (.tmp 8) = .int .i64 ((0 : Nat) : Int) := by rw [hA]; rfl
                clear hA
                refine wp_region_still_tail 24 (by kernel_rfl) (by kernel_rfl) ?_
                simp only [List.take_succ_cons, List.take_zero, List.drop_succ_cons, List.drop_zero]
                refine st_val (.slice (some ⟨BX, 0, none⟩) N N) (wants_no rfl) (still_mv e7_A _) (fun B54 hB54 => ?_)
                replace hB54 : B54 = A.put (some 54) (.slice (some ⟨BX, 0, none⟩) N N) := hB54
                have sB54 : B54.tmps.size = 84 := by rw [hB54, sz_put2]; exact sA
                have e8_B54 : B54.eval (.tmp 8) = .int .i64 ((0 : Nat) : Int) := by rw [hB54, ev_ne2 _ _ _ _ (by decide)]; exact e8_A
                have e54_B54 : B54.eval (.tmp 54) = .slice (some ⟨BX, 0, none⟩) N N := by rw [hB54]; exact ev_same2 _ _ _ (by rw [sA]; decide)
                clear e7_A e8_A
                refine st_val (.int .i64 ((0 : Nat) : Int)) (wants_no rfl) (still_mv e8_B54 _) (fun B55 hB55 => ?_)
                replace hB55 : B55 = B54.put (some 55) (.int .i64 ((0 : Nat) : Int)) := hB55
                have sB55 : B55.tmps.size = 84 := by rw [hB55, sz_put2]; exact sB54
                have e8_B55 : B55.eval (.tmp 8) = .int .i64 ((0 : Nat) : Int) := by rw [hB55, ev_ne2 _ _ _ _ (by decide)]; exact e8_B54
                have e54_B55 : B55.eval (.tmp 54) = .slice (some ⟨BX, 0, none⟩) N N := by rw [hB55, ev_ne2 _ _ _ _ (by decide)]; exact e54_B54
                have e55_B55 : B55.eval (.tmp 55) = .int .i64 ((0 : Nat) : Int) := by rw [hB55]; exact ev_same2 _ _ _ (by rw [sB54]; decide)
                clear e8_B54 e54_B54
                refine st_val (.int .i64 ((0 : Nat) : Int)) (wants_no rfl) (still_mv e8_B55 _) (fun B56 hB56 => ?_)
                replace hB56 : B56 = B55.put (some 56) (.int .i64 ((0 : Nat) : Int)) := hB56
                have sB56 : B56.tmps.size = 84 := by rw [hB56, sz_put2]; exact sB55
                have e54_B56 : B56.eval (.tmp 54) = .slice (some ⟨BX, 0, none⟩) N N := by rw [hB56, ev_ne2 _ _ _ _ (by decide)]; exact e54_B55
                have e55_B56 : B56.eval (.tmp 55) = .int .i64 ((0 : Nat) : Int) := by rw [hB56, ev_ne2 _ _ _ _ (by decide)]; exact e55_B55
                have e56_B56 : B56.eval (.tmp 56) = .int .i64 ((0 : Nat) : Int) := by rw [hB56]; exact ev_same2 _ _ _ (by rw [sB55]; decide)
                clear e8_B55 e54_B55 e55_B55
                refine st_val (.bool false) (wants_no rfl) (by simp only [execOp, e56_B56]; go_simp) (fun B57 hB57 => ?_)
                replace hB57 : B57 = B56.put (some 57) (.bool false) := hB57
                have sB57 : B57.tmps.size = 84 := by rw [hB57, sz_put2]; exact sB56
                have e54_B57 : B57.eval (.tmp 54) = .slice (some ⟨BX, 0, none⟩) N N := by rw [hB57, ev_ne2 _ _ _ _ (by decide)]; exact e54_B56
                have e55_B57 : B57.eval (.tmp 55) = .int .i64 ((0 : Nat) : Int) := by rw [hB57, ev_ne2 _ _ _ _ (by decide)]; exact e55_B56
                have e57_B57 : B57.eval (.tmp 57) = .bool false := by rw [hB57]; exact ev_same2 _ _ _ (by rw [sB56]; decide)
                clear e54_B56 e55_B56 e56_B56
                refine st_val (.bool false) (wants_no rfl) (still_mv e57_B57 _) (fun B58 hB58 => ?_)
                replace hB58 : B58 = B57.put (some 58) (.bool false) := hB58
                have sB58 : B58.tmps.size = 84 := by rw [hB58, sz_put2]; exact sB57
                have e54_B58 : B58.eval (.tmp 54) = .slice (some ⟨BX, 0, none⟩) N N := by rw [hB58, ev_ne2 _ _ _ _ (by decide)]; exact e54_B57
                have e55_B58 : B58.eval (.tmp 55) = .int .i64 ((0 : Nat) : Int) := by rw [hB58, ev_ne2 _ _ _ _ (by decide)]; exact e55_B57
                have e58_B58 : B58.eval (.tmp 58) = .bool false := by rw [hB58]; exact ev_same2 _ _ _ (by rw [sB57]; decide)
                clear e54_B57 e55_B57 e57_B57
                refine st_no ((wants_at (j := 4) (want := true) rfl (yield_at (t := 58) rfl rfl (by rw [sB58]; decide) e58_B58)).trans rfl) (fun B59 hB59 => ?_)
                replace hB59 : B59 = B58.put (some 59) undef := hB59
                have sB59 : B59.tmps.size = 84 := by rw [hB59, sz_put2]; exact sB58
                have e54_B59 : B59.eval (.tmp 54) = .slice (some ⟨BX, 0, none⟩) N N := by rw [hB59, ev_ne2 _ _ _ _ (by decide)]; exact e54_B58
                have e55_B59 : B59.eval (.tmp 55) = .int .i64 ((0 : Nat) : Int) := by rw [hB59, ev_ne2 _ _ _ _ (by decide)]; exact e55_B58
                have e58_B59 : B59.eval (.tmp 58) = .bool false := by rw [hB59, ev_ne2 _ _ _ _ (by decide)]; exact e58_B58
                clear e54_B58 e55_B58 e58_B58
                refine st_no ((wants_at (j := 4) (want := true) rfl (yield_at (t := 58) rfl rfl (by rw [sB59]; decide) e58_B59)).trans rfl) (fun B60 hB60 => ?_)
                replace hB60 : B60 = B59.put (some 60) undef := hB60
                have sB60 : B60.tmps.size = 84 := by rw [hB60, sz_put2]; exact sB59
                have e54_B60 : B60.eval (.tmp 54) = .slice (some ⟨BX, 0, none⟩) N N := by rw [hB60, ev_ne2 _ _ _ _ (by decide)]; exact e54_B59
                have e55_B60 : B60.eval (.tmp 55) = .int .i64 ((0 : Nat) : Int) := by rw [hB60, ev_ne2 _ _ _ _ (by decide)]; exact e55_B59
                have e58_B60 : B60.eval (.tmp 58) = .bool false := by rw [hB60, ev_ne2 _ _ _ _ (by decide)]; exact e58_B59
                clear e54_B59 e55_B59 e58_B59
                refine st_no ((wants_at (j := 4) (want := true) rfl (yield_at (t := 58) rfl rfl (by rw [sB60]; decide) e58_B60)).trans rfl) (fun B61 hB61 => ?_)
                replace hB61 : B61 = B60.put (some 61) undef := hB61
                have sB61 : B61.tmps.size = 84 := by rw [hB61, sz_put2]; exact sB60
                have e54_B61 : B61.eval (.tmp 54) = .slice (some ⟨BX, 0, none⟩) N N := by rw [hB61, ev_ne2 _ _ _ _ (by decide)]; exact e54_B60
                have e55_B61 : B61.eval (.tmp 55) = .int .i64 ((0 : Nat) : Int) := by rw [hB61, ev_ne2 _ _ _ _ (by decide)]; exact e55_B60
                have e58_B61 : B61.eval (.tmp 58) = .bool false := by rw [hB61, ev_ne2 _ _ _ _ (by decide)]; exact e58_B60
                clear e54_B60 e55_B60 e58_B60
                refine st_no ((wants_at (j := 4) (want := true) rfl (yield_at (t := 58) rfl rfl (by rw [sB61]; decide) e58_B61)).trans rfl) (fun B62 hB62 => ?_)
                replace hB62 : B62 = B61.put (some 62) undef := hB62
                have sB62 : B62.tmps.size = 84 := by rw [hB62, sz_put2]; exact sB61
                have e54_B62 : B62.eval (.tmp 54) = .slice (some ⟨BX, 0, none⟩) N N := by rw [hB62, ev_ne2 _ _ _ _ (by decide)]; exact e54_B61
                have e55_B62 : B62.eval (.tmp 55) = .int .i64 ((0 : Nat) : Int) := by rw [hB62, ev_ne2 _ _ _ _ (by decide)]; exact e55_B61
                have e58_B62 : B62.eval (.tmp 58) = .bool false := by rw [hB62, ev_ne2 _ _ _ _ (by decide)]; exact e58_B61
                clear e54_B61 e55_B61 e58_B61
                refine st_no ((wants_at (j := 4) (want := true) rfl (yield_at (t := 58) rfl rfl (by rw [sB62]; decide) e58_B62)).trans rfl) (fun B63 hB63 => ?_)
                replace hB63 : B63 = B62.put (some 63) undef := hB63
                have sB63 : B63.tmps.size = 84 := by rw [hB63, sz_put2]; exact sB62
                have e54_B63 : B63.eval (.tmp 54) = .slice (some ⟨BX, 0, none⟩) N N := by rw [hB63, ev_ne2 _ _ _ _ (by decide)]; exact e54_B62
                have e55_B63 : B63.eval (.tmp 55) = .int .i64 ((0 : Nat) : Int) := by rw [hB63, ev_ne2 _ _ _ _ (by decide)]; exact e55_B62
                have e58_B63 : B63.eval (.tmp 58) = .bool false := by rw [hB63, ev_ne2 _ _ _ _ (by decide)]; exact e58_B62
                clear e54_B62 e55_B62 e58_B62
                refine st_val (.bool false) (wants_no rfl) (by simp only [execOp, e58_B63]; go_simp) (fun B64 hB64 => ?_)
                replace hB64 : B64 = B63.put (some 64) (.bool false) := hB64
                have sB64 : B64.tmps.size = 84 := by rw [hB64, sz_put2]; exact sB63
                have e54_B64 : B64.eval (.tmp 54) = .slice (some ⟨BX, 0, none⟩) N N := by rw [hB64, ev_ne2 _ _ _ _ (by decide)]; exact e54_B63
                have e55_B64 : B64.eval (.tmp 55) = .int .i64 ((0 : Nat) : Int) := by rw [hB64, ev_ne2 _ _ _ _ (by decide)]; exact e55_B63
                have e64_B64 : B64.eval (.tmp 64) = .bool false := by rw [hB64]; exact ev_same2 _ _ _ (by rw [sB63]; decide)
                clear e54_B63 e55_B63 e58_B63
                refine st_val (.bool false) (wants_no rfl) (still_mv e64_B64 _) (fun B65 hB65 => ?_)
                replace hB65 : B65 = B64.put (some 65) (.bool false) := hB65
                have sB65 : B65.tmps.size = 84 := by rw [hB65, sz_put2]; exact sB64
                have e54_B65 : B65.eval (.tmp 54) = .slice (some ⟨BX, 0, none⟩) N N := by rw [hB65, ev_ne2 _ _ _ _ (by decide)]; exact e54_B64
                have e55_B65 : B65.eval (.tmp 55) = .int .i64 ((0 : Nat) : Int) := by rw [hB65, ev_ne2 _ _ _ _ (by decide)]; exact e55_B64
                have e65_B65 : B65.eval (.tmp 65) = .bool false := by rw [hB65]; exact ev_same2 _ _ _ (by rw [sB64]; decide)
                clear e54_B64 e55_B64 e64_B64
                refine st_no ((wants_at (j := 11) (want := true) rfl (yield_at (t := 65) rfl rfl (by rw [sB65]; decide) e65_B65)).trans rfl) (fun B66 hB66 => ?_)
                replace hB66 : B66 = B65.put (some 66) undef := hB66
                have sB66 : B66.tmps.size = 84 := by rw [hB66, sz_put2]; exact sB65
                have e54_B66 : B66.eval (.tmp 54) = .slice (some ⟨BX, 0, none⟩) N N := by rw [hB66, ev_ne2 _ _ _ _ (by decide)]; exact e54_B65
                have e55_B66 : B66.eval (.tmp 55) = .int .i64 ((0 : Nat) : Int) := by rw [hB66, ev_ne2 _ _ _ _ (by decide)]; exact e55_B65
                have e65_B66 : B66.eval (.tmp 65) = .bool false := by rw [hB66, ev_ne2 _ _ _ _ (by decide)]; exact e65_B65
                clear e54_B65 e55_B65 e65_B65
                refine st_no ((wants_at (j := 11) (want := true) rfl (yield_at (t := 65) rfl rfl (by rw [sB66]; decide) e65_B66)).trans rfl) (fun B67 hB67 => ?_)
                replace hB67 : B67 = B66.put (some 67) undef := hB67
                have sB67 : B67.tmps.size = 84 := by rw [hB67, sz_put2]; exact sB66
                have e54_B67 : B67.eval (.tmp 54) = .slice (some ⟨BX, 0, none⟩) N N := by rw [hB67, ev_ne2 _ _ _ _ (by decide)]; exact e54_B66
                have e55_B67 : B67.eval (.tmp 55) = .int .i64 ((0 : Nat) : Int) := by rw [hB67, ev_ne2 _ _ _ _ (by decide)]; exact e55_B66
                have e65_B67 : B67.eval (.tmp 65) = .bool false := by rw [hB67, ev_ne2 _ _ _ _ (by decide)]; exact e65_B66
                clear e54_B66 e55_B66 e65_B66
                refine st_no ((wants_at (j := 11) (want := true) rfl (yield_at (t := 65) rfl rfl (by rw [sB67]; decide) e65_B67)).trans rfl) (fun B68 hB68 => ?_)
                replace hB68 : B68 = B67.put (some 68) undef := hB68
                have sB68 : B68.tmps.size = 84 := by rw [hB68, sz_put2]; exact sB67
                have e54_B68 : B68.eval (.tmp 54) = .slice (some ⟨BX, 0, none⟩) N N := by rw [hB68, ev_ne2 _ _ _ _ (by decide)]; exact e54_B67
                have e55_B68 : B68.eval (.tmp 55) = .int .i64 ((0 : Nat) : Int) := by rw [hB68, ev_ne2 _ _ _ _ (by decide)]; exact e55_B67
                have e65_B68 : B68.eval (.tmp 65) = .bool false := by rw [hB68, ev_ne2 _ _ _ _ (by decide)]; exact e65_B67
                clear e54_B67 e55_B67 e65_B67
                refine st_no ((wants_at (j := 11) (want := true) rfl (yield_at (t := 65) rfl rfl (by rw [sB68]; decide) e65_B68)).trans rfl) (fun B69 hB69 => ?_)
                replace hB69 : B69 = B68.put (some 69) undef := hB69
                have sB69 : B69.tmps.size = 84 := by rw [hB69, sz_put2]; exact sB68
                have e54_B69 : B69.eval (.tmp 54) = .slice (some ⟨BX, 0, none⟩) N N := by rw [hB69, ev_ne2 _ _ _ _ (by decide)]; exact e54_B68
                have e55_B69 : B69.eval (.tmp 55) = .int .i64 ((0 : Nat) : Int) := by rw [hB69, ev_ne2 _ _ _ _ (by decide)]; exact e55_B68
                have e65_B69 : B69.eval (.tmp 65) = .bool false := by rw [hB69, ev_ne2 _ _ _ _ (by decide)]; exact e65_B68
                clear e54_B68 e55_B68 e65_B68
                refine st_no ((wants_at (j := 11) (want := true) rfl (yield_at (t := 65) rfl rfl (by rw [sB69]; decide) e65_B69)).trans rfl) (fun B70 hB70 => ?_)
                replace hB70 : B70 = B69.put (some 70) undef := hB70
                have sB70 : B70.tmps.size = 84 := by rw [hB70, sz_put2]; exact sB69
                have e54_B70 : B70.eval (.tmp 54) = .slice (some ⟨BX, 0, none⟩) N N := by rw [hB70, ev_ne2 _ _ _ _ (by decide)]; exact e54_B69
                have e55_B70 : B70.eval (.tmp 55) = .int .i64 ((0 : Nat) : Int) := by rw [hB70, ev_ne2 _ _ _ _ (by decide)]; exact e55_B69
                have e65_B70 : B70.eval (.tmp 65) = .bool false := by rw [hB70, ev_ne2 _ _ _ _ (by decide)]; exact e65_B69
                clear e54_B69 e55_B69 e65_B69
                refine st_no ((wants_at (j := 11) (want := true) rfl (yield_at (t := 65) rfl rfl (by rw [sB70]; decide) e65_B70)).trans rfl) (fun B71 hB71 => ?_)
                replace hB71 : B71 = B70.put (some 71) undef := hB71
                have sB71 : B71.tmps.size = 84 := by rw [hB71, sz_put2]; exact sB70
                have e54_B71 : B71.eval (.tmp 54) = .slice (some ⟨BX, 0, none⟩) N N := by rw [hB71, ev_ne2 _ _ _ _ (by decide)]; exact e54_B70
                have e55_B71 : B71.eval (.tmp 55) = .int .i64 ((0 : Nat) : Int) := by rw [hB71, ev_ne2 _ _ _ _ (by decide)]; exact e55_B70
                have e65_B71 : B71.eval (.tmp 65) = .bool false := by rw [hB71, ev_ne2 _ _ _ _ (by decide)]; exact e65_B70
                clear e54_B70 e55_B70 e65_B70
                refine st_no ((wants_at (j := 11) (want := true) rfl (yield_at (t := 65) rfl rfl (by rw [sB71]; decide) e65_B71)).trans rfl) (fun B72 hB72 => ?_)
                replace hB72 : B72 = B71.put (some 72) undef := hB72
                have sB72 : B72.tmps.size = 84 := by rw [hB72, sz_put2]; exact sB71
                have e54_B72 : B72.eval (.tmp 54) = .slice (some ⟨BX, 0, none⟩) N N := by rw [hB72, ev_ne2 _ _ _ _ (by decide)]; exact e54_B71
                have e55_B72 : B72.eval (.tmp 55) = .int .i64 ((0 : Nat) : Int) := by rw [hB72, ev_ne2 _ _ _ _ (by decide)]; exact e55_B71
                have e65_B72 : B72.eval (.tmp 65) = .bool false := by rw [hB72, ev_ne2 _ _ _ _ (by decide)]; exact e65_B71
                clear e54_B71 e55_B71 e65_B71
                refine st_no ((wants_at (j := 11) (want := true) rfl (yield_at (t := 65) rfl rfl (by rw [sB72]; decide) e65_B72)).trans rfl) (fun B73 hB73 => ?_)
                replace hB73 : B73 = B72.put (some 73) undef := hB73
                have sB73 : B73.tmps.size = 84 := by rw [hB73, sz_put2]; exact sB72
                have e54_B73 : B73.eval (.tmp 54) = .slice (some ⟨BX, 0, none⟩) N N := by rw [hB73, ev_ne2 _ _ _ _ (by decide)]; exact e54_B72
                have e55_B73 : B73.eval (.tmp 55) = .int .i64 ((0 : Nat) : Int) := by rw [hB73, ev_ne2 _ _ _ _ (by decide)]; exact e55_B72
                have e65_B73 : B73.eval (.tmp 65) = .bool false := by rw [hB73, ev_ne2 _ _ _ _ (by decide)]; exact e65_B72
                clear e54_B72 e55_B72 e65_B72
                refine st_no ((wants_at (j := 11) (want := true) rfl (yield_at (t := 65) rfl rfl (by rw [sB73]; decide) e65_B73)).trans rfl) (fun B74 hB74 => ?_)
                replace hB74 : B74 = B73.put (some 74) undef := hB74
                have sB74 : B74.tmps.size = 84 := by rw [hB74, sz_put2]; exact sB73
                have e54_B74 : B74.eval (.tmp 54) = .slice (some ⟨BX, 0, none⟩) N N := by rw [hB74, ev_ne2 _ _ _ _ (by decide)]; exact e54_B73
                have e55_B74 : B74.eval (.tmp 55) = .int .i64 ((0 : Nat) : Int) := by rw [hB74, ev_ne2 _ _ _ _ (by decide)]; exact e55_B73
                have e65_B74 : B74.eval (.tmp 65) = .bool false := by rw [hB74, ev_ne2 _ _ _ _ (by decide)]; exact e65_B73
                clear e54_B73 e55_B73 e65_B73
                refine st_no ((wants_at (j := 11) (want := true) rfl (yield_at (t := 65) rfl rfl (by rw [sB74]; decide) e65_B74)).trans rfl) (fun B75 hB75 => ?_)
                replace hB75 : B75 = B74.put (some 75) undef := hB75
                have sB75 : B75.tmps.size = 84 := by rw [hB75, sz_put2]; exact sB74
                have e54_B75 : B75.eval (.tmp 54) = .slice (some ⟨BX, 0, none⟩) N N := by rw [hB75, ev_ne2 _ _ _ _ (by decide)]; exact e54_B74
                have e55_B75 : B75.eval (.tmp 55) = .int .i64 ((0 : Nat) : Int) := by rw [hB75, ev_ne2 _ _ _ _ (by decide)]; exact e55_B74
                have e65_B75 : B75.eval (.tmp 65) = .bool false := by rw [hB75, ev_ne2 _ _ _ _ (by decide)]; exact e65_B74
                clear e54_B74 e55_B74 e65_B74
                refine st_val (.bool false) (wants_no rfl) (by simp only [execOp, e65_B75]; go_simp) (fun B76 hB76 => ?_)
                replace hB76 : B76 = B75.put (some 76) (.bool false) := hB76
                have sB76 : B76.tmps.size = 84 := by rw [hB76, sz_put2]; exact sB75
                have e54_B76 : B76.eval (.tmp 54) = .slice (some ⟨BX, 0, none⟩) N N := by rw [hB76, ev_ne2 _ _ _ _ (by decide)]; exact e54_B75
                have e55_B76 : B76.eval (.tmp 55) = .int .i64 ((0 : Nat) : Int) := by rw [hB76, ev_ne2 _ _ _ _ (by decide)]; exact e55_B75
                have e76_B76 : B76.eval (.tmp 76) = .bool false := by rw [hB76]; exact ev_same2 _ _ _ (by rw [sB75]; decide)
                clear e54_B75 e55_B75 e65_B75
                refine st_val (.pointer (some ⟨BX, 0, none⟩)) (wants_no rfl) (by simp only [execOp, e54_B76, e55_B76]; go_simp <;> (intro h; omega)) (fun B77 hB77 => ?_)
                replace hB77 : B77 = B76.put (some 77) (.pointer (some ⟨BX, 0, none⟩)) := hB77
                have sB77 : B77.tmps.size = 84 := by rw [hB77, sz_put2]; exact sB76
                have e76_B77 : B77.eval (.tmp 76) = .bool false := by rw [hB77, ev_ne2 _ _ _ _ (by decide)]; exact e76_B76
                have e77_B77 : B77.eval (.tmp 77) = .pointer (some ⟨BX, 0, none⟩) := by rw [hB77]; exact ev_same2 _ _ _ (by rw [sB76]; decide)
                clear e54_B76 e55_B76 e76_B76
                refine wpStill_nil ?_
                refine wpList_store4 (.tmp 77) (.tmp 76) rfl rfl rfl BX 0 _ false e77_B77 e76_B77 x0d xfd ?_
                refine hK _ _ ⟨.slice (some ⟨BX, 0, none⟩) N N, .int .i64 ((0 : Nat) : Int), .int .i64 ((0 : Nat) : Int), .bool false, .bool false, undef, undef, undef, undef, undef, .bool false, .bool false, undef, undef, undef, undef, undef, undef, undef, undef, undef, undef, .bool false, .pointer (some ⟨BX, 0, none⟩), ?_, rfl⟩
                rw [hB77, hB76, hB75, hB74, hB73, hB72, hB71, hB70, hB69, hB68, hB67, hB66, hB65, hB64, hB63, hB62, hB61, hB60, hB59, hB58, hB57, hB56, hB55, hB54]
              rintro A' W' ⟨x54, x55, x56, x57, x58, x59, x60, x61, x62, x63, x64, x65, x66, x67, x68, x69, x70, x71, x72, x73, x74, x75, x76, x77, rfl, rfl⟩
              simp only [Act.put, List.setIfInBounds_toArray, List.set_cons_zero, List.set_cons_succ]
              go_wp2
              go_roundg (s.size + 2 - (0 + 1))
              case rel => exact ⟨0 + 1, by omega, by omega, by go_num, ⟨HC2.out.drew.setCell (fun h => absurd (show BX < w.heap.size from h) (by omega)) _⟩, ⟨hp_set_other (hp_drew HR2.out) (by omega) _ _⟩, ⟨by
                have h := hp_set (hp_drew HX2.out) (0) (.bool false)
                rw [rowB_set _ (by omega), rowB_congr (fun j _ => soFar_step _ _ _ (by rw [HV.out]) j)] at h
                exact h⟩⟩
              case measure => omega
            | succ j =>
              have c0 : wr.cell? ⟨g, j + 1, none⟩ = some (.bool (pm L s p (j + 1))) := (cell_of_heap HR2.out (j + 1)).trans (rowB_at _ (by omega))
              have x0 : wr.cell? ⟨BX, j + 1, none⟩ = some (.bool (soFar (pm L s (p + 1)) (j + 1) (j + 1))) := (cell_of_heap HX2.out (j + 1)).trans (rowB_at _ (by omega))
              have xf := frozen_of_heap HX2.out (j + 1)
              have x0d : wr.drew.cell? ⟨BX, j + 1, none⟩ = some (.bool (soFar (pm L s (p + 1)) (j + 1) (j + 1))) := x0
              have xfd : wr.drew.frozen? ⟨BX, j + 1, none⟩ = false := xf
              have k1 : ((j + 1 : Nat) : Int) < (N : Int) := by omega
              have k2 : ((j + 1 : Nat) : Int) ≤ (s.size : Int) := by omega
              have HV := Asd.mk (pm_one_succ (s := s) hlt ha hkl)
              have cp : wr.cell? ⟨g, j, none⟩ = some (.bool (pm L s p j)) := (cell_of_heap HR2.out j).trans (rowB_at _ (by omega))
              have hjs : j < s.size := hkl
              have hbn : bn s j = s[j].toNat := by unfold bn; rw [dif_pos hjs]
              have tc := ct (bn s j) (by have := bn_le s j; omega)
              rw [hbn] at tc
              have b1 : ((s[j].toNat : Nat) : Int) < 256 := by have := UInt8.toNat_lt s[j]; omega
              have b0 : 0 ≤ ((s[j].toNat : Nat) : Int) := by omega
              have k3 : ((j : Nat) : Int) < (N : Int) := by omega
              have k6 : IntKind.i64.wrap (j : Int) = (j : Int) := w64 (by omega) (by omega)
              rw [hbn] at HV
              clear ct ha hbn
              cases hb : pm L s p j with
              | false =>
                rw [hb] at cp
                have HB := Asd.mk hb
                clear hb tc
                go_upto_region 12 with fail
                refine wp_any_frame (fun a A' W' => ∃ x54 x55 x56 x57 x58 x59 x60 x61 x62 x63 x64 x65 x66 x67 x68 x69 x70 x71 x72 x73 x74 x75 x76 x77, A' = ((((((((((((((((((((((((a).put (some 54) x54).put (some 55) x55).put (some 56) x56).put (some 57) x57).put (some 58) x58).put (some 59) x59).put (some 60) x60).put (some 61) x61).put (some 62) x62).put (some 63) x63).put (some 64) x64).put (some 65) x65).put (some 66) x66).put (some 67) x67).put (some 68) x68).put (some 69) x69).put (some 70) x70).put (some 71) x71).put (some 72) x72).put (some 73) x73).put (some 74) x74).put (some 75) x75).put (some 76) x76).put (some 77) x77 ∧ W' = (wr.drew).setCell ⟨BX, (j + 1), none⟩ (.bool false)) (fun K A hA hK => ?_) ?_
                · have sA : A.tmps.size = 84 := by rw [hA]; rfl
                  have e5_A : A.eval (.tmp 5) = .slice (some ⟨g, 0, none⟩) N N := by rw [hA]; rfl
                  have e7_A : A.eval (.tmp 7) = .slice (some ⟨BX, 0, none⟩) N N := by rw [hA]; rfl
                  have e8_A : A.eval (.tmp 8) = .int .i64 ((j + 1 : Nat) : Int) := by rw [hA]; rfl
                  clear hA
                  refine wp_region_still_tail 24 (by kernel_rfl) (by kernel_rfl) ?_
                  simp only [List.take_succ_cons, List.take_zero, List.drop_succ_cons, List.drop_zero]
                  refine st_val (.slice (some ⟨BX, 0, none⟩) N N) (wants_no rfl) (still_mv e7_A _) (fun B54 hB54 => ?_)
                  replace hB54 : B54 = A.put (some 54) (.slice (some ⟨BX, 0, none⟩) N N) := hB54
                  have sB54 : B54.tmps.size = 84 := by rw [hB54, sz_put2]; exact sA
                  have e8_B54 : B54.eval (.tmp 8) = .int .i64 ((j + 1 : Nat) : Int) := by rw [hB54, ev_ne2 _ _ _ _ (by decide)]; exact e8_A
                  have e5_B54 : B54.eval (.tmp 5) = .slice (some ⟨g, 0, none⟩) N N := by rw [hB54, ev_ne2 _ _ _ _ (by decide)]; exact e5_A
                  have e54_B54 : B54.eval (.tmp 54) = .slice (some ⟨BX, 0, none⟩) N N := by rw [hB54]; exact ev_same2 _ _ _ (by rw [sA]; decide)
                  clear e7_A e8_A e5_A
                  refine st_val (.int .i64 ((j + 1 : Nat) : Int)) (wants_no rfl) (still_mv e8_B54 _) (fun B55 hB55 => ?_)
                  replace hB55 : B55 = B54.put (some 55) (.int .i64 ((j + 1 : Nat) : Int)) := hB55
                  have sB55 : B55.tmps.size = 84 := by rw [hB55, sz_put2]; exact sB54
                  have e8_B55 : B55.eval (.tmp 8) = .int .i64 ((j + 1 : Nat) : Int) := by rw [hB55, ev_ne2 _ _ _ _ (by decide)]; exact e8_B54
                  have e5_B55 : B55.eval (.tmp 5) = .slice (some ⟨g, 0, none⟩) N N := by rw [hB55, ev_ne2 _ _ _ _ (by decide)]; exact e5_B54
                  have e54_B55 : B55.eval (.tmp 54) = .slice (some ⟨BX, 0, none⟩) N N := by rw [hB55, ev_ne2 _ _ _ _ (by decide)]; exact e54_B54
                  have e55_B55 : B55.eval (.tmp 55) = .int .i64 ((j + 1 : Nat) : Int) := by rw [hB55]; exact ev_same2 _ _ _ (by rw [sB54]; decide)
                  clear e8_B54 e5_B54 e54_B54
                  refine st_val (.int .i64 ((j + 1 : Nat) : Int)) (wants_no rfl) (still_mv e8_B55 _) (fun B56 hB56 => ?_)
                  replace hB56 : B56 = B55.put (some 56) (.int .i64 ((j + 1 : Nat) : Int)) := hB56
                  have sB56 : B56.tmps.size = 84 := by rw [hB56, sz_put2]; exact sB55
                  have e8_B56 : B56.eval (.tmp 8) = .int .i64 ((j + 1 : Nat) : Int) := by rw [hB56, ev_ne2 _ _ _ _ (by decide)]; exact e8_B55
                  have e5_B56 : B56.eval (.tmp 5) = .slice (some ⟨g, 0, none⟩) N N := by rw [hB56, ev_ne2 _ _ _ _ (by decide)]; exact e5_B55
                  have e54_B56 : B56.eval (.tmp 54) = .slice (some ⟨BX, 0, none⟩) N N := by rw [hB56, ev_ne2 _ _ _ _ (by decide)]; exact e54_B55
                  have e55_B56 : B56.eval (.tmp 55) = .int .i64 ((j + 1 : Nat) : Int) := by rw [hB56, ev_ne2 _ _ _ _ (by decide)]; exact e55_B55
                  have e56_B56 : B56.eval (.tmp 56) = .int .i64 ((j + 1 : Nat) : Int) := by rw [hB56]; exact ev_same2 _ _ _ (by rw [sB55]; decide)
                  clear e8_B55 e5_B55 e54_B55 e55_B55
                  refine st_val (.bool true) (wants_no rfl) (by simp only [execOp, e56_B56]; go_simp) (fun B57 hB57 => ?_)
                  replace hB57 : B57 = B56.put (some 57) (.bool true) := hB57
                  have sB57 : B57.tmps.size = 84 := by rw [hB57, sz_put2]; exact sB56
                  have e8_B57 : B57.eval (.tmp 8) = .int .i64 ((j + 1 : Nat) : Int) := by rw [hB57, ev_ne2 _ _ _ _ (by decide)]; exact e8_B56
                  have e5_B57 : B57.eval (.tmp 5) = .slice (some ⟨g, 0, none⟩) N N := by rw [hB57, ev_ne2 _ _ _ _ (by decide)]; exact e5_B56
                  have e54_B57 : B57.eval (.tmp 54) = .slice (some ⟨BX, 0, none⟩) N N := by rw [hB57, ev_ne2 _ _ _ _ (by decide)]; exact e54_B56
                  have e55_B57 : B57.eval (.tmp 55) = .int .i64 ((j + 1 : Nat) : Int) := by rw [hB57, ev_ne2 _ _ _ _ (by decide)]; exact e55_B56
                  have e57_B57 : B57.eval (.tmp 57) = .bool true := by rw [hB57]; exact ev_same2 _ _ _ (by rw [sB56]; decide)
                  clear e8_B56 e5_B56 e54_B56 e55_B56 e56_B56
                  refine st_val (.bool true) (wants_no rfl) (still_mv e57_B57 _) (fun B58 hB58 => ?_)
                  replace hB58 : B58 = B57.put (some 58) (.bool true) := hB58
                  have sB58 : B58.tmps.size = 84 := by rw [hB58, sz_put2]; exact sB57
                  have e8_B58 : B58.eval (.tmp 8) = .int .i64 ((j + 1 : Nat) : Int) := by rw [hB58, ev_ne2 _ _ _ _ (by decide)]; exact e8_B57
                  have e5_B58 : B58.eval (.tmp 5) = .slice (some ⟨g, 0, none⟩) N N := by rw [hB58, ev_ne2 _ _ _ _ (by decide)]; exact e5_B57
                  have e54_B58 : B58.eval (.tmp 54) = .slice (some ⟨BX, 0, none⟩) N N := by rw [hB58, ev_ne2 _ _ _ _ (by decide)]; exact e54_B57
                  have e55_B58 : B58.eval (.tmp 55) = .int .i64 ((j + 1 : Nat) : Int) := by rw [hB58, ev_ne2 _ _ _ _ (by decide)]; exact e55_B57
                  have e58_B58 : B58.eval (.tmp 58) = .bool true := by rw [hB58]; exact ev_same2 _ _ _ (by rw [sB57]; decide)
                  clear e8_B57 e5_B57 e54_B57 e55_B57 e57_B57
                  refine st_val (.slice (some ⟨g, 0, none⟩) N N) ((wants_at (j := 4) (want := true) rfl (yield_at (t := 58) rfl rfl (by rw [sB58]; decide) e58_B58)).trans rfl) (still_mv e5_B58 _) (fun B59 hB59 => ?_)
                  replace hB59 : B59 = B58.put (some 59) (.slice (some ⟨g, 0, none⟩) N N) := hB59
                  have sB59 : B59.tmps.size = 84 := by rw [hB59, sz_put2]; exact sB58
                  have e8_B59 : B59.eval (.tmp 8) = .int .i64 ((j + 1 : Nat) : Int) := by rw [hB59, ev_ne2 _ _ _ _ (by decide)]; exact e8_B58
                  have e54_B59 : B59.eval (.tmp 54) = .slice (some ⟨BX, 0, none⟩) N N := by rw [hB59, ev_ne2 _ _ _ _ (by decide)]; exact e54_B58
                  have e55_B59 : B59.eval (.tmp 55) = .int .i64 ((j + 1 : Nat) : Int) := by rw [hB59, ev_ne2 _ _ _ _ (by decide)]; exact e55_B58
                  have e58_B59 : B59.eval (.tmp 58) = .bool true := by rw [hB59, ev_ne2 _ _ _ _ (by decide)]; exact e58_B58
                  have e59_B59 : B59.eval (.tmp 59) = .slice (some ⟨g, 0, none⟩) N N := by rw [hB59]; exact ev_same2 _ _ _ (by rw [sB58]; decide)
                  clear e8_B58 e5_B58 e54_B58 e55_B58 e58_B58
                  refine st_val (.int .i64 ((j + 1 : Nat) : Int)) ((wants_at (j := 4) (want := true) rfl (yield_at (t := 58) rfl rfl (by rw [sB59]; decide) e58_B59)).trans rfl) (still_mv e8_B59 _) (fun B60 hB60 => ?_)
                  replace hB60 : B60 = B59.put (some 60) (.int .i64 ((j + 1 : Nat) : Int)) := hB60
                  have sB60 : B60.tmps.size = 84 := by rw [hB60, sz_put2]; exact sB59
                  have e54_B60 : B60.eval (.tmp 54) = .slice (some ⟨BX, 0, none⟩) N N := by rw [hB60, ev_ne2 _ _ _ _ (by decide)]; exact e54_B59
                  have e55_B60 : B60.eval (.tmp 55) = .int .i64 ((j + 1 : Nat) : Int) := by rw [hB60, ev_ne2 _ _ _ _ (by decide)]; exact e55_B59
                  have e58_B60 : B60.eval (.tmp 58) = .bool true := by rw [hB60, ev_ne2 _ _ _ _ (by decide)]; exact e58_B59
                  have e59_B60 : B60.eval (.tmp 59) = .slice (some ⟨g, 0, none⟩) N N := by rw [hB60, ev_ne2 _ _ _ _ (by decide)]; exact e59_B59
                  have e60_B60 : B60.eval (.tmp 60) = .int .i64 ((j + 1 : Nat) : Int) := by rw [hB60]; exact ev_same2 _ _ _ (by rw [sB59]; decide)
                  clear e8_B59 e54_B59 e55_B59 e58_B59 e59_B59
                  refine st_val (.int .i64 (j : Int)) ((wants_at (j := 4) (want := true) rfl (yield_at (t := 58) rfl rfl (by rw [sB60]; decide) e58_B60)).trans rfl) (by simp only [execOp, e60_B60]; go_simp) (fun B61 hB61 => ?_)
                  replace hB61 : B61 = B60.put (some 61) (.int .i64 (j : Int)) := hB61
                  have sB61 : B61.tmps.size = 84 := by rw [hB61, sz_put2]; exact sB60
                  have e54_B61 : B61.eval (.tmp 54) = .slice (some ⟨BX, 0, none⟩) N N := by rw [hB61, ev_ne2 _ _ _ _ (by decide)]; exact e54_B60
                  have e55_B61 : B61.eval (.tmp 55) = .int .i64 ((j + 1 : Nat) : Int) := by rw [hB61, ev_ne2 _ _ _ _ (by decide)]; exact e55_B60
                  have e58_B61 : B61.eval (.tmp 58) = .bool true := by rw [hB61, ev_ne2 _ _ _ _ (by decide)]; exact e58_B60
                  have e59_B61 : B61.eval (.tmp 59) = .slice (some ⟨g, 0, none⟩) N N := by rw [hB61, ev_ne2 _ _ _ _ (by decide)]; exact e59_B60
                  have e61_B61 : B61.eval (.tmp 61) = .int .i64 (j : Int) := by rw [hB61]; exact ev_same2 _ _ _ (by rw [sB60]; decide)
                  clear e54_B60 e55_B60 e58_B60 e59_B60 e60_B60
                  refine st_val (.pointer (some ⟨g, j, none⟩)) ((wants_at (j := 4) (want := true) rfl (yield_at (t := 58) rfl rfl (by rw [sB61]; decide) e58_B61)).trans rfl) (by simp only [execOp, e59_B61, e61_B61]; go_simp <;> (intro h; omega)) (fun B62 hB62 => ?_)
                  replace hB62 : B62 = B61.put (some 62) (.pointer (some ⟨g, j, none⟩)) := hB62
                  have sB62 : B62.tmps.size = 84 := by rw [hB62, sz_put2]; exact sB61
                  have e54_B62 : B62.eval (.tmp 54) = .slice (some ⟨BX, 0, none⟩) N N := by rw [hB62, ev_ne2 _ _ _ _ (by decide)]; exact e54_B61
                  have e55_B62 : B62.eval (.tmp 55) = .int .i64 ((j + 1 : Nat) : Int) := by rw [hB62, ev_ne2 _ _ _ _ (by decide)]; exact e55_B61
                  have e58_B62 : B62.eval (.tmp 58) = .bool true := by rw [hB62, ev_ne2 _ _ _ _ (by decide)]; exact e58_B61
                  have e62_B62 : B62.eval (.tmp 62) = .pointer (some ⟨g, j, none⟩) := by rw [hB62]; exact ev_same2 _ _ _ (by rw [sB61]; decide)
                  clear e54_B61 e55_B61 e58_B61 e59_B61 e61_B61
                  refine st_val (.bool false) ((wants_at (j := 4) (want := true) rfl (yield_at (t := 58) rfl rfl (by rw [sB62]; decide) e58_B62)).trans rfl) (by simp only [execOp, e62_B62]; go_simp) (fun B63 hB63 => ?_)
                  replace hB63 : B63 = B62.put (some 63) (.bool false) := hB63
                  have sB63 : B63.tmps.size = 84 := by rw [hB63, sz_put2]; exact sB62
                  have e54_B63 : B63.eval (.tmp 54) = .slice (some ⟨BX, 0, none⟩) N N := by rw [hB63, ev_ne2 _ _ _ _ (by decide)]; exact e54_B62
                  have e55_B63 : B63.eval (.tmp 55) = .int .i64 ((j + 1 : Nat) : Int) := by rw [hB63, ev_ne2 _ _ _ _ (by decide)]; exact e55_B62
                  have e58_B63 : B63.eval (.tmp 58) = .bool true := by rw [hB63, ev_ne2 _ _ _ _ (by decide)]; exact e58_B62
                  have e63_B63 : B63.eval (.tmp 63) = .bool false := by rw [hB63]; exact ev_same2 _ _ _ (by rw [sB62]; decide)
                  clear e54_B62 e55_B62 e58_B62 e62_B62
                  refine st_val (.bool false) (wants_no rfl) (by simp only [execOp, e58_B63, e63_B63]; go_simp) (fun B64 hB64 => ?_)
                  replace hB64 : B64 = B63.put (some 64) (.bool false) := hB64
                  have sB64 : B64.tmps.size = 84 := by rw [hB64, sz_put2]; exact sB63
                  have e54_B64 : B64.eval (.tmp 54) = .slice (some ⟨BX, 0, none⟩) N N := by rw [hB64, ev_ne2 _ _ _ _ (by decide)]; exact e54_B63
                  have e55_B64 : B64.eval (.tmp 55) = .int .i64 ((j + 1 : Nat) : Int) := by rw [hB64, ev_ne2 _ _ _ _ (by decide)]; exact e55_B63
                  have e64_B64 : B64.eval (.tmp 64) = .bool false := by rw [hB64]; exact ev_same2 _ _ _ (by rw [sB63]; decide)
                  clear e54_B63 e55_B63 e58_B63 e63_B63
                  refine st_val (.bool false) (wants_no rfl) (still_mv e64_B64 _) (fun B65 hB65 => ?_)
                  replace hB65 : B65 = B64.put (some 65) (.bool false) := hB65
                  have sB65 : B65.tmps.size = 84 := by rw [hB65, sz_put2]; exact sB64
                  have e54_B65 : B65.eval (.tmp 54) = .slice (some ⟨BX, 0, none⟩) N N := by rw [hB65, ev_ne2 _ _ _ _ (by decide)]; exact e54_B64
                  have e55_B65 : B65.eval (.tmp 55) = .int .i64 ((j + 1 : Nat) : Int) := by rw [hB65, ev_ne2 _ _ _ _ (by decide)]; exact e55_B64
                  have e65_B65 : B65.eval (.tmp 65) = .bool false := by rw [hB65]; exact ev_same2 _ _ _ (by rw [sB64]; decide)
                  clear e54_B64 e55_B64 e64_B64
                  refine st_no ((wants_at (j := 11) (want := true) rfl (yield_at (t := 65) rfl rfl (by rw [sB65]; decide) e65_B65)).trans rfl) (fun B66 hB66 => ?_)
                  replace hB66 : B66 = B65.put (some 66) undef := hB66
                  have sB66 : B66.tmps.size = 84 := by rw [hB66, sz_put2]; exact sB65
                  have e54_B66 : B66.eval (.tmp 54) = .slice (some ⟨BX, 0, none⟩) N N := by rw [hB66, ev_ne2 _ _ _ _ (by decide)]; exact e54_B65
                  have e55_B66 : B66.eval (.tmp 55) = .int .i64 ((j + 1 : Nat) : Int) := by rw [hB66, ev_ne2 _ _ _ _ (by decide)]; exact e55_B65
                  have e65_B66 : B66.eval (.tmp 65) = .bool false := by rw [hB66, ev_ne2 _ _ _ _ (by decide)]; exact e65_B65
                  clear e54_B65 e55_B65 e65_B65
                  refine st_no ((wants_at (j := 11) (want := true) rfl (yield_at (t := 65) rfl rfl (by rw [sB66]; decide) e65_B66)).trans rfl) (fun B67 hB67 => ?_)
                  replace hB67 : B67 = B66.put (some 67) undef := hB67
                  have sB67 : B67.tmps.size = 84 := by rw [hB67, sz_put2]; exact sB66
                  have e54_B67 : B67.eval (.tmp 54) = .slice (some ⟨BX, 0, none⟩) N N := by rw [hB67, ev_ne2 _ _ _ _ (by decide)]; exact e54_B66
                  have e55_B67 : B67.eval (.tmp 55) = .int .i64 ((j + 1 : Nat) : Int) := by rw [hB67, ev_ne2 _ _ _ _ (by decide)]; exact e55_B66
                  have e65_B67 : B67.eval (.tmp 65) = .bool false := by rw [hB67, ev_ne2 _ _ _ _ (by decide)]; exact e65_B66
                  clear e54_B66 e55_B66 e65_B66
                  refine st_no ((wants_at (j := 11) (want := true) rfl (yield_at (t := 65) rfl rfl (by rw [sB67]; decide) e65_B67)).trans rfl) (fun B68 hB68 => ?_)
                  replace hB68 : B68 = B67.put (some 68) undef := hB68
                  have sB68 : B68.tmps.size = 84 := by rw [hB68, sz_put2]; exact sB67
                  have e54_B68 : B68.eval (.tmp 54) = .slice (some ⟨BX, 0, none⟩) N N := by rw [hB68, ev_ne2 _ _ _ _ (by decide)]; exact e54_B67
                  have e55_B68 : B68.eval (.tmp 55) = .int .i64 ((j + 1 : Nat) : Int) := by rw [hB68, ev_ne2 _ _ _ _ (by decide)]; exact e55_B67
                  have e65_B68 : B68.eval (.tmp 65) = .bool false := by rw [hB68, ev_ne2 _ _ _ _ (by decide)]; exact e65_B67
                  clear e54_B67 e55_B67 e65_B67
                  refine st_no ((wants_at (j := 11) (want := true) rfl (yield_at (t := 65) rfl rfl (by rw [sB68]; decide) e65_B68)).trans rfl) (fun B69 hB69 => ?_)
                  replace hB69 : B69 = B68.put (some 69) undef := hB69
                  have sB69 : B69.tmps.size = 84 := by rw [hB69, sz_put2]; exact sB68
                  have e54_B69 : B69.eval (.tmp 54) = .slice (some ⟨BX, 0, none⟩) N N := by rw [hB69, ev_ne2 _ _ _ _ (by decide)]; exact e54_B68
                  have e55_B69 : B69.eval (.tmp 55) = .int .i64 ((j + 1 : Nat) : Int) := by rw [hB69, ev_ne2 _ _ _ _ (by decide)]; exact e55_B68
                  have e65_B69 : B69.eval (.tmp 65) = .bool false := by rw [hB69, ev_ne2 _ _ _ _ (by decide)]; exact e65_B68
                  clear e54_B68 e55_B68 e65_B68
                  refine st_no ((wants_at (j := 11) (want := true) rfl (yield_at (t := 65) rfl rfl (by rw [sB69]; decide) e65_B69)).trans rfl) (fun B70 hB70 => ?_)
                  replace hB70 : B70 = B69.put (some 70) undef := hB70
                  have sB70 : B70.tmps.size = 84 := by rw [hB70, sz_put2]; exact sB69
                  have e54_B70 : B70.eval (.tmp 54) = .slice (some ⟨BX, 0, none⟩) N N := by rw [hB70, ev_ne2 _ _ _ _ (by decide)]; exact e54_B69
                  have e55_B70 : B70.eval (.tmp 55) = .int .i64 ((j + 1 : Nat) : Int) := by rw [hB70, ev_ne2 _ _ _ _ (by decide)]; exact e55_B69
                  have e65_B70 : B70.eval (.tmp 65) = .bool false := by rw [hB70, ev_ne2 _ _ _ _ (by decide)]; exact e65_B69
                  clear e54_B69 e55_B69 e65_B69
                  refine st_no ((wants_at (j := 11) (want := true) rfl (yield_at (t := 65) rfl rfl (by rw [sB70]; decide) e65_B70)).trans rfl) (fun B71 hB71 => ?_)
                  replace hB71 : B71 = B70.put (some 71) undef := hB71
                  have sB71 : B71.tmps.size = 84 := by rw [hB71, sz_put2]; exact sB70
                  have e54_B71 : B71.eval (.tmp 54) = .slice (some ⟨BX, 0, none⟩) N N := by rw [hB71, ev_ne2 _ _ _ _ (by decide)]; exact e54_B70
                  have e55_B71 : B71.eval (.tmp 55) = .int .i64 ((j + 1 : Nat) : Int) := by rw [hB71, ev_ne2 _ _ _ _ (by decide)]; exact e55_B70
                  have e65_B71 : B71.eval (.tmp 65) = .bool false := by rw [hB71, ev_ne2 _ _ _ _ (by decide)]; exact e65_B70
                  clear e54_B70 e55_B70 e65_B70
                  refine st_no ((wants_at (j := 11) (want := true) rfl (yield_at (t := 65) rfl rfl (by rw [sB71]; decide) e65_B71)).trans rfl) (fun B72 hB72 => ?_)
                  replace hB72 : B72 = B71.put (some 72) undef := hB72
                  have sB72 : B72.tmps.size = 84 := by rw [hB72, sz_put2]; exact sB71
                  have e54_B72 : B72.eval (.tmp 54) = .slice (some ⟨BX, 0, none⟩) N N := by rw [hB72, ev_ne2 _ _ _ _ (by decide)]; exact e54_B71
                  have e55_B72 : B72.eval (.tmp 55) = .int .i64 ((j + 1 : Nat) : Int) := by rw [hB72, ev_ne2 _ _ _ _ (by decide)]; exact e55_B71
                  have e65_B72 : B72.eval (.tmp 65) = .bool false := by rw [hB72, ev_ne2 _ _ _ _ (by decide)]; exact e65_B71
                  clear e54_B71 e55_B71 e65_B71
                  refine st_no ((wants_at (j := 11) (want := true) rfl (yield_at (t := 65) rfl rfl (by rw [sB72]; decide) e65_B72)).trans rfl) (fun B73 hB73 => ?_)
                  replace hB73 : B73 = B72.put (some 73) undef := hB73
                  have sB73 : B73.tmps.size = 84 := by rw [hB73, sz_put2]; exact sB72
                  have e54_B73 : B73.eval (.tmp 54) = .slice (some ⟨BX, 0, none⟩) N N := by rw [hB73, ev_ne2 _ _ _ _ (by decide)]; exact e54_B72
                  have e55_B73 : B73.eval (.tmp 55) = .int .i64 ((j + 1 : Nat) : Int) := by rw [hB73, ev_ne2 _ _ _ _ (by decide)]; exact e55_B72
                  have e65_B73 : B73.eval (.tmp 65) = .bool false := by rw [hB73, ev_ne2 _ _ _ _ (by decide)]; exact e65_B72
                  clear e54_B72 e55_B72 e65_B72
                  refine st_no ((wants_at (j := 11) (want := true) rfl (yield_at (t := 65) rfl rfl (by rw [sB73]; decide) e65_B73)).trans rfl) (fun B74 hB74 => ?_)
                  replace hB74 : B74 = B73.put (some 74) undef := hB74
                  have sB74 : B74.tmps.size = 84 := by rw [hB74, sz_put2]; exact sB73
                  have e54_B74 : B74.eval (.tmp 54) = .slice (some ⟨BX, 0, none⟩) N N := by rw [hB74, ev_ne2 _ _ _ _ (by decide)]; exact e54_B73
                  have e55_B74 : B74.eval (.tmp 55) = .int .i64 ((j + 1 : Nat) : Int) := by rw [hB74, ev_ne2 _ _ _ _ (by decide)]; exact e55_B73
                  have e65_B74 : B74.eval (.tmp 65) = .bool false := by rw [hB74, ev_ne2 _ _ _ _ (by decide)]; exact e65_B73
                  clear e54_B73 e55_B73 e65_B73
                  refine st_no ((wants_at (j := 11) (want := true) rfl (yield_at (t := 65) rfl rfl (by rw [sB74]; decide) e65_B74)).trans rfl) (fun B75 hB75 => ?_)
                  replace hB75 : B75 = B74.put (some 75) undef := hB75
                  have sB75 : B75.tmps.size = 84 := by rw [hB75, sz_put2]; exact sB74
                  have e54_B75 : B75.eval (.tmp 54) = .slice (some ⟨BX, 0, none⟩) N N := by rw [hB75, ev_ne2 _ _ _ _ (by decide)]; exact e54_B74
                  have e55_B75 : B75.eval (.tmp 55) = .int .i64 ((j + 1 : Nat) : Int) := by rw [hB75, ev_ne2 _ _ _ _ (by decide)]; exact e55_B74
                  have e65_B75 : B75.eval (.tmp 65) = .bool false := by rw [hB75, ev_ne2 _ _ _ _ (by decide)]; exact e65_B74
                  clear e54_B74 e55_B74 e65_B74
                  refine st_val (.bool false) (wants_no rfl) (by simp only [execOp, e65_B75]; go_simp) (fun B76 hB76 => ?_)
                  replace hB76 : B76 = B75.put (some 76) (.bool false) := hB76
                  have sB76 : B76.tmps.size = 84 := by rw [hB76, sz_put2]; exact sB75
                  have e54_B76 : B76.eval (.tmp 54) = .slice (some ⟨BX, 0, none⟩) N N := by rw [hB76, ev_ne2 _ _ _ _ (by decide)]; exact e54_B75
                  have e55_B76 : B76.eval (.tmp 55) = .int .i64 ((j + 1 : Nat) : Int) := by rw [hB76, ev_ne2 _ _ _ _ (by decide)]; exact e55_B75
                  have e76_B76 : B76.eval (.tmp 76) = .bool false := by rw [hB76]; exact ev_same2 _ _ _ (by rw [sB75]; decide)
                  clear e54_B75 e55_B75 e65_B75
                  refine st_val (.pointer (some ⟨BX, (j + 1), none⟩)) (wants_no rfl) (by simp only [execOp, e54_B76, e55_B76]; go_simp <;> (intro h; omega)) (fun B77 hB77 => ?_)
                  replace hB77 : B77 = B76.put (some 77) (.pointer (some ⟨BX, (j + 1), none⟩)) := hB77
                  have sB77 : B77.tmps.size = 84 := by rw [hB77, sz_put2]; exact sB76
                  have e76_B77 : B77.eval (.tmp 76) = .bool false := by rw [hB77, ev_ne2 _ _ _ _ (by decide)]; exact e76_B76
                  have e77_B77 : B77.eval (.tmp 77) = .pointer (some ⟨BX, (j + 1), none⟩) := by rw [hB77]; exact ev_same2 _ _ _ (by rw [sB76]; decide)
                  clear e54_B76 e55_B76 e76_B76
                  refine wpStill_nil ?_
                  refine wpList_store4 (.tmp 77) (.tmp 76) rfl rfl rfl BX (j + 1) _ false e77_B77 e76_B77 x0d xfd ?_
                  refine hK _ _ ⟨.slice (some ⟨BX, 0, none⟩) N N, .int .i64 ((j + 1 : Nat) : Int), .int .i64 ((j + 1 : Nat) : Int), .bool true, .bool true, .slice (some ⟨g, 0, none⟩) N N, .int .i64 ((j + 1 : Nat) : Int), .int .i64 (j : Int), .pointer (some ⟨g, j, none⟩), .bool false, .bool false, .bool false, undef, undef, undef, undef, undef, undef, undef, undef, undef, undef, .bool false, .pointer (some ⟨BX, (j + 1), none⟩), ?_, rfl⟩
                  rw [hB77, hB76, hB75, hB74, hB73, hB72, hB71, hB70, hB69, hB68, hB67, hB66, hB65, hB64, hB63, hB62, hB61, hB60, hB59, hB58, hB57, hB56, hB55, hB54]
                rintro A' W' ⟨x54, x55, x56, x57, x58, x59, x60, x61, x62, x63, x64, x65, x66, x67, x68, x69, x70, x71, x72, x73, x74, x75, x76, x77, rfl, rfl⟩
                simp only [Act.put, List.setIfInBounds_toArray, List.set_cons_zero, List.set_cons_succ]
                go_wp2
                go_roundg (s.size + 2 - (j + 1 + 1))
                case rel => exact ⟨j + 1 + 1, by omega, by omega, by go_num, ⟨HC2.out.drew.setCell (fun h => absurd (show BX < w.heap.size from h) (by omega)) _⟩, ⟨hp_set_other (hp_drew HR2.out) (by omega) _ _⟩, ⟨by
                  have h := hp_set (hp_drew HX2.out) (j + 1) (.bool false)
                  rw [rowB_set _ (by omega), rowB_congr (fun j _ => soFar_step _ _ _ (by rw [HV.out, HB.out]; rfl) j)] at h
                  exact h⟩⟩
                case measure => omega
              | true =>
                rw [hb] at cp
                have HB := Asd.mk hb
                clear hb
                cases hc : (L[p]'hlt).2 s[j].toNat with
                | true =>
                  rw [hc] at tc
                  have HD := Asd.mk hc
                  clear hc
                  go_upto_region 12 with fail
                  refine wp_any_frame (fun a A' W' => ∃ x54 x55 x56 x57 x58 x59 x60 x61 x62 x63 x64 x65 x66 x67 x68 x69 x70 x71 x72 x73 x74 x75 x76 x77, A' = ((((((((((((((((((((((((a).put (some 54) x54).put (some 55) x55).put (some 56) x56).put (some 57) x57).put (some 58) x58).put (some 59) x59).put (some 60) x60).put (some 61) x61).put (some 62) x62).put (some 63) x63).put (some 64) x64).put (some 65) x65).put (some 66) x66).put (some 67) x67).put (some 68) x68).put (some 69) x69).put (some 70) x70).put (some 71) x71).put (some 72) x72).put (some 73) x73).put (some 74) x74).put (some 75) x75).put (some 76) x76).put (some 77) x77 ∧ W' = (wr.drew).setCell ⟨BX, (j + 1), none⟩ (.bool true)) (fun K A hA hK => ?_) ?_
                  · have sA : A.tmps.size = 84 := by rw [hA]; rfl
                    have e0_A : A.eval (.tmp 0) = .slice (some ⟨ga, 0, none⟩) L.length c := by rw [hA]; rfl
                    have e1_A : A.eval (.tmp 1) = .string s := by rw [hA]; rfl
                    have e5_A : A.eval (.tmp 5) = .slice (some ⟨g, 0, none⟩) N N := by rw [hA]; rfl
                    have e6_A : A.eval (.tmp 6) = .int .i64 (p : Int) := by rw [hA]; rfl
                    have e7_A : A.eval (.tmp 7) = .slice (some ⟨BX, 0, none⟩) N N := by rw [hA]; rfl
                    have e8_A : A.eval (.tmp 8) = .int .i64 ((j + 1 : Nat) : Int) := by rw [hA]; rfl
                    clear hA
                    refine wp_region_still_tail 24 (by kernel_rfl) (by kernel_rfl) ?_
                    simp only [List.take_succ_cons, List.take_zero, List.drop_succ_cons, List.drop_zero]
                    refine st_val (.slice (some ⟨BX, 0, none⟩) N N) (wants_no rfl) (still_mv e7_A _) (fun B54 hB54 => ?_)
                    replace hB54 : B54 = A.put (some 54) (.slice (some ⟨BX, 0, none⟩) N N) := hB54
                    have sB54 : B54.tmps.size = 84 := by rw [hB54, sz_put2]; exact sA
                    have e8_B54 : B54.eval (.tmp 8) = .int .i64 ((j + 1 : Nat) : Int) := by rw [hB54, ev_ne2 _ _ _ _ (by decide)]; exact e8_A
                    have e5_B54 : B54.eval (.tmp 5) = .slice (some ⟨g, 0, none⟩) N N := by rw [hB54, ev_ne2 _ _ _ _ (by decide)]; exact e5_A
                    have e6_B54 : B54.eval (.tmp 6) = .int .i64 (p : Int) := by rw [hB54, ev_ne2 _ _ _ _ (by decide)]; exact e6_A
                    have e0_B54 : B54.eval (.tmp 0) = .slice (some ⟨ga, 0, none⟩) L.length c := by rw [hB54, ev_ne2 _ _ _ _ (by decide)]; exact e0_A
                    have e1_B54 : B54.eval (.tmp 1) = .string s := by rw [hB54, ev_ne2 _ _ _ _ (by decide)]; exact e1_A
                    have e54_B54 : B54.eval (.tmp 54) = .slice (some ⟨BX, 0, none⟩) N N := by rw [hB54]; exact ev_same2 _ _ _ (by rw [sA]; decide)
                    clear e7_A e8_A e5_A e6_A e0_A e1_A
                    refine st_val (.int .i64 ((j + 1 : Nat) : Int)) (wants_no rfl) (still_mv e8_B54 _) (fun B55 hB55 => ?_)
                    replace hB55 : B55 = B54.put (some 55) (.int .i64 ((j + 1 : Nat) : Int)) := hB55
                    have sB55 : B55.tmps.size = 84 := by rw [hB55, sz_put2]; exact sB54
                    have e8_B55 : B55.eval (.tmp 8) = .int .i64 ((j + 1 : Nat) : Int) := by rw [hB55, ev_ne2 _ _ _ _ (by decide)]; exact e8_B54
                    have e5_B55 : B55.eval (.tmp 5) = .slice (some ⟨g, 0, none⟩) N N := by rw [hB55, ev_ne2 _ _ _ _ (by decide)]; exact e5_B54
                    have e6_B55 : B55.eval (.tmp 6) = .int .i64 (p : Int) := by rw [hB55, ev_ne2 _ _ _ _ (by decide)]; exact e6_B54
                    have e0_B55 : B55.eval (.tmp 0) = .slice (some ⟨ga, 0, none⟩) L.length c := by rw [hB55, ev_ne2 _ _ _ _ (by decide)]; exact e0_B54
                    have e1_B55 : B55.eval (.tmp 1) = .string s := by rw [hB55, ev_ne2 _ _ _ _ (by decide)]; exact e1_B54
                    have e54_B55 : B55.eval (.tmp 54) = .slice (some ⟨BX, 0, none⟩) N N := by rw [hB55, ev_ne2 _ _ _ _ (by decide)]; exact e54_B54
                    have e55_B55 : B55.eval (.tmp 55) = .int .i64 ((j + 1 : Nat) : Int) := by rw [hB55]; exact ev_same2 _ _ _ (by rw [sB54]; decide)
                    clear e8_B54 e5_B54 e6_B54 e0_B54 e1_B54 e54_B54
                    refine st_val (.int .i64 ((j + 1 : Nat) : Int)) (wants_no rfl) (still_mv e8_B55 _) (fun B56 hB56 => ?_)
                    replace hB56 : B56 = B55.put (some 56) (.int .i64 ((j + 1 : Nat) : Int)) := hB56
                    have sB56 : B56.tmps.size = 84 := by rw [hB56, sz_put2]; exact sB55
                    have e8_B56 : B56.eval (.tmp 8) = .int .i64 ((j + 1 : Nat) : Int) := by rw [hB56, ev_ne2 _ _ _ _ (by decide)]; exact e8_B55
                    have e5_B56 : B56.eval (.tmp 5) = .slice (some ⟨g, 0, none⟩) N N := by rw [hB56, ev_ne2 _ _ _ _ (by decide)]; exact e5_B55
                    have e6_B56 : B56.eval (.tmp 6) = .int .i64 (p : Int) := by rw [hB56, ev_ne2 _ _ _ _ (by decide)]; exact e6_B55
                    have e0_B56 : B56.eval (.tmp 0) = .slice (some ⟨ga, 0, none⟩) L.length c := by rw [hB56, ev_ne2 _ _ _ _ (by decide)]; exact e0_B55
                    have e1_B56 : B56.eval (.tmp 1) = .string s := by rw [hB56, ev_ne2 _ _ _ _ (by decide)]; exact e1_B55
                    have e54_B56 : B56.eval (.tmp 54) = .slice (some ⟨BX, 0, none⟩) N N := by rw [hB56, ev_ne2 _ _ _ _ (by decide)]; exact e54_B55
                    have e55_B56 : B56.eval (.tmp 55) = .int .i64 ((j + 1 : Nat) : Int) := by rw [hB56, ev_ne2 _ _ _ _ (by decide)]; exact e55_B55
                    have e56_B56 : B56.eval (.tmp 56) = .int .i64 ((j + 1 : Nat) : Int) := by rw [hB56]; exact ev_same2 _ _ _ (by rw [sB55]; decide)
                    clear e8_B55 e5_B55 e6_B55 e0_B55 e1_B55 e54_B55 e55_B55
                    refine st_val (.bool true) (wants_no rfl) (by simp only [execOp, e56_B56]; go_simp) (fun B57 hB57 => ?_)
                    replace hB57 : B57 = B56.put (some 57) (.bool true) := hB57
                    have sB57 : B57.tmps.size = 84 := by rw [hB57, sz_put2]; exact sB56
                    have e8_B57 : B57.eval (.tmp 8) = .int .i64 ((j + 1 : Nat) : Int) := by rw [hB57, ev_ne2 _ _ _ _ (by decide)]; exact e8_B56
                    have e5_B57 : B57.eval (.tmp 5) = .slice (some ⟨g, 0, none⟩) N N := by rw [hB57, ev_ne2 _ _ _ _ (by decide)]; exact e5_B56
                    have e6_B57 : B57.eval (.tmp 6) = .int .i64 (p : Int) := by rw [hB57, ev_ne2 _ _ _ _ (by decide)]; exact e6_B56
                    have e0_B57 : B57.eval (.tmp 0) = .slice (some ⟨ga, 0, none⟩) L.length c := by rw [hB57, ev_ne2 _ _ _ _ (by decide)]; exact e0_B56
                    have e1_B57 : B57.eval (.tmp 1) = .string s := by rw [hB57, ev_ne2 _ _ _ _ (by decide)]; exact e1_B56
                    have e54_B57 : B57.eval (.tmp 54) = .slice (some ⟨BX, 0, none⟩) N N := by rw [hB57, ev_ne2 _ _ _ _ (by decide)]; exact e54_B56
                    have e55_B57 : B57.eval (.tmp 55) = .int .i64 ((j + 1 : Nat) : Int) := by rw [hB57, ev_ne2 _ _ _ _ (by decide)]; exact e55_B56
                    have e57_B57 : B57.eval (.tmp 57) = .bool true := by rw [hB57]; exact ev_same2 _ _ _ (by rw [sB56]; decide)
                    clear e8_B56 e5_B56 e6_B56 e0_B56 e1_B56 e54_B56 e55_B56 e56_B56
                    refine st_val (.bool true) (wants_no rfl) (still_mv e57_B57 _) (fun B58 hB58 => ?_)
                    replace hB58 : B58 = B57.put (some 58) (.bool true) := hB58
                    have sB58 : B58.tmps.size = 84 := by rw [hB58, sz_put2]; exact sB57
                    have e8_B58 : B58.eval (.tmp 8) = .int .i64 ((j + 1 : Nat) : Int) := by rw [hB58, ev_ne2 _ _ _ _ (by decide)]; exact e8_B57
                    have e5_B58 : B58.eval (.tmp 5) = .slice (some ⟨g, 0, none⟩) N N := by rw [hB58, ev_ne2 _ _ _ _ (by decide)]; exact e5_B57
                    have e6_B58 : B58.eval (.tmp 6) = .int .i64 (p : Int) := by rw [hB58, ev_ne2 _ _ _ _ (by decide)]; exact e6_B57
                    have e0_B58 : B58.eval (.tmp 0) = .slice (some ⟨ga, 0, none⟩) L.length c := by rw [hB58, ev_ne2 _ _ _ _ (by decide)]; exact e0_B57
                    have e1_B58 : B58.eval (.tmp 1) = .string s := by rw [hB58, ev_ne2 _ _ _ _ (by decide)]; exact e1_B57
                    have e54_B58 : B58.eval (.tmp 54) = .slice (some ⟨BX, 0, none⟩) N N := by rw [hB58, ev_ne2 _ _ _ _ (by decide)]; exact e54_B57
                    have e55_B58 : B58.eval (.tmp 55) = .int .i64 ((j + 1 : Nat) : Int) := by rw [hB58, ev_ne2 _ _ _ _ (by decide)]; exact e55_B57
                    have e58_B58 : B58.eval (.tmp 58) = .bool true := by rw [hB58]; exact ev_same2 _ _ _ (by rw [sB57]; decide)
                    clear e8_B57 e5_B57 e6_B57 e0_B57 e1_B57 e54_B57 e55_B57 e57_B57
                    refine st_val (.slice (some ⟨g, 0, none⟩) N N) ((wants_at (j := 4) (want := true) rfl (yield_at (t := 58) rfl rfl (by rw [sB58]; decide) e58_B58)).trans rfl) (still_mv e5_B58 _) (fun B59 hB59 => ?_)
                    replace hB59 : B59 = B58.put (some 59) (.slice (some ⟨g, 0, none⟩) N N) := hB59
                    have sB59 : B59.tmps.size = 84 := by rw [hB59, sz_put2]; exact sB58
                    have e8_B59 : B59.eval (.tmp 8) = .int .i64 ((j + 1 : Nat) : Int) := by rw [hB59, ev_ne2 _ _ _ _ (by decide)]; exact e8_B58
                    have e6_B59 : B59.eval (.tmp 6) = .int .i64 (p : Int) := by rw [hB59, ev_ne2 _ _ _ _ (by decide)]; exact e6_B58
                    have e0_B59 : B59.eval (.tmp 0) = .slice (some ⟨ga, 0, none⟩) L.length c := by rw [hB59, ev_ne2 _ _ _ _ (by decide)]; exact e0_B58
                    have e1_B59 : B59.eval (.tmp 1) = .string s := by rw [hB59, ev_ne2 _ _ _ _ (by decide)]; exact e1_B58
                    have e54_B59 : B59.eval (.tmp 54) = .slice (some ⟨BX, 0, none⟩) N N := by rw [hB59, ev_ne2 _ _ _ _ (by decide)]; exact e54_B58
                    have e55_B59 : B59.eval (.tmp 55) = .int .i64 ((j + 1 : Nat) : Int) := by rw [hB59, ev_ne2 _ _ _ _ (by decide)]; exact e55_B58
                    have e58_B59 : B59.eval (.tmp 58) = .bool true := by rw [hB59, ev_ne2 _ _ _ _ (by decide)]; exact e58_B58
                    have e59_B59 : B59.eval (.tmp 59) = .slice (some ⟨g, 0, none⟩) N N := by rw [hB59]; exact ev_same2 _ _ _ (by rw [sB58]; decide)
                    clear e8_B58 e5_B58 e6_B58 e0_B58 e1_B58 e54_B58 e55_B58 e58_B58
                    refine st_val (.int .i64 ((j + 1 : Nat) : Int)) ((wants_at (j := 4) (want := true) rfl (yield_at (t := 58) rfl rfl (by rw [sB59]; decide) e58_B59)).trans rfl) (still_mv e8_B59 _) (fun B60 hB60 => ?_)
                    replace hB60 : B60 = B59.put (some 60) (.int .i64 ((j + 1 : Nat) : Int)) := hB60
                    have sB60 : B60.tmps.size = 84 := by rw [hB60, sz_put2]; exact sB59
                    have e8_B60 : B60.eval (.tmp 8) = .int .i64 ((j + 1 : Nat) : Int) := by rw [hB60, ev_ne2 _ _ _ _ (by decide)]; exact e8_B59
                    have e6_B60 : B60.eval (.tmp 6) = .int .i64 (p : Int) := by rw [hB60, ev_ne2 _ _ _ _ (by decide)]; exact e6_B59
                    have e0_B60 : B60.eval (.tmp 0) = .slice (some ⟨ga, 0, none⟩) L.length c := by rw [hB60, ev_ne2 _ _ _ _ (by decide)]; exact e0_B59
                    have e1_B60 : B60.eval (.tmp 1) = .string s := by rw [hB60, ev_ne2 _ _ _ _ (by decide)]; exact e1_B59
                    have e54_B60 : B60.eval (.tmp 54) = .slice (some ⟨BX, 0, none⟩) N N := by rw [hB60, ev_ne2 _ _ _ _ (by decide)]; exact e54_B59
                    have e55_B60 : B60.eval (.tmp 55) = .int .i64 ((j + 1 : Nat) : Int) := by rw [hB60, ev_ne2 _ _ _ _ (by decide)]; exact e55_B59
                    have e58_B60 : B60.eval (.tmp 58) = .bool true := by rw [hB60, ev_ne2 _ _ _ _ (by decide)]; exact e58_B59
                    have e59_B60 : B60.eval (.tmp 59) = .slice (some ⟨g, 0, none⟩) N N := by rw [hB60, ev_ne2 _ _ _ _ (by decide)]; exact e59_B59
                    have e60_B60 : B60.eval (.tmp 60) = .int .i64 ((j + 1 : Nat) : Int) := by rw [hB60]; exact ev_same2 _ _ _ (by rw [sB59]; decide)
                    clear e8_B59 e6_B59 e0_B59 e1_B59 e54_B59 e55_B59 e58_B59 e59_B59
                    refine st_val (.int .i64 (j : Int)) ((wants_at (j := 4) (want := true) rfl (yield_at (t := 58) rfl rfl (by rw [sB60]; decide) e58_B60)).trans rfl) (by simp only [execOp, e60_B60]; go_simp) (fun B61 hB61 => ?_)
                    replace hB61 : B61 = B60.put (some 61) (.int .i64 (j : Int)) := hB61
                    have sB61 : B61.tmps.size = 84 := by rw [hB61, sz_put2]; exact sB60
                    have e8_B61 : B61.eval (.tmp 8) = .int .i64 ((j + 1 : Nat) : Int) := by rw [hB61, ev_ne2 _ _ _ _ (by decide)]; exact e8_B60
                    have e6_B61 : B61.eval (.tmp 6) = .int .i64 (p : Int) := by rw [hB61, ev_ne2 _ _ _ _ (by decide)]; exact e6_B60
                    have e0_B61 : B61.eval (.tmp 0) = .slice (some ⟨ga, 0, none⟩) L.length c := by rw [hB61, ev_ne2 _ _ _ _ (by decide)]; exact e0_B60
                    have e1_B61 : B61.eval (.tmp 1) = .string s := by rw [hB61, ev_ne2 _ _ _ _ (by decide)]; exact e1_B60
                    have e54_B61 : B61.eval (.tmp 54) = .slice (some ⟨BX, 0, none⟩) N N := by rw [hB61, ev_ne2 _ _ _ _ (by decide)]; exact e54_B60
                    have e55_B61 : B61.eval (.tmp 55) = .int .i64 ((j + 1 : Nat) : Int) := by rw [hB61, ev_ne2 _ _ _ _ (by decide)]; exact e55_B60
                    have e58_B61 : B61.eval (.tmp 58) = .bool true := by rw [hB61, ev_ne2 _ _ _ _ (by decide)]; exact e58_B60
                    have e59_B61 : B61.eval (.tmp 59) = .slice (some ⟨g, 0, none⟩) N N := by rw [hB61, ev_ne2 _ _ _ _ (by decide)]; exact e59_B60
                    have e61_B61 : B61.eval (.tmp 61) = .int .i64 (j : Int) := by rw [hB61]; exact ev_same2 _ _ _ (by rw [sB60]; decide)
                    clear e8_B60 e6_B60 e0_B60 e1_B60 e54_B60 e55_B60 e58_B60 e59_B60 e60_B60
                    refine st_val (.pointer (some ⟨g, j, none⟩)) ((wants_at (j := 4) (want := true) rfl (yield_at (t := 58) rfl rfl (by rw [sB61]; decide) e58_B61)).trans rfl) (by simp only [execOp, e59_B61, e61_B61]; go_simp <;> (intro h; omega)) (fun B62 hB62 => ?_)
                    replace hB62 : B62 = B61.put (some 62) (.pointer (some ⟨g, j, none⟩)) := hB62
                    have sB62 : B62.tmps.size = 84 := by rw [hB62, sz_put2]; exact sB61
                    have e8_B62 : B62.eval (.tmp 8) = .int .i64 ((j + 1 : Nat) : Int) := by rw [hB62, ev_ne2 _ _ _ _ (by decide)]; exact e8_B61
                    have e6_B62 : B62.eval (.tmp 6) = .int .i64 (p : Int) := by rw [hB62, ev_ne2 _ _ _ _ (by decide)]; exact e6_B61
                    have e0_B62 : B62.eval (.tmp 0) = .slice (some ⟨ga, 0, none⟩) L.length c := by rw [hB62, ev_ne2 _ _ _ _ (by decide)]; exact e0_B61
                    have e1_B62 : B62.eval (.tmp 1) = .string s := by rw [hB62, ev_ne2 _ _ _ _ (by decide)]; exact e1_B61
                    have e54_B62 : B62.eval (.tmp 54) = .slice (some ⟨BX, 0, none⟩) N N := by rw [hB62, ev_ne2 _ _ _ _ (by decide)]; exact e54_B61
                    have e55_B62 : B62.eval (.tmp 55) = .int .i64 ((j + 1 : Nat) : Int) := by rw [hB62, ev_ne2 _ _ _ _ (by decide)]; exact e55_B61
                    have e58_B62 : B62.eval (.tmp 58) = .bool true := by rw [hB62, ev_ne2 _ _ _ _ (by decide)]; exact e58_B61
                    have e62_B62 : B62.eval (.tmp 62) = .pointer (some ⟨g, j, none⟩) := by rw [hB62]; exact ev_same2 _ _ _ (by rw [sB61]; decide)
                    clear e8_B61 e6_B61 e0_B61 e1_B61 e54_B61 e55_B61 e58_B61 e59_B61 e61_B61
                    refine st_val (.bool true) ((wants_at (j := 4) (want := true) rfl (yield_at (t := 58) rfl rfl (by rw [sB62]; decide) e58_B62)).trans rfl) (by simp only [execOp, e62_B62]; go_simp) (fun B63 hB63 => ?_)
                    replace hB63 : B63 = B62.put (some 63) (.bool true) := hB63
                    have sB63 : B63.tmps.size = 84 := by rw [hB63, sz_put2]; exact sB62
                    have e8_B63 : B63.eval (.tmp 8) = .int .i64 ((j + 1 : Nat) : Int) := by rw [hB63, ev_ne2 _ _ _ _ (by decide)]; exact e8_B62
                    have e6_B63 : B63.eval (.tmp 6) = .int .i64 (p : Int) := by rw [hB63, ev_ne2 _ _ _ _ (by decide)]; exact e6_B62
                    have e0_B63 : B63.eval (.tmp 0) = .slice (some ⟨ga, 0, none⟩) L.length c := by rw [hB63, ev_ne2 _ _ _ _ (by decide)]; exact e0_B62
                    have e1_B63 : B63.eval (.tmp 1) = .string s := by rw [hB63, ev_ne2 _ _ _ _ (by decide)]; exact e1_B62
                    have e54_B63 : B63.eval (.tmp 54) = .slice (some ⟨BX, 0, none⟩) N N := by rw [hB63, ev_ne2 _ _ _ _ (by decide)]; exact e54_B62
                    have e55_B63 : B63.eval (.tmp 55) = .int .i64 ((j + 1 : Nat) : Int) := by rw [hB63, ev_ne2 _ _ _ _ (by decide)]; exact e55_B62
                    have e58_B63 : B63.eval (.tmp 58) = .bool true := by rw [hB63, ev_ne2 _ _ _ _ (by decide)]; exact e58_B62
                    have e63_B63 : B63.eval (.tmp 63) = .bool true := by rw [hB63]; exact ev_same2 _ _ _ (by rw [sB62]; decide)
                    clear e8_B62 e6_B62 e0_B62 e1_B62 e54_B62 e55_B62 e58_B62 e62_B62
                    refine st_val (.bool true) (wants_no rfl) (by simp only [execOp, e58_B63, e63_B63]; go_simp) (fun B64 hB64 => ?_)
                    replace hB64 : B64 = B63.put (some 64) (.bool true) := hB64
                    have sB64 : B64.tmps.size = 84 := by rw [hB64, sz_put2]; exact sB63
                    have e8_B64 : B64.eval (.tmp 8) = .int .i64 ((j + 1 : Nat) : Int) := by rw [hB64, ev_ne2 _ _ _ _ (by decide)]; exact e8_B63
                    have e6_B64 : B64.eval (.tmp 6) = .int .i64 (p : Int) := by rw [hB64, ev_ne2 _ _ _ _ (by decide)]; exact e6_B63
                    have e0_B64 : B64.eval (.tmp 0) = .slice (some ⟨ga, 0, none⟩) L.length c := by rw [hB64, ev_ne2 _ _ _ _ (by decide)]; exact e0_B63
                    have e1_B64 : B64.eval (.tmp 1) = .string s := by rw [hB64, ev_ne2 _ _ _ _ (by decide)]; exact e1_B63
                    have e54_B64 : B64.eval (.tmp 54) = .slice (some ⟨BX, 0, none⟩) N N := by rw [hB64, ev_ne2 _ _ _ _ (by decide)]; exact e54_B63
                    have e55_B64 : B64.eval (.tmp 55) = .int .i64 ((j + 1 : Nat) : Int) := by rw [hB64, ev_ne2 _ _ _ _ (by decide)]; exact e55_B63
                    have e64_B64 : B64.eval (.tmp 64) = .bool true := by rw [hB64]; exact ev_same2 _ _ _ (by rw [sB63]; decide)
                    clear e8_B63 e6_B63 e0_B63 e1_B63 e54_B63 e55_B63 e58_B63 e63_B63
                    refine st_val (.bool true) (wants_no rfl) (still_mv e64_B64 _) (fun B65 hB65 => ?_)
                    replace hB65 : B65 = B64.put (some 65) (.bool true) := hB65
                    have sB65 : B65.tmps.size = 84 := by rw [hB65, sz_put2]; exact sB64
                    have e8_B65 : B65.eval (.tmp 8) = .int .i64 ((j + 1 : Nat) : Int) := by rw [hB65, ev_ne2 _ _ _ _ (by decide)]; exact e8_B64
                    have e6_B65 : B65.eval (.tmp 6) = .int .i64 (p : Int) := by rw [hB65, ev_ne2 _ _ _ _ (by decide)]; exact e6_B64
                    have e0_B65 : B65.eval (.tmp 0) = .slice (some ⟨ga, 0, none⟩) L.length c := by rw [hB65, ev_ne2 _ _ _ _ (by decide)]; exact e0_B64
                    have e1_B65 : B65.eval (.tmp 1) = .string s := by rw [hB65, ev_ne2 _ _ _ _ (by decide)]; exact e1_B64
                    have e54_B65 : B65.eval (.tmp 54) = .slice (some ⟨BX, 0, none⟩) N N := by rw [hB65, ev_ne2 _ _ _ _ (by decide)]; exact e54_B64
                    have e55_B65 : B65.eval (.tmp 55) = .int .i64 ((j + 1 : Nat) : Int) := by rw [hB65, ev_ne2 _ _ _ _ (by decide)]; exact e55_B64
                    have e65_B65 : B65.eval (.tmp 65) = .bool true := by rw [hB65]; exact ev_same2 _ _ _ (by rw [sB64]; decide)
                    clear e8_B64 e6_B64 e0_B64 e1_B64 e54_B64 e55_B64 e64_B64
                    refine st_val (.slice (some ⟨ga, 0, none⟩) L.length c) ((wants_at (j := 11) (want := true) rfl (yield_at (t := 65) rfl rfl (by rw [sB65]; decide) e65_B65)).trans rfl) (still_mv e0_B65 _) (fun B66 hB66 => ?_)
                    replace hB66 : B66 = B65.put (some 66) (.slice (some ⟨ga, 0, none⟩) L.length c) := hB66
                    have sB66 : B66.tmps.size = 84 := by rw [hB66, sz_put2]; exact sB65
                    have e8_B66 : B66.eval (.tmp 8) = .int .i64 ((j + 1 : Nat) : Int) := by rw [hB66, ev_ne2 _ _ _ _ (by decide)]; exact e8_B65
                    have e6_B66 : B66.eval (.tmp 6) = .int .i64 (p : Int) := by rw [hB66, ev_ne2 _ _ _ _ (by decide)]; exact e6_B65
                    have e1_B66 : B66.eval (.tmp 1) = .string s := by rw [hB66, ev_ne2 _ _ _ _ (by decide)]; exact e1_B65
                    have e54_B66 : B66.eval (.tmp 54) = .slice (some ⟨BX, 0, none⟩) N N := by rw [hB66, ev_ne2 _ _ _ _ (by decide)]; exact e54_B65
                    have e55_B66 : B66.eval (.tmp 55) = .int .i64 ((j + 1 : Nat) : Int) := by rw [hB66, ev_ne2 _ _ _ _ (by decide)]; exact e55_B65
                    have e65_B66 : B66.eval (.tmp 65) = .bool true := by rw [hB66, ev_ne2 _ _ _ _ (by decide)]; exact e65_B65
                    have e66_B66 : B66.eval (.tmp 66) = .slice (some ⟨ga, 0, none⟩) L.length c := by rw [hB66]; exact ev_same2 _ _ _ (by rw [sB65]; decide)
                    clear e8_B65 e6_B65 e0_B65 e1_B65 e54_B65 e55_B65 e65_B65
                    refine st_val (.int .i64 (p : Int)) ((wants_at (j := 11) (want := true) rfl (yield_at (t := 65) rfl rfl (by rw [sB66]; decide) e65_B66)).trans rfl) (still_mv e6_B66 _) (fun B67 hB67 => ?_)
                    replace hB67 : B67 = B66.put (some 67) (.int .i64 (p : Int)) := hB67
                    have sB67 : B67.tmps.size = 84 := by rw [hB67, sz_put2]; exact sB66
                    have e8_B67 : B67.eval (.tmp 8) = .int .i64 ((j + 1 : Nat) : Int) := by rw [hB67, ev_ne2 _ _ _ _ (by decide)]; exact e8_B66
                    have e1_B67 : B67.eval (.tmp 1) = .string s := by rw [hB67, ev_ne2 _ _ _ _ (by decide)]; exact e1_B66
                    have e54_B67 : B67.eval (.tmp 54) = .slice (some ⟨BX, 0, none⟩) N N := by rw [hB67, ev_ne2 _ _ _ _ (by decide)]; exact e54_B66
                    have e55_B67 : B67.eval (.tmp 55) = .int .i64 ((j + 1 : Nat) : Int) := by rw [hB67, ev_ne2 _ _ _ _ (by decide)]; exact e55_B66
                    have e65_B67 : B67.eval (.tmp 65) = .bool true := by rw [hB67, ev_ne2 _ _ _ _ (by decide)]; exact e65_B66
                    have e66_B67 : B67.eval (.tmp 66) = .slice (some ⟨ga, 0, none⟩) L.length c := by rw [hB67, ev_ne2 _ _ _ _ (by decide)]; exact e66_B66
                    have e67_B67 : B67.eval (.tmp 67) = .int .i64 (p : Int) := by rw [hB67]; exact ev_same2 _ _ _ (by rw [sB66]; decide)
                    clear e8_B66 e6_B66 e1_B66 e54_B66 e55_B66 e65_B66 e66_B66
                    refine st_val (.string s) ((wants_at (j := 11) (want := true) rfl (yield_at (t := 65) rfl rfl (by rw [sB67]; decide) e65_B67)).trans rfl) (still_mv e1_B67 _) (fun B68 hB68 => ?_)
                    replace hB68 : B68 = B67.put (some 68) (.string s) := hB68
                    have sB68 : B68.tmps.size = 84 := by rw [hB68, sz_put2]; exact sB67
                    have e8_B68 : B68.eval (.tmp 8) = .int .i64 ((j + 1 : Nat) : Int) := by rw [hB68, ev_ne2 _ _ _ _ (by decide)]; exact e8_B67
                    have e54_B68 : B68.eval (.tmp 54) = .slice (some ⟨BX, 0, none⟩) N N := by rw [hB68, ev_ne2 _ _ _ _ (by decide)]; exact e54_B67
                    have e55_B68 : B68.eval (.tmp 55) = .int .i64 ((j + 1 : Nat) : Int) := by rw [hB68, ev_ne2 _ _ _ _ (by decide)]; exact e55_B67
                    have e65_B68 : B68.eval (.tmp 65) = .bool true := by rw [hB68, ev_ne2 _ _ _ _ (by decide)]; exact e65_B67
                    have e66_B68 : B68.eval (.tmp 66) = .slice (some ⟨ga, 0, none⟩) L.length c := by rw [hB68, ev_ne2 _ _ _ _ (by decide)]; exact e66_B67
                    have e67_B68 : B68.eval (.tmp 67) = .int .i64 (p : Int) := by rw [hB68, ev_ne2 _ _ _ _ (by decide)]; exact e67_B67
                    have e68_B68 : B68.eval (.tmp 68) = .string s := by rw [hB68]; exact ev_same2 _ _ _ (by rw [sB67]; decide)
                    clear e8_B67 e1_B67 e54_B67 e55_B67 e65_B67 e66_B67 e67_B67
                    refine st_val (.int .i64 ((j + 1 : Nat) : Int)) ((wants_at (j := 11) (want := true) rfl (yield_at (t := 65) rfl rfl (by rw [sB68]; decide) e65_B68)).trans rfl) (still_mv e8_B68 _) (fun B69 hB69 => ?_)
                    replace hB69 : B69 = B68.put (some 69) (.int .i64 ((j + 1 : Nat) : Int)) := hB69
                    have sB69 : B69.tmps.size = 84 := by rw [hB69, sz_put2]; exact sB68
                    have e54_B69 : B69.eval (.tmp 54) = .slice (some ⟨BX, 0, none⟩) N N := by rw [hB69, ev_ne2 _ _ _ _ (by decide)]; exact e54_B68
                    have e55_B69 : B69.eval (.tmp 55) = .int .i64 ((j + 1 : Nat) : Int) := by rw [hB69, ev_ne2 _ _ _ _ (by decide)]; exact e55_B68
                    have e65_B69 : B69.eval (.tmp 65) = .bool true := by rw [hB69, ev_ne2 _ _ _ _ (by decide)]; exact e65_B68
                    have e66_B69 : B69.eval (.tmp 66) = .slice (some ⟨ga, 0, none⟩) L.length c := by rw [hB69, ev_ne2 _ _ _ _ (by decide)]; exact e66_B68
                    have e67_B69 : B69.eval (.tmp 67) = .int .i64 (p : Int) := by rw [hB69, ev_ne2 _ _ _ _ (by decide)]; exact e67_B68
                    have e68_B69 : B69.eval (.tmp 68) = .string s := by rw [hB69, ev_ne2 _ _ _ _ (by decide)]; exact e68_B68
                    have e69_B69 : B69.eval (.tmp 69) = .int .i64 ((j + 1 : Nat) : Int) := by rw [hB69]; exact ev_same2 _ _ _ (by rw [sB68]; decide)
                    clear e8_B68 e54_B68 e55_B68 e65_B68 e66_B68 e67_B68 e68_B68
                    refine st_val (.int .i64 (j : Int)) ((wants_at (j := 11) (want := true) rfl (yield_at (t := 65) rfl rfl (by rw [sB69]; decide) e65_B69)).trans rfl) (by simp only [execOp, e69_B69]; go_simp) (fun B70 hB70 => ?_)
                    replace hB70 : B70 = B69.put (some 70) (.int .i64 (j : Int)) := hB70
                    have sB70 : B70.tmps.size = 84 := by rw [hB70, sz_put2]; exact sB69
                    have e54_B70 : B70.eval (.tmp 54) = .slice (some ⟨BX, 0, none⟩) N N := by rw [hB70, ev_ne2 _ _ _ _ (by decide)]; exact e54_B69
                    have e55_B70 : B70.eval (.tmp 55) = .int .i64 ((j + 1 : Nat) : Int) := by rw [hB70, ev_ne2 _ _ _ _ (by decide)]; exact e55_B69
                    have e65_B70 : B70.eval (.tmp 65) = .bool true := by rw [hB70, ev_ne2 _ _ _ _ (by decide)]; exact e65_B69
                    have e66_B70 : B70.eval (.tmp 66) = .slice (some ⟨ga, 0, none⟩) L.length c := by rw [hB70, ev_ne2 _ _ _ _ (by decide)]; exact e66_B69
                    have e67_B70 : B70.eval (.tmp 67) = .int .i64 (p : Int) := by rw [hB70, ev_ne2 _ _ _ _ (by decide)]; exact e67_B69
                    have e68_B70 : B70.eval (.tmp 68) = .string s := by rw [hB70, ev_ne2 _ _ _ _ (by decide)]; exact e68_B69
                    have e70_B70 : B70.eval (.tmp 70) = .int .i64 (j : Int) := by rw [hB70]; exact ev_same2 _ _ _ (by rw [sB69]; decide)
                    clear e54_B69 e55_B69 e65_B69 e66_B69 e67_B69 e68_B69 e69_B69
                    refine st_val (.int .u8 (s[j].toNat : Int)) ((wants_at (j := 11) (want := true) rfl (yield_at (t := 65) rfl rfl (by rw [sB70]; decide) e65_B70)).trans rfl) (by simp only [execOp, e68_B70, e70_B70]; go_simp) (fun B71 hB71 => ?_)
                    replace hB71 : B71 = B70.put (some 71) (.int .u8 (s[j].toNat : Int)) := hB71
                    have sB71 : B71.tmps.size = 84 := by rw [hB71, sz_put2]; exact sB70
                    have e54_B71 : B71.eval (.tmp 54) = .slice (some ⟨BX, 0, none⟩) N N := by rw [hB71, ev_ne2 _ _ _ _ (by decide)]; exact e54_B70
                    have e55_B71 : B71.eval (.tmp 55) = .int .i64 ((j + 1 : Nat) : Int) := by rw [hB71, ev_ne2 _ _ _ _ (by decide)]; exact e55_B70
                    have e65_B71 : B71.eval (.tmp 65) = .bool true := by rw [hB71, ev_ne2 _ _ _ _ (by decide)]; exact e65_B70
                    have e66_B71 : B71.eval (.tmp 66) = .slice (some ⟨ga, 0, none⟩) L.length c := by rw [hB71, ev_ne2 _ _ _ _ (by decide)]; exact e66_B70
                    have e67_B71 : B71.eval (.tmp 67) = .int .i64 (p : Int) := by rw [hB71, ev_ne2 _ _ _ _ (by decide)]; exact e67_B70
                    have e71_B71 : B71.eval (.tmp 71) = .int .u8 (s[j].toNat : Int) := by rw [hB71]; exact ev_same2 _ _ _ (by rw [sB70]; decide)
                    clear e54_B70 e55_B70 e65_B70 e66_B70 e67_B70 e68_B70 e70_B70
                    refine st_val (.pointer (some ⟨ga, p * 257, none⟩)) ((wants_at (j := 11) (want := true) rfl (yield_at (t := 65) rfl rfl (by rw [sB71]; decide) e65_B71)).trans rfl) (by simp only [execOp, e66_B71, e67_B71]; go_simp <;> (intro h; omega)) (fun B72 hB72 => ?_)
                    replace hB72 : B72 = B71.put (some 72) (.pointer (some ⟨ga, p * 257, none⟩)) := hB72
                    have sB72 : B72.tmps.size = 84 := by rw [hB72, sz_put2]; exact sB71
                    have e54_B72 : B72.eval (.tmp 54) = .slice (some ⟨BX, 0, none⟩) N N := by rw [hB72, ev_ne2 _ _ _ _ (by decide)]; exact e54_B71
                    have e55_B72 : B72.eval (.tmp 55) = .int .i64 ((j + 1 : Nat) : Int) := by rw [hB72, ev_ne2 _ _ _ _ (by decide)]; exact e55_B71
                    have e65_B72 : B72.eval (.tmp 65) = .bool true := by rw [hB72, ev_ne2 _ _ _ _ (by decide)]; exact e65_B71
                    have e71_B72 : B72.eval (.tmp 71) = .int .u8 (s[j].toNat : Int) := by rw [hB72, ev_ne2 _ _ _ _ (by decide)]; exact e71_B71
                    have e72_B72 : B72.eval (.tmp 72) = .pointer (some ⟨ga, p * 257, none⟩) := by rw [hB72]; exact ev_same2 _ _ _ (by rw [sB71]; decide)
                    clear e54_B71 e55_B71 e65_B71 e66_B71 e67_B71 e71_B71
                    refine st_val (.pointer (some ⟨ga, p * 257 + 1, none⟩)) ((wants_at (j := 11) (want := true) rfl (yield_at (t := 65) rfl rfl (by rw [sB72]; decide) e65_B72)).trans rfl) (by simp only [execOp, e72_B72]; go_simp) (fun B73 hB73 => ?_)
                    replace hB73 : B73 = B72.put (some 73) (.pointer (some ⟨ga, p * 257 + 1, none⟩)) := hB73
                    have sB73 : B73.tmps.size = 84 := by rw [hB73, sz_put2]; exact sB72
                    have e54_B73 : B73.eval (.tmp 54) = .slice (some ⟨BX, 0, none⟩) N N := by rw [hB73, ev_ne2 _ _ _ _ (by decide)]; exact e54_B72
                    have e55_B73 : B73.eval (.tmp 55) = .int .i64 ((j + 1 : Nat) : Int) := by rw [hB73, ev_ne2 _ _ _ _ (by decide)]; exact e55_B72
                    have e65_B73 : B73.eval (.tmp 65) = .bool true := by rw [hB73, ev_ne2 _ _ _ _ (by decide)]; exact e65_B72
                    have e71_B73 : B73.eval (.tmp 71) = .int .u8 (s[j].toNat : Int) := by rw [hB73, ev_ne2 _ _ _ _ (by decide)]; exact e71_B72
                    have e73_B73 : B73.eval (.tmp 73) = .pointer (some ⟨ga, p * 257 + 1, none⟩) := by rw [hB73]; exact ev_same2 _ _ _ (by rw [sB72]; decide)
                    clear e54_B72 e55_B72 e65_B72 e71_B72 e72_B72
                    refine st_val (.pointer (some ⟨ga, p * 257 + 1 + s[j].toNat, none⟩)) ((wants_at (j := 11) (want := true) rfl (yield_at (t := 65) rfl rfl (by rw [sB73]; decide) e65_B73)).trans rfl) (by simp only [execOp, e73_B73, e71_B73]; go_simp <;> (intro h; omega)) (fun B74 hB74 => ?_)
                    replace hB74 : B74 = B73.put (some 74) (.pointer (some ⟨ga, p * 257 + 1 + s[j].toNat, none⟩)) := hB74
                    have sB74 : B74.tmps.size = 84 := by rw [hB74, sz_put2]; exact sB73
                    have e54_B74 : B74.eval (.tmp 54) = .slice (some ⟨BX, 0, none⟩) N N := by rw [hB74, ev_ne2 _ _ _ _ (by decide)]; exact e54_B73
                    have e55_B74 : B74.eval (.tmp 55) = .int .i64 ((j + 1 : Nat) : Int) := by rw [hB74, ev_ne2 _ _ _ _ (by decide)]; exact e55_B73
                    have e65_B74 : B74.eval (.tmp 65) = .bool true := by rw [hB74, ev_ne2 _ _ _ _ (by decide)]; exact e65_B73
                    have e74_B74 : B74.eval (.tmp 74) = .pointer (some ⟨ga, p * 257 + 1 + s[j].toNat, none⟩) := by rw [hB74]; exact ev_same2 _ _ _ (by rw [sB73]; decide)
                    clear e54_B73 e55_B73 e65_B73 e71_B73 e73_B73
                    refine st_val (.bool true) ((wants_at (j := 11) (want := true) rfl (yield_at (t := 65) rfl rfl (by rw [sB74]; decide) e65_B74)).trans rfl) (by simp only [execOp, e74_B74]; go_simp) (fun B75 hB75 => ?_)
                    replace hB75 : B75 = B74.put (some 75) (.bool true) := hB75
                    have sB75 : B75.tmps.size = 84 := by rw [hB75, sz_put2]; exact sB74
                    have e54_B75 : B75.eval (.tmp 54) = .slice (some ⟨BX, 0, none⟩) N N := by rw [hB75, ev_ne2 _ _ _ _ (by decide)]; exact e54_B74
                    have e55_B75 : B75.eval (.tmp 55) = .int .i64 ((j + 1 : Nat) : Int) := by rw [hB75, ev_ne2 _ _ _ _ (by decide)]; exact e55_B74
                    have e65_B75 : B75.eval (.tmp 65) = .bool true := by rw [hB75, ev_ne2 _ _ _ _ (by decide)]; exact e65_B74
                    have e75_B75 : B75.eval (.tmp 75) = .bool true := by rw [hB75]; exact ev_same2 _ _ _ (by rw [sB74]; decide)
                    clear e54_B74 e55_B74 e65_B74 e74_B74
                    refine st_val (.bool true) (wants_no rfl) (by simp only [execOp, e65_B75, e75_B75]; go_simp) (fun B76 hB76 => ?_)
                    replace hB76 : B76 = B75.put (some 76) (.bool true) := hB76
                    have sB76 : B76.tmps.size = 84 := by rw [hB76, sz_put2]; exact sB75
                    have e54_B76 : B76.eval (.tmp 54) = .slice (some ⟨BX, 0, none⟩) N N := by rw [hB76, ev_ne2 _ _ _ _ (by decide)]; exact e54_B75
                    have e55_B76 : B76.eval (.tmp 55) = .int .i64 ((j + 1 : Nat) : Int) := by rw [hB76, ev_ne2 _ _ _ _ (by decide)]; exact e55_B75
                    have e76_B76 : B76.eval (.tmp 76) = .bool true := by rw [hB76]; exact ev_same2 _ _ _ (by rw [sB75]; decide)
                    clear e54_B75 e55_B75 e65_B75 e75_B75
                    refine st_val (.pointer (some ⟨BX, (j + 1), none⟩)) (wants_no rfl) (by simp only [execOp, e54_B76, e55_B76]; go_simp <;> (intro h; omega)) (fun B77 hB77 => ?_)
                    replace hB77 : B77 = B76.put (some 77) (.pointer (some ⟨BX, (j + 1), none⟩)) := hB77
                    have sB77 : B77.tmps.size = 84 := by rw [hB77, sz_put2]; exact sB76
                    have e76_B77 : B77.eval (.tmp 76) = .bool true := by rw [hB77, ev_ne2 _ _ _ _ (by decide)]; exact e76_B76
                    have e77_B77 : B77.eval (.tmp 77) = .pointer (some ⟨BX, (j + 1), none⟩) := by rw [hB77]; exact ev_same2 _ _ _ (by rw [sB76]; decide)
                    clear e54_B76 e55_B76 e76_B76
                    refine wpStill_nil ?_
                    refine wpList_store4 (.tmp 77) (.tmp 76) rfl rfl rfl BX (j + 1) _ true e77_B77 e76_B77 x0d xfd ?_
                    refine hK _ _ ⟨.slice (some ⟨BX, 0, none⟩) N N, .int .i64 ((j + 1 : Nat) : Int), .int .i64 ((j + 1 : Nat) : Int), .bool true, .bool true, .slice (some ⟨g, 0, none⟩) N N, .int .i64 ((j + 1 : Nat) : Int), .int .i64 (j : Int), .pointer (some ⟨g, j, none⟩), .bool true, .bool true, .bool true, .slice (some ⟨ga, 0, none⟩) L.length c, .int .i64 (p : Int), .string s, .int .i64 ((j + 1 : Nat) : Int), .int .i64 (j : Int), .int .u8 (s[j].toNat : Int), .pointer (some ⟨ga, p * 257, none⟩), .pointer (some ⟨ga, p * 257 + 1, none⟩), .pointer (some ⟨ga, p * 257 + 1 + s[j].toNat, none⟩), .bool true, .bool true, .pointer (some ⟨BX, (j + 1), none⟩), ?_, rfl⟩
                    rw [hB77, hB76, hB75, hB74, hB73, hB72, hB71, hB70, hB69, hB68, hB67, hB66, hB65, hB64, hB63, hB62, hB61, hB60, hB59, hB58, hB57, hB56, hB55, hB54]
                  rintro A' W' ⟨x54, x55, x56, x57, x58, x59, x60, x61, x62, x63, x64, x65, x66, x67, x68, x69, x70, x71, x72, x73, x74, x75, x76, x77, rfl, rfl⟩
                  simp only [Act.put, List.setIfInBounds_toArray, List.set_cons_zero, List.set_cons_succ]
                  go_wp2
                  go_roundg (s.size + 2 - (j + 1 + 1))
                  case rel => exact ⟨j + 1 + 1, by omega, by omega, by go_num, ⟨HC2.out.drew.setCell (fun h => absurd (show BX < w.heap.size from h) (by omega)) _⟩, ⟨hp_set_other (hp_drew HR2.out) (by omega) _ _⟩, ⟨by
                    have h := hp_set (hp_drew HX2.out) (j + 1) (.bool true)
                    rw [rowB_set _ (by omega), rowB_congr (fun j _ => soFar_step _ _ _ (by rw [HV.out, HB.out, HD.out]; rfl) j)] at h
                    exact h⟩⟩
                  case measure => omega
                | false =>
                  rw [hc] at tc
                  have HD := Asd.mk hc
                  clear hc
                  go_upto_region 12 with fail
                  refine wp_any_frame (fun a A' W' => ∃ x54 x55 x56 x57 x58 x59 x60 x61 x62 x63 x64 x65 x66 x67 x68 x69 x70 x71 x72 x73 x74 x75 x76 x77, A' = ((((((((((((((((((((((((a).put (some 54) x54).put (some 55) x55).put (some 56) x56).put (some 57) x57).put (some 58) x58).put (some 59) x59).put (some 60) x60).put (some 61) x61).put (some 62) x62).put (some 63) x63).put (some 64) x64).put (some 65) x65).put (some 66) x66).put (some 67) x67).put (some 68) x68).put (some 69) x69).put (some 70) x70).put (some 71) x71).put (some 72) x72).put (some 73) x73).put (some 74) x74).put (some 75) x75).put (some 76) x76).put (some 77) x77 ∧ W' = (wr.drew).setCell ⟨BX, (j + 1), none⟩ (.bool false)) (fun K A hA hK => ?_) ?_
                  · have sA : A.tmps.size = 84 := by rw [hA]; rfl
                    have e0_A : A.eval (.tmp 0) = .slice (some ⟨ga, 0, none⟩) L.length c := by rw [hA]; rfl
                    have e1_A : A.eval (.tmp 1) = .string s := by rw [hA]; rfl
                    have e5_A : A.eval (.tmp 5) = .slice (some ⟨g, 0, none⟩) N N := by rw [hA]; rfl
                    have e6_A : A.eval (.tmp 6) = .int .i64 (p : Int) := by rw [hA]; rfl
                    have e7_A : A.eval (.tmp 7) = .slice (some ⟨BX, 0, none⟩) N N := by rw [hA]; rfl
                    have e8_A : A.eval (.tmp 8) = .int .i64 ((j + 1 : Nat) : Int) := by rw [hA]; rfl
                    clear hA
                    refine wp_region_still_tail 24 (by kernel_rfl) (by kernel_rfl) ?_
                    simp only [List.take_succ_cons, List.take_zero, List.drop_succ_cons, List.drop_zero]
                    refine st_val (.slice (some ⟨BX, 0, none⟩) N N) (wants_no rfl) (still_mv e7_A _) (fun B54 hB54 => ?_)
                    replace hB54 : B54 = A.put (some 54) (.slice (some ⟨BX, 0, none⟩) N N) := hB54
                    have sB54 : B54.tmps.size = 84 := by rw [hB54, sz_put2]; exact sA
                    have e8_B54 : B54.eval (.tmp 8) = .int .i64 ((j + 1 : Nat) : Int) := by rw [hB54, ev_ne2 _ _ _ _ (by decide)]; exact e8_A
                    have e5_B54 : B54.eval (.tmp 5) = .slice (some ⟨g, 0, none⟩) N N := by rw [hB54, ev_ne2 _ _ _ _ (by decide)]; exact e5_A
                    have e6_B54 : B54.eval (.tmp 6) = .int .i64 (p : Int) := by rw [hB54, ev_ne2 _ _ _ _ (by decide)]; exact e6_A
                    have e0_B54 : B54.eval (.tmp 0) = .slice (some ⟨ga, 0, none⟩) L.length c := by rw [hB54, ev_ne2 _ _ _ _ (by decide)]; exact e0_A
                    have e1_B54 : B54.eval (.tmp 1) = .string s := by rw [hB54, ev_ne2 _ _ _ _ (by decide)]; exact e1_A
                    have e54_B54 : B54.eval (.tmp 54) = .slice (some ⟨BX, 0, none⟩) N N := by rw [hB54]; exact ev_same2 _ _ _ (by rw [sA]; decide)
                    clear e7_A e8_A e5_A e6_A e0_A e1_A
                    refine st_val (.int .i64 ((j + 1 : Nat) : Int)) (wants_no rfl) (still_mv e8_B54 _) (fun B55 hB55 => ?_)
                    replace hB55 : B55 = B54.put (some 55) (.int .i64 ((j + 1 : Nat) : Int)) := hB55
                    have sB55 : B55.tmps.size = 84 := by rw [hB55, sz_put2]; exact sB54
                    have e8_B55 : B55.eval (.tmp 8) = .int .i64 ((j + 1 : Nat) : Int) := by rw [hB55, ev_ne2 _ _ _ _ (by decide)]; exact e8_B54
                    have e5_B55 : B55.eval (.tmp 5) = .slice (some ⟨g, 0, none⟩) N N := by rw [hB55, ev_ne2 _ _ _ _ (by decide)]; exact e5_B54
                    have e6_B55 : B55.eval (.tmp 6) = .int .i64 (p : Int) := by rw [hB55, ev_ne2 _ _ _ _ (by decide)]; exact e6_B54
                    have e0_B55 : B55.eval (.tmp 0) = .slice (some ⟨ga, 0, none⟩) L.length c := by rw [hB55, ev_ne2 _ _ _ _ (by decide)]; exact e0_B54
                    have e1_B55 : B55.eval (.tmp 1) = .string s := by rw [hB55, ev_ne2 _ _ _ _ (by decide)]; exact e1_B54
                    have e54_B55 : B55.eval (.tmp 54) = .slice (some ⟨BX, 0, none⟩) N N := by rw [hB55, ev_ne2 _ _ _ _ (by decide)]; exact e54_B54
                    have e55_B55 : B55.eval (.tmp 55) = .int .i64 ((j + 1 : Nat) : Int) := by rw [hB55]; exact ev_same2 _ _ _ (by rw [sB54]; decide)
                    clear e8_B54 e5_B54 e6_B54 e0_B54 e1_B54 e54_B54
                    refine st_val (.int .i64 ((j + 1 : Nat) : Int)) (wants_no rfl) (still_mv e8_B55 _) (fun B56 hB56 => ?_)
                    replace hB56 : B56 = B55.put (some 56) (.int .i64 ((j + 1 : Nat) : Int)) := hB56
                    have sB56 : B56.tmps.size = 84 := by rw [hB56, sz_put2]; exact sB55
                    have e8_B56 : B56.eval (.tmp 8) = .int .i64 ((j + 1 : Nat) : Int) := by rw [hB56, ev_ne2 _ _ _ _ (by decide)]; exact e8_B55
                    have e5_B56 : B56.eval (.tmp 5) = .slice (some ⟨g, 0, none⟩) N N := by rw [hB56, ev_ne2 _ _ _ _ (by decide)]; exact e5_B55
                    have e6_B56 : B56.eval (.tmp 6) = .int .i64 (p : Int) := by rw [hB56, ev_ne2 _ _ _ _ (by decide)]; exact e6_B55
                    have e0_B56 : B56.eval (.tmp 0) = .slice (some ⟨ga, 0, none⟩) L.length c := by rw [hB56, ev_ne2 _ _ _ _ (by decide)]; exact e0_B55
                    have e1_B56 : B56.eval (.tmp 1) = .string s := by rw [hB56, ev_ne2 _ _ _ _ (by decide)]; exact e1_B55
                    have e54_B56 : B56.eval (.tmp 54) = .slice (some ⟨BX, 0, none⟩) N N := by rw [hB56, ev_ne2 _ _ _ _ (by decide)]; exact e54_B55
                    have e55_B56 : B56.eval (.tmp 55) = .int .i64 ((j + 1 : Nat) : Int) := by rw [hB56, ev_ne2 _ _ _ _ (by decide)]; exact e55_B55
                    have e56_B56 : B56.eval (.tmp 56) = .int .i64 ((j + 1 : Nat) : Int) := by rw [hB56]; exact ev_same2 _ _ _ (by rw [sB55]; decide)
                    clear e8_B55 e5_B55 e6_B55 e0_B55 e1_B55 e54_B55 e55_B55
                    refine st_val (.bool true) (wants_no rfl) (by simp only [execOp, e56_B56]; go_simp) (fun B57 hB57 => ?_)
                    replace hB57 : B57 = B56.put (some 57) (.bool true) := hB57
                    have sB57 : B57.tmps.size = 84 := by rw [hB57, sz_put2]; exact sB56
                    have e8_B57 : B57.eval (.tmp 8) = .int .i64 ((j + 1 : Nat) : Int) := by rw [hB57, ev_ne2 _ _ _ _ (by decide)]; exact e8_B56
                    have e5_B57 : B57.eval (.tmp 5) = .slice (some ⟨g, 0, none⟩) N N := by rw [hB57, ev_ne2 _ _ _ _ (by decide)]; exact e5_B56
                    have e6_B57 : B57.eval (.tmp 6) = .int .i64 (p : Int) := by rw [hB57, ev_ne2 _ _ _ _ (by decide)]; exact e6_B56
                    have e0_B57 : B57.eval (.tmp 0) = .slice (some ⟨ga, 0, none⟩) L.length c := by rw [hB57, ev_ne2 _ _ _ _ (by decide)]; exact e0_B56
                    have e1_B57 : B57.eval (.tmp 1) = .string s := by rw [hB57, ev_ne2 _ _ _ _ (by decide)]; exact e1_B56
                    have e54_B57 : B57.eval (.tmp 54) = .slice (some ⟨BX, 0, none⟩) N N := by rw [hB57, ev_ne2 _ _ _ _ (by decide)]; exact e54_B56
                    have e55_B57 : B57.eval (.tmp 55) = .int .i64 ((j + 1 : Nat) : Int) := by rw [hB57, ev_ne2 _ _ _ _ (by decide)]; exact e55_B56
                    have e57_B57 : B57.eval (.tmp 57) = .bool true := by rw [hB57]; exact ev_same2 _ _ _ (by rw [sB56]; decide)
                    clear e8_B56 e5_B56 e6_B56 e0_B56 e1_B56 e54_B56 e55_B56 e56_B56
                    refine st_val (.bool true) (wants_no rfl) (still_mv e57_B57 _) (fun B58 hB58 => ?_)
                    replace hB58 : B58 = B57.put (some 58) (.bool true) := hB58
                    have sB58 : B58.tmps.size = 84 := by rw [hB58, sz_put2]; exact sB57
                    have e8_B58 : B58.eval (.tmp 8) = .int .i64 ((j + 1 : Nat) : Int) := by rw [hB58, ev_ne2 _ _ _ _ (by decide)]; exact e8_B57
                    have e5_B58 : B58.eval (.tmp 5) = .slice (some ⟨g, 0, none⟩) N N := by rw [hB58, ev_ne2 _ _ _ _ (by decide)]; exact e5_B57
                    have e6_B58 : B58.eval (.tmp 6) = .int .i64 (p : Int) := by rw [hB58, ev_ne2 _ _ _ _ (by decide)]; exact e6_B57
                    have e0_B58 : B58.eval (.tmp 0) = .slice (some ⟨ga, 0, none⟩) L.length c := by rw [hB58, ev_ne2 _ _ _ _ (by decide)]; exact e0_B57
                    have e1_B58 : B58.eval (.tmp 1) = .string s := by rw [hB58, ev_ne2 _ _ _ _ (by decide)]; exact e1_B57
                    have e54_B58 : B58.eval (.tmp 54) = .slice (some ⟨BX, 0, none⟩) N N := by rw [hB58, ev_ne2 _ _ _ _ (by decide)]; exact e54_B57
                    have e55_B58 : B58.eval (.tmp 55) = .int .i64 ((j + 1 : Nat) : Int) := by rw [hB58, ev_ne2 _ _ _ _ (by decide)]; exact e55_B57
                    have e58_B58 : B58.eval (.tmp 58) = .bool true := by rw [hB58]; exact ev_same2 _ _ _ (by rw [sB57]; decide)
                    clear e8_B57 e5_B57 e6_B57 e0_B57 e1_B57 e54_B57 e55_B57 e57_B57
                    refine st_val (.slice (some ⟨g, 0, none⟩) N N) ((wants_at (j := 4) (want := true) rfl (yield_at (t := 58) rfl rfl (by rw [sB58]; decide) e58_B58)).trans rfl) (still_mv e5_B58 _) (fun B59 hB59 => ?_)
                    replace hB59 : B59 = B58.put (some 59) (.slice (some ⟨g, 0, none⟩) N N) := hB59
                    have sB59 : B59.tmps.size = 84 := by rw [hB59, sz_put2]; exact sB58
                    have e8_B59 : B59.eval (.tmp 8) = .int .i64 ((j + 1 : Nat) : Int) := by rw [hB59, ev_ne2 _ _ _ _ (by decide)]; exact e8_B58
                    have e6_B59 : B59.eval (.tmp 6) = .int .i64 (p : Int) := by rw [hB59, ev_ne2 _ _ _ _ (by decide)]; exact e6_B58
                    have e0_B59 : B59.eval (.tmp 0) = .slice (some ⟨ga, 0, none⟩) L.length c := by rw [hB59, ev_ne2 _ _ _ _ (by decide)]; exact e0_B58
                    have e1_B59 : B59.eval (.tmp 1) = .string s := by rw [hB59, ev_ne2 _ _ _ _ (by decide)]; exact e1_B58
                    have e54_B59 : B59.eval (.tmp 54) = .slice (some ⟨BX, 0, none⟩) N N := by rw [hB59, ev_ne2 _ _ _ _ (by decide)]; exact e54_B58
                    have e55_B59 : B59.eval (.tmp 55) = .int .i64 ((j + 1 : Nat) : Int) := by rw [hB59, ev_ne2 _ _ _ _ (by decide)]; exact e55_B58
                    have e58_B59 : B59.eval (.tmp 58) = .bool true := by rw [hB59, ev_ne2 _ _ _ _ (by decide)]; exact e58_B58
                    have e59_B59 : B59.eval (.tmp 59) = .slice (some ⟨g, 0, none⟩) N N := by rw [hB59]; exact ev_same2 _ _ _ (by rw [sB58]; decide)
                    clear e8_B58 e5_B58 e6_B58 e0_B58 e1_B58 e54_B58 e55_B58 e58_B58
                    refine st_val (.int .i64 ((j + 1 : Nat) : Int)) ((wants_at (j := 4) (want := true) rfl (yield_at (t := 58) rfl rfl (by rw [sB59]; decide) e58_B59)).trans rfl) (still_mv e8_B59 _) (fun B60 hB60 => ?_)
                    replace hB60 : B60 = B59.put (some 60) (.int .i64 ((j + 1 : Nat) : Int)) := hB60
                    have sB60 : B60.tmps.size = 84 := by rw [hB60, sz_put2]; exact sB59
                    have e8_B60 : B60.eval (.tmp 8) = .int .i64 ((j + 1 : Nat) : Int) := by rw [hB60, ev_ne2 _ _ _ _ (by decide)]; exact e8_B59
                    have e6_B60 : B60.eval (.tmp 6) = .int .i64 (p : Int) := by rw [hB60, ev_ne2 _ _ _ _ (by decide)]; exact e6_B59
                    have e0_B60 : B60.eval (.tmp 0) = .slice (some ⟨ga, 0, none⟩) L.length c := by rw [hB60, ev_ne2 _ _ _ _ (by decide)]; exact e0_B59
                    have e1_B60 : B60.eval (.tmp 1) = .string s := by rw [hB60, ev_ne2 _ _ _ _ (by decide)]; exact e1_B59
                    have e54_B60 : B60.eval (.tmp 54) = .slice (some ⟨BX, 0, none⟩) N N := by rw [hB60, ev_ne2 _ _ _ _ (by decide)]; exact e54_B59
                    have e55_B60 : B60.eval (.tmp 55) = .int .i64 ((j + 1 : Nat) : Int) := by rw [hB60, ev_ne2 _ _ _ _ (by decide)]; exact e55_B59
                    have e58_B60 : B60.eval (.tmp 58) = .bool true := by rw [hB60, ev_ne2 _ _ _ _ (by decide)]; exact e58_B59
                    have e59_B60 : B60.eval (.tmp 59) = .slice (some ⟨g, 0, none⟩) N N := by rw [hB60, ev_ne2 _ _ _ _ (by decide)]; exact e59_B59
                    have e60_B60 : B60.eval (.tmp 60) = .int .i64 ((j + 1 : Nat) : Int) := by rw [hB60]; exact ev_same2 _ _ _ (by rw [sB59]; decide)
                    clear e8_B59 e6_B59 e0_B59 e1_B59 e54_B59 e55_B59 e58_B59 e59_B59
                    refine st_val (.int .i64 (j : Int)) ((wants_at (j := 4) (want := true) rfl (yield_at (t := 58) rfl rfl (by rw [sB60]; decide) e58_B60)).trans rfl) (by simp only [execOp, e60_B60]; go_simp) (fun B61 hB61 => ?_)
                    replace hB61 : B61 = B60.put (some 61) (.int .i64 (j : Int)) := hB61
                    have sB61 : B61.tmps.size = 84 := by rw [hB61, sz_put2]; exact sB60
                    have e8_B61 : B61.eval (.tmp 8) = .int .i64 ((j + 1 : Nat) : Int) := by rw [hB61, ev_ne2 _ _ _ _ (by decide)]; exact e8_B60
                    have e6_B61 : B61.eval (.tmp 6) = .int .i64 (p : Int) := by rw [hB61, ev_ne2 _ _ _ _ (by decide)]; exact e6_B60
                    have e0_B61 : B61.eval (.tmp 0) = .slice (some ⟨ga, 0, none⟩) L.length c := by rw [hB61, ev_ne2 _ _ _ _ (by decide)]; exact e0_B60
                    have e1_B61 : B61.eval (.tmp 1) = .string s := by rw [hB61, ev_ne2 _ _ _ _ (by decide)]; exact e1_B60
                    have e54_B61 : B61.eval (.tmp 54) = .slice (some ⟨BX, 0, none⟩) N N := by rw [hB61, ev_ne2 _ _ _ _ (by decide)]; exact e54_B60
                    have e55_B61 : B61.eval (.tmp 55) = .int .i64 ((j + 1 : Nat) : Int) := by rw [hB61, ev_ne2 _ _ _ _ (by decide)]; exact e55_B60
                    have e58_B61 : B61.eval (.tmp 58) = .bool true := by rw [hB61, ev_ne2 _ _ _ _ (by decide)]; exact e58_B60
                    have e59_B61 : B61.eval (.tmp 59) = .slice (some ⟨g, 0, none⟩) N N := by rw [hB61, ev_ne2 _ _ _ _ (by decide)]; exact e59_B60
                    have e61_B61 : B61.eval (.tmp 61) = .int .i64 (j : Int) := by rw [hB61]; exact ev_same2 _ _ _ (by rw [sB60]; decide)
                    clear e8_B60 e6_B60 e0_B60 e1_B60 e54_B60 e55_B60 e58_B60 e59_B60 e60_B60
                    refine st_val (.pointer (some ⟨g, j, none⟩)) ((wants_at (j := 4) (want := true) rfl (yield_at (t := 58) rfl rfl (by rw [sB61]; decide) e58_B61)).trans rfl) (by simp only [execOp, e59_B61, e61_B61]; go_simp <;> (intro h; omega)) (fun B62 hB62 => ?_)
                    replace hB62 : B62 = B61.put (some 62) (.pointer (some ⟨g, j, none⟩)) := hB62
                    have sB62 : B62.tmps.size = 84 := by rw [hB62, sz_put2]; exact sB61
                    have e8_B62 : B62.eval (.tmp 8) = .int .i64 ((j + 1 : Nat) : Int) := by rw [hB62, ev_ne2 _ _ _ _ (by decide)]; exact e8_B61
                    have e6_B62 : B62.eval (.tmp 6) = .int .i64 (p : Int) := by rw [hB62, ev_ne2 _ _ _ _ (by decide)]; exact e6_B61
                    have e0_B62 : B62.eval (.tmp 0) = .slice (some ⟨ga, 0, none⟩) L.length c := by rw [hB62, ev_ne2 _ _ _ _ (by decide)]; exact e0_B61
                    have e1_B62 : B62.eval (.tmp 1) = .string s := by rw [hB62, ev_ne2 _ _ _ _ (by decide)]; exact e1_B61
                    have e54_B62 : B62.eval (.tmp 54) = .slice (some ⟨BX, 0, none⟩) N N := by rw [hB62, ev_ne2 _ _ _ _ (by decide)]; exact e54_B61
                    have e55_B62 : B62.eval (.tmp 55) = .int .i64 ((j + 1 : Nat) : Int) := by rw [hB62, ev_ne2 _ _ _ _ (by decide)]; exact e55_B61
                    have e58_B62 : B62.eval (.tmp 58) = .bool true := by rw [hB62, ev_ne2 _ _ _ _ (by decide)]; exact e58_B61
                    have e62_B62 : B62.eval (.tmp 62) = .pointer (some ⟨g, j, none⟩) := by rw [hB62]; exact ev_same2 _ _ _ (by rw [sB61]; decide)
                    clear e8_B61 e6_B61 e0_B61 e1_B61 e54_B61 e55_B61 e58_B61 e59_B61 e61_B61
                    refine st_val (.bool true) ((wants_at (j := 4) (want := true) rfl (yield_at (t := 58) rfl rfl (by rw [sB62]; decide) e58_B62)).trans rfl) (by simp only [execOp, e62_B62]; go_simp) (fun B63 hB63 => ?_)
                    replace hB63 : B63 = B62.put (some 63) (.bool true) := hB63
                    have sB63 : B63.tmps.size = 84 := by rw [hB63, sz_put2]; exact sB62
                    have e8_B63 : B63.eval (.tmp 8) = .int .i64 ((j + 1 : Nat) : Int) := by rw [hB63, ev_ne2 _ _ _ _ (by decide)]; exact e8_B62
                    have e6_B63 : B63.eval (.tmp 6) = .int .i64 (p : Int) := by rw [hB63, ev_ne2 _ _ _ _ (by decide)]; exact e6_B62
                    have e0_B63 : B63.eval (.tmp 0) = .slice (some ⟨ga, 0, none⟩) L.length c := by rw [hB63, ev_ne2 _ _ _ _ (by decide)]; exact e0_B62
                    have e1_B63 : B63.eval (.tmp 1) = .string s := by rw [hB63, ev_ne2 _ _ _ _ (by decide)]; exact e1_B62
                    have e54_B63 : B63.eval (.tmp 54) = .slice (some ⟨BX, 0, none⟩) N N := by rw [hB63, ev_ne2 _ _ _ _ (by decide)]; exact e54_B62
                    have e55_B63 : B63.eval (.tmp 55) = .int .i64 ((j + 1 : Nat) : Int) := by rw [hB63, ev_ne2 _ _ _ _ (by decide)]; exact e55_B62
                    have e58_B63 : B63.eval (.tmp 58) = .bool true := by rw [hB63, ev_ne2 _ _ _ _ (by decide)]; exact e58_B62
                    have e63_B63 : B63.eval (.tmp 63) = .bool true := by rw [hB63]; exact ev_same2 _ _ _ (by rw [sB62]; decide)
                    clear e8_B62 e6_B62 e0_B62 e1_B62 e54_B62 e55_B62 e58_B62 e62_B62
                    refine st_val (.bool true) (wants_no rfl) (by simp only [execOp, e58_B63, e63_B63]; go_simp) (fun B64 hB64 => ?_)
                    replace hB64 : B64 = B63.put (some 64) (.bool true) := hB64
                    have sB64 : B64.tmps.size = 84 := by rw [hB64, sz_put2]; exact sB63
                    have e8_B64 : B64.eval (.tmp 8) = .int .i64 ((j + 1 : Nat) : Int) := by rw [hB64, ev_ne2 _ _ _ _ (by decide)]; exact e8_B63
                    have e6_B64 : B64.eval (.tmp 6) = .int .i64 (p : Int) := by rw [hB64, ev_ne2 _ _ _ _ (by decide)]; exact e6_B63
                    have e0_B64 : B64.eval (.tmp 0) = .slice (some ⟨ga, 0, none⟩) L.length c := by rw [hB64, ev_ne2 _ _ _ _ (by decide)]; exact e0_B63
                    have e1_B64 : B64.eval (.tmp 1) = .string s := by rw [hB64, ev_ne2 _ _ _ _ (by decide)]; exact e1_B63
                    have e54_B64 : B64.eval (.tmp 54) = .slice (some ⟨BX, 0, none⟩) N N := by rw [hB64, ev_ne2 _ _ _ _ (by decide)]; exact e54_B63
                    have e55_B64 : B64.eval (.tmp 55) = .int .i64 ((j + 1 : Nat) : Int) := by rw [hB64, ev_ne2 _ _ _ _ (by decide)]; exact e55_B63
                    have e64_B64 : B64.eval (.tmp 64) = .bool true := by rw [hB64]; exact ev_same2 _ _ _ (by rw [sB63]; decide)
                    clear e8_B63 e6_B63 e0_B63 e1_B63 e54_B63 e55_B63 e58_B63 e63_B63
                    refine st_val (.bool true) (wants_no rfl) (still_mv e64_B64 _) (fun B65 hB65 => ?_)
                    replace hB65 : B65 = B64.put (some 65) (.bool true) := hB65
                    have sB65 : B65.tmps.size = 84 := by rw [hB65, sz_put2]; exact sB64
                    have e8_B65 : B65.eval (.tmp 8) = .int .i64 ((j + 1 : Nat) : Int) := by rw [hB65, ev_ne2 _ _ _ _ (by decide)]; exact e8_B64
                    have e6_B65 : B65.eval (.tmp 6) = .int .i64 (p : Int) := by rw [hB65, ev_ne2 _ _ _ _ (by decide)]; exact e6_B64
                    have e0_B65 : B65.eval (.tmp 0) = .slice (some ⟨ga, 0, none⟩) L.length c := by rw [hB65, ev_ne2 _ _ _ _ (by decide)]; exact e0_B64
                    have e1_B65 : B65.eval (.tmp 1) = .string s := by rw [hB65, ev_ne2 _ _ _ _ (by decide)]; exact e1_B64
                    have e54_B65 : B65.eval (.tmp 54) = .slice (some ⟨BX, 0, none⟩) N N := by rw [hB65, ev_ne2 _ _ _ _ (by decide)]; exact e54_B64
                    have e55_B65 : B65.eval (.tmp 55) = .int .i64 ((j + 1 : Nat) : Int) := by rw [hB65, ev_ne2 _ _ _ _ (by decide)]; exact e55_B64
                    have e65_B65 : B65.eval (.tmp 65) = .bool true := by rw [hB65]; exact ev_same2 _ _ _ (by rw [sB64]; decide)
                    clear e8_B64 e6_B64 e0_B64 e1_B64 e54_B64 e55_B64 e64_B64
                    refine st_val (.slice (some ⟨ga, 0, none⟩) L.length c) ((wants_at (j := 11) (want := true) rfl (yield_at (t := 65) rfl rfl (by rw [sB65]; decide) e65_B65)).trans rfl) (still_mv e0_B65 _) (fun B66 hB66 => ?_)
                    replace hB66 : B66 = B65.put (some 66) (.slice (some ⟨ga, 0, none⟩) L.length c) := hB66
                    have sB66 : B66.tmps.size = 84 := by rw [hB66, sz_put2]; exact sB65
                    have e8_B66 : B66.eval (.tmp 8) = .int .i64 ((j + 1 : Nat) : Int) := by rw [hB66, ev_ne2 _ _ _ _ (by decide)]; exact e8_B65
                    have e6_B66 : B66.eval (.tmp 6) = .int .i64 (p : Int) := by rw [hB66, ev_ne2 _ _ _ _ (by decide)]; exact e6_B65
                    have e1_B66 : B66.eval (.tmp 1) = .string s := by rw [hB66, ev_ne2 _ _ _ _ (by decide)]; exact e1_B65
                    have e54_B66 : B66.eval (.tmp 54) = .slice (some ⟨BX, 0, none⟩) N N := by rw [hB66, ev_ne2 _ _ _ _ (by decide)]; exact e54_B65
                    have e55_B66 : B66.eval (.tmp 55) = .int .i64 ((j + 1 : Nat) : Int) := by rw [hB66, ev_ne2 _ _ _ _ (by decide)]; exact e55_B65
                    have e65_B66 : B66.eval (.tmp 65) = .bool true := by rw [hB66, ev_ne2 _ _ _ _ (by decide)]; exact e65_B65
                    have e66_B66 : B66.eval (.tmp 66) = .slice (some ⟨ga, 0, none⟩) L.length c := by rw [hB66]; exact ev_same2 _ _ _ (by rw [sB65]; decide)
                    clear e8_B65 e6_B65 e0_B65 e1_B65 e54_B65 e55_B65 e65_B65
                    refine st_val (.int .i64 (p : Int)) ((wants_at (j := 11) (want := true) rfl (yield_at (t := 65) rfl rfl (by rw [sB66]; decide) e65_B66)).trans rfl) (still_mv e6_B66 _) (fun B67 hB67 => ?_)
                    replace hB67 : B67 = B66.put (some 67) (.int .i64 (p : Int)) := hB67
                    have sB67 : B67.tmps.size = 84 := by rw [hB67, sz_put2]; exact sB66
                    have e8_B67 : B67.eval (.tmp 8) = .int .i64 ((j + 1 : Nat) : Int) := by rw [hB67, ev_ne2 _ _ _ _ (by decide)]; exact e8_B66
                    have e1_B67 : B67.eval (.tmp 1) = .string s := by rw [hB67, ev_ne2 _ _ _ _ (by decide)]; exact e1_B66
                    have e54_B67 : B67.eval (.tmp 54) = .slice (some ⟨BX, 0, none⟩) N N := by rw [hB67, ev_ne2 _ _ _ _ (by decide)]; exact e54_B66
                    have e55_B67 : B67.eval (.tmp 55) = .int .i64 ((j + 1 : Nat) : Int) := by rw [hB67, ev_ne2 _ _ _ _ (by decide)]; exact e55_B66
                    have e65_B67 : B67.eval (.tmp 65) = .bool true := by rw [hB67, ev_ne2 _ _ _ _ (by decide)]; exact e65_B66
                    have e66_B67 : B67.eval (.tmp 66) = .slice (some ⟨ga, 0, none⟩) L.length c := by rw [hB67, ev_ne2 _ _ _ _ (by decide)]; exact e66_B66
                    have e67_B67 : B67.eval (.tmp 67) = .int .i64 (p : Int) := by rw [hB67]; exact ev_same2 _ _ _ (by rw [sB66]; decide)
                    clear e8_B66 e6_B66 e1_B66 e54_B66 e55_B66 e65_B66 e66_B66
                    refine st_val (.string s) ((wants_at (j := 11) (want := true) rfl (yield_at (t := 65) rfl rfl (by rw [sB67]; decide) e65_B67)).trans rfl) (still_mv e1_B67 _) (fun B68 hB68 => ?_)
                    replace hB68 : B68 = B67.put (some 68) (.string s) := hB68
                    have sB68 : B68.tmps.size = 84 := by rw [hB68, sz_put2]; exact sB67
                    have e8_B68 : B68.eval (.tmp 8) = .int .i64 ((j + 1 : Nat) : Int) := by rw [hB68, ev_ne2 _ _ _ _ (by decide)]; exact e8_B67
                    have e54_B68 : B68.eval (.tmp 54) = .slice (some ⟨BX, 0, none⟩) N N := by rw [hB68, ev_ne2 _ _ _ _ (by decide)]; exact e54_B67
                    have e55_B68 : B68.eval (.tmp 55) = .int .i64 ((j + 1 : Nat) : Int) := by rw [hB68, ev_ne2 _ _ _ _ (by decide)]; exact e55_B67
                    have e65_B68 : B68.eval (.tmp 65) = .bool true := by rw [hB68, ev_ne2 _ _ _ _ (by decide)]; exact e65_B67
                    have e66_B68 : B68.eval (.tmp 66) = .slice (some ⟨ga, 0, none⟩) L.length c := by rw [hB68, ev_ne2 _ _ _ _ (by decide)]; exact e66_B67
                    have e67_B68 : B68.eval (.tmp 67) = .int .i64 (p : Int) := by rw [hB68, ev_ne2 _ _ _ _ (by decide)]; exact e67_B67
                    have e68_B68 : B68.eval (.tmp 68) = .string s := by rw [hB68]; exact ev_same2 _ _ _ (by rw [sB67]; decide)
                    clear e8_B67 e1_B67 e54_B67 e55_B67 e65_B67 e66_B67 e67_B67
                    refine st_val (.int .i64 ((j + 1 : Nat) : Int)) ((wants_at (j := 11) (want := true) rfl (yield_at (t := 65) rfl rfl (by rw [sB68]; decide) e65_B68)).trans rfl) (still_mv e8_B68 _) (fun B69 hB69 => ?_)
                    replace hB69 : B69 = B68.put (some 69) (.int .i64 ((j + 1 : Nat) : Int)) := hB69
                    have sB69 : B69.tmps.size = 84 := by rw [hB69, sz_put2]; exact sB68
                    have e54_B69 : B69.eval (.tmp 54) = .slice (some ⟨BX, 0, none⟩) N N := by rw [hB69, ev_ne2 _ _ _ _ (by decide)]; exact e54_B68
                    have e55_B69 : B69.eval (.tmp 55) = .int .i64 ((j + 1 : Nat) : Int) := by rw [hB69, ev_ne2 _ _ _ _ (by decide)]; exact e55_B68
                    have e65_B69 : B69.eval (.tmp 65) = .bool true := by rw [hB69, ev_ne2 _ _ _ _ (by decide)]; exact e65_B68
                    have e66_B69 : B69.eval (.tmp 66) = .slice (some ⟨ga, 0, none⟩) L.length c := by rw [hB69, ev_ne2 _ _ _ _ (by decide)]; exact e66_B68
                    have e67_B69 : B69.eval (.tmp 67) = .int .i64 (p : Int) := by rw [hB69, ev_ne2 _ _ _ _ (by decide)]; exact e67_B68
                    have e68_B69 : B69.eval (.tmp 68) = .string s := by rw [hB69, ev_ne2 _ _ _ _ (by decide)]; exact e68_B68
                    have e69_B69 : B69.eval (.tmp 69) = .int .i64 ((j + 1 : Nat) : Int) := by rw [hB69]; exact ev_same2 _ _ _ (by rw [sB68]; decide)
                    clear e8_B68 e54_B68 e55_B68 e65_B68 e66_B68 e67_B68 e68_B68
                    refine st_val (.int .i64 (j : Int)) ((wants_at (j := 11) (want := true) rfl (yield_at (t := 65) rfl rfl (by rw [sB69]; decide) e65_B69)).trans rfl) (by simp only [execOp, e69_B69]; go_simp) (fun B70 hB70 => ?_)
                    replace hB70 : B70 = B69.put (some 70) (.int .i64 (j : Int)) := hB70
                    have sB70 : B70.tmps.size = 84 := by rw [hB70, sz_put2]; exact sB69
                    have e54_B70 : B70.eval (.tmp 54) = .slice (some ⟨BX, 0, none⟩) N N := by rw [hB70, ev_ne2 _ _ _ _ (by decide)]; exact e54_B69
                    have e55_B70 : B70.eval (.tmp 55) = .int .i64 ((j + 1 : Nat) : Int) := by rw [hB70, ev_ne2 _ _ _ _ (by decide)]; exact e55_B69
                    have e65_B70 : B70.eval (.tmp 65) = .bool true := by rw [hB70, ev_ne2 _ _ _ _ (by decide)]; exact e65_B69
                    have e66_B70 : B70.eval (.tmp 66) = .slice (some ⟨ga, 0, none⟩) L.length c := by rw [hB70, ev_ne2 _ _ _ _ (by decide)]; exact e66_B69
                    have e67_B70 : B70.eval (.tmp 67) = .int .i64 (p : Int) := by rw [hB70, ev_ne2 _ _ _ _ (by decide)]; exact e67_B69
                    have e68_B70 : B70.eval (.tmp 68) = .string s := by rw [hB70, ev_ne2 _ _ _ _ (by decide)]; exact e68_B69
                    have e70_B70 : B70.eval (.tmp 70) = .int .i64 (j : Int) := by rw [hB70]; exact ev_same2 _ _ _ (by rw [sB69]; decide)
                    clear e54_B69 e55_B69 e65_B69 e66_B69 e67_B69 e68_B69 e69_B69
                    refine st_val (.int .u8 (s[j].toNat : Int)) ((wants_at (j := 11) (want := true) rfl (yield_at (t := 65) rfl rfl (by rw [sB70]; decide) e65_B70)).trans rfl) (by simp only [execOp, e68_B70, e70_B70]; go_simp) (fun B71 hB71 => ?_)
                    replace hB71 : B71 = B70.put (some 71) (.int .u8 (s[j].toNat : Int)) := hB71
                    have sB71 : B71.tmps.size = 84 := by rw [hB71, sz_put2]; exact sB70
                    have e54_B71 : B71.eval (.tmp 54) = .slice (some ⟨BX, 0, none⟩) N N := by rw [hB71, ev_ne2 _ _ _ _ (by decide)]; exact e54_B70
                    have e55_B71 : B71.eval (.tmp 55) = .int .i64 ((j + 1 : Nat) : Int) := by rw [hB71, ev_ne2 _ _ _ _ (by decide)]; exact e55_B70
                    have e65_B71 : B71.eval (.tmp 65) = .bool true := by rw [hB71, ev_ne2 _ _ _ _ (by decide)]; exact e65_B70
                    have e66_B71 : B71.eval (.tmp 66) = .slice (some ⟨ga, 0, none⟩) L.length c := by rw [hB71, ev_ne2 _ _ _ _ (by decide)]; exact e66_B70
                    have e67_B71 : B71.eval (.tmp 67) = .int .i64 (p : Int) := by rw [hB71, ev_ne2 _ _ _ _ (by decide)]; exact e67_B70
                    have e71_B71 : B71.eval (.tmp 71) = .int .u8 (s[j].toNat : Int) := by rw [hB71]; exact ev_same2 _ _ _ (by rw [sB70]; decide)
                    clear e54_B70 e55_B70 e65_B70 e66_B70 e67_B70 e68_B70 e70_B70
                    refine st_val (.pointer (some ⟨ga, p * 257, none⟩)) ((wants_at (j := 11) (want := true) rfl (yield_at (t := 65) rfl rfl (by rw [sB71]; decide) e65_B71)).trans rfl) (by simp only [execOp, e66_B71, e67_B71]; go_simp <;> (intro h; omega)) (fun B72 hB72 => ?_)
                    replace hB72 : B72 = B71.put (some 72) (.pointer (some ⟨ga, p * 257, none⟩)) := hB72
                    have sB72 : B72.tmps.size = 84 := by rw [hB72, sz_put2]; exact sB71
                    have e54_B72 : B72.eval (.tmp 54) = .slice (some ⟨BX, 0, none⟩) N N := by rw [hB72, ev_ne2 _ _ _ _ (by decide)]; exact e54_B71
                    have e55_B72 : B72.eval (.tmp 55) = .int .i64 ((j + 1 : Nat) : Int) := by rw [hB72, ev_ne2 _ _ _ _ (by decide)]; exact e55_B71
                    have e65_B72 : B72.eval (.tmp 65) = .bool true := by rw [hB72, ev_ne2 _ _ _ _ (by decide)]; exact e65_B71
                    have e71_B72 : B72.eval (.tmp 71) = .int .u8 (s[j].toNat : Int) := by rw [hB72, ev_ne2 _ _ _ _ (by decide)]; exact e71_B71
                    have e72_B72 : B72.eval (.tmp 72) = .pointer (some ⟨ga, p * 257, none⟩) := by rw [hB72]; exact ev_same2 _ _ _ (by rw [sB71]; decide)
                    clear e54_B71 e55_B71 e65_B71 e66_B71 e67_B71 e71_B71
                    refine st_val (.pointer (some ⟨ga, p * 257 + 1, none⟩)) ((wants_at (j := 11) (want := true) rfl (yield_at (t := 65) rfl rfl (by rw [sB72]; decide) e65_B72)).trans rfl) (by simp only [execOp, e72_B72]; go_simp) (fun B73 hB73 => ?_)
                    replace hB73 : B73 = B72.put (some 73) (.pointer (some ⟨ga, p * 257 + 1, none⟩)) := hB73
                    have sB73 : B73.tmps.size = 84 := by rw [hB73, sz_put2]; exact sB72
                    have e54_B73 : B73.eval (.tmp 54) = .slice (some ⟨BX, 0, none⟩) N N := by rw [hB73, ev_ne2 _ _ _ _ (by decide)]; exact e54_B72
                    have e55_B73 : B73.eval (.tmp 55) = .int .i64 ((j + 1 : Nat) : Int) := by rw [hB73, ev_ne2 _ _ _ _ (by decide)]; exact e55_B72
                    have e65_B73 : B73.eval (.tmp 65) = .bool true := by rw [hB73, ev_ne2 _ _ _ _ (by decide)]; exact e65_B72
                    have e71_B73 : B73.eval (.tmp 71) = .int .u8 (s[j].toNat : Int) := by rw [hB73, ev_ne2 _ _ _ _ (by decide)]; exact e71_B72
                    have e73_B73 : B73.eval (.tmp 73) = .pointer (some ⟨ga, p * 257 + 1, none⟩) := by rw [hB73]; exact ev_same2 _ _ _ (by rw [sB72]; decide)
                    clear e54_B72 e55_B72 e65_B72 e71_B72 e72_B72
                    refine st_val (.pointer (some ⟨ga, p * 257 + 1 + s[j].toNat, none⟩)) ((wants_at (j := 11) (want := true) rfl (yield_at (t := 65) rfl rfl (by rw [sB73]; decide) e65_B73)).trans rfl) (by simp only [execOp, e73_B73, e71_B73]; go_simp <;> (intro h; omega)) (fun B74 hB74 => ?_)
                    replace hB74 : B74 = B73.put (some 74) (.pointer (some ⟨ga, p * 257 + 1 + s[j].toNat, none⟩)) := hB74
                    have sB74 : B74.tmps.size = 84 := by rw [hB74, sz_put2]; exact sB73
                    have e54_B74 : B74.eval (.tmp 54) = .slice (some ⟨BX, 0, none⟩) N N := by rw [hB74, ev_ne2 _ _ _ _ (by decide)]; exact e54_B73
                    have e55_B74 : B74.eval (.tmp 55) = .int .i64 ((j + 1 : Nat) : Int) := by rw [hB74, ev_ne2 _ _ _ _ (by decide)]; exact e55_B73
                    have e65_B74 : B74.eval (.tmp 65) = .bool true := by rw [hB74, ev_ne2 _ _ _ _ (by decide)]; exact e65_B73
                    have e74_B74 : B74.eval (.tmp 74) = .pointer (some ⟨ga, p * 257 + 1 + s[j].toNat, none⟩) := by rw [hB74]; exact ev_same2 _ _ _ (by rw [sB73]; decide)
                    clear e54_B73 e55_B73 e65_B73 e71_B73 e73_B73
                    refine st_val (.bool false) ((wants_at (j := 11) (want := true) rfl (yield_at (t := 65) rfl rfl (by rw [sB74]; decide) e65_B74)).trans rfl) (by simp only [execOp, e74_B74]; go_simp) (fun B75 hB75 => ?_)
                    replace hB75 : B75 = B74.put (some 75) (.bool false) := hB75
                    have sB75 : B75.tmps.size = 84 := by rw [hB75, sz_put2]; exact sB74
                    have e54_B75 : B75.eval (.tmp 54) = .slice (some ⟨BX, 0, none⟩) N N := by rw [hB75, ev_ne2 _ _ _ _ (by decide)]; exact e54_B74
                    have e55_B75 : B75.eval (.tmp 55) = .int .i64 ((j + 1 : Nat) : Int) := by rw [hB75, ev_ne2 _ _ _ _ (by decide)]; exact e55_B74
                    have e65_B75 : B75.eval (.tmp 65) = .bool true := by rw [hB75, ev_ne2 _ _ _ _ (by decide)]; exact e65_B74
                    have e75_B75 : B75.eval (.tmp 75) = .bool false := by rw [hB75]; exact ev_same2 _ _ _ (by rw [sB74]; decide)
                    clear e54_B74 e55_B74 e65_B74 e74_B74
                    refine st_val (.bool false) (wants_no rfl) (by simp only [execOp, e65_B75, e75_B75]; go_simp) (fun B76 hB76 => ?_)
                    replace hB76 : B76 = B75.put (some 76) (.bool false) := hB76
                    have sB76 : B76.tmps.size = 84 := by rw [hB76, sz_put2]; exact sB75
                    have e54_B76 : B76.eval (.tmp 54) = .slice (some ⟨BX, 0, none⟩) N N := by rw [hB76, ev_ne2 _ _ _ _ (by decide)]; exact e54_B75
                    have e55_B76 : B76.eval (.tmp 55) = .int .i64 ((j + 1 : Nat) : Int) := by rw [hB76, ev_ne2 _ _ _ _ (by decide)]; exact e55_B75
                    have e76_B76 : B76.eval (.tmp 76) = .bool false := by rw [hB76]; exact ev_same2 _ _ _ (by rw [sB75]; decide)
                    clear e54_B75 e55_B75 e65_B75 e75_B75
                    refine st_val (.pointer (some ⟨BX, (j + 1), none⟩)) (wants_no rfl) (by simp only [execOp, e54_B76, e55_B76]; go_simp <;> (intro h; omega)) (fun B77 hB77 => ?_)
                    replace hB77 : B77 = B76.put (some 77) (.pointer (some ⟨BX, (j + 1), none⟩)) := hB77
                    have sB77 : B77.tmps.size = 84 := by rw [hB77, sz_put2]; exact sB76
                    have e76_B77 : B77.eval (.tmp 76) = .bool false := by rw [hB77, ev_ne2 _ _ _ _ (by decide)]; exact e76_B76
                    have e77_B77 : B77.eval (.tmp 77) = .pointer (some ⟨BX, (j + 1), none⟩) := by rw [hB77]; exact ev_same2 _ _ _ (by rw [sB76]; decide)
                    clear e54_B76 e55_B76 e76_B76
                    refine wpStill_nil ?_
                    refine wpList_store4 (.tmp 77) (.tmp 76) rfl rfl rfl BX (j + 1) _ false e77_B77 e76_B77 x0d xfd ?_
                    refine hK _ _ ⟨.slice (some ⟨BX, 0, none⟩) N N, .int .i64 ((j + 1 : Nat) : Int), .int .i64 ((j + 1 : Nat) : Int), .bool true, .bool true, .slice (some ⟨g, 0, none⟩) N N, .int .i64 ((j + 1 : Nat) : Int), .int .i64 (j : Int), .pointer (some ⟨g, j, none⟩), .bool true, .bool true, .bool true, .slice (some ⟨ga, 0, none⟩) L.length c, .int .i64 (p : Int), .string s, .int .i64 ((j + 1 : Nat) : Int), .int .i64 (j : Int), .int .u8 (s[j].toNat : Int), .pointer (some ⟨ga, p * 257, none⟩), .pointer (some ⟨ga, p * 257 + 1, none⟩), .pointer (some ⟨ga, p * 257 + 1 + s[j].toNat, none⟩), .bool false, .bool false, .pointer (some ⟨BX, (j + 1), none⟩), ?_, rfl⟩
                    rw [hB77, hB76, hB75, hB74, hB73, hB72, hB71, hB70, hB69, hB68, hB67, hB66, hB65, hB64, hB63, hB62, hB61, hB60, hB59, hB58, hB57, hB56, hB55, hB54]
                  rintro A' W' ⟨x54, x55, x56, x57, x58, x59, x60, x61, x62, x63, x64, x65, x66, x67, x68, x69, x70, x71, x72, x73, x74, x75, x76, x77, rfl, rfl⟩
                  simp only [Act.put, List.setIfInBounds_toArray, List.set_cons_zero, List.set_cons_succ]
                  go_wp2
                  go_roundg (s.size + 2 - (j + 1 + 1))
                  case rel => exact ⟨j + 1 + 1, by omega, by omega, by go_num, ⟨HC2.out.drew.setCell (fun h => absurd (show BX < w.heap.size from h) (by omega)) _⟩, ⟨hp_set_other (hp_drew HR2.out) (by omega) _ _⟩, ⟨by
                    have h := hp_set (hp_drew HX2.out) (j + 1) (.bool false)
                    rw [rowB_set _ (by omega), rowB_congr (fun j _ => soFar_step _ _ _ (by rw [HV.out, HB.out, HD.out]; rfl) j)] at h
                    exact h⟩⟩
                  case measure => omega
        · obtain rfl : k = N := by omega
          have HX3 := Asd.mk (show wr.heap[BX]? = some (.cells (rowB (pm L s (p + 1)) k) 4 (0, 0)) by
            rw [rowB_congr (f := pm L s (p + 1)) (g := soFar (pm L s (p + 1)) k) (fun j hj => by simp [soFar, hj])]; exact HX2.out)
          have k5 : ¬ (k : Int) ≤ (s.size : Int) := by omega
          clear ca ct hNN
          go_wp2
          go_roundg (L.length + 1 - (p + 1))
          case rel => exact ⟨p + 1, BX, by omega, by omega, rfl, rfl, HC2, ⟨hBw⟩, HX3⟩
          case measure => omega
    · obtain rfl : p = L.length := by omega
      have hNN := HN.out
      have cz : wr.cell? ⟨g, s.size, none⟩ = some (.bool (mt L (bl s))) := (cell_of_heap HR.out s.size).trans ((rowB_at _ (by omega)).trans (by rw [pm_end]))
      have k1 : (s.size : Int) < (N : Int) := by omega
      clear hmk
      go_wp2
      go_ret
      exact ⟨rfl, HC.out⟩
end Go.Proofs.YtgkifphfibcfdaaGreatDoor.G
