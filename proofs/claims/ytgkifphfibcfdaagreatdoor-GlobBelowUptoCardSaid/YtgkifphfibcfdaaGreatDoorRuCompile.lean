/- Compile: the walk. -/
import Derived.Test.YtgkifphfibcfdaaGreatDoorRu8
import Derived.Test.YtgkifphfibcfdaaGreatDoorRu5
import Derived.Test.YtgkifphfibcfdaaGreatDoorRu1
import Derived.Great.BuildSlice
import Derived.Deep.CutRange
import Derived.Deep.CutBlock
namespace Go.Proofs.YtgkifphfibcfdaaGreatDoor.G
open Go.RowKit Go.Proofs.YtgkifphfibcfdaaGreatDoor.B
set_option linter.unusedVariables false
theorem info66 : (Tryz.prog.info? 66).map (fun i => (i.zero, i.size, i.bytes)) = some (some (.agg Tryz.zeroCells66), 257, 257) := by kernel_rfl
theorem fill66 (b : Bool) (T : Nat → Bool) (Z : Array Value) (hZ : Z.size = 257) : Instr.fill (fun i => some (i * 257, 257)) Z [(0, .agg (cellsOf b T))] = some (cellsOf b T) := by
  have := Great.fill_whole (s := 257) (by omega) [.agg (cellsOf b T)] Z (by simpa [Value.cells] using cellsOf_size b T) (by simp [hZ])
  simpa [Value.cells] using this
theorem build66 (b : Bool) (T : Nat → Bool) (w : World) : (Instr.buildSlice 58 1 #[(0, .agg (cellsOf b T))]).run Tryz.prog w = .ok (.slice (some ⟨w.heap.size, 0, none⟩) 1 1) (w.alloc (.cells (cellsOf b T) 66)) := by
  cases hie : Tryz.prog.info? 66 with
  | none => have := info66; rw [hie] at this; cases this
  | some ie =>
    have h := info66
    rw [hie] at h
    simp only [Option.map_some, Option.some.injEq, Prod.mk.injEq] at h
    obtain ⟨h1, h2, h3⟩ := h
    refine Go.run_buildSlice w 58 66 1 _ _ ie _ Tryz.underlying58 hie h1 (by rw [h2]; decide) (by rw [h2]; decide) ?_
    rw [h2]
    exact fill66 b T _ (by simp)
theorem load66 (b : Bool) (T : Nat → Bool) (c : Nat) (w : World) (h : w.heap[c]? = some (.cells (cellsOf b T) 66 (0, 0))) : (Instr.loadAt 66 (.pointer (some ⟨c, 0, none⟩))).run Tryz.prog w = .ok (.agg (cellsOf b T)) w := by
  have := run_loadVar_row (P := Tryz.prog) w c 66 66 (cellsOf b T) (0, 0) _ h Tryz.underlying66 rfl (size66 b T)
  simp only [Instr.loadAt, Instr.sureAddr, Sem.run_bind, Sem.run_pure, Result.andThen_ok]
  exact this
theorem ex66 (b : Bool) (T : Nat → Bool) (c : Nat) (w : World) (p : Operand) (a : Act) (hp : a.eval p = .pointer (some ⟨c, 0, none⟩)) (h : w.heap[c]? = some (.cells (cellsOf b T) 66 (0, 0))) {d : Option Tmp} {t g x y} : (execOp a.eval (⟨d, .load 66 p, t, g, x, y⟩ : Oper)).run Tryz.prog w = .ok (.value (.agg (cellsOf b T))) w := by
  simp only [execOp, hp, Sem.run_bind, load66 b T c w h, Result.andThen_ok]
  rfl
theorem exC (C : Array Value) (b : Bool) (T : Nat → Bool) (hC : C = cellsOf b T) (c : Nat) (w : World) (p : Operand) (a : Act) (hp : a.eval p = .pointer (some ⟨c, 0, none⟩)) (h : w.heap[c]? = some (.cells C 66 (0, 0))) {d : Option Tmp} {t g x y} : (execOp a.eval (⟨d, .load 66 p, t, g, x, y⟩ : Oper)).run Tryz.prog w = .ok (.value (.agg C)) w := by
  subst hC
  exact ex66 b T c w p a hp h
theorem wp_build66 (C : Array Value) (b : Bool) (T : Nat → Bool) (hC : C = cellsOf b T) {o : Oper} {a : Act} {w : World} {K : Act → World → Prop} {Q : Exit → Act → World → Prop} (x : Operand) (ho : o.op = .buildSlice 58 1 #[(0, x)]) (hx : a.eval x = .agg C)
    (h : K (a.put o.dst (.slice (some ⟨w.heap.size, 0, none⟩) 1 1)) (w.alloc (.cells C 66))) : o.wp Tryz.prog a w K Q := by
  subst hC
  unfold Oper.wp execOp
  simp only [ho, List.map_toArray, List.map_cons, List.map_nil, hx, Sem.run_bind, build66, Result.andThen_ok]
  exact h
theorem zsize66 : (Value.agg Tryz.zeroCells66).cells.size = 257 := by kernel_rfl
theorem info66' : ∃ ie z, Tryz.prog.info? 66 = some ie ∧ ie.zero = some z ∧ ie.size = 257 ∧ ie.bytes = 257 ∧ z.cells.size = 257 := by
  cases hie : Tryz.prog.info? 66 with
  | none => have := info66; rw [hie] at this; cases this
  | some ie =>
    have h := info66
    rw [hie] at h
    simp only [Option.map_some, Option.some.injEq, Prod.mk.injEq] at h
    exact ⟨ie, _, rfl, h.1, h.2.1, h.2.2, zsize66⟩
set_option maxRecDepth 100000 in
theorem wp_append66 (C : Array Value) (b : Bool) (T : Nat → Bool) (hC : C = cellsOf b T) {o : Oper} {a : Act} {w : World} {K : Act → World → Prop} {Q : Exit → Act → World → Prop} (s x : Operand)
    (ho : o.op = .call { callee := .builtin .append, args := #[s, x], argTypes := #[58, 58] }) (base : Nat) (v : Value) (L : List PartV) (hs : a.eval s = v) (hown : w.ownsRow base 66 257 v L.length (flat L))
    (g : Nat) (hx : a.eval x = .slice (some ⟨g, 0, none⟩) 1 1) (hg : w.heap[g]? = some (.cells C 66 (0, 0))) (hL : L.length ≤ 1048576) (hb : base ≤ w.heap.size)
    (h : ∀ v' w', w'.ownsRow base 66 257 v' (L ++ [((b, T) : PartV)]).length (flat (L ++ [((b, T) : PartV)])) → w.grownBy w' v.ownBlock → K (a.put o.dst v') w') : o.wp Tryz.prog a w K Q := by
  obtain ⟨ie, z, h1, h2, h3, h4, h5⟩ := info66'
  refine wp_append_own w s x 58 ho base 66 ie z 257 257 Tryz.underlying58 h1 h2 h3 h4 h5 (by decide) v L.length (flat L) hs hown ⟨g, 0, none⟩ 1 1 C.toList hx ?_ ?_ ?_ ?_ ?_ hb ?_
  · rw [hC, Array.length_toList, cellsOf_size]
  · intro j u hu
    have e : (⟨g, 0, none⟩ : Addr).add j = ⟨g, j, none⟩ := by
      unfold Addr.add
      split
      · subst_vars; rfl
      · simp
    rw [e, cell_of_heap hg]
    simpa using hu
  · intro u hu
    have h7 := cellsOf_one b T
    rw [← hC] at h7
    exact (Array.all_eq_true_iff_forall_mem.1 h7) u (Array.mem_def.2 hu)
  · unfold maxLen; omega
  · omega
  · intro v' w' q1 q2 q3
    refine h v' w' ?_ q2
    rw [flat_snoc, List.length_append]
    rw [hC] at q1
    exact q1
theorem wp_opaque {P : Program} {c : Code} {Q : Exit → Act → World → Prop} {a : Act} {w : World} (h : ∀ W, W = w → c.wp P Q a W) : c.wp P Q a w := h _ rfl
theorem wp_gen {P : Program} {c : Code} {Q : Exit → Act → World → Prop} {a : Act} {w : World} (F : Act → Act → World → Prop) (key : ∀ (K : Exit → Act → World → Prop) (A : Act), A = a → (∀ ch (B : Act) (d : Tmp) (u : Value) W, K (.panic ch) (B.put (some d) u) W → K (.panic ch) B W) → (∀ A' W', F A A' W' → K .normal A' W') → c.wp P K A w) (hp : ∀ ch (B : Act) (d : Tmp) (u : Value) W, Q (.panic ch) (B.put (some d) u) W → Q (.panic ch) B W) (h : ∀ A' W', F a A' W' → Q .normal A' W') : c.wp P Q a w := key Q a rfl hp h
theorem ev_same (a : Act) (t : Tmp) (v : Value) (h : t < a.tmps.size) : (a.put (some t) v).eval (.tmp t) = v := by simp [Act.put, Act.eval, h]
theorem ev_ne (a : Act) (t u : Tmp) (v : Value) (h : t ≠ u) : (a.put (some t) v).eval (.tmp u) = a.eval (.tmp u) := by simp [Act.put, Act.eval, h]
theorem sz_put (a : Act) (d : Option Tmp) (v : Value) : (a.put d v).tmps.size = a.tmps.size := by cases d <;> simp [Act.put]
theorem own_chg {w w' : World} {base : Nat} {t : TypeId} {z : Nat} {v : Value} {n : Nat} {l : List Value} (h : w.ownsRow base t z v n l) (hb : ∀ g, v.ownBlock = some g → base ≤ g → g < w.heap.size → w'.heap[g]? = w.heap[g]?) : w'.ownsRow base t z v n l := by
  refine ⟨h.1, ?_⟩
  rcases h.2 with hn | ⟨g, cap, cur, hv, h1, hg, rest⟩
  · exact .inl hn
  · exact .inr ⟨g, cap, cur, hv, h1, (hb g (by rw [hv]; rfl) h1 (lt_of_heap hg)).trans hg, rest⟩
theorem Chg.grown {L : List Nat} {a b c : World} {row : Option Nat} (h : Chg L a b) (k : b.grownBy c row) (hr : ∀ g, row = some g → g < a.heap.size → g ∈ L) : Chg L a c :=
  ⟨k.os.trans h.os, k.tape.trans h.tape, k.output.trans h.output, Nat.le_trans h.size k.size, fun i hi hn =>
    (k.block i (Nat.lt_of_lt_of_le hi h.size) (fun e => hn (hr i e.symm hi))).trans (h.block i hi hn)⟩
theorem ex_move {P : Program} {ev : Operand → Value} {x : Operand} {v : Value} {d : Option Tmp} {t g y z} (h : ev x = v) (w : World) : (execOp ev (⟨d, .move x, t, g, y, z⟩ : Oper)).run P w = .ok (.value v) w := by
  simp [execOp, h]
theorem ex_nil {P : Program} {ev : Operand → Value} {x : Operand} {p : Addr} {d : Option Tmp} {t g y z} (h : ev x = .pointer (some p)) (w : World) : (execOp ev (⟨d, .nilCheck x, t, g, y, z⟩ : Oper)).run P w = .ok (.value (.pointer (some p))) w := by
  simp [execOp, h]
theorem ex_field60 {ev : Operand → Value} {x : Operand} {b : Nat} {d : Option Tmp} {t g y z} (h : ev x = .pointer (some ⟨b, 0, none⟩)) (w : World) : (execOp ev (⟨d, .fieldAddr 60 x 0, t, g, y, z⟩ : Oper)).run Tryz.prog w = .ok (.value (.pointer (some ⟨b, 0, none⟩))) w := by
  simp only [execOp, h]
  go_simp
theorem ex_load58 {ev : Operand → Value} {x : Operand} {b : Nat} {v : Value} {d : Option Tmp} {t g y z} (h : ev x = .pointer (some ⟨b, 0, none⟩)) (w : World) (hc : w.cell? ⟨b, 0, none⟩ = some v) : (execOp ev (⟨d, .load 58 x, t, g, y, z⟩ : Oper)).run Tryz.prog w = .ok (.value v) w := by
  simp only [execOp, h]
  go_simp
theorem wp_store58 {o : Oper} {a : Act} {w : World} {K : Act → World → Prop} {Q : Exit → Act → World → Prop} (p x : Operand) (ho : o.op = .store 58 p x) (hd : o.dst = none) (b : Nat) (u : Value) (sp : Option Addr) (n m : Nat) (hp : a.eval p = .pointer (some ⟨b, 0, none⟩)) (hx : a.eval x = .slice sp n m) (hc : w.cell? ⟨b, 0, none⟩ = some u) (hf : w.frozen? ⟨b, 0, none⟩ = false)
    (h : K a (w.setCell ⟨b, 0, none⟩ (.slice sp n m))) : o.wp Tryz.prog a w K Q := by
  obtain ⟨d, op, t, g, y, z⟩ := o
  simp only at ho hd
  subst ho hd
  unfold Oper.wp
  simp only [execOp, hp, hx]
  go_simp
  exact h
theorem wp_load58 {o : Oper} {a : Act} {w : World} {K : Act → World → Prop} {Q : Exit → Act → World → Prop} (p : Operand) (ho : o.op = .load 58 p) (b : Nat) (v : Value) (hp : a.eval p = .pointer (some ⟨b, 0, none⟩)) (hc : w.cell? ⟨b, 0, none⟩ = some v) (h : K (a.put o.dst v) w) : o.wp Tryz.prog a w K Q := by
  obtain ⟨d, op, t, g, y, z⟩ := o
  simp only at ho
  subst ho
  unfold Oper.wp
  rw [ex_load58 hp w hc]
  exact h
theorem any_opaque {P : Program} {md : Region.Mode} {ops : Array Oper} {Q : Exit → Act → World → Prop} {S : World → Prop} {fuel : Nat} {listed : Array Bool} {a : Act} {w : World} (h : ∀ B, B = a → wpAnyH P md ops Q S fuel listed B w) : wpAnyH P md ops Q S fuel listed a w := h _ rfl
/-- What Compile holds while it goes: its reader, its pattern and the row of parts. -/
structure CompAt (w wr : World) (s : ByteArray) (i : Nat) (L : List PartV) (v : Value) : Prop where
  chg : Chg [] w wr
  rd : RdAt wr (w.heap.size + 1) s i
  glob : wr.heap[w.heap.size]? = some (.cells #[v] 60 (0, 0))
  own : wr.ownsRow (w.heap.size + 2) 66 257 v L.length (flat L)
  size : w.heap.size + 2 ≤ wr.heap.size
/-- What it holds behind the switch: the part (in block p). -/
structure CutAt (w : World) (p : Nat) (wx : World) (s : ByteArray) (i : Nat) (L : List PartV) (v : Value) (k : Nat) (R : Option (List PartV)) (ok : Bool) : Prop where
  chg : Chg [] w wx
  glob : wx.heap[w.heap.size]? = some (.cells #[v] 60 (0, 0))
  own : wx.ownsRow (w.heap.size + 2) 66 257 v L.length (flat L)
  size : w.heap.size + 2 ≤ p
  psize : p < wx.heap.size
  yes : ok = true → ∃ j b T, i < j ∧ j ≤ s.size ∧ RdAt wx (w.heap.size + 1) s j ∧ PartAt wx p b T ∧ crun s k j (L ++ [((b, T) : PartV)]) = some R
  no : ok = false → R = none
theorem CutAt.of {w W wx : World} {p : Nat} {s : ByteArray} {i : Nat} {L : List PartV} {v : Value} {k : Nat} {R : Option (List PartV)} {ok : Bool} (hCh : Chg [] w W) (hG : W.heap[w.heap.size]? = some (.cells #[v] 60 (0, 0))) (hO : W.ownsRow (w.heap.size + 2) 66 257 v L.length (flat L)) (hob : v.ownBlock ≠ some p)
    (hz : w.heap.size + 2 ≤ p) (hps : p < W.heap.size) (hc : Chg [w.heap.size + 1, p] W wx)
    (yes : ok = true → ∃ j b T, i < j ∧ j ≤ s.size ∧ RdAt wx (w.heap.size + 1) s j ∧ PartAt wx p b T ∧ crun s k j (L ++ [((b, T) : PartV)]) = some R) (no : ok = false → R = none) : CutAt w p wx s i L v k R ok :=
  ⟨hCh.step hc (by simp; omega), hc.heap hG (by simp; omega), own_chg hO (fun g h1 h2 h3 => hc.block g h3 (by
      have : g ≠ p := fun e => hob (by rw [h1, e])
      simp; omega)), hz, Nat.lt_of_lt_of_le hps hc.size, yes, no⟩
/-- A pattern in memory, as blocks of their types. -/
def GlobH (w : World) (gp : Nat) (L : List PartV) : Prop := ∃ A c, w.heap[gp]? = some (.cells #[.slice A L.length c] 60 (0, 0)) ∧ (∃ b, w.ownsRow b 66 257 (.slice A L.length c) L.length (flat L)) ∧ L.length ≤ 1048576
/-- What Compile leaves, as blocks of their types. -/
def CompPost2 (w : World) (R : Option (List PartV)) (e : Ending) (w' : World) : Prop :=
  match R with
  | some L => ∃ gp, e = .returned (.tuple #[.pointer (some ⟨gp, 0, none⟩), .nilIface]) ∧ Chg [] w w' ∧ GlobH w' gp L
  | none => e = .returned (.tuple #[.pointer none, .iface 57 (.int .i64 40)]) ∧ Chg [] w w'
/-- What Compile leaves. -/
def CompPost (w : World) (R : Option (List PartV)) (e : Ending) (w' : World) : Prop :=
  match R with
  | some L => ∃ gp, e = .returned (.tuple #[.pointer (some ⟨gp, 0, none⟩), .nilIface]) ∧ Chg [] w w' ∧ GlobAt w' gp L
  | none => e = .returned (.tuple #[.pointer none, .iface 57 (.int .i64 40)]) ∧ Chg [] w w'
set_option maxRecDepth 100000 in
set_option maxHeartbeats 8000000 in
theorem compile_calls2 (s : ByteArray) (w : World) (hs : s.size ≤ 1024) (k : Nat) (R : Option (List PartV)) (h : crun s k 0 [] = some R) :
    Calls Tryz.prog 12 #[.string s] w fun e w' => CompPost2 w R e w' := by
  have H := Asd.mk h
  clear h
  go_enter Tryz.func12, Tryz.ntmps12
  go_wp2
  go_outline
  go_loopg [] k (fun gk wr => ∃ (i : Nat) (L : List PartV) (v : Value), Asd (crun s gk i L = some R) ∧ i ≤ s.size ∧ L.length ≤ i ∧ Asd (CompAt w wr s i L v))
  case atStart =>
    refine ⟨0, [], .slice none 0 0, H, by omega, by simp, ⟨⟨((Chg.refl _ _).alloc _).alloc _, ?_, hp_alloc (hp_new _ _) _, World.ownsRow_nil _ _ _ _, by simp⟩⟩⟩
    have h := hp_new (w.alloc (.cells #[.slice none 0 0] 60)) (.cells #[.string s, .int .i64 0] 63)
    rw [World.size_alloc] at h
    exact h
  case round =>
    obtain ⟨i, L, v, HR, hi, hL, HC⟩ := hrel
    cases gk with
    | zero => exact absurd HR.out (by simp [crun])
    | succ k =>
      have r0 := HC.out.rd.c0
      have r1 := HC.out.rd.c1
      have rf := HC.out.rd.f1
      have hz := HC.out.size
      have hz1 : w.heap.size + 1 < wr.heap.size := by omega
      have hz0 : w.heap.size < wr.heap.size := by omega
      by_cases hlt : i < s.size
      · go_upto_block 2 with fail
        go_cut [7] from 19 to 92 (fun s7 wx => ∃ ok : Bool, s7 = .bool ok ∧ Asd (CutAt w wr.heap.size wx s i L v k R ok))
        case first =>
          have hbn : bn s i = s[i].toNat := by unfold bn; rw [dif_pos hlt]
          refine wp_opaque (fun W hW => ?_)
          have hRd : RdAt W (w.heap.size + 1) s i := by rw [hW]; exact hp_alloc HC.out.rd _
          have hG : W.heap[w.heap.size]? = some (.cells #[v] 60 (0, 0)) := by rw [hW]; exact hp_alloc HC.out.glob _
          have hO := Asd.mk (show W.ownsRow (w.heap.size + 2) 66 257 v L.length (flat L) by rw [hW]; exact HC.out.own.alloc _)
          have hCh := Asd.mk (show Chg [] w W by rw [hW]; exact HC.out.chg.alloc _)
          have hP : PartAt W wr.heap.size false noneT := by rw [hW]; unfold PartAt; rw [show cellsOf false noneT = Tryz.zeroCells66 from zero66.symm]; exact hp_new _ _
          have hps : wr.heap.size < W.heap.size := lt_of_heap hP
          have hob : v.ownBlock ≠ some wr.heap.size := fun e => by have := (HC.out.own.lt _ e).2; omega
          clear hW HC r0 r1 rf
          have r0 := hRd.c0
          have r1 := hRd.c1
          have rf := hRd.f1
          by_cases h42 : bn s i = 42
          · have t1 : (((s[i].toNat : Nat) : Int) == 42) = true := by rw [← hbn, h42]; rfl
            have hrun : crun s k (i + 1) (L ++ [((true, noneT) : PartV)]) = some R := by
              have := HR.out
              simp only [crun] at this
              rw [if_pos hlt, if_pos h42] at this
              exact this
            have HRun := Asd.mk hrun
            have HP := Asd.mk hP
            have HRd := Asd.mk hRd
            have HG := Asd.mk hG
            have pc : (W.setCell ⟨w.heap.size + 1, 1, none⟩ (.int .i64 ((i : Int) + 1))).cell? ⟨wr.heap.size, 0, none⟩ = some (.bool false) := (cell_of_heap (hp_set_other hP (by omega) _ _) 0).trans (cellsOf_0 _ _)
            have p0 : (W.setCell ⟨w.heap.size + 1, 1, none⟩ (.int .i64 ((i : Int) + 1))).frozen? ⟨wr.heap.size, 0, none⟩ = false := frozen_of_heap (hp_set_other hP (by omega) _ _) 0
            clear hrun hP hRd hG hbn h42 HR
            go_wp2
            go_meet
            case rel =>
              exact ⟨true, rfl, ⟨CutAt.of hCh.out HG.out hO.out hob hz hps (((Chg.refl _ _).setCell (by simp) _).setCell (by simp) _)
                (fun _ => ⟨i + 1, true, noneT, by omega, hlt, hp_set_other (hp_set HRd.out _ _) (by omega) _ _, by
                  have := hp_set (hp_set_other HP.out (show wr.heap.size ≠ w.heap.size + 1 by omega) 1 (.int .i64 ((i : Int) + 1))) 0 (.bool true)
                  rw [cellsOf_set0] at this
                  exact this, HRun.out⟩) (fun h => by cases h)⟩⟩
          · have t1 : (((s[i].toNat : Nat) : Int) == 42) = false := by rw [← hbn]; simp; omega
            by_cases h63 : bn s i = 63
            · have t2 : (((s[i].toNat : Nat) : Int) == 63) = true := by rw [← hbn, h63]; rfl
              have hrun : crun s k (i + 1) (L ++ [((false, fun _ => true) : PartV)]) = some R := by
                have := HR.out
                simp only [crun] at this
                rw [if_pos hlt, if_neg h42, if_pos h63] at this
                exact this
              have HRun := Asd.mk hrun
              have HC1 := Asd.mk (show Chg [w.heap.size + 1, wr.heap.size] W (W.setCell ⟨w.heap.size + 1, 1, none⟩ (.int .i64 ((i : Int) + 1))) from (Chg.refl _ _).setCell (by simp) _)
              have HR1 := Asd.mk (show RdAt (W.setCell ⟨w.heap.size + 1, 1, none⟩ (.int .i64 ((i : Int) + 1))) (w.heap.size + 1) s (i + 1) from hp_set hRd _ _)
              have HP1 := Asd.mk (show PartAt (W.setCell ⟨w.heap.size + 1, 1, none⟩ (.int .i64 ((i : Int) + 1))) wr.heap.size false noneT from hp_set_other hP (by omega) _ _)
              have HG := Asd.mk hG
              clear hrun hP hRd hG hbn h42 h63 HR
              go_wp2
              go_loopw [59] (fun v wx => ∃ x : Nat, x ≤ 256 ∧ v = .int .i64 x ∧ Asd (Chg [w.heap.size + 1, wr.heap.size] W wx) ∧ Asd (RdAt wx (w.heap.size + 1) s (i + 1)) ∧ Asd (PartAt wx wr.heap.size false (fun t => decide (t < x)))) (fun v _ => 256 - (intOf v).toNat)
              case atStart => exact ⟨0, by omega, rfl, HC1, HR1, ⟨HP1.out.congr (fun t _ => by simp [noneT])⟩⟩
              case round =>
                obtain ⟨x, hx, rfl, HC2, HR2, HP2⟩ := hrel
                by_cases hx2 : x < 256
                · have p0 := HP2.out.cell x hx2
                  have pf := HP2.out.frozen (1 + x)
                  have b1 : (x : Int) < 256 := by omega
                  have b0 : 0 ≤ (x : Int) := by omega
                  go_wp2
                  exact ⟨⟨x + 1, by omega, by go_num, ⟨HC2.out.setCell (by simp) _⟩, ⟨hp_set_other HR2.out (by omega) _ _⟩, ⟨(HP2.out.set x true).congr (fun t _ => by
                    simp only [upd]
                    by_cases ht : t = x
                    · subst ht; rw [if_pos rfl]; simp
                    · rw [if_neg ht]
                      exact decide_eq_decide.2 (by omega))⟩⟩, by simp [intOf]; omega⟩
                · obtain rfl : x = 256 := by omega
                  go_wp2
                  go_meet
                  case rel =>
                    exact ⟨true, rfl, ⟨CutAt.of hCh.out HG.out hO.out hob hz hps HC2.out
                      (fun _ => ⟨i + 1, false, fun _ => true, by omega, hlt, HR2.out, HP2.out.congr (fun t ht => by simpa using ht), HRun.out⟩) (fun h => by cases h)⟩⟩
            · have t2 : (((s[i].toNat : Nat) : Int) == 63) = false := by rw [← hbn]; simp; omega
              by_cases h91 : bn s i = 91
              · have t3 : (((s[i].toNat : Nat) : Int) == 91) = true := by rw [← hbn, h91]; rfl
                have hrun : (match setF s (i + 1) with | some (j, U) => crun s k j (L ++ [((false, U) : PartV)]) | none => some none) = some R := by
                  have := HR.out
                  simp only [crun] at this
                  rw [if_pos hlt, if_neg h42, if_neg h63, if_pos h91] at this
                  exact this
                have HRun := Asd.mk hrun
                have HR1 := Asd.mk (show RdAt (W.setCell ⟨w.heap.size + 1, 1, none⟩ (.int .i64 ((i : Int) + 1))) (w.heap.size + 1) s (i + 1) from hp_set hRd _ _)
                have HP1 := Asd.mk (show PartAt (W.setCell ⟨w.heap.size + 1, 1, none⟩ (.int .i64 ((i : Int) + 1))) wr.heap.size false noneT from hp_set_other hP (by omega) _ _)
                have HG := Asd.mk hG
                clear hrun hP hRd hG hbn h42 h63 h91 HR
                go_wp2_with fail
                refine (set_calls (w.heap.size + 1) s (i + 1) _ HR1.out hlt (by omega)).mono ?_
                intro e w4 h4
                cases hsf : setF s (i + 1) with
                | none =>
                  rw [hsf] at h4
                  obtain ⟨U, rfl, hC4⟩ := h4
                  have HC4 := Asd.mk hC4
                  have HP4 := Asd.mk (show PartAt w4 wr.heap.size false noneT from hC4.heap HP1.out (by simp; omega))
                  have hRn : R = none := by
                    have := HRun.out
                    rw [hsf] at this
                    exact (Option.some.inj this).symm
                  clear hC4 hsf HRun
                  go_wp2_with (first | (refine wpList_store_row (o := ⟨none, _, _, _, _, _⟩) rfl 66 (.tmp 6) (.tmp 78) rfl wr.heap.size _ rfl rfl 66 _ (HP4.out) (size66 _ _) (by rw [cellsOf_size, cellsOf_size]) (cellsOf_one _ _) ?_))
                  go_meet
                  case rel =>
                    exact ⟨false, rfl, ⟨CutAt.of hCh.out HG.out hO.out hob hz hps ((((Chg.refl _ _).setCell (by simp) _).step HC4.out (by simp)).setRow (by simp) _) (fun h => by cases h) (fun _ => hRn)⟩⟩
                | some r =>
                  obtain ⟨j, U⟩ := r
                  rw [hsf] at h4
                  obtain ⟨rfl, hC4, hR4⟩ := h4
                  have hj := setF_some hsf hlt
                  have HC4 := Asd.mk hC4
                  have HR4 := Asd.mk hR4
                  have HP4 := Asd.mk (show PartAt w4 wr.heap.size false noneT from hC4.heap HP1.out (by simp; omega))
                  have hrn : crun s k j (L ++ [((false, U) : PartV)]) = some R := by
                    have := HRun.out
                    rw [hsf] at this
                    exact this
                  have HRn := Asd.mk hrn
                  clear hC4 hsf HRun hR4 hrn
                  go_wp2_with (first | (refine wpList_store_row (o := ⟨none, _, _, _, _, _⟩) rfl 66 (.tmp 6) (.tmp 78) rfl wr.heap.size _ rfl rfl 66 _ (HP4.out) (size66 _ _) (by rw [cellsOf_size, cellsOf_size]) (cellsOf_one _ _) ?_))
                  go_meet
                  case rel =>
                    exact ⟨true, rfl, ⟨CutAt.of hCh.out HG.out hO.out hob hz hps ((((Chg.refl _ _).setCell (by simp) _).step HC4.out (by simp)).setRow (by simp) _)
                      (fun _ => ⟨j, false, U, by omega, hj.2.1, (hp_setRow_other (by omega)).trans HR4.out, setRow_heap _ _ _ _ _ _ HP4.out, HRn.out⟩) (fun h => by cases h)⟩⟩
              · have t3 : (((s[i].toNat : Nat) : Int) == 91) = false := by rw [← hbn]; simp; omega
                by_cases hin : bytePlace s i < s.size
                · have hrun : crun s k (bytePlace s i + 1) (L ++ [((false, upd noneT (bn s (bytePlace s i)) true) : PartV)]) = some R := by
                    have := HR.out
                    simp only [crun] at this
                    rw [if_pos hlt, if_neg h42, if_neg h63, if_neg h91, if_pos hin] at this
                    exact this
                  have hle := le_bytePlace s i
                  have HRun := Asd.mk hrun
                  have HP := Asd.mk hP
                  have HRd := Asd.mk hRd
                  have HG := Asd.mk hG
                  clear hrun hP hRd hG hbn h42 h63 h91 HR r0 r1 rf
                  have hB := byte_yes (w.heap.size + 1) s i W HRd.out hi (by omega) hin
                  obtain ⟨q, hq⟩ : ∃ q, bytePlace s i = q := ⟨_, rfl⟩
                  rw [hq] at hB HRun hin hle
                  clear hq
                  obtain ⟨n, hn⟩ : ∃ n, bn s q = n := ⟨_, rfl⟩
                  have hn1 : n ≤ 255 := by rw [← hn]; exact bn_le s q
                  rw [hn] at hB HRun
                  clear hn
                  go_wp2_with fail
                  refine hB.mono ?_
                  rintro e w4 ⟨rfl, hC4, hR4⟩
                  have HP4 := Asd.mk (show PartAt w4 wr.heap.size false noneT from hC4.heap HP.out (by simp; omega))
                  have HC4 := Asd.mk hC4
                  have HR4 := Asd.mk hR4
                  have p0 := HP4.out.cell n (by omega)
                  have pf := HP4.out.frozen (1 + n)
                  have b1 : (n : Int) < 256 := by omega
                  have b0 : 0 ≤ (n : Int) := by omega
                  clear hC4 hR4 hB
                  go_wp2
                  go_meet
                  case rel =>
                    exact ⟨true, rfl, ⟨CutAt.of hCh.out HG.out hO.out hob hz hps ((HC4.out.mono (by simp)).setCell (by simp) _)
                      (fun _ => ⟨q + 1, false, upd noneT n true, by omega, hin, hp_set_other HR4.out (by omega) _ _, HP4.out.set n true, HRun.out⟩) (fun h => by cases h)⟩⟩
                · have hRn : R = none := by
                    have := HR.out
                    simp only [crun] at this
                    rw [if_pos hlt, if_neg h42, if_neg h63, if_neg h91, if_neg hin] at this
                    exact (Option.some.inj this).symm
                  have HRn := Asd.mk hRn
                  have HP := Asd.mk hP
                  have HRd := Asd.mk hRd
                  have HG := Asd.mk hG
                  clear hRn hP hRd hG hbn h42 h63 h91 HR r0 r1 rf
                  go_wp2_with fail
                  refine (byte_no (w.heap.size + 1) s i W HRd.out hi (by omega) (by omega)).mono ?_
                  rintro e w4 ⟨rfl, hC4, hR4⟩
                  have HP4 := Asd.mk (show PartAt w4 wr.heap.size false noneT from hC4.heap HP.out (by simp; omega))
                  have HC4 := Asd.mk hC4
                  have p0 : w4.cell? ⟨wr.heap.size, 1, none⟩ = some (.bool false) := HP4.out.cell 0 (by omega)
                  have pf : w4.frozen? ⟨wr.heap.size, 1, none⟩ = false := HP4.out.frozen 1
                  clear hC4 hR4
                  go_wp2
                  go_meet
                  case rel =>
                    exact ⟨false, rfl, ⟨CutAt.of hCh.out HG.out hO.out hob hz hps ((HC4.out.mono (by simp)).setCell (by simp) _) (fun h => by cases h) (fun _ => HRn.out)⟩⟩
        case rest =>
          obtain ⟨ok, rfl, HX⟩ := hcut
          cases ok with
          | false =>
            go_wp2
            go_ret2
            rw [HX.out.no rfl]
            exact ⟨rfl, HX.out.chg⟩
          | true =>
            obtain ⟨j, b, T, hj1, hj2, hR, hP, hrun⟩ := HX.out.yes rfl
            have hG := HX.out.glob
            have hO := Asd.mk HX.out.own
            have hCh := Asd.mk HX.out.chg
            obtain ⟨C, hCC⟩ : ∃ C, C = cellsOf b T := ⟨_, rfl⟩
            have hC : wc.heap[wr.heap.size]? = some (.cells C 66 (0, 0)) := by rw [hCC]; exact hP
            have HCC := Asd.mk hCC
            have HRun := Asd.mk hrun
            have HRd := Asd.mk hR
            clear hCC hP hrun hR HX HR r0 r1 rf
            go_wp2
            have hob : v.ownBlock ≠ some wr.heap.size := fun e => by have := (HC.out.own.lt _ e).2; omega
            clear HC
            refine wp_gen (F := fun A A' W' => ∃ (sp : Option Addr) (n m : Nat) (x83 x84 x85 x86 x87 x88 x89 x90 x91 x92 : Value), (A' = ((((((((((A.put (some 83) x83).put (some 84) x84).put (some 85) x85).put (some 86) x86).put (some 88) x88).put (some 87) x87).put (some 89) x89).put (some 90) x90).put (some 91) x91).put (some 92) x92) ∨ A' = ((((((((((A.put (some 83) x83).put (some 84) x84).put (some 85) x85).put (some 86) x86).put (some 88) x88).put (some 89) x89).put (some 87) x87).put (some 90) x90).put (some 91) x91).put (some 92) x92)) ∧
              Asd (CompAt w W' s j (L ++ [((b, T) : PartV)]) (.slice sp n m))) (fun K A hA hKp hK => ?_) (fun _ _ _ _ _ h => h) (fun A' W' hF => ?_)
            · have e4 : A.eval (.tmp 4) = .pointer (some ⟨w.heap.size, 0, none⟩) := by rw [hA]; rfl
              have e6 : A.eval (.tmp 6) = .pointer (some ⟨wr.heap.size, 0, none⟩) := by rw [hA]; rfl
              have hsz : A.tmps.size = 94 := by rw [hA]; rfl
              clear hA
              refine wp_region_held_drew (S := fun w' => w'.heap[wr.heap.size]? = some (.cells C 66 (0, 0))) (by kernel_rfl) hC (fun hHeld => ?_)
              refine wpAnyH_take (i := 0) (v := .pointer (some ⟨w.heap.size, 0, none⟩)) rfl (by kernel_rfl) (by kernel_rfl) (by kernel_rfl) (fun _ _ _ h => hKp _ _ _ _ _ h) (Or.inl ⟨by rfl, fun w' hw' => ex_move e4 _⟩) (by assumption) ?_
              refine any_opaque (fun A83 hA83 => ?_)
              replace hA83 : A83 = A.put (some 83) (.pointer (some ⟨w.heap.size, 0, none⟩)) := hA83
              have s83 : A83.tmps.size = 94 := by rw [hA83, sz_put]; exact hsz
              have e4_83 : A83.eval (.tmp 4) = .pointer (some ⟨w.heap.size, 0, none⟩) := by rw [hA83, ev_ne _ _ _ _ (by decide)]; exact e4
              have e6_83 : A83.eval (.tmp 6) = .pointer (some ⟨wr.heap.size, 0, none⟩) := by rw [hA83, ev_ne _ _ _ _ (by decide)]; exact e6
              have e83_83 : A83.eval (.tmp 83) = .pointer (some ⟨w.heap.size, 0, none⟩) := by rw [hA83]; exact ev_same _ _ _ (by rw [hsz]; decide)
              try simp only [List.setIfInBounds_toArray, List.set_cons_zero, List.set_cons_succ]
              refine wpAnyH_take (i := 1) (v := .pointer (some ⟨w.heap.size, 0, none⟩)) rfl (by kernel_rfl) (by kernel_rfl) (by kernel_rfl) (fun _ _ _ h => hKp _ _ _ _ _ h) (Or.inl ⟨by rfl, fun w' hw' => ex_move e4_83 _⟩) (by assumption) ?_
              refine any_opaque (fun A84 hA84 => ?_)
              replace hA84 : A84 = A83.put (some 84) (.pointer (some ⟨w.heap.size, 0, none⟩)) := hA84
              have s84 : A84.tmps.size = 94 := by rw [hA84, sz_put]; exact s83
              have e4_84 : A84.eval (.tmp 4) = .pointer (some ⟨w.heap.size, 0, none⟩) := by rw [hA84, ev_ne _ _ _ _ (by decide)]; exact e4_83
              have e6_84 : A84.eval (.tmp 6) = .pointer (some ⟨wr.heap.size, 0, none⟩) := by rw [hA84, ev_ne _ _ _ _ (by decide)]; exact e6_83
              have e83_84 : A84.eval (.tmp 83) = .pointer (some ⟨w.heap.size, 0, none⟩) := by rw [hA84, ev_ne _ _ _ _ (by decide)]; exact e83_83
              have e84_84 : A84.eval (.tmp 84) = .pointer (some ⟨w.heap.size, 0, none⟩) := by rw [hA84]; exact ev_same _ _ _ (by rw [s83]; decide)
              try simp only [List.setIfInBounds_toArray, List.set_cons_zero, List.set_cons_succ]
              refine wpAnyH_take (i := 2) (v := .pointer (some ⟨w.heap.size, 0, none⟩)) rfl (by kernel_rfl) (by kernel_rfl) (by kernel_rfl) (fun _ _ _ h => hKp _ _ _ _ _ h) (Or.inl ⟨by rfl, fun w' hw' => ex_nil e84_84 _⟩) (by assumption) ?_
              refine any_opaque (fun A85 hA85 => ?_)
              replace hA85 : A85 = A84.put (some 85) (.pointer (some ⟨w.heap.size, 0, none⟩)) := hA85
              have s85 : A85.tmps.size = 94 := by rw [hA85, sz_put]; exact s84
              have e4_85 : A85.eval (.tmp 4) = .pointer (some ⟨w.heap.size, 0, none⟩) := by rw [hA85, ev_ne _ _ _ _ (by decide)]; exact e4_84
              have e6_85 : A85.eval (.tmp 6) = .pointer (some ⟨wr.heap.size, 0, none⟩) := by rw [hA85, ev_ne _ _ _ _ (by decide)]; exact e6_84
              have e83_85 : A85.eval (.tmp 83) = .pointer (some ⟨w.heap.size, 0, none⟩) := by rw [hA85, ev_ne _ _ _ _ (by decide)]; exact e83_84
              have e84_85 : A85.eval (.tmp 84) = .pointer (some ⟨w.heap.size, 0, none⟩) := by rw [hA85, ev_ne _ _ _ _ (by decide)]; exact e84_84
              have e85_85 : A85.eval (.tmp 85) = .pointer (some ⟨w.heap.size, 0, none⟩) := by rw [hA85]; exact ev_same _ _ _ (by rw [s84]; decide)
              try simp only [List.setIfInBounds_toArray, List.set_cons_zero, List.set_cons_succ]
              refine wpAnyH_take (i := 3) (v := .pointer (some ⟨w.heap.size, 0, none⟩)) rfl (by kernel_rfl) (by kernel_rfl) (by kernel_rfl) (fun _ _ _ h => hKp _ _ _ _ _ h) (Or.inl ⟨by rfl, fun w' hw' => ex_field60 e85_85 _⟩) (by assumption) ?_
              refine any_opaque (fun A86 hA86 => ?_)
              replace hA86 : A86 = A85.put (some 86) (.pointer (some ⟨w.heap.size, 0, none⟩)) := hA86
              have s86 : A86.tmps.size = 94 := by rw [hA86, sz_put]; exact s85
              have e6_86 : A86.eval (.tmp 6) = .pointer (some ⟨wr.heap.size, 0, none⟩) := by rw [hA86, ev_ne _ _ _ _ (by decide)]; exact e6_85
              have e83_86 : A86.eval (.tmp 83) = .pointer (some ⟨w.heap.size, 0, none⟩) := by rw [hA86, ev_ne _ _ _ _ (by decide)]; exact e83_85
              have e85_86 : A86.eval (.tmp 85) = .pointer (some ⟨w.heap.size, 0, none⟩) := by rw [hA86, ev_ne _ _ _ _ (by decide)]; exact e85_85
              have e86_86 : A86.eval (.tmp 86) = .pointer (some ⟨w.heap.size, 0, none⟩) := by rw [hA86]; exact ev_same _ _ _ (by rw [s85]; decide)
              try simp only [List.setIfInBounds_toArray, List.set_cons_zero, List.set_cons_succ]
              refine wpAnyH_take (i := 5) (oi := ⟨some 88, .load 66 (.tmp 6), _, _, _, _⟩) (v := .agg C) rfl (by kernel_rfl) (by kernel_rfl) (by kernel_rfl) (fun _ _ _ h => hKp _ _ _ _ _ h) (Or.inl ⟨by rfl, fun w' hw' => exC C b T HCC.out wr.heap.size w' (.tmp 6) _ e6_86 hw'⟩) (by assumption) ?_
              refine any_opaque (fun A88 hA88 => ?_)
              replace hA88 : A88 = A86.put (some 88) (.agg C) := hA88
              have s88 : A88.tmps.size = 94 := by rw [hA88, sz_put]; exact s86
              have e6_88 : A88.eval (.tmp 6) = .pointer (some ⟨wr.heap.size, 0, none⟩) := by rw [hA88, ev_ne _ _ _ _ (by decide)]; exact e6_86
              have e83_88 : A88.eval (.tmp 83) = .pointer (some ⟨w.heap.size, 0, none⟩) := by rw [hA88, ev_ne _ _ _ _ (by decide)]; exact e83_86
              have e86_88 : A88.eval (.tmp 86) = .pointer (some ⟨w.heap.size, 0, none⟩) := by rw [hA88, ev_ne _ _ _ _ (by decide)]; exact e86_86
              have e88_88 : A88.eval (.tmp 88) = .agg C := by rw [hA88]; exact ev_same _ _ _ (by rw [s86]; decide)
              try simp only [List.setIfInBounds_toArray, List.set_cons_zero, List.set_cons_succ]
              refine wpAnyH_ready (rs := [4, 6]) (by kernel_rfl) (by simp) ?_
              refine AllReadyH.cons (o := ⟨some 87, .load 58 (.tmp 86), _, _, _, _⟩) rfl (fun J hJ => ?_) (AllReadyH.cons (o := ⟨some 89, .buildSlice 58 1 #[(0, .tmp 88)], _, _, _, _⟩) rfl (fun J hJ => ?_) AllReadyH.nil)
              · rw [if_pos (by rfl)]
                refine wp_load58 (.tmp 86) rfl w.heap.size v e86_88 (cell_of_heap (hp_drew hG) 0) ?_
                refine hJ.out _ _ hHeld (fun _ => ?_)
                clear hJ J
                refine any_opaque (fun A87 hA87 => ?_)
                replace hA87 : A87 = A88.put (some 87) (v) := hA87
                have s87 : A87.tmps.size = 94 := by rw [hA87, sz_put]; exact s88
                have e83_87 : A87.eval (.tmp 83) = .pointer (some ⟨w.heap.size, 0, none⟩) := by rw [hA87, ev_ne _ _ _ _ (by decide)]; exact e83_88
                have e86_87 : A87.eval (.tmp 86) = .pointer (some ⟨w.heap.size, 0, none⟩) := by rw [hA87, ev_ne _ _ _ _ (by decide)]; exact e86_88
                have e88_87 : A87.eval (.tmp 88) = .agg C := by rw [hA87, ev_ne _ _ _ _ (by decide)]; exact e88_88
                have e87_87 : A87.eval (.tmp 87) = v := by rw [hA87]; exact ev_same _ _ _ (by rw [s88]; decide)
                try simp only [List.setIfInBounds_toArray, List.set_cons_zero, List.set_cons_succ]
                refine wpAnyH_ready (rs := [6]) (by kernel_rfl) (by simp) ?_
                refine AllReadyH.cons (o := ⟨some 89, .buildSlice 58 1 #[(0, .tmp 88)], _, _, _, _⟩) rfl (fun J hJ => ?_) AllReadyH.nil
                rw [if_pos (by rfl)]
                refine wp_build66 C b T HCC.out (.tmp 88) rfl e88_87 ?_
                have hG1 := hp_alloc (hp_drew hG) (.cells C 66)
                have hC1 := hp_alloc hHeld (.cells C 66)
                have hO1 := (show wc.drew.ownsRow (w.heap.size + 2) 66 257 v L.length (flat L) from hO.out).alloc (.cells C 66)
                have hn1 := hp_new wc.drew (.cells C 66)
                have hR1 := hp_alloc (hp_drew HRd.out) (.cells C 66)
                refine hJ.out _ _ hC1 (fun _ => ?_)
                clear hJ J
                refine any_opaque (fun A89 hA89 => ?_)
                replace hA89 : A89 = A87.put (some 89) (.slice (some ⟨wc.drew.heap.size, 0, none⟩) 1 1) := hA89
                have s89 : A89.tmps.size = 94 := by rw [hA89, sz_put]; exact s87
                have e83_89 : A89.eval (.tmp 83) = .pointer (some ⟨w.heap.size, 0, none⟩) := by rw [hA89, ev_ne _ _ _ _ (by decide)]; exact e83_87
                have e86_89 : A89.eval (.tmp 86) = .pointer (some ⟨w.heap.size, 0, none⟩) := by rw [hA89, ev_ne _ _ _ _ (by decide)]; exact e86_87
                have e88_89 : A89.eval (.tmp 88) = .agg C := by rw [hA89, ev_ne _ _ _ _ (by decide)]; exact e88_87
                have e87_89 : A89.eval (.tmp 87) = v := by rw [hA89, ev_ne _ _ _ _ (by decide)]; exact e87_87
                have e89_89 : A89.eval (.tmp 89) = .slice (some ⟨wc.drew.heap.size, 0, none⟩) 1 1 := by rw [hA89]; exact ev_same _ _ _ (by rw [s87]; decide)
                try simp only [List.setIfInBounds_toArray, List.set_cons_zero, List.set_cons_succ]
                refine wpAnyH_ready (rs := [7]) (by kernel_rfl) (by simp) ?_
                refine AllReadyH.cons (o := ⟨some 90, .call { callee := .builtin .append, args := #[.tmp 87, .tmp 89], argTypes := #[58, 58] }, _, _, _, _⟩) rfl (fun J hJ => ?_) AllReadyH.nil
                rw [if_pos (by rfl)]
                have hltO := hO1.lt
                have h9 : wr.heap.size < wc.heap.size := lt_of_heap hC
                have h8 : wc.drew.heap.size = wc.heap.size := rfl
                refine wp_append66 C b T HCC.out (.tmp 87) (.tmp 89) rfl (w.heap.size + 2) v L e87_89 hO1 wc.drew.heap.size e89_89 hn1 (by omega) (by
                  have : (wc.drew.alloc (.cells C 66)).heap.size = wc.drew.heap.size + 1 := by simp
                  omega) ?_
                intro v' w' hown' hgrow
                obtain ⟨sp, m, hv', hPA⟩ := partsAt_of_own hown'
                clear hPA
                subst hv'
                have hG2 : w'.heap[w.heap.size]? = some (.cells #[v] 60 (0, 0)) := (hgrow.block _ (lt_of_heap hG1) (fun e => by have := hltO _ e.symm; omega)).trans hG1
                have hR2 : RdAt w' (w.heap.size + 1) s j := (hgrow.block _ (lt_of_heap hR1) (fun e => by have := hltO _ e.symm; omega)).trans hR1
                have hCh2 : Chg [] w w' := Chg.grown ((hCh.out.drew).alloc _) hgrow (fun g e hg => by have := hltO _ e; omega)
                have hC2 : w'.heap[wr.heap.size]? = some (.cells C 66 (0, 0)) := (hgrow.block _ (lt_of_heap hC1) (fun e => hob e.symm)).trans hC1
                refine hJ.out _ _ hC2 (fun _ => ?_)
                clear hJ J
                refine any_opaque (fun A90 hA90 => ?_)
                replace hA90 : A90 = A89.put (some 90) (.slice sp (L ++ [((b, T) : PartV)]).length m) := hA90
                have s90 : A90.tmps.size = 94 := by rw [hA90, sz_put]; exact s89
                have e83_90 : A90.eval (.tmp 83) = .pointer (some ⟨w.heap.size, 0, none⟩) := by rw [hA90, ev_ne _ _ _ _ (by decide)]; exact e83_89
                have e87_90 : A90.eval (.tmp 87) = v := by rw [hA90, ev_ne _ _ _ _ (by decide)]; exact e87_89
                have e89_90 : A90.eval (.tmp 89) = .slice (some ⟨wc.drew.heap.size, 0, none⟩) 1 1 := by rw [hA90, ev_ne _ _ _ _ (by decide)]; exact e89_89
                have e90_90 : A90.eval (.tmp 90) = .slice sp (L ++ [((b, T) : PartV)]).length m := by rw [hA90]; exact ev_same _ _ _ (by rw [s89]; decide)
                try simp only [List.setIfInBounds_toArray, List.set_cons_zero, List.set_cons_succ]
                refine wpAnyH_take (i := 8) (v := .pointer (some ⟨w.heap.size, 0, none⟩)) rfl (by kernel_rfl) (by kernel_rfl) (by kernel_rfl) (fun _ _ _ h => hKp _ _ _ _ _ h) (Or.inl ⟨by rfl, fun w' hw' => ex_nil e83_90 _⟩) (by assumption) ?_
                refine any_opaque (fun A91 hA91 => ?_)
                replace hA91 : A91 = A90.put (some 91) (.pointer (some ⟨w.heap.size, 0, none⟩)) := hA91
                have s91 : A91.tmps.size = 94 := by rw [hA91, sz_put]; exact s90
                have e83_91 : A91.eval (.tmp 83) = .pointer (some ⟨w.heap.size, 0, none⟩) := by rw [hA91, ev_ne _ _ _ _ (by decide)]; exact e83_90
                have e90_91 : A91.eval (.tmp 90) = .slice sp (L ++ [((b, T) : PartV)]).length m := by rw [hA91, ev_ne _ _ _ _ (by decide)]; exact e90_90
                have e91_91 : A91.eval (.tmp 91) = .pointer (some ⟨w.heap.size, 0, none⟩) := by rw [hA91]; exact ev_same _ _ _ (by rw [s90]; decide)
                try simp only [List.setIfInBounds_toArray, List.set_cons_zero, List.set_cons_succ]
                refine wpAnyH_take (i := 9) (v := .pointer (some ⟨w.heap.size, 0, none⟩)) rfl (by kernel_rfl) (by kernel_rfl) (by kernel_rfl) (fun _ _ _ h => hKp _ _ _ _ _ h) (Or.inl ⟨by rfl, fun w' hw' => ex_field60 e91_91 _⟩) (by assumption) ?_
                refine any_opaque (fun A92 hA92 => ?_)
                replace hA92 : A92 = A91.put (some 92) (.pointer (some ⟨w.heap.size, 0, none⟩)) := hA92
                have s92 : A92.tmps.size = 94 := by rw [hA92, sz_put]; exact s91
                have e90_92 : A92.eval (.tmp 90) = .slice sp (L ++ [((b, T) : PartV)]).length m := by rw [hA92, ev_ne _ _ _ _ (by decide)]; exact e90_91
                have e91_92 : A92.eval (.tmp 91) = .pointer (some ⟨w.heap.size, 0, none⟩) := by rw [hA92, ev_ne _ _ _ _ (by decide)]; exact e91_91
                have e92_92 : A92.eval (.tmp 92) = .pointer (some ⟨w.heap.size, 0, none⟩) := by rw [hA92]; exact ev_same _ _ _ (by rw [s91]; decide)
                try simp only [List.setIfInBounds_toArray, List.set_cons_zero, List.set_cons_succ]
                refine wpAnyH_ready (rs := [10]) (by kernel_rfl) (by simp) ?_
                refine AllReadyH.cons (o := ⟨none, .store 58 (.tmp 92) (.tmp 90), _, _, _, _⟩) rfl (fun J hJ => ?_) AllReadyH.nil
                rw [if_pos (by rfl)]
                refine wp_store58 (.tmp 92) (.tmp 90) rfl rfl w.heap.size v sp (L ++ [((b, T) : PartV)]).length m e92_92 e90_92 (cell_of_heap hG2 0) (frozen_of_heap hG2 0) ?_
                refine hJ.out _ _ (hp_set_other hC2 (by omega) _ _) (fun _ => ?_)
                refine wpAnyH_done (by kernel_rfl) ?_ _
                refine hK _ _ ⟨sp, (L ++ [((b, T) : PartV)]).length, m, _, _, _, _, _, _, _, _, _, _, .inl (by rw [hA92, hA91, hA90, hA89, hA87, hA88, hA86, hA85, hA84, hA83]), ⟨?_⟩⟩
                have hls : ∀ g, w.heap.size + 2 ≤ g → (w'.setCell ⟨w.heap.size, 0, none⟩ (.slice sp (L ++ [((b, T) : PartV)]).length m)).heap[g]? = w'.heap[g]? := fun g hg => Below.heap_setCell w' ⟨w.heap.size, 0, none⟩ _ g (by simp; omega)
                exact ⟨hCh2.setCell (by simp) _, hp_set_other hR2 (by omega) _ _, hp_set hG2 0 _, own_chg hown' (fun g _ hg _ => hls g hg), by
                  have h5 := (lt_of_heap hC2)
                  simp only [World.setCell, Array.size_modify]
                  omega⟩
              · rw [if_pos (by rfl)]
                refine wp_build66 C b T HCC.out (.tmp 88) rfl e88_88 ?_
                have hG1 := hp_alloc (hp_drew hG) (.cells C 66)
                have hC1 := hp_alloc hHeld (.cells C 66)
                have hO1 := (show wc.drew.ownsRow (w.heap.size + 2) 66 257 v L.length (flat L) from hO.out).alloc (.cells C 66)
                have hn1 := hp_new wc.drew (.cells C 66)
                have hR1 := hp_alloc (hp_drew HRd.out) (.cells C 66)
                refine hJ.out _ _ hC1 (fun _ => ?_)
                clear hJ J
                refine any_opaque (fun A89 hA89 => ?_)
                replace hA89 : A89 = A88.put (some 89) (.slice (some ⟨wc.drew.heap.size, 0, none⟩) 1 1) := hA89
                have s89 : A89.tmps.size = 94 := by rw [hA89, sz_put]; exact s88
                have e83_89 : A89.eval (.tmp 83) = .pointer (some ⟨w.heap.size, 0, none⟩) := by rw [hA89, ev_ne _ _ _ _ (by decide)]; exact e83_88
                have e86_89 : A89.eval (.tmp 86) = .pointer (some ⟨w.heap.size, 0, none⟩) := by rw [hA89, ev_ne _ _ _ _ (by decide)]; exact e86_88
                have e88_89 : A89.eval (.tmp 88) = .agg C := by rw [hA89, ev_ne _ _ _ _ (by decide)]; exact e88_88
                have e89_89 : A89.eval (.tmp 89) = .slice (some ⟨wc.drew.heap.size, 0, none⟩) 1 1 := by rw [hA89]; exact ev_same _ _ _ (by rw [s88]; decide)
                try simp only [List.setIfInBounds_toArray, List.set_cons_zero, List.set_cons_succ]
                refine wpAnyH_ready (rs := [4]) (by kernel_rfl) (by simp) ?_
                refine AllReadyH.cons (o := ⟨some 87, .load 58 (.tmp 86), _, _, _, _⟩) rfl (fun J hJ => ?_) AllReadyH.nil
                rw [if_pos (by rfl)]
                refine wp_load58 (.tmp 86) rfl w.heap.size v e86_89 (cell_of_heap hG1 0) ?_
                refine hJ.out _ _ hC1 (fun _ => ?_)
                clear hJ J
                refine any_opaque (fun A87 hA87 => ?_)
                replace hA87 : A87 = A89.put (some 87) (v) := hA87
                have s87 : A87.tmps.size = 94 := by rw [hA87, sz_put]; exact s89
                have e83_87 : A87.eval (.tmp 83) = .pointer (some ⟨w.heap.size, 0, none⟩) := by rw [hA87, ev_ne _ _ _ _ (by decide)]; exact e83_89
                have e86_87 : A87.eval (.tmp 86) = .pointer (some ⟨w.heap.size, 0, none⟩) := by rw [hA87, ev_ne _ _ _ _ (by decide)]; exact e86_89
                have e88_87 : A87.eval (.tmp 88) = .agg C := by rw [hA87, ev_ne _ _ _ _ (by decide)]; exact e88_89
                have e89_87 : A87.eval (.tmp 89) = .slice (some ⟨wc.drew.heap.size, 0, none⟩) 1 1 := by rw [hA87, ev_ne _ _ _ _ (by decide)]; exact e89_89
                have e87_87 : A87.eval (.tmp 87) = v := by rw [hA87]; exact ev_same _ _ _ (by rw [s89]; decide)
                try simp only [List.setIfInBounds_toArray, List.set_cons_zero, List.set_cons_succ]
                refine wpAnyH_ready (rs := [7]) (by kernel_rfl) (by simp) ?_
                refine AllReadyH.cons (o := ⟨some 90, .call { callee := .builtin .append, args := #[.tmp 87, .tmp 89], argTypes := #[58, 58] }, _, _, _, _⟩) rfl (fun J hJ => ?_) AllReadyH.nil
                rw [if_pos (by rfl)]
                have hltO := hO1.lt
                have h9 : wr.heap.size < wc.heap.size := lt_of_heap hC
                have h8 : wc.drew.heap.size = wc.heap.size := rfl
                refine wp_append66 C b T HCC.out (.tmp 87) (.tmp 89) rfl (w.heap.size + 2) v L e87_87 hO1 wc.drew.heap.size e89_87 hn1 (by omega) (by
                  have : (wc.drew.alloc (.cells C 66)).heap.size = wc.drew.heap.size + 1 := by simp
                  omega) ?_
                intro v' w' hown' hgrow
                obtain ⟨sp, m, hv', hPA⟩ := partsAt_of_own hown'
                clear hPA
                subst hv'
                have hG2 : w'.heap[w.heap.size]? = some (.cells #[v] 60 (0, 0)) := (hgrow.block _ (lt_of_heap hG1) (fun e => by have := hltO _ e.symm; omega)).trans hG1
                have hR2 : RdAt w' (w.heap.size + 1) s j := (hgrow.block _ (lt_of_heap hR1) (fun e => by have := hltO _ e.symm; omega)).trans hR1
                have hCh2 : Chg [] w w' := Chg.grown ((hCh.out.drew).alloc _) hgrow (fun g e hg => by have := hltO _ e; omega)
                have hC2 : w'.heap[wr.heap.size]? = some (.cells C 66 (0, 0)) := (hgrow.block _ (lt_of_heap hC1) (fun e => hob e.symm)).trans hC1
                refine hJ.out _ _ hC2 (fun _ => ?_)
                clear hJ J
                refine any_opaque (fun A90 hA90 => ?_)
                replace hA90 : A90 = A87.put (some 90) (.slice sp (L ++ [((b, T) : PartV)]).length m) := hA90
                have s90 : A90.tmps.size = 94 := by rw [hA90, sz_put]; exact s87
                have e83_90 : A90.eval (.tmp 83) = .pointer (some ⟨w.heap.size, 0, none⟩) := by rw [hA90, ev_ne _ _ _ _ (by decide)]; exact e83_87
                have e89_90 : A90.eval (.tmp 89) = .slice (some ⟨wc.drew.heap.size, 0, none⟩) 1 1 := by rw [hA90, ev_ne _ _ _ _ (by decide)]; exact e89_87
                have e87_90 : A90.eval (.tmp 87) = v := by rw [hA90, ev_ne _ _ _ _ (by decide)]; exact e87_87
                have e90_90 : A90.eval (.tmp 90) = .slice sp (L ++ [((b, T) : PartV)]).length m := by rw [hA90]; exact ev_same _ _ _ (by rw [s87]; decide)
                try simp only [List.setIfInBounds_toArray, List.set_cons_zero, List.set_cons_succ]
                refine wpAnyH_take (i := 8) (v := .pointer (some ⟨w.heap.size, 0, none⟩)) rfl (by kernel_rfl) (by kernel_rfl) (by kernel_rfl) (fun _ _ _ h => hKp _ _ _ _ _ h) (Or.inl ⟨by rfl, fun w' hw' => ex_nil e83_90 _⟩) (by assumption) ?_
                refine any_opaque (fun A91 hA91 => ?_)
                replace hA91 : A91 = A90.put (some 91) (.pointer (some ⟨w.heap.size, 0, none⟩)) := hA91
                have s91 : A91.tmps.size = 94 := by rw [hA91, sz_put]; exact s90
                have e83_91 : A91.eval (.tmp 83) = .pointer (some ⟨w.heap.size, 0, none⟩) := by rw [hA91, ev_ne _ _ _ _ (by decide)]; exact e83_90
                have e90_91 : A91.eval (.tmp 90) = .slice sp (L ++ [((b, T) : PartV)]).length m := by rw [hA91, ev_ne _ _ _ _ (by decide)]; exact e90_90
                have e91_91 : A91.eval (.tmp 91) = .pointer (some ⟨w.heap.size, 0, none⟩) := by rw [hA91]; exact ev_same _ _ _ (by rw [s90]; decide)
                try simp only [List.setIfInBounds_toArray, List.set_cons_zero, List.set_cons_succ]
                refine wpAnyH_take (i := 9) (v := .pointer (some ⟨w.heap.size, 0, none⟩)) rfl (by kernel_rfl) (by kernel_rfl) (by kernel_rfl) (fun _ _ _ h => hKp _ _ _ _ _ h) (Or.inl ⟨by rfl, fun w' hw' => ex_field60 e91_91 _⟩) (by assumption) ?_
                refine any_opaque (fun A92 hA92 => ?_)
                replace hA92 : A92 = A91.put (some 92) (.pointer (some ⟨w.heap.size, 0, none⟩)) := hA92
                have s92 : A92.tmps.size = 94 := by rw [hA92, sz_put]; exact s91
                have e90_92 : A92.eval (.tmp 90) = .slice sp (L ++ [((b, T) : PartV)]).length m := by rw [hA92, ev_ne _ _ _ _ (by decide)]; exact e90_91
                have e91_92 : A92.eval (.tmp 91) = .pointer (some ⟨w.heap.size, 0, none⟩) := by rw [hA92, ev_ne _ _ _ _ (by decide)]; exact e91_91
                have e92_92 : A92.eval (.tmp 92) = .pointer (some ⟨w.heap.size, 0, none⟩) := by rw [hA92]; exact ev_same _ _ _ (by rw [s91]; decide)
                try simp only [List.setIfInBounds_toArray, List.set_cons_zero, List.set_cons_succ]
                refine wpAnyH_ready (rs := [10]) (by kernel_rfl) (by simp) ?_
                refine AllReadyH.cons (o := ⟨none, .store 58 (.tmp 92) (.tmp 90), _, _, _, _⟩) rfl (fun J hJ => ?_) AllReadyH.nil
                rw [if_pos (by rfl)]
                refine wp_store58 (.tmp 92) (.tmp 90) rfl rfl w.heap.size v sp (L ++ [((b, T) : PartV)]).length m e92_92 e90_92 (cell_of_heap hG2 0) (frozen_of_heap hG2 0) ?_
                refine hJ.out _ _ (hp_set_other hC2 (by omega) _ _) (fun _ => ?_)
                refine wpAnyH_done (by kernel_rfl) ?_ _
                refine hK _ _ ⟨sp, (L ++ [((b, T) : PartV)]).length, m, _, _, _, _, _, _, _, _, _, _, .inr (by rw [hA92, hA91, hA90, hA87, hA89, hA88, hA86, hA85, hA84, hA83]), ⟨?_⟩⟩
                have hls : ∀ g, w.heap.size + 2 ≤ g → (w'.setCell ⟨w.heap.size, 0, none⟩ (.slice sp (L ++ [((b, T) : PartV)]).length m)).heap[g]? = w'.heap[g]? := fun g hg => Below.heap_setCell w' ⟨w.heap.size, 0, none⟩ _ g (by simp; omega)
                exact ⟨hCh2.setCell (by simp) _, hp_set_other hR2 (by omega) _ _, hp_set hG2 0 _, own_chg hown' (fun g _ hg _ => hls g hg), by
                  have h5 := (lt_of_heap hC2)
                  simp only [World.setCell, Array.size_modify]
                  omega⟩
            · obtain ⟨sp, n, m, x83, x84, x85, x86, x87, x88, x89, x90, x91, x92, rfl | rfl, hCA⟩ := hF
              all_goals
                simp only [Act.put, List.setIfInBounds_toArray, List.set_cons_zero, List.set_cons_succ]
                go_wp2
                go_roundg k
                case rel => exact ⟨j, L ++ [((b, T) : PartV)], .slice sp n m, HRun, hj2, by rw [List.length_append]; simp; omega, hCA⟩
                case measure => omega
      · have hRs : R = some L := by
          have := HR.out
          simp only [crun] at this
          rw [if_neg hlt] at this
          exact (Option.some.inj this).symm
        have HC2 := HC
        clear HR
        go_wp2
        go_ret2
        obtain ⟨A, c, rfl, hPA⟩ := partsAt_of_own HC2.out.own
        rw [hRs]
        exact ⟨w.heap.size, rfl, HC2.out.chg, A, c, HC2.out.glob, ⟨_, HC2.out.own⟩, by omega⟩
theorem GlobH.glob {w : World} {gp : Nat} {L : List PartV} (h : GlobH w gp L) : GlobAt w gp L := by
  obtain ⟨A, c, h1, ⟨b, h2⟩, h3⟩ := h
  obtain ⟨A2, c2, hv, hP⟩ := partsAt_of_own h2
  simp only [Value.slice.injEq] at hv
  obtain ⟨rfl, _, rfl⟩ := hv
  exact ⟨_, _, h1, hP, h3⟩
theorem compile_calls (s : ByteArray) (w : World) (hs : s.size ≤ 1024) (k : Nat) (R : Option (List PartV)) (h : crun s k 0 [] = some R) :
    Calls Tryz.prog 12 #[.string s] w fun e w' => CompPost w R e w' := by
  refine (compile_calls2 s w hs k R h).mono ?_
  intro e w' hp
  cases R with
  | none => exact hp
  | some L =>
    obtain ⟨gp, h1, h2, h3⟩ := hp
    exact ⟨gp, h1, h2, h3.glob⟩
set_option maxHeartbeats 1000000 in
/-- A pattern that is too long. -/
theorem compile_long (s : ByteArray) (w : World) (hs : 1024 < s.size) (h9 : s.size ≤ 9223372036854775807) :
    Calls Tryz.prog 12 #[.string s] w fun e w' => e = .returned (.tuple #[.pointer none, .iface 57 (.int .i64 2)]) ∧ w' = w := by
  go_enter Tryz.func12, Tryz.ntmps12
  go_wp2
  go_ret2
  exact ⟨rfl, rfl⟩
end Go.Proofs.YtgkifphfibcfdaaGreatDoor.G
