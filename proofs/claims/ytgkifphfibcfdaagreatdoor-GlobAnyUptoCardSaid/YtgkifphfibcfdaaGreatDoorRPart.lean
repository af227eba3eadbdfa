/- A part of the reference's in memory; the reference's one. -/
import Derived.Test.YtgkifphfibcfdaaGreatDoorRNamed
import Derived.Test.YtgkifphfibcfdaaGreatDoorBase2
import Derived.Deep.WholeRow
namespace Go.Proofs.YtgkifphfibcfdaaGreatDoor.G
open Go.RowKit Go.Proofs.YtgkifphfibcfdaaGreatDoor.B
set_option linter.unusedVariables false
/-- A part of the reference's in memory. -/
def RPartAt (w : World) (c : Nat) (a : Bool) (T : Nat → Bool) : Prop := w.heap[c]? = some (.cells (cellsOf a T) 72 (0, 0))
theorem RPartAt.cell {w : World} {c : Nat} {a : Bool} {T : Nat → Bool} (h : RPartAt w c a T) (i : Nat) (hi : i < 256) : w.cell? ⟨c, 1 + i, none⟩ = some (.bool (T i)) := (cell_of_heap h _).trans (cellsOf_at a T i hi)
theorem RPartAt.frozen {w : World} {c : Nat} {a : Bool} {T : Nat → Bool} (h : RPartAt w c a T) (i : Nat) : w.frozen? ⟨c, i, none⟩ = false := frozen_of_heap h _
theorem RPartAt.set {w : World} {c : Nat} {a : Bool} {T : Nat → Bool} (h : RPartAt w c a T) (i : Nat) (v : Bool) : RPartAt (w.setCell ⟨c, 1 + i, none⟩ (.bool v)) c a (upd T i v) := by
  have := hp_set h (1 + i) (.bool v)
  rw [cellsOf_set] at this
  exact this
theorem RPartAt.congr {w : World} {c : Nat} {a : Bool} {T U : Nat → Bool} (h : RPartAt w c a T) (e : ∀ i, i < 256 → T i = U i) : RPartAt w c a U := by
  unfold RPartAt at *
  rw [← cellsOf_congr a e]
  exact h
set_option maxHeartbeats 2000000 in
theorem size72 (a : Bool) (T : Nat → Bool) : (Tryz.prog.info? 72).map (·.size) = some (cellsOf a T).size := by
  rw [cellsOf_size]
  kernel_rfl
set_option maxHeartbeats 2000000 in
theorem zero72 : Tryz.zeroCells72 = cellsOf false (fun _ => false) := by kernel_rfl
set_option maxHeartbeats 2000000 in
theorem store72 (Z : Array Value) (hZ : Z = cellsOf false (fun _ => false)) (w : World) (n : Nat) (hn : w.heap.size = n) : (storeCells ⟨n, 0, none⟩ Z.toList).run Tryz.prog (w.alloc (.cells Z 72)) = .ok () (w.alloc (.cells Z 72)) := by
  subst hn
  exact run_storeCells_new w 72 Z Z (by rw [hZ]; exact size72 _ _) rfl (by rw [hZ]; exact cellsOf_one _ _)
theorem store72z (w : World) (n : Nat) (hn : w.heap.size = n) : (storeCells ⟨n, 0, none⟩ Tryz.zeroCells72.toList).run Tryz.prog (w.alloc (.cells Tryz.zeroCells72 72)) = .ok () (w.alloc (.cells Tryz.zeroCells72 72)) := store72 _ zero72 w n hn
theorem sub_starts (s p : ByteArray) (i : Nat) : startsAt (s.extract i s.size) 0 p = startsAt s i p := by
  have e : ∀ b : ByteArray, b.extract 0 b.size = b := fun b => by
    apply ByteArray.ext
    simp
  show startsB ((s.extract i s.size).extract 0 (s.extract i s.size).size) p = startsB (s.extract i s.size) p
  rw [e]
theorem sub_class (s : ByteArray) (i : Nat) : ∀ n k, classNo (s.extract i s.size) 0 k n = classNo s i k n
  | 0, _ => rfl
  | n + 1, k => by
    simp only [classNo]
    rw [sub_starts, sub_class s i n (k + 1)]
theorem chas_hi (k : Nat) (hk : k < 12) (c : Nat) (h : 128 ≤ c) : chas k c = false := by
  have h' : (128 : Int) ≤ c := by omega
  exact twelve (p := fun k => chas k c = false) k hk (decide_eq_false (by omega)) (decide_eq_false (by omega)) (decide_eq_false (by omega)) (decide_eq_false (by omega)) (decide_eq_false (by omega)) (decide_eq_false (by omega)) (decide_eq_false (by omega)) (decide_eq_false (by omega)) (decide_eq_false (by omega)) (decide_eq_false (by omega)) (decide_eq_false (by omega)) (decide_eq_false (by omega))
theorem results_row1 {P : Program} {fn : Func} {p : Tmp} {ty : TypeId} (h : fn.results = #[.cell p ty]) (tmps : Array Value) (w : World) (g : Nat) (t : TypeId) (cs : Array Value) (fr : Nat × Nat) (d : TypeDesc)
    (hp : tmps.getD p undef = .pointer (some ⟨g, 0, none⟩)) (hg : w.heap[g]? = some (.cells cs t fr))
    (hu : P.underlying ty = some d) (hd : (match d with | .struct _ | .array _ _ => true | _ => false) = true) (hi : (P.info? ty).map (·.size) = some cs.size) :
    (results fn tmps).run P w = .ok (.agg cs) w := by
  have hp' : tmps[p]?.getD undef = .pointer (some ⟨g, 0, none⟩) := by simpa using hp
  simp [results, h, hp', asAddr, run_loadVar_row w g t ty cs fr d hg hu hd hi]
set_option maxRecDepth 100000 in
set_option maxHeartbeats 4000000 in
/-- one: the part that means one byte. -/
theorem one_calls (c : Nat) (w : World) (hc : c ≤ 255) : Calls Tryz.prog 29 #[.int .u8 (c : Int)] w fun e w' => e = .returned (.agg (cellsOf false (upd (fun _ => false) c true))) ∧ Chg [] w w' := by
  have hst := store72z (w.alloc (.cells Tryz.zeroCells72 72)) (w.heap.size + 1) (by simp)
  have z1 : RPartAt (w.alloc (.cells Tryz.zeroCells72 72)) w.heap.size false (fun _ => false) := by unfold RPartAt; rw [← zero72]; exact hp_new _ _
  have z2 : RPartAt ((w.alloc (.cells Tryz.zeroCells72 72)).alloc (.cells Tryz.zeroCells72 72)) (w.heap.size + 1) false (fun _ => false) := by
    have h := hp_new (w.alloc (.cells Tryz.zeroCells72 72)) (.cells Tryz.zeroCells72 72)
    rw [World.size_alloc] at h
    unfold RPartAt; rw [← zero72]; exact h
  have p0 := z2.cell c (by omega)
  have pf := z2.frozen (1 + c)
  have b1 : (c : Int) < 256 := by omega
  have b0 : 0 ≤ (c : Int) := by omega
  -- the walk folds the store into the block that was made last
  have z3 : RPartAt ((w.alloc (.cells Tryz.zeroCells72 72)).alloc (.cells (Tryz.zeroCells72.setIfInBounds (1 + c) (.bool true)) 72)) (w.heap.size + 1) false (upd (fun _ => false) c true) := by
    have h := hp_new (w.alloc (.cells Tryz.zeroCells72 72)) (.cells (Tryz.zeroCells72.setIfInBounds (1 + c) (.bool true)) 72)
    rw [World.size_alloc] at h
    unfold RPartAt
    rw [← cellsOf_set, ← zero72]
    exact h
  have ZS := Asd.mk z3
  have ZV := Asd.mk (show RPartAt ((w.alloc (.cells Tryz.zeroCells72 72)).alloc (.cells (Tryz.zeroCells72.setIfInBounds (1 + c) (.bool true)) 72)) w.heap.size false (fun _ => false) from hp_alloc z1 _)
  have HC := Asd.mk (show Chg [] w ((w.alloc (.cells Tryz.zeroCells72 72)).alloc (.cells (Tryz.zeroCells72.setIfInBounds (1 + c) (.bool true)) 72)) from ((Chg.refl _ _).alloc _).alloc _)
  clear z3
  clear z1 z2
  go_enter Tryz.func29, Tryz.ntmps29
  go_wp2_with (first | (refine wpList_load_row (o := ⟨some 8, _, _, _, _, _⟩) rfl 72 (.tmp 3) rfl (w.heap.size + 1) rfl 72 _ (0, 0) _ (ZS.out) Tryz.underlying72 rfl (size72 _ _) ?_) | (refine wpList_store_row (o := ⟨none, _, _, _, _, _⟩) rfl 72 (.tmp 2) (.tmp 8) rfl w.heap.size _ rfl rfl 72 _ (ZV.out) (size72 _ _) (by rw [cellsOf_size, cellsOf_size]) (cellsOf_one _ _) ?_))
  refine bodyPost_ret (results_row1 rfl _ _ w.heap.size 72 _ (0, 0) _ rfl (setRow_heap _ _ _ _ _ _ (ZV.out)) Tryz.underlying72 rfl (size72 _ _)) rfl ?_
  exact ⟨rfl, (HC.out).setRow (by simp) _⟩
end Go.Proofs.YtgkifphfibcfdaaGreatDoor.G
