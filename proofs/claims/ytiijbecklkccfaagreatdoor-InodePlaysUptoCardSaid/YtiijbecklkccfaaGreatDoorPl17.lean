/- Merged out of these texts: ROpDef, RAppend, RLook, RAppRow, RSortF. -/
import Derived.Test.YtiijbecklkccfaaGreatDoorPl16
import Derived.Test.YtiijbecklkccfaaGreatDoorPl8
/- What the reference's operations know and answer. -/
namespace Go.Proofs.YtiijbecklkccfaaGreatDoor.I
open Go.RowKit Go.Proofs.YtiijbecklkccfaaGreatDoor.B Go.Sort
set_option linter.unusedVariables false
/-- A table of the reference: its row lies in a block at or above K. -/
structure RAt (w : World) (K : Nat) (v : Value) (G : FS) (bb nn : Nat) : Prop where
  row : RowE w K v (rowE G)
  ok : FsOk G
  room : Room G bb nn
theorem RAt.chg {w w' : World} {K : Nat} {v : Value} {G : FS} {bb nn : Nat} (h : RAt w K v G bb nn) (hC : Chg [] w w') : RAt w' K v G bb nn := ⟨own_off h.row hC (fun _ _ => by simp), h.ok, h.room⟩
theorem RAt.num {w : World} {K : Nat} {v : Value} {G : FS} {bb nn : Nat} (h : RAt w K v G bb nn) : G.length ≤ 65536 := Nat.le_trans h.room.count h.room.n
theorem RAt.form {w : World} {K : Nat} {v : Value} {G : FS} {bb nn : Nat} (h : RAt w K v G bb nn) : ∃ A c, v = .slice A G.length c ∧ EntL w (.slice A G.length c) (rowE G) := by
  obtain ⟨A, c, hv, _⟩ := own_form h.row
  rw [row_len] at hv
  subst hv
  exact ⟨A, c, rfl, entL_of_own h.row⟩
theorem one_tabv {w : World} {K : Nat} {v : Value} {E : List Ent} (h : RowE w K v E) (b m : Int) : (#[v, .int .i64 b, .int .i64 m]).all (·.oneCell') = true := by
  obtain ⟨A, c, rfl, _⟩ := own_form h
  exact one_tab _ _ _ _ _
section
variable {w : World} {K : Nat} {v : Value} {G : FS} {bb nn : Nat}
theorem wayA (h : RAt w K v G bb nn) (s : ByteArray) (hs : s.size ≤ 1048576) :
    Calls Tryz.prog 71 #[.agg #[v, .int .i64 (bb : Int), .int .i64 (nn : Int)], .string s] w fun e w' => e = .returned (.int .i64 (wayN G s : Int)) ∧ Chg [] w w' := by
  obtain ⟨A, c, rfl, hE⟩ := h.form
  exact way20_calls A G.length c bb nn G s w hE rfl (by have := h.num; omega) (okRow_of h.ok) hs
theorem at_someA (h : RAt w K v G bb nn) {p : Pth} {x : Nd} (hx : G.at p = some x) :
    Calls Tryz.prog 72 #[.agg #[v, .int .i64 (bb : Int), .int .i64 (nn : Int)], .string (tx p)] w fun e w' => e = .returned (.agg #[.string (tx p), .int .i64 (x.kind : Int), .string x.text]) ∧ Chg [] w w' := by
  obtain ⟨A, c, rfl, hE⟩ := h.form
  have := at20_calls A G.length c bb nn (rowE G) (tx p) w hE (row_len G) (by have := h.num; omega)
  rw [at_row (okRow_of h.ok) (h.ok.okp p x hx), hx] at this
  exact this
theorem at_noneA (h : RAt w K v G bb nn) {p : Pth} (hp : okP p) (hx : G.at p = none) :
    Calls Tryz.prog 72 #[.agg #[v, .int .i64 (bb : Int), .int .i64 (nn : Int)], .string (tx p)] w fun e w' => e = .returned (.agg #[.string ⟨#[]⟩, .int .i64 0, .string ⟨#[]⟩]) ∧ Chg [] w w' := by
  obtain ⟨A, c, rfl, hE⟩ := h.form
  have := at20_calls A G.length c bb nn (rowE G) (tx p) w hE (row_len G) (by have := h.num; omega)
  rw [at_row (okRow_of h.ok) hp, hx] at this
  exact this
theorem roomA (h : RAt w K v G bb nn) (x y : Nat) (hx : x ≤ 4294967280) (hy : y ≤ 1) :
    Calls Tryz.prog 73 #[.agg #[v, .int .i64 (bb : Int), .int .i64 (nn : Int)], .int .i64 (x : Int), .int .i64 (y : Int)] w fun e w' => e = .returned (.bool (decide (usedF G + x ≤ bb ∧ G.length + y ≤ nn))) ∧ Chg [] w w' := by
  obtain ⟨A, c, rfl, hE⟩ := h.form
  have := room20_calls A G.length c bb nn x y (rowE G) w hE (row_len G) h.room.count (by rw [sum_row]; exact h.room.used) h.room.b h.room.n hx hy
  rw [sum_row] at this
  exact this
theorem usedA (h : RAt w K v G bb nn) :
    Calls Tryz.prog 50 #[.agg #[v, .int .i64 (bb : Int), .int .i64 (nn : Int)]] w fun e w' => e = .returned (.tuple #[.int .i64 (usedF G : Int), .int .i64 (G.length : Int)]) ∧ Chg [] w w' := by
  obtain ⟨A, c, rfl, hE⟩ := h.form
  have := used20_calls A G.length c bb nn (rowE G) w hE (row_len G) (by have := h.num; omega) (by rw [sum_row]; have := h.room.used; have := h.room.b; omega)
  rw [sum_row] at this
  exact this
end
/-- With, of a row that need not be sound. -/
theorem withA {w : World} {K : Nat} {v : Value} {G : FS} {bb nn : Nat} (hR : RowE w K v (rowE G)) (hG : OkRow G) (hl : G.length ≤ 1000000) {p : Pth} (hp : okP p) (px : ByteArray) (kd : Nat) (t : ByteArray) (hk : kd ≤ 9) :
    Calls Tryz.prog 74 #[.agg #[v, .int .i64 (bb : Int), .int .i64 (nn : Int)], .string (tx p), .agg #[.string px, .int .i64 (kd : Int), .string t]] w fun e w' => ∃ v', e = .returned (.agg #[v', .int .i64 (bb : Int), .int .i64 (nn : Int)]) ∧ RowE w' w.heap.size v' (rowE (withF G p kd t)) ∧ Chg [] w w' := by
  obtain ⟨A, c, hv, _⟩ := own_form hR
  rw [row_len] at hv
  subst hv
  have := with_calls A G.length c bb nn (rowE G) (tx p) px t kd w (entL_of_own hR) (row_len G) hl hk
  rw [with_row hG hp] at this
  exact this
/-- What an operation of the reference answers. -/
def RPost (w : World) (K : Nat) (v : Value) (bb nn : Nat) (R : Nat × FS) (e : Ending) (w' : World) : Prop := ∃ v' G', e = .returned (.tuple #[.agg #[v', .int .i64 (bb : Int), .int .i64 (nn : Int)], .int .i64 (R.1 : Int)]) ∧ RowE w' K v' (rowE G') ∧ Eqv R.2 G' ∧ Chg [] w w' ∧ (v' = v ∨ ∀ g, v'.ownBlock = some g → w.heap.size ≤ g)
theorem keep_post {w W : World} {K : Nat} {v : Value} {G : FS} {bb nn : Nat} {R : Nat × FS} (n : Nat) (h : RAt w K v G bb nn) (hC : Chg [] w W) {B : Nat} (hB : w.heap.size ≤ B) (cs : Array Value) (hR : R = (n, G)) :
    RPost w K v bb nn R (.returned (.tuple #[.agg #[v, .int .i64 (bb : Int), .int .i64 (nn : Int)], .int .i64 (n : Int)])) (W.setRow B cs) := by
  subst hR
  have hC2 : Chg [] w (W.setRow B cs) := hC.setRow (fun h => absurd h (by omega)) cs
  exact ⟨v, G, rfl, own_off h.row hC2 (fun _ _ => by simp), Eqv.refl h.ok, hC2, .inl rfl⟩
theorem new_post {w W : World} {K b : Nat} {v v' : Value} {G' : FS} {bb nn : Nat} {R : Nat × FS} (n : Nat) (hn : R.1 = n) (hE : Eqv R.2 G') (hR : RowE W b v' (rowE G')) (hC : Chg [] w W) {B : Nat} (hB : w.heap.size ≤ B) (hb : B < b) (hK : K ≤ w.heap.size) (cs : Array Value) :
    RPost w K v bb nn R (.returned (.tuple #[.agg #[v', .int .i64 (bb : Int), .int .i64 (nn : Int)], .int .i64 (n : Int)])) (W.setRow B cs) := by
  subst hn
  have hC2 : Chg [] w (W.setRow B cs) := hC.setRow (fun h => absurd h (by omega)) cs
  have h1 : RowE (W.setRow B cs) b v' (rowE G') := own_off hR ((Chg.refl [B] W).setRow (fun _ => by simp) cs) (fun g hg => by
    have := (own_block hR hg).1
    simp
    omega)
  exact ⟨v', G', rfl, own_mono h1 (by omega), hE, hC2, .inr fun g hg => by have := (own_block hR hg).1; omega⟩
/-- Two boxes: the table that came, and the one that is answered. -/
structure Box2 (w wa W : World) (v : Value) (bb nn : Nat) : Prop where
  chg : Chg [] w W
  b1 : W.heap[w.heap.size]? = some (.cells #[v, .int .i64 (bb : Int), .int .i64 (nn : Int)] 56 (0, 0))
  b2 : W.heap[wa.heap.size]? = some (.cells #[.slice none 0 0, .int .i64 0, .int .i64 0] 56 (0, 0))
  lt : w.heap.size < wa.heap.size
theorem Box2.on {w wa W W' : World} {v : Value} {bb nn : Nat} (h : Box2 w wa W v bb nn) (hC : Chg [] W W') : Box2 w wa W' v bb nn :=
  ⟨h.chg.trans hC, hC.heap h.b1 (by simp), hC.heap h.b2 (by simp), h.lt⟩
theorem Box2.off {w wa W W' : World} {v : Value} {bb nn D : Nat} (h : Box2 w wa W v bb nn) (hD : wa.heap.size < D) (hC : Chg [D] W W') : Box2 w wa W' v bb nn :=
  ⟨Chg.fresh ((h.chg.mono (by simp)).trans hC) (fun i hi => by have := h.lt; rw [List.mem_singleton] at hi; omega), hC.heap h.b1 (by have := h.lt; simp; omega), hC.heap h.b2 (by simp; omega), h.lt⟩
theorem box2_start (w : World) (v : Value) (bb nn : Nat) : ∃ wa w0, w.alloc (.cells #[v, .int .i64 (bb : Int), .int .i64 (nn : Int)] 56) = wa ∧ wa.alloc (.cells #[.slice none 0 0, .int .i64 0, .int .i64 0] 56) = w0 ∧ Box2 w wa w0 v bb nn := by
  obtain ⟨wa, hwa, hCa, hA1⟩ := start1 w #[v, .int .i64 (bb : Int), .int .i64 (nn : Int)] 56
  obtain ⟨w0, hw0, hCb, hA2⟩ := start1 wa #[.slice none 0 0, .int .i64 0, .int .i64 0] 56
  exact ⟨wa, w0, hwa, hw0, hCa.trans hCb, hCb.heap hA1 (by simp), hA2, lt_of_heap hA1⟩
theorem wayN_err {G : FS} {s : ByteArray} {n : Nat} (h : atE G s = .error n) : wayN G s = n := by unfold wayN; rw [h]
theorem wayN_ok {G : FS} {s : ByteArray} {p : Pth} (h : atE G s = .ok p) : wayN G s = 0 := by unfold wayN; rw [h]
theorem put_free {fs : FS} {bb nn : Nat} {x : Nd} {y : Nat} (hy : y = 1) : fullF fs bb nn x.text.size ↔ ¬ (usedF fs + x.text.size ≤ bb ∧ fs.length + y ≤ nn) := by
  unfold fullF
  omega
end Go.Proofs.YtiijbecklkccfaaGreatDoor.I
/- The reference's Append. -/
namespace Go.Proofs.YtiijbecklkccfaaGreatDoor.I
open Go.RowKit Go.Proofs.YtiijbecklkccfaaGreatDoor.B Go.Sort
set_option linter.unusedVariables false
attribute [local go_sem high] field_kind
variable {w : World} {K : Nat} {v : Value} {G : FS} {bb nn : Nat}
theorem thereE_err {G : FS} {s : ByteArray} {n : Nat} (h : atE G s = .error n) : thereE G s = .error n := by unfold thereE; rw [h]
theorem thereE_none {G : FS} {s : ByteArray} {p : Pth} (h : atE G s = .ok p) (hx : G.at p = none) : thereE G s = .error 200 := by unfold thereE; rw [h]; simp only; rw [hx]; rfl
theorem thereE_some {G : FS} {s : ByteArray} {p : Pth} {x : Nd} (h : atE G s = .ok p) (hx : G.at p = some x) : thereE G s = .ok p := by unfold thereE; rw [h]; simp only; rw [hx]; rfl
set_option maxRecDepth 100000 in
set_option maxHeartbeats 16000000 in
theorem append20_calls (h : RAt w K v G bb nn) (hK : K ≤ w.heap.size) (s z : ByteArray) (hs : s.size ≤ 1048576) (hz : z.size ≤ 1048576) :
    Calls Tryz.prog 45 #[.agg #[v, .int .i64 (bb : Int), .int .i64 (nn : Int)], .string s, .string z] w fun e w' => RPost w K v bb nn (appendF G bb s z) e w' := by
  obtain ⟨wa, w0, hwa, hw0, hX⟩ := box2_start w v bb nn
  have HX := Asd.mk hX
  have HR := Asd.mk h
  have HR0 := Asd.mk (h.chg hX.chg)
  have HK := Asd.mk hK
  have HW := Asd.mk (wayA HR0.out s hs)
  obtain ⟨R, hR⟩ : ∃ R, appendF G bb s z = R := ⟨_, rfl⟩
  rw [hR]
  have HRR := Asd.mk hR
  have b0 := cell_of_heap HX.out.b1 0; have b1 := cell_of_heap HX.out.b1 1; have b2 := cell_of_heap HX.out.b1 2
  clear h hX hK hs hR
  cases hs : atE G s with
  | error n =>
    have HRn := Asd.mk (show R = (n, G) by rw [← HRR.out]; unfold appendF; rw [thereE_err hs])
    have hn := atE_pos hs
    have k1 : ¬ (n : Int) = 0 := by omega
    rw [wayN_err hs] at HW
    clear hs hn HRR
    (go_enter Tryz.func45, Tryz.ntmps45)
    go_wp2_with fail
    refine HW.out.mono ?_
    rintro e w1 ⟨rfl, hC⟩
    have HX1 := Asd.mk (HX.out.on hC)
    clear hC HW HX b0 b1 b2 hwa hw0
    have b0 := cell_of_heap HX1.out.b1 0; have b1 := cell_of_heap HX1.out.b1 1; have b2 := cell_of_heap HX1.out.b1 2
    go_wp2_with (first | (refine wpList_store_row (o := ⟨none, _, _, _, _, _⟩) rfl 56 (.tmp 6) (.tmp 15) rfl wa.heap.size _ rfl rfl 56 _ HX1.out.b2 (size_tab _ _ _) rfl (one_tabv HR.out.row _ _) ?_))
    refine bodyPost_ret (results_row_tmp rfl _ _ wa.heap.size 56 _ (0, 0) _ rfl (setRow_heap _ _ _ _ _ _ HX1.out.b2) Tryz.underlying56 rfl (size_tab _ _ _)) rfl ?_
    exact keep_post n HR.out HX1.out.chg (Nat.le_of_lt HX1.out.lt) _ HRn.out
  | ok p =>
    have hp := atE_parts hs
    have hok := partsF_ok hp
    rw [wayN_ok hs] at HW
    have hst := tx_parts hp
    subst hst
    have HOk := Asd.mk hok
    obtain ⟨T, hT⟩ : ∃ T, tx p = T := ⟨_, rfl⟩
    rw [hT] at HW ⊢
    have hkeep := appendF_keep HR.out.ok HR.out.room (tx p) z
    rw [show appendF G bb (tx p) z = R from HRR.out] at hkeep
    cases hx : G.at p with
    | none =>
      have HA := Asd.mk (fun W (hC : Chg [] w W) => at_noneA (HR.out.chg hC) HOk.out hx)
      rw [hT] at HA
      have HRn := Asd.mk (show R = (200, G) by rw [← HRR.out]; unfold appendF; rw [thereE_none hs hx])
      clear hp hok HRR hs hT hx hkeep
      (go_enter Tryz.func45, Tryz.ntmps45)
      go_wp2_with fail; refine HW.out.mono ?_; rintro e w1 ⟨rfl, hC⟩; have HX1 := Asd.mk (HX.out.on hC); clear hC HW HX b0 b1 b2 hwa hw0; have b0 := cell_of_heap HX1.out.b1 0; have b1 := cell_of_heap HX1.out.b1 1; have b2 := cell_of_heap HX1.out.b1 2; go_wp2_with fail; refine (HA.out _ HX1.out.chg).mono ?_; rintro e w2 ⟨rfl, hC⟩; have HX2 := Asd.mk (HX1.out.on hC); clear hC HA HX1 b0 b1 b2; have b0 := cell_of_heap HX2.out.b1 0; have b1 := cell_of_heap HX2.out.b1 1; have b2 := cell_of_heap HX2.out.b1 2
      go_upto_region 5 with (first | (refine wpList_store_row (o := ⟨none, _, _, _, _, _⟩) rfl 41 (.tmp 9) (.tmp 19) rfl w2.heap.size _ rfl rfl 41 _ (hp_new _ _) (size_entry _ _ _) rfl (one_entry _ _ _) ?_))
      refine wp_opaque2 (fun W hW => ?_)
      have hCW : Chg [w2.heap.size] w2 W := by rw [hW]; exact ((Chg.refl _ _).alloc _).setRow (fun _ => by simp) _
      have hbD : W.heap[w2.heap.size]? = some (.cells #[.string ⟨#[]⟩, .int .i64 0, .string ⟨#[]⟩] 41 (0, 0)) := by rw [hW]; exact setRow_heap _ _ _ _ _ _ (hp_new _ _)
      have HX3 := Asd.mk (HX2.out.off (lt_of_heap HX2.out.b2) hCW)
      obtain ⟨D, hD⟩ : ∃ D, w2.heap.size = D := ⟨_, rfl⟩
      rw [hD] at hbD ⊢
      have d1 := cell_of_heap hbD 1
      clear hW hCW HX2 b0 b1 b2 hD hbD
      have b0 := cell_of_heap HX3.out.b1 0; have b1 := cell_of_heap HX3.out.b1 1; have b2 := cell_of_heap HX3.out.b1 2
      go_wp2_with (first | (refine wpList_store_row (o := ⟨none, _, _, _, _, _⟩) rfl 56 (.tmp 6) (.tmp 24) rfl wa.heap.size _ rfl rfl 56 _ HX3.out.b2 (size_tab _ _ _) rfl (one_tabv HR.out.row _ _) ?_))
      refine bodyPost_ret (results_row_tmp rfl _ _ wa.heap.size 56 _ (0, 0) _ rfl (setRow_heap _ _ _ _ _ _ HX3.out.b2) Tryz.underlying56 rfl (size_tab _ _ _)) rfl ?_
      exact keep_post 200 HR.out HX3.out.chg (Nat.le_of_lt HX3.out.lt) _ HRn.out
    | some x =>
      have hRx : R = if x.kind = 2 then (202, G) else if x.kind = 3 then (204, G) else if 4194304 < x.text.size + z.size then (2, G) else if bb < usedF G + z.size then (206, G) else (0, setF G p ⟨1, x.text ++ z⟩) := by rw [← HRR.out]; unfold appendF; rw [thereE_some hs hx]; simp only; rw [hx]
      have hk := HR.out.ok.kind _ _ hx
      have hzx := HR.out.ok.small _ _ hx
      have HA := Asd.mk (fun W (hC : Chg [] w W) => at_someA (HR.out.chg hC) hx)
      rw [hT] at HA
      obtain ⟨kd, Z⟩ := x
      simp only at HA hk hRx hzx
      have k0 : ¬ (kd : Int) = 0 := by omega
      have HHx := Asd.mk hx
      have HTt := Asd.mk hT
      have HKp := Asd.mk hkeep
      clear hp hok HRR hs hT hx hkeep
      (go_enter Tryz.func45, Tryz.ntmps45)
      go_wp2_with fail; refine HW.out.mono ?_; rintro e w1 ⟨rfl, hC⟩; have HX1 := Asd.mk (HX.out.on hC); clear hC HW HX b0 b1 b2 hwa hw0; have b0 := cell_of_heap HX1.out.b1 0; have b1 := cell_of_heap HX1.out.b1 1; have b2 := cell_of_heap HX1.out.b1 2; go_wp2_with fail; refine (HA.out _ HX1.out.chg).mono ?_; rintro e w2 ⟨rfl, hC⟩; have HX2 := Asd.mk (HX1.out.on hC); clear hC HA HX1 b0 b1 b2; have b0 := cell_of_heap HX2.out.b1 0; have b1 := cell_of_heap HX2.out.b1 1; have b2 := cell_of_heap HX2.out.b1 2
      go_upto_region 5 with (first | (refine wpList_store_row (o := ⟨none, _, _, _, _, _⟩) rfl 41 (.tmp 9) (.tmp 19) rfl w2.heap.size _ rfl rfl 41 _ (hp_new _ _) (size_entry _ _ _) rfl (one_entry _ _ _) ?_))
      refine wp_opaque2 (fun W hW => ?_)
      have hCW : Chg [w2.heap.size] w2 W := by rw [hW]; exact ((Chg.refl _ _).alloc _).setRow (fun _ => by simp) _
      have hbD : W.heap[w2.heap.size]? = some (.cells #[.string T, .int .i64 (kd : Int), .string Z] 41 (0, 0)) := by rw [hW]; exact setRow_heap _ _ _ _ _ _ (hp_new _ _)
      have HX3 := Asd.mk (HX2.out.off (lt_of_heap HX2.out.b2) hCW)
      have HDw := Asd.mk (show wa.heap.size < w2.heap.size from lt_of_heap HX2.out.b2)
      obtain ⟨D, hD⟩ : ∃ D, w2.heap.size = D := ⟨_, rfl⟩
      rw [hD] at hbD HDw ⊢
      have HbD := Asd.mk hbD
      have d0 := cell_of_heap hbD 0
      have d1 := cell_of_heap hbD 1
      have d2 := cell_of_heap hbD 2
      clear hW hCW HX2 b0 b1 b2 hD hbD
      have b0 := cell_of_heap HX3.out.b1 0; have b1 := cell_of_heap HX3.out.b1 1; have b2 := cell_of_heap HX3.out.b1 2
      by_cases h2 : kd = 2
      · have HRn := Asd.mk (show R = (202, G) by rw [hRx, if_pos h2])
        have k2 : (kd : Int) = 2 := by omega
        clear hRx hk h2
        go_wp2_with (first | (refine wpList_store_row (o := ⟨none, _, _, _, _, _⟩) rfl 56 (.tmp 6) (.tmp 29) rfl wa.heap.size _ rfl rfl 56 _ HX3.out.b2 (size_tab _ _ _) rfl (one_tabv HR.out.row _ _) ?_))
        refine bodyPost_ret (results_row_tmp rfl _ _ wa.heap.size 56 _ (0, 0) _ rfl (setRow_heap _ _ _ _ _ _ HX3.out.b2) Tryz.underlying56 rfl (size_tab _ _ _)) rfl ?_
        exact keep_post 202 HR.out HX3.out.chg (Nat.le_of_lt HX3.out.lt) _ HRn.out
      · rw [if_neg h2] at hRx
        have k2 : ¬ (kd : Int) = 2 := by omega
        by_cases h3 : kd = 3
        · have HRn := Asd.mk (show R = (204, G) by rw [hRx, if_pos h3])
          have k3 : (kd : Int) = 3 := by omega
          clear hRx hk h2 h3
          go_wp2_with (first | (refine wpList_store_row (o := ⟨none, _, _, _, _, _⟩) rfl 56 (.tmp 6) (.tmp 34) rfl wa.heap.size _ rfl rfl 56 _ HX3.out.b2 (size_tab _ _ _) rfl (one_tabv HR.out.row _ _) ?_))
          refine bodyPost_ret (results_row_tmp rfl _ _ wa.heap.size 56 _ (0, 0) _ rfl (setRow_heap _ _ _ _ _ _ HX3.out.b2) Tryz.underlying56 rfl (size_tab _ _ _)) rfl ?_
          exact keep_post 204 HR.out HX3.out.chg (Nat.le_of_lt HX3.out.lt) _ HRn.out
        · rw [if_neg h3] at hRx
          have k3 : ¬ (kd : Int) = 3 := by omega
          have Hkd := Asd.mk (show kd = 1 by omega)
          by_cases h4 : 4194304 < Z.size + z.size
          · have HRn := Asd.mk (show R = (2, G) by rw [hRx, if_pos h4])
            have k4 : (4194304 : Int) - (Z.size : Int) < (z.size : Int) := by omega
            clear hRx hk h2 h3 h4
            go_wp2_with (first | (refine wpList_store_row (o := ⟨none, _, _, _, _, _⟩) rfl 56 (.tmp 6) (.tmp 43) rfl wa.heap.size _ rfl rfl 56 _ HX3.out.b2 (size_tab _ _ _) rfl (one_tabv HR.out.row _ _) ?_))
            refine bodyPost_ret (results_row_tmp rfl _ _ wa.heap.size 56 _ (0, 0) _ rfl (setRow_heap _ _ _ _ _ _ HX3.out.b2) Tryz.underlying56 rfl (size_tab _ _ _)) rfl ?_
            exact keep_post 2 HR.out HX3.out.chg (Nat.le_of_lt HX3.out.lt) _ HRn.out
          · rw [if_neg h4] at hRx
            have k4 : ¬ (4194304 : Int) - (Z.size : Int) < (z.size : Int) := by omega
            have HRm := Asd.mk (fun W (hC : Chg [] w W) => (roomA (HR.out.chg hC) z.size 0 (by omega) (by omega) : Calls Tryz.prog 73 #[.agg #[v, .int .i64 (bb : Int), .int .i64 (nn : Int)], .int .i64 (z.size : Int), .int .i64 0] W fun e w' => e = .returned (.bool (decide (usedF G + z.size ≤ bb ∧ G.length + 0 ≤ nn))) ∧ Chg [] W w'))
            by_cases h5 : bb < usedF G + z.size
            · have HRn := Asd.mk (show R = (206, G) by rw [hRx, if_pos h5])
              rw [decide_eq_false (by omega)] at HRm
              clear hRx hk h2 h3 h4 h5
              go_wp2_with fail
              refine (HRm.out _ HX3.out.chg).mono ?_
              rintro e w4 ⟨rfl, hC⟩
              have HX4 := Asd.mk (HX3.out.on hC)
              clear hC HRm HX3 b0 b1 b2 d0 d1 d2
              have b0 := cell_of_heap HX4.out.b1 0; have b1 := cell_of_heap HX4.out.b1 1; have b2 := cell_of_heap HX4.out.b1 2
              go_wp2_with (first | (refine wpList_store_row (o := ⟨none, _, _, _, _, _⟩) rfl 56 (.tmp 6) (.tmp 50) rfl wa.heap.size _ rfl rfl 56 _ HX4.out.b2 (size_tab _ _ _) rfl (one_tabv HR.out.row _ _) ?_))
              refine bodyPost_ret (results_row_tmp rfl _ _ wa.heap.size 56 _ (0, 0) _ rfl (setRow_heap _ _ _ _ _ _ HX4.out.b2) Tryz.underlying56 rfl (size_tab _ _ _)) rfl ?_
              exact keep_post 206 HR.out HX4.out.chg (Nat.le_of_lt HX4.out.lt) _ HRn.out
            · rw [if_neg h5] at hRx
              rw [decide_eq_true (⟨by omega, by have := HR.out.room.count; omega⟩)] at HRm
              have hp0 : p ≠ [] := fun e => by have := HHx.out; rw [e, at_root] at this; cases this; exact h2 rfl
              obtain ⟨U, hU⟩ : ∃ U, Z ++ z = U := ⟨_, rfl⟩
              have HE := Asd.mk (show Eqv R.2 (withF G p kd U) ∧ R.1 = 0 by
                refine ⟨eqv_of_at HKp.out.1 (okRow_with (okRow_of HR.out.ok) HOk.out hp0 (by omega) _) fun r => ?_, by rw [hRx]⟩
                rw [hRx, at_set _ hp0 HHx.out, at_with _ hp0, if_neg (show ¬ kd = 0 by omega), ← hU, Hkd.out])
              have HWi := Asd.mk (fun W (hC : Chg [] w W) => withA (bb := bb) (nn := nn) (HR.out.chg hC).row (okRow_of HR.out.ok) (by have := HR.out.num; omega) HOk.out T kd U (by omega))
              rw [HTt.out] at HWi
              clear hRx hk h2 h3 h4 h5 hp0
              go_wp2_with fail
              refine (HRm.out _ HX3.out.chg).mono ?_
              rintro e w4 ⟨rfl, hC⟩
              have HX4 := Asd.mk (HX3.out.on hC)
              have hbD4 := hC.heap HbD.out (by simp)
              obtain ⟨w5, hw5⟩ : ∃ W, w4.setCell ⟨D, 2, none⟩ (.string U) = W := ⟨_, rfl⟩
              have hbD5 : w5.heap[D]? = some (.cells #[.string T, .int .i64 (kd : Int), .string U] 41 (0, 0)) := by
                rw [← hw5]
                exact hp_set hbD4 2 (.string U)
              have HX5 := Asd.mk (HX4.out.off HDw.out (show Chg [D] w4 w5 by rw [← hw5]; exact (Chg.refl _ _).setCell (fun _ => by simp) _))
              have d0 := cell_of_heap hbD4 0
              have d1 := cell_of_heap hbD4 1
              have d2 := cell_of_heap hbD4 2
              have g2 := frozen_of_heap hbD4 2
              have x0 := cell_of_heap hbD5 0
              have x1 := cell_of_heap hbD5 1
              have x2 := cell_of_heap hbD5 2
              clear hC HRm HX3 b0 b1 b2 hbD4 hbD5
              have b0 := cell_of_heap HX5.out.b1 0; have b1 := cell_of_heap HX5.out.b1 1; have b2 := cell_of_heap HX5.out.b1 2
              go_wp2_with fail
              refine (HWi.out _ HX5.out.chg).mono ?_
              rintro e w6 ⟨v', rfl, hV, hC⟩
              have HX6 := Asd.mk (HX5.out.on hC)
              have HV := Asd.mk hV
              have HL := Asd.mk (lt_of_heap HX5.out.b2)
              clear hC HWi HX5 b0 b1 b2 hV x0 x1 x2 d0 d1 d2 g2 hw5 HX4
              go_wp2_with (first | (refine wpList_store_row (o := ⟨none, _, _, _, _, _⟩) rfl 56 (.tmp 6) (.tmp 59) rfl wa.heap.size _ rfl rfl 56 _ HX6.out.b2 (size_tab _ _ _) rfl (one_tabv HV.out _ _) ?_))
              refine bodyPost_ret (results_row_tmp rfl _ _ wa.heap.size 56 _ (0, 0) _ rfl (setRow_heap _ _ _ _ _ _ HX6.out.b2) Tryz.underlying56 rfl (size_tab _ _ _)) rfl ?_
              exact new_post 0 HE.out.2 HE.out.1 HV.out HX6.out.chg (Nat.le_of_lt HX6.out.lt) HL.out HK.out _
end Go.Proofs.YtiijbecklkccfaaGreatDoor.I
/- The reference's Look and Read. -/
namespace Go.Proofs.YtiijbecklkccfaaGreatDoor.I
open Go.RowKit Go.Proofs.YtiijbecklkccfaaGreatDoor.B Go.Sort
set_option linter.unusedVariables false
attribute [local go_sem high] field_kind
variable {w : World} {K : Nat} {v : Value} {G : FS} {bb nn : Nat}
/-- Two boxes: the table that came, and the entry that is answered. -/
structure BoxE (w wa W : World) (v : Value) (bb nn : Nat) : Prop where
  chg : Chg [] w W
  b1 : W.heap[w.heap.size]? = some (.cells #[v, .int .i64 (bb : Int), .int .i64 (nn : Int)] 56 (0, 0))
  b2 : W.heap[wa.heap.size]? = some (.cells #[.string ⟨#[]⟩, .int .i64 0, .string ⟨#[]⟩] 41 (0, 0))
  lt : w.heap.size < wa.heap.size
theorem BoxE.on {w wa W W' : World} {v : Value} {bb nn : Nat} (h : BoxE w wa W v bb nn) (hC : Chg [] W W') : BoxE w wa W' v bb nn :=
  ⟨h.chg.trans hC, hC.heap h.b1 (by simp), hC.heap h.b2 (by simp), h.lt⟩
theorem BoxE.off {w wa W W' : World} {v : Value} {bb nn D : Nat} (h : BoxE w wa W v bb nn) (hD : wa.heap.size < D) (hC : Chg [D] W W') : BoxE w wa W' v bb nn :=
  ⟨Chg.fresh ((h.chg.mono (by simp)).trans hC) (fun i hi => by have := h.lt; rw [List.mem_singleton] at hi; omega), hC.heap h.b1 (by have := h.lt; simp; omega), hC.heap h.b2 (by simp; omega), h.lt⟩
theorem boxE_start (w : World) (v : Value) (bb nn : Nat) : ∃ wa w0, w.alloc (.cells #[v, .int .i64 (bb : Int), .int .i64 (nn : Int)] 56) = wa ∧ wa.alloc (.cells #[.string ⟨#[]⟩, .int .i64 0, .string ⟨#[]⟩] 41) = w0 ∧ BoxE w wa w0 v bb nn := by
  obtain ⟨wa, hwa, hCa, hA1⟩ := start1 w #[v, .int .i64 (bb : Int), .int .i64 (nn : Int)] 56
  obtain ⟨w0, hw0, hCb, hA2⟩ := start1 wa #[.string ⟨#[]⟩, .int .i64 0, .string ⟨#[]⟩] 41
  exact ⟨wa, w0, hwa, hw0, hCa.trans hCb, hCb.heap hA1 (by simp), hA2, lt_of_heap hA1⟩
theorem chg_row {w W : World} (h : Chg [] w W) {B : Nat} (hB : w.heap.size ≤ B) (cs : Array Value) : Chg [] w (W.setRow B cs) := h.setRow (fun h => absurd h (by omega)) cs
set_option maxRecDepth 100000 in
set_option maxHeartbeats 16000000 in
theorem look20_calls (h : RAt w K v G bb nn) (s : ByteArray) (hs : s.size ≤ 1048576) :
    Calls Tryz.prog 51 #[.agg #[v, .int .i64 (bb : Int), .int .i64 (nn : Int)], .string s] w fun e w' => e = .returned (.tuple #[entV (lookF G s).2, .int .i64 ((lookF G s).1 : Int)]) ∧ Chg [] w w' := by
  obtain ⟨wa, w0, hwa, hw0, hX⟩ := boxE_start w v bb nn
  have HX := Asd.mk hX
  have HR := Asd.mk h
  have HW := Asd.mk (wayA (h.chg hX.chg) s hs)
  have b0 := cell_of_heap HX.out.b1 0; have b1 := cell_of_heap HX.out.b1 1; have b2 := cell_of_heap HX.out.b1 2
  clear h hX hs
  cases hs : atE G s with
  | error n =>
    have HA := Asd.mk (show lookF G s = (n, ⟨#[]⟩, 0, ⟨#[]⟩) by unfold lookF; rw [thereE_err hs])
    have hn := atE_pos hs
    have k1 : ¬ (n : Int) = 0 := by omega
    rw [wayN_err hs] at HW
    clear hs hn
    (go_enter Tryz.func51, Tryz.ntmps51)
    go_wp2_with fail
    refine HW.out.mono ?_
    rintro e w1 ⟨rfl, hC⟩
    have HX1 := Asd.mk (HX.out.on hC)
    clear hC HW HX b0 b1 b2 hwa hw0
    have b0 := cell_of_heap HX1.out.b1 0; have b1 := cell_of_heap HX1.out.b1 1; have b2 := cell_of_heap HX1.out.b1 2
    go_wp2_with (first | (refine wpList_store_row (o := ⟨none, _, _, _, _, _⟩) rfl 41 (.tmp 4) (.tmp 13) rfl wa.heap.size _ rfl rfl 41 _ HX1.out.b2 (size_entry _ _ _) rfl (one_entry _ _ _) ?_))
    refine bodyPost_ret (results_row_tmp rfl _ _ wa.heap.size 41 _ (0, 0) _ rfl (setRow_heap _ _ _ _ _ _ HX1.out.b2) Tryz.underlying41 rfl (size_entry _ _ _)) rfl ?_
    refine ⟨by rw [HA.out]; rfl, chg_row HX1.out.chg (Nat.le_of_lt HX1.out.lt) _⟩
  | ok p =>
    have hp := atE_parts hs
    have hok := partsF_ok hp
    rw [wayN_ok hs] at HW
    have HT := Asd.mk (tx_parts hp)
    have HOk := Asd.mk hok
    cases hx : G.at p with
    | none =>
      have HA := Asd.mk (show lookF G s = (200, ⟨#[]⟩, 0, ⟨#[]⟩) by unfold lookF; rw [thereE_none hs hx])
      have HAt := Asd.mk (fun W (hC : Chg [] w W) => at_noneA (HR.out.chg hC) HOk.out hx)
      rw [← HT.out] at HAt
      clear hs hp hok hx
      (go_enter Tryz.func51, Tryz.ntmps51)
      go_wp2_with fail
      refine HW.out.mono ?_
      rintro e w1 ⟨rfl, hC⟩
      have HX1 := Asd.mk (HX.out.on hC)
      clear hC HW HX b0 b1 b2 hwa hw0
      have b0 := cell_of_heap HX1.out.b1 0; have b1 := cell_of_heap HX1.out.b1 1; have b2 := cell_of_heap HX1.out.b1 2
      go_wp2_with fail
      refine (HAt.out _ HX1.out.chg).mono ?_
      rintro e w2 ⟨rfl, hC⟩
      have HX2 := Asd.mk (HX1.out.on hC)
      clear hC HAt HX1 b0 b1 b2
      have b0 := cell_of_heap HX2.out.b1 0; have b1 := cell_of_heap HX2.out.b1 1; have b2 := cell_of_heap HX2.out.b1 2
      go_upto_region 5 with (first | (refine wpList_store_row (o := ⟨none, _, _, _, _, _⟩) rfl 41 (.tmp 7) (.tmp 17) rfl w2.heap.size _ rfl rfl 41 _ (hp_new _ _) (size_entry _ _ _) rfl (one_entry _ _ _) ?_))
      refine wp_opaque2 (fun W hW => ?_)
      have hCW : Chg [w2.heap.size] w2 W := by rw [hW]; exact ((Chg.refl _ _).alloc _).setRow (fun _ => by simp) _
      have hbD : W.heap[w2.heap.size]? = some (.cells #[.string ⟨#[]⟩, .int .i64 0, .string ⟨#[]⟩] 41 (0, 0)) := by rw [hW]; exact setRow_heap _ _ _ _ _ _ (hp_new _ _)
      have HX3 := Asd.mk (HX2.out.off (lt_of_heap HX2.out.b2) hCW)
      obtain ⟨D, hD⟩ : ∃ D, w2.heap.size = D := ⟨_, rfl⟩
      rw [hD] at hbD ⊢
      have d1 := cell_of_heap hbD 1
      clear hW hCW HX2 b0 b1 b2 hD hbD
      go_wp2_with (first | (refine wpList_store_row (o := ⟨none, _, _, _, _, _⟩) rfl 41 (.tmp 4) (.tmp 21) rfl wa.heap.size _ rfl rfl 41 _ HX3.out.b2 (size_entry _ _ _) rfl (one_entry _ _ _) ?_))
      refine bodyPost_ret (results_row_tmp rfl _ _ wa.heap.size 41 _ (0, 0) _ rfl (setRow_heap _ _ _ _ _ _ HX3.out.b2) Tryz.underlying41 rfl (size_entry _ _ _)) rfl ?_
      refine ⟨by rw [HA.out]; rfl, chg_row HX3.out.chg (Nat.le_of_lt HX3.out.lt) _⟩
    | some x =>
      have HA := Asd.mk (show lookF G s = (0, s, x.kind, x.text) by unfold lookF; rw [thereE_some hs hx]; simp only; rw [hx])
      have hk := HR.out.ok.kind _ _ hx
      have HAt := Asd.mk (fun W (hC : Chg [] w W) => at_someA (HR.out.chg hC) hx)
      rw [← HT.out] at HAt
      obtain ⟨kd, Z⟩ := x
      simp only at HA HAt hk
      have k0 : ¬ (kd : Int) = 0 := by omega
      clear hs hp hok hx hk
      (go_enter Tryz.func51, Tryz.ntmps51)
      go_wp2_with fail
      refine HW.out.mono ?_
      rintro e w1 ⟨rfl, hC⟩
      have HX1 := Asd.mk (HX.out.on hC)
      clear hC HW HX b0 b1 b2 hwa hw0
      have b0 := cell_of_heap HX1.out.b1 0; have b1 := cell_of_heap HX1.out.b1 1; have b2 := cell_of_heap HX1.out.b1 2
      go_wp2_with fail
      refine (HAt.out _ HX1.out.chg).mono ?_
      rintro e w2 ⟨rfl, hC⟩
      have HX2 := Asd.mk (HX1.out.on hC)
      clear hC HAt HX1 b0 b1 b2
      have b0 := cell_of_heap HX2.out.b1 0; have b1 := cell_of_heap HX2.out.b1 1; have b2 := cell_of_heap HX2.out.b1 2
      go_upto_region 5 with (first | (refine wpList_store_row (o := ⟨none, _, _, _, _, _⟩) rfl 41 (.tmp 7) (.tmp 17) rfl w2.heap.size _ rfl rfl 41 _ (hp_new _ _) (size_entry _ _ _) rfl (one_entry _ _ _) ?_))
      refine wp_opaque2 (fun W hW => ?_)
      have hCW : Chg [w2.heap.size] w2 W := by rw [hW]; exact ((Chg.refl _ _).alloc _).setRow (fun _ => by simp) _
      have hbD : W.heap[w2.heap.size]? = some (.cells #[.string s, .int .i64 (kd : Int), .string Z] 41 (0, 0)) := by rw [hW]; exact setRow_heap _ _ _ _ _ _ (hp_new _ _)
      have HX3 := Asd.mk (HX2.out.off (lt_of_heap HX2.out.b2) hCW)
      have HDw := Asd.mk (show wa.heap.size < w2.heap.size from lt_of_heap HX2.out.b2)
      obtain ⟨D, hD⟩ : ∃ D, w2.heap.size = D := ⟨_, rfl⟩
      rw [hD] at hbD HDw ⊢
      obtain ⟨W5, hw5⟩ : ∃ W', W.setCell ⟨D, 0, none⟩ (.string s) = W' := ⟨_, rfl⟩
      have hbD5 : W5.heap[D]? = some (.cells #[.string s, .int .i64 (kd : Int), .string Z] 41 (0, 0)) := by
        rw [← hw5]
        exact hp_set hbD 0 (.string s)
      have HX5 := Asd.mk (HX3.out.off HDw.out (show Chg [D] W W5 by rw [← hw5]; exact (Chg.refl _ _).setCell (fun _ => by simp) _))
      have d0 := cell_of_heap hbD 0
      have d1 := cell_of_heap hbD 1
      have g2 := frozen_of_heap hbD 0
      have x0 := cell_of_heap hbD5 0
      have x1 := cell_of_heap hbD5 1
      have x2 := cell_of_heap hbD5 2
      clear hW hCW HX2 b0 b1 b2 hD hbD hbD5
      go_wp2_with (first | (refine wpList_store_row (o := ⟨none, _, _, _, _, _⟩) rfl 41 (.tmp 4) (.tmp 24) rfl wa.heap.size _ rfl rfl 41 _ HX5.out.b2 (size_entry _ _ _) rfl (one_entry _ _ _) ?_))
      refine bodyPost_ret (results_row_tmp rfl _ _ wa.heap.size 41 _ (0, 0) _ rfl (setRow_heap _ _ _ _ _ _ HX5.out.b2) Tryz.underlying41 rfl (size_entry _ _ _)) rfl ?_
      refine ⟨by rw [HA.out]; rfl, chg_row HX5.out.chg (Nat.le_of_lt HX5.out.lt) _⟩
set_option maxRecDepth 100000 in
set_option maxHeartbeats 16000000 in
theorem read20_calls (h : RAt w K v G bb nn) (s : ByteArray) (hs : s.size ≤ 1048576) :
    Calls Tryz.prog 52 #[.agg #[v, .int .i64 (bb : Int), .int .i64 (nn : Int)], .string s] w fun e w' => e = .returned (.tuple #[.string (readF G s).2, .int .i64 ((readF G s).1 : Int)]) ∧ Chg [] w w' := by
  obtain ⟨w0, hw0, hC, hB⟩ := start1 w #[v, .int .i64 (bb : Int), .int .i64 (nn : Int)] 56
  have HC := Asd.mk hC
  have HL := Asd.mk (look20_calls (h.chg hC) s hs)
  have hok := h.ok
  have b0 := cell_of_heap hB 0
  have b1 := cell_of_heap hB 1
  have b2 := cell_of_heap hB 2
  obtain ⟨R, hR⟩ : ∃ R, readF G s = R := ⟨_, rfl⟩
  obtain ⟨Q, hQ⟩ : ∃ R, lookF G s = R := ⟨_, rfl⟩
  rw [hR]
  rw [hQ] at HL
  have HRQ := Asd.mk (show (Q.1 ≠ 0 ∧ R = (Q.1, ⟨#[]⟩)) ∨ (Q.1 = 0 ∧ ((Q.2.2.1 = 1 ∧ R = (0, Q.2.2.2)) ∨ (Q.2.2.1 = 2 ∧ R = (202, ⟨#[]⟩)) ∨ (Q.2.2.1 = 3 ∧ R = (204, ⟨#[]⟩)))) by
    rw [← hR, ← hQ]
    unfold readF lookF
    cases ht : thereE G s with
    | error n => exact .inl ⟨thereE_pos ht, rfl⟩
    | ok p =>
      obtain ⟨x, hx⟩ := thereE_ok ht
      simp only
      rw [hx]
      simp only
      refine .inr ⟨by trivial, ?_⟩
      rcases hok.kind _ _ hx with h1 | h1 | h1
      · exact .inl ⟨h1, by rw [if_neg (by omega), if_neg (by omega)]⟩
      · exact .inr (.inl ⟨h1, by rw [if_pos h1]⟩)
      · exact .inr (.inr ⟨h1, by rw [if_neg (by omega), if_pos h1]⟩))
  obtain ⟨n, P, kd, Z⟩ := Q
  simp only at HRQ HL
  clear h hC hB hs hR hQ hok
  (go_enter Tryz.func52, Tryz.ntmps52)
  go_wp2_with fail
  refine HL.out.mono ?_
  rintro e w1 ⟨rfl, hC⟩
  have HC1 := Asd.mk (HC.out.trans hC)
  unfold entV
  simp only
  clear hC HL b0 b1 b2 hw0
  go_upto_region 2 with (first | (refine wpList_store_row (o := ⟨none, _, _, _, _, _⟩) rfl 41 (.tmp 6) (.tmp 12) rfl w1.heap.size _ rfl rfl 41 _ (hp_new _ _) (size_entry _ _ _) rfl (one_entry _ _ _) ?_))
  refine wp_opaque2 (fun W hW => ?_)
  have hCW := Asd.mk (show Chg [] w W by rw [hW]; exact (HC1.out.alloc _).setRow (fun h => absurd h (by have := HC1.out.size; omega)) _)
  have hbD : W.heap[w1.heap.size]? = some (.cells #[.string P, .int .i64 (kd : Int), .string Z] 41 (0, 0)) := by rw [hW]; exact setRow_heap _ _ _ _ _ _ (hp_new _ _)
  obtain ⟨D, hD⟩ : ∃ D, w1.heap.size = D := ⟨_, rfl⟩
  rw [hD] at hbD ⊢
  have d1 := cell_of_heap hbD 1
  have d2 := cell_of_heap hbD 2
  clear hW hD hbD
  rcases HRQ.out with ⟨h1, h2⟩ | ⟨h1, ⟨h3, h2⟩ | ⟨h3, h2⟩ | ⟨h3, h2⟩⟩
  · have k1 : ¬ (n : Int) = 0 := by omega
    have HRn := Asd.mk h2
    clear h1 h2 HRQ
    go_wp2
    go_ret2
    refine ⟨by rw [HRn.out]; rfl, hCW.out⟩
  · subst h1 h3
    have HRn := Asd.mk h2
    clear h2 HRQ
    go_wp2
    go_ret2
    refine ⟨by rw [HRn.out]; rfl, hCW.out⟩
  · subst h1 h3
    have HRn := Asd.mk h2
    clear h2 HRQ
    go_wp2
    go_ret2
    refine ⟨by rw [HRn.out]; rfl, hCW.out⟩
  · subst h1 h3
    have HRn := Asd.mk h2
    clear h2 HRQ
    go_wp2
    go_ret2
    refine ⟨by rw [HRn.out]; rfl, hCW.out⟩
end Go.Proofs.YtiijbecklkccfaaGreatDoor.I
/- Rows appended to rows: of texts (of none, too), of entries. -/
namespace Go.Proofs.YtiijbecklkccfaaGreatDoor.I
open Go.RowKit Go.Proofs.YtiijbecklkccfaaGreatDoor.B Go.Sort
set_option linter.unusedVariables false
theorem app_none (A : Option Addr) (n c : Nat) (ty : TypeId) (w : World) (h : n ≤ c) : (Builtin.append_ #[42, 42] ty #[.slice A n c, .slice none 0 0]).run Tryz.prog w = .ok (.slice A n c) w := by
  unfold Builtin.append_
  cases A with
  | none => go_simp
  | some a => go_simp
/-- Texts that lie somewhere. -/
def LiesT (w : World) (A : Option Addr) (news : List Value) : Prop := (A = none ∧ news = []) ∨ ∃ ad, A = some ad ∧ ∀ j u, news[j]? = some u → w.cell? (ad.add j) = some u
theorem run_append_texts {w : World} (ty : TypeId) (base : Nat) (v : Value) (n : Nat) (xs : List Value) (hown : w.ownsRow base 9 1 v n xs) (A : Option Addr) (m c : Nat) (news : List Value) (hl : news.length = m) (hc : A = none → c = 0) (hA : LiesT w A news) (h1 : ∀ u ∈ news, u.oneCell' = true) (hn : n + m ≤ 4194304) (hb : base ≤ w.heap.size) :
    ∃ A' cap w', (Builtin.append_ #[42, 42] ty #[v, .slice A m c]).run Tryz.prog w = .ok (.slice A' (n + m) cap) w' ∧ w'.ownsRow base 9 1 (.slice A' (n + m) cap) (n + m) (xs ++ news) ∧ w.grownBy w' v.ownBlock := by
  rcases hA with ⟨rfl, rfl⟩ | ⟨ad, rfl, hA⟩
  · obtain rfl : m = 0 := by simpa using hl.symm
    obtain rfl : c = 0 := hc rfl
    obtain ⟨A', c', rfl, h2⟩ := own_form hown
    refine ⟨A', c', w, app_none A' n c' ty w h2, ?_, World.grownBy.refl _ _⟩
    rw [List.append_nil]
    exact hown
  · obtain ⟨ie, h2, h3, h4, h5⟩ := info9'
    obtain ⟨v', w', hr, h6, h7, _, _⟩ := run_append_own_at (P := Tryz.prog) w base 42 ty 9 ie (.string ⟨#[]⟩) 1 16 Tryz.underlying42 h2 h3 h4 h5 rfl (by decide) v n xs hown ad m c news (by omega) hA h1 (by unfold maxLen; omega) (by omega) hb
    obtain ⟨A', c', rfl, _⟩ := own_form h6
    exact ⟨A', c', w', hr, h6, h7⟩
theorem wpList_append_texts {ops : Array Oper} {rest : List Oper} {o : Oper} {a : Act} {w : World} {Q : Exit → Act → World → Prop} (hgd : o.guard = none) (s y : Operand)
    (ho : o.op = .call { callee := .builtin .append, args := #[s, y], argTypes := #[42, 42] }) (base : Nat) (v : Value) (n : Nat) (xs : List Value) (hs : a.eval s = v) (hown : w.ownsRow base 9 1 v n xs)
    (A : Option Addr) (m c : Nat) (news : List Value) (hy : a.eval y = .slice A m c) (hl : news.length = m) (hc : A = none → c = 0) (hA : LiesT w A news) (h1 : ∀ u ∈ news, u.oneCell' = true) (hn : n + m ≤ 4194304) (hb : base ≤ w.heap.size)
    (h : ∀ A' cap w', w'.ownsRow base 9 1 (.slice A' (n + m) cap) (n + m) (xs ++ news) → w.grownBy w' v.ownBlock → wpList Tryz.prog ops Q rest (a.put o.dst (.slice A' (n + m) cap)) w') : wpList Tryz.prog ops Q (o :: rest) a w := by
  refine wpList_plain hgd fun _ hK => ?_
  obtain ⟨A', cap, w', hr, h2, h3⟩ := run_append_texts (w := w) o.type base v n xs hown A m c news hl hc hA h1 hn hb
  unfold Oper.wp execOp
  simp only [ho, resolve, invoke, builtin, Sem.run_bind, Sem.run_pure, Result.andThen_ok, List.map_toArray, List.map_cons, List.map_nil, hs, hy, hr]
  exact hK _ _ (h A' cap w' h2 h3)
/-- A row of texts that lies in a world, from a place on. -/
theorem lies_take {w : World} {b : Nat} {A : Option Addr} {c n : Nat} {L : List ByteArray} (h : RowT w b (.slice A n c) L) (k : Nat) (hk : k ≤ L.length) : LiesT w A ((L.take k).map Value.string) := by
  obtain ⟨h1, h2⟩ := h
  rcases h2 with ⟨hv, h0⟩ | ⟨g, cap, cur, hv, hb, hg, hn, hc, hsz, ht⟩
  · cases hv
    left
    have : L = [] := List.length_eq_zero_iff.1 h0
    subst this
    exact ⟨rfl, by simp⟩
  · cases hv
    right
    refine ⟨_, rfl, fun j u hj => ?_⟩
    have e : (⟨g, 0, none⟩ : Addr).add j = ⟨g, j, none⟩ := by
      unfold Addr.add
      split
      · subst_vars; rfl
      · simp
    rw [e, cell_of_heap hg]
    rw [List.getElem?_map] at hj
    have hjl : j < k := by
      rcases Nat.lt_or_ge j k with h | h
      · exact h
      · rw [List.getElem?_eq_none (by simp; omega)] at hj; cases hj
    rw [List.getElem?_take_of_lt hjl] at hj
    have h3 : (cur.toList.take (L.length * 1))[j]? = (L.map Value.string)[j]? := by rw [ht]
    rw [List.getElem?_take_of_lt (by omega), List.getElem?_map] at h3
    rw [← Array.getElem?_toList, h3]
    exact hj
theorem lies_drop {w : World} {b : Nat} {ad : Addr} {c n : Nat} {L : List ByteArray} (h : RowT w b (.slice (some ad) n c) L) (k : Nat) (hk : k ≤ L.length) : LiesT w (some (ad.add k)) ((L.drop k).map Value.string) := by
  obtain ⟨h1, h2⟩ := h
  rcases h2 with ⟨hv, h0⟩ | ⟨g, cap, cur, hv, hb, hg, hn, hc, hsz, ht⟩
  · cases hv
  · cases hv
    right
    refine ⟨_, rfl, fun j u hj => ?_⟩
    have e : ((⟨g, 0, none⟩ : Addr).add k).add j = ⟨g, k + j, none⟩ := by
      rw [Go.Deep.add_add]
      unfold Addr.add
      split
      · simp_all
      · simp
    rw [e, cell_of_heap hg]
    rw [List.getElem?_map, List.getElem?_drop] at hj
    have hjl : k + j < L.length := by
      rcases Nat.lt_or_ge (k + j) L.length with h | h
      · exact h
      · rw [List.getElem?_eq_none (by omega)] at hj; cases hj
    have h3 : (cur.toList.take (L.length * 1))[k + j]? = (L.map Value.string)[k + j]? := by rw [ht]
    rw [List.getElem?_take_of_lt (by omega), List.getElem?_map] at h3
    rw [← Array.getElem?_toList, h3]
    exact hj
end Go.Proofs.YtiijbecklkccfaaGreatDoor.I
/- The reference's sorting of names. Plain. -/
namespace Go.Proofs.YtiijbecklkccfaaGreatDoor.I
open Go.RowKit Go.Proofs.YtiijbecklkccfaaGreatDoor.B Go.Sort
set_option linter.unusedVariables false
def ltN (x y : Nm) : Bool := decide (y < x)
def insN (out : List Nm) (x : Nm) : List Nm := out.takeWhile (ltN x) ++ x :: out.dropWhile (ltN x)
theorem ins_perm (out : List Nm) (x : Nm) : (insN out x).Perm (x :: out) := by
  unfold insN
  refine List.perm_middle.trans ?_
  rw [List.takeWhile_append_dropWhile]
theorem nm_lt_le {a b : Nm} (h : a < b) : a ≤ b := List.le_of_lt h
theorem ins_sorted {out : List Nm} (h : out.Pairwise (· ≤ ·)) (x : Nm) : (insN out x).Pairwise (· ≤ ·) := by
  induction out with
  | nil => unfold insN; simp
  | cons a out ih =>
    rw [List.pairwise_cons] at h
    by_cases ha : a < x
    · have e : insN (a :: out) x = a :: insN out x := by
        have hd : ltN x a = true := decide_eq_true ha
        unfold insN
        rw [List.takeWhile_cons, List.dropWhile_cons, hd, if_pos rfl, if_pos rfl, List.cons_append]
      rw [e, List.pairwise_cons]
      refine ⟨fun y hy => ?_, ih h.2⟩
      rcases List.mem_cons.1 ((ins_perm out x).mem_iff.1 hy) with rfl | hy
      · exact nm_lt_le ha
      · exact h.1 y hy
    · have hd : ltN x a = false := decide_eq_false ha
      have e : insN (a :: out) x = x :: a :: out := by
        unfold insN
        rw [List.takeWhile_cons, List.dropWhile_cons, hd]
        rfl
      have hxa : x ≤ a := List.not_lt.1 ha
      rw [e, List.pairwise_cons, List.pairwise_cons]
      refine ⟨fun y hy => ?_, h.1, h.2⟩
      rcases List.mem_cons.1 hy with rfl | hy
      · exact hxa
      · exact List.le_trans hxa (h.1 y hy)
theorem fold_ins : ∀ (l out : List Nm), out.Pairwise (· ≤ ·) → (l.foldl insN out).Perm (l ++ out) ∧ (l.foldl insN out).Pairwise (· ≤ ·)
  | [], out, h => ⟨List.Perm.refl _, h⟩
  | x :: l, out, h => by
    obtain ⟨h1, h2⟩ := fold_ins l (insN out x) (ins_sorted h x)
    refine ⟨h1.trans ?_, h2⟩
    exact ((ins_perm out x).append_left l).trans List.perm_middle
theorem sort_ins (l : List Nm) : l.foldl insN [] = sortN l := by
  obtain ⟨h1, h2⟩ := fold_ins l [] List.Pairwise.nil
  rw [List.append_nil] at h1
  have tr : ∀ a b c : Nm, decide (a ≤ b) = true → decide (b ≤ c) = true → decide (a ≤ c) = true := fun a b c h1 h2 => by
    simp only [decide_eq_true_eq] at h1 h2 ⊢
    exact List.le_trans h1 h2
  have tt : ∀ a b : Nm, (decide (a ≤ b) || decide (b ≤ a)) = true := fun a b => by
    simp only [Bool.or_eq_true, decide_eq_true_eq]
    exact List.le_total a b
  refine (h1.trans (List.mergeSort_perm l _).symm).eq_of_pairwise ?_ h2 ((List.pairwise_mergeSort (le := fun x y : Nm => decide (x ≤ y)) tr tt l).imp fun h => of_decide_eq_true h)
  intro a b _ _ h1 h2
  exact List.le_antisymm h1 h2
/-- Where the next one stands: the first place at which something not less stands. -/
theorem take_while_at {out : List Nm} {x : Nm} : ∀ {k : Nat}, k ≤ out.length → (∀ j, (h : j < out.length) → j < k → out[j]'h < x) → (∀ h : k < out.length, ¬ out[k]'h < x) → out.takeWhile (ltN x) = out.take k ∧ out.dropWhile (ltN x) = out.drop k := by
  induction out with
  | nil => intro k hk _ _; simp
  | cons a out ih =>
    intro k hk h1 h2
    cases k with
    | zero =>
      have hd : ltN x a = false := decide_eq_false (h2 (by simp))
      rw [List.takeWhile_cons, List.dropWhile_cons, hd]
      exact ⟨rfl, rfl⟩
    | succ k =>
      have hd : ltN x a = true := decide_eq_true (h1 0 (by simp) (by omega))
      rw [List.takeWhile_cons, List.dropWhile_cons, hd, if_pos rfl, if_pos rfl]
      obtain ⟨e1, e2⟩ := ih (k := k) (by simpa using hk) (fun j h hj => h1 (j + 1) (by simp; exact h) (by omega)) (fun h => h2 (by simp; exact h))
      rw [e1, e2]
      exact ⟨rfl, rfl⟩
theorem ins_at {out : List Nm} {x : Nm} {k : Nat} (hk : k ≤ out.length) (h1 : ∀ j, (h : j < out.length) → j < k → out[j]'h < x) (h2 : ∀ h : k < out.length, ¬ out[k]'h < x) : insN out x = out.take k ++ x :: out.drop k := by
  obtain ⟨e1, e2⟩ := take_while_at hk h1 h2
  unfold insN
  rw [e1, e2]
end Go.Proofs.YtiijbecklkccfaaGreatDoor.I
