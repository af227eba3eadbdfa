/- The reference's Rename. -/
import Derived.Test.YtiijbecklkccfaaGreatDoorPl18
import Derived.Test.YtiijbecklkccfaaGreatDoorPl21
import Derived.Test.YtiijbecklkccfaaGreatDoorPl17
namespace Go.Proofs.YtiijbecklkccfaaGreatDoor.I
open Go.RowKit Go.Proofs.YtiijbecklkccfaaGreatDoor.B Go.Sort
set_option linter.unusedVariables false
attribute [local go_sem high] field_kind
variable {w : World} {K : Nat} {v : Value} {G : FS} {bb nn : Nat}
theorem partsA (s : ByteArray) (w : World) (hs : s.size ≤ 1048576) : Calls Tryz.prog 15 #[.string s] w fun e w' => (∃ v, e = .returned (.tuple #[v, .int .i64 (refPartsN s : Int)])) ∧ Chg [] w w' := by
  refine (refparts_calls s w hs).mono ?_
  rintro e w' ⟨hC, h⟩
  unfold refPartsN
  cases hp : partsF s with
  | error n => rw [hp] at h; exact ⟨⟨_, h⟩, hC⟩
  | ok p =>
    rw [hp] at h
    obtain ⟨v, h1, _⟩ := h
    exact ⟨⟨v, h1⟩, hC⟩
theorem partsN_bad {s : ByteArray} (h : refPartsN s ≠ 0) : partsF s = .error (refPartsN s) := by
  unfold refPartsN at h ⊢
  cases hp : partsF s with
  | error n => rfl
  | ok p => rw [hp] at h; exact absurd rfl h
theorem partsN_ok {s : ByteArray} (h : refPartsN s = 0) : ∃ p, partsF s = .ok p := by
  unfold refPartsN at h
  cases hp : partsF s with
  | error n => rw [hp] at h; have := parts_num hp; simp only at h; omega
  | ok p => exact ⟨p, rfl⟩
theorem wayN_bad {G : FS} {s : ByteArray} {p : Pth} (hp : partsF s = .ok p) (h : wayN G s ≠ 0) : wayE G p = some (wayN G s) := by
  rw [way_ok2 hp] at h ⊢
  cases hw : wayE G p with
  | none => rw [hw] at h; exact absurd rfl h
  | some n => rfl
theorem wayN_good {G : FS} {s : ByteArray} {p : Pth} (hp : partsF s = .ok p) (h : wayN G s = 0) : wayE G p = none := by
  rw [way_ok2 hp] at h
  cases hw : wayE G p with
  | none => rfl
  | some n => rw [hw] at h; have := way_num hw; simp only [Option.getD_some] at h; omega
/-- The boxes while a rename moves: the table as it is now; what is to be moved. -/
structure BoxR (w wa W : World) (v : Value) (bb nn : Nat) (E : List Ent) (u : Value) (F : List Ent) : Prop where
  chg : Chg [] w W
  b1 : W.heap[w.heap.size]? = some (.cells #[v, .int .i64 (bb : Int), .int .i64 (nn : Int)] 56 (0, 0))
  b2 : W.heap[wa.heap.size]? = some (.cells #[.slice none 0 0, .int .i64 0, .int .i64 0] 56 (0, 0))
  lt : w.heap.size < wa.heap.size
  row : RowE W (wa.heap.size + 1) v E
  low : RowE W (wa.heap.size + 1) u F
theorem BoxR.on {w wa W W' : World} {v u : Value} {bb nn : Nat} {E F : List Ent} (h : BoxR w wa W v bb nn E u F) (hC : Chg [] W W') : BoxR w wa W' v bb nn E u F :=
  ⟨h.chg.trans hC, hC.heap h.b1 (by simp), hC.heap h.b2 (by simp), h.lt, own_off h.row hC (fun _ _ => by simp), own_off h.low hC (fun _ _ => by simp)⟩
theorem BoxR.put {w wa W : World} {v u v' : Value} {bb nn b : Nat} {E F E' : List Ent} (h : BoxR w wa W v bb nn E u F) (hR : RowE W b v' E') (hb : wa.heap.size < b) : BoxR w wa (W.setRow w.heap.size #[v', .int .i64 (bb : Int), .int .i64 (nn : Int)]) v' bb nn E' u F := by
  have hC : Chg [w.heap.size] W (W.setRow w.heap.size #[v', .int .i64 (bb : Int), .int .i64 (nn : Int)]) := (Chg.refl _ _).setRow (fun _ => by simp) _
  have hl := h.lt
  refine ⟨Chg.fresh ((h.chg.mono (by simp)).trans hC) (fun i hi => by rw [List.mem_singleton] at hi; omega), setRow_heap _ _ _ _ _ _ h.b1, hC.heap h.b2 (by simp; omega), hl, own_mono (own_off hR hC (fun g hg => by have := (own_block hR hg).1; simp; omega)) (by omega), own_off h.low hC (fun g hg => by have := (own_block h.low hg).1; simp; omega)⟩
theorem boxR_start {w wa W : World} {v u v' : Value} {bb nn b : Nat} {F E' : List Ent} (h : Box2 w wa W v bb nn) (hR : RowE W b v' E') (hb : wa.heap.size < b) (hL : RowE W (wa.heap.size + 1) u F) : BoxR w wa (W.setRow w.heap.size #[v', .int .i64 (bb : Int), .int .i64 (nn : Int)]) v' bb nn E' u F := by
  have hC : Chg [w.heap.size] W (W.setRow w.heap.size #[v', .int .i64 (bb : Int), .int .i64 (nn : Int)]) := (Chg.refl _ _).setRow (fun _ => by simp) _
  have hl := h.lt
  refine ⟨Chg.fresh ((h.chg.mono (by simp)).trans hC) (fun i hi => by rw [List.mem_singleton] at hi; omega), setRow_heap _ _ _ _ _ _ h.b1, hC.heap h.b2 (by simp; omega), hl, own_mono (own_off hR hC (fun g hg => by have := (own_block hR hg).1; simp; omega)) (by omega), own_off hL hC (fun g hg => by have := (own_block hL hg).1; simp; omega)⟩
theorem fold_take {p q : Pth} {l : FS} {G : FS} {i : Nat} (hi : i < l.length) : (l.take (i + 1)).foldl (stepM p q) G = stepM p q ((l.take i).foldl (stepM p q) G) (l[i]'hi) := by
  rw [List.take_succ_eq_append_getElem hi, List.foldl_append]
  rfl
set_option maxRecDepth 100000 in
set_option maxHeartbeats 32000000 in
theorem rename20_calls (h : RAt w K v G bb nn) (hK : K ≤ w.heap.size) (a b : ByteArray) (ha : a.size ≤ 1048576) (hb : b.size ≤ 1048576) :
    Calls Tryz.prog 47 #[.agg #[v, .int .i64 (bb : Int), .int .i64 (nn : Int)], .string a, .string b] w fun e w' => RPost w K v bb nn (renameF G a b) e w' := by
  obtain ⟨wa, w0, hwa, hw0, hX⟩ := box2_start w v bb nn
  have HX := Asd.mk hX
  have HR := Asd.mk h
  have HK := Asd.mk hK
  obtain ⟨R, hR⟩ : ∃ R, renameF G a b = R := ⟨_, rfl⟩
  rw [hR]
  have HRR := Asd.mk hR
  obtain ⟨N1, hN1⟩ : ∃ n, refPartsN a = n := ⟨_, rfl⟩
  obtain ⟨N2, hN2⟩ : ∃ n, refPartsN b = n := ⟨_, rfl⟩
  obtain ⟨N3, hN3⟩ : ∃ n, wayN G a = n := ⟨_, rfl⟩
  obtain ⟨N5, hN5⟩ : ∃ n, wayN G b = n := ⟨_, rfl⟩
  have HPa := Asd.mk (fun W => partsA a W ha)
  have HPb := Asd.mk (fun W => partsA b W hb)
  have HWa := Asd.mk (fun W (hC : Chg [] w W) => wayA (HR.out.chg hC) a ha)
  have HWb := Asd.mk (fun W (hC : Chg [] w W) => wayA (HR.out.chg hC) b hb)
  rw [hN1] at HPa
  rw [hN2] at HPb
  rw [hN3] at HWa
  rw [hN5] at HWb
  have HN := Asd.mk (And.intro hN1 (And.intro hN2 (And.intro hN3 hN5)))
  have b0 := cell_of_heap HX.out.b1 0; have b1 := cell_of_heap HX.out.b1 1; have b2 := cell_of_heap HX.out.b1 2
  clear h hX hK hR hN1 hN2 hN3 hN5
  (go_enter Tryz.func47, Tryz.ntmps47)
  go_wp2_with fail
  refine (HPa.out _).mono ?_
  rintro e w1 ⟨⟨v1, rfl⟩, hC⟩
  have HX1 := Asd.mk (HX.out.on hC)
  clear hC HPa HX b0 b1 b2 hwa hw0
  have b0 := cell_of_heap HX1.out.b1 0; have b1 := cell_of_heap HX1.out.b1 1; have b2 := cell_of_heap HX1.out.b1 2
  by_cases h1 : N1 ≠ 0
  · have HRn := Asd.mk (show R = (N1, G) by
      have e := partsN_bad (s := a) (by rw [HN.out.1]; exact h1)
      rw [← HRR.out]; unfold renameF; rw [e, HN.out.1])
    have k1 : ¬ (N1 : Int) = 0 := by omega
    clear h1
    (go_upto_region 3 with fail); (repeat (first | (refine wpList_store_row (o := ⟨none, _, _, _, _, _⟩) rfl 56 (.tmp 6) (.tmp 24) rfl wa.heap.size _ rfl rfl 56 _ HX1.out.b2 (size_tab _ _ _) rfl (one_tabv HR.out.row _ _) ?_) | go_values | go_skip | go_guarded | go_step | go_upon)); refine bodyPost_ret (results_row_tmp rfl _ _ wa.heap.size 56 _ (0, 0) _ rfl (setRow_heap _ _ _ _ _ _ HX1.out.b2) Tryz.underlying56 rfl (size_tab _ _ _)) rfl ?_; exact keep_post N1 HR.out HX1.out.chg (Nat.le_of_lt HX1.out.lt) _ HRn.out
  · obtain ⟨p, hp⟩ := partsN_ok (s := a) (by rw [HN.out.1]; omega)
    have HP := Asd.mk hp
    obtain rfl : N1 = 0 := by omega
    clear h1 hp
    go_wp2_with fail
    refine (HPb.out _).mono ?_
    rintro e w2 ⟨⟨v2, rfl⟩, hC⟩
    have HX2 := Asd.mk (HX1.out.on hC)
    clear hC HPb HX1 b0 b1 b2
    have b0 := cell_of_heap HX2.out.b1 0; have b1 := cell_of_heap HX2.out.b1 1; have b2 := cell_of_heap HX2.out.b1 2
    by_cases h1 : N2 ≠ 0
    · have HRn := Asd.mk (show R = (N2, G) by
        have e := partsN_bad (s := b) (by rw [HN.out.2.1]; exact h1)
        rw [← HRR.out]; unfold renameF; rw [HP.out]; simp only; rw [e, HN.out.2.1])
      have k2 : ¬ (N2 : Int) = 0 := by omega
      clear h1
      (go_upto_region 6 with fail); (repeat (first | (refine wpList_store_row (o := ⟨none, _, _, _, _, _⟩) rfl 56 (.tmp 6) (.tmp 34) rfl wa.heap.size _ rfl rfl 56 _ HX2.out.b2 (size_tab _ _ _) rfl (one_tabv HR.out.row _ _) ?_) | go_values | go_skip | go_guarded | go_step | go_upon)); refine bodyPost_ret (results_row_tmp rfl _ _ wa.heap.size 56 _ (0, 0) _ rfl (setRow_heap _ _ _ _ _ _ HX2.out.b2) Tryz.underlying56 rfl (size_tab _ _ _)) rfl ?_; exact keep_post N2 HR.out HX2.out.chg (Nat.le_of_lt HX2.out.lt) _ HRn.out
    · obtain ⟨q, hq⟩ := partsN_ok (s := b) (by rw [HN.out.2.1]; omega)
      have HQ := Asd.mk hq
      obtain rfl : N2 = 0 := by omega
      have HTa := Asd.mk (tx_parts HP.out)
      have HTb := Asd.mk (tx_parts HQ.out)
      have HOp := Asd.mk (partsF_ok HP.out)
      have HOq := Asd.mk (partsF_ok HQ.out)
      have t1 := ba_tests a []
      have t2 := ba_tests b []
      clear h1 hq
      by_cases hp0 : p = []
      · have HRn := Asd.mk (show R = (1, G) by rw [← HRR.out]; unfold renameF; rw [HP.out]; simp only; rw [HQ.out]; simp only; rw [if_pos hp0])
        rw [decide_eq_true (by rw [HTa.out, hp0]; rfl)] at t1
        clear hp0
        (go_upto_region 8 with fail); (repeat (first | (refine wpList_store_row (o := ⟨none, _, _, _, _, _⟩) rfl 56 (.tmp 6) (.tmp 39) rfl wa.heap.size _ rfl rfl 56 _ HX2.out.b2 (size_tab _ _ _) rfl (one_tabv HR.out.row _ _) ?_) | go_values | go_skip | go_guarded | go_step | go_upon)); refine bodyPost_ret (results_row_tmp rfl _ _ wa.heap.size 56 _ (0, 0) _ rfl (setRow_heap _ _ _ _ _ _ HX2.out.b2) Tryz.underlying56 rfl (size_tab _ _ _)) rfl ?_; exact keep_post 1 HR.out HX2.out.chg (Nat.le_of_lt HX2.out.lt) _ HRn.out
      · rw [decide_eq_false (fun e => hp0 ((tx_eqP HOp.out).1 (ByteArray.ext (Array.toList_inj.1 (by rw [← HTa.out]; exact e)))))] at t1
        by_cases hq0 : q = []
        · have HRn := Asd.mk (show R = (201, G) by rw [← HRR.out]; unfold renameF; rw [HP.out]; simp only; rw [HQ.out]; simp only; rw [if_neg hp0, if_pos hq0])
          rw [decide_eq_true (by rw [HTb.out, hq0]; rfl)] at t2
          clear hp0 hq0
          (go_upto_region 10 with fail); (repeat (first | (refine wpList_store_row (o := ⟨none, _, _, _, _, _⟩) rfl 56 (.tmp 6) (.tmp 43) rfl wa.heap.size _ rfl rfl 56 _ HX2.out.b2 (size_tab _ _ _) rfl (one_tabv HR.out.row _ _) ?_) | go_values | go_skip | go_guarded | go_step | go_upon)); refine bodyPost_ret (results_row_tmp rfl _ _ wa.heap.size 56 _ (0, 0) _ rfl (setRow_heap _ _ _ _ _ _ HX2.out.b2) Tryz.underlying56 rfl (size_tab _ _ _)) rfl ?_; exact keep_post 201 HR.out HX2.out.chg (Nat.le_of_lt HX2.out.lt) _ HRn.out
        · rw [decide_eq_false (fun e => hq0 ((tx_eqP HOq.out).1 (ByteArray.ext (Array.toList_inj.1 (by rw [← HTb.out]; exact e)))))] at t2
          have hRw : R = renRest G a b p q := by rw [← HRR.out]; exact ren_rest HP.out HQ.out hp0 hq0
          have HRw := Asd.mk hRw
          have HZ := Asd.mk (And.intro hp0 hq0)
          clear hp0 hq0 hRw
          go_wp2_with fail; refine (HWa.out _ HX2.out.chg).mono ?_; rintro e w3 ⟨rfl, hC⟩; have HX3 := Asd.mk (HX2.out.on hC); clear HX2 b0 b1 b2; have b0 := cell_of_heap HX3.out.b1 0; have b1 := cell_of_heap HX3.out.b1 1; have b2 := cell_of_heap HX3.out.b1 2
          clear hC HWa t1 t2
          by_cases h1 : N3 ≠ 0
          · have HRn := Asd.mk (show R = (N3, G) by
              have e := wayN_bad (G := G) HP.out (by rw [HN.out.2.2.1]; exact h1)
              rw [HRw.out, rest_wp e, HN.out.2.2.1])
            have k1 : ¬ (N3 : Int) = 0 := by omega
            clear h1
            (go_upto_region 13 with fail); (repeat (first | (refine wpList_store_row (o := ⟨none, _, _, _, _, _⟩) rfl 56 (.tmp 6) (.tmp 49) rfl wa.heap.size _ rfl rfl 56 _ HX3.out.b2 (size_tab _ _ _) rfl (one_tabv HR.out.row _ _) ?_) | go_values | go_skip | go_guarded | go_step | go_upon)); refine bodyPost_ret (results_row_tmp rfl _ _ wa.heap.size 56 _ (0, 0) _ rfl (setRow_heap _ _ _ _ _ _ HX3.out.b2) Tryz.underlying56 rfl (size_tab _ _ _)) rfl ?_; exact keep_post N3 HR.out HX3.out.chg (Nat.le_of_lt HX3.out.lt) _ HRn.out
          · have hw := wayN_good (G := G) HP.out (by rw [HN.out.2.2.1]; omega)
            obtain rfl : N3 = 0 := by omega
            have HWp := Asd.mk hw
            clear h1 hw
            cases hx : G.at p with
            | none =>
              have HRn := Asd.mk (show R = (200, G) by rw [HRw.out, rest_no HWp.out hx])
              have HA := Asd.mk (fun W (hC : Chg [] w W) => at_noneA (HR.out.chg hC) HOp.out hx)
              rw [← HTa.out] at HA
              clear hx
              go_wp2_with fail; refine (HA.out _ HX3.out.chg).mono ?_; rintro e w4 ⟨rfl, hC⟩; have HX4 := Asd.mk (HX3.out.on hC); clear HX3 b0 b1 b2; have b0 := cell_of_heap HX4.out.b1 0; have b1 := cell_of_heap HX4.out.b1 1; have b2 := cell_of_heap HX4.out.b1 2
              clear hC HA
              go_upto_region 15 with (first | (refine wpList_store_row (o := ⟨none, _, _, _, _, _⟩) rfl 41 (.tmp 10) (.tmp 53) rfl w4.heap.size _ rfl rfl 41 _ (hp_new _ _) (size_entry _ _ _) rfl (one_entry _ _ _) ?_))
              refine wp_opaque2 (fun W hW => ?_)
              have hCW : Chg [w4.heap.size] w4 W := by rw [hW]; exact ((Chg.refl _ _).alloc _).setRow (fun _ => by simp) _
              have hbD : W.heap[w4.heap.size]? = some (.cells #[.string ⟨#[]⟩, .int .i64 0, .string ⟨#[]⟩] 41 (0, 0)) := by rw [hW]; exact setRow_heap _ _ _ _ _ _ (hp_new _ _)
              have HX5 := Asd.mk (HX4.out.off (lt_of_heap HX4.out.b2) hCW)
              obtain ⟨D, hD⟩ : ∃ D, w4.heap.size = D := ⟨_, rfl⟩
              rw [hD] at hbD ⊢
              have d1 := cell_of_heap hbD 1
              clear hW hCW HX4 b0 b1 b2 hD hbD
              have b0 := cell_of_heap HX5.out.b1 0; have b1 := cell_of_heap HX5.out.b1 1; have b2 := cell_of_heap HX5.out.b1 2
              (go_upto_region 16 with fail); (repeat (first | (refine wpList_store_row (o := ⟨none, _, _, _, _, _⟩) rfl 56 (.tmp 6) (.tmp 57) rfl wa.heap.size _ rfl rfl 56 _ HX5.out.b2 (size_tab _ _ _) rfl (one_tabv HR.out.row _ _) ?_) | go_values | go_skip | go_guarded | go_step | go_upon)); refine bodyPost_ret (results_row_tmp rfl _ _ wa.heap.size 56 _ (0, 0) _ rfl (setRow_heap _ _ _ _ _ _ HX5.out.b2) Tryz.underlying56 rfl (size_tab _ _ _)) rfl ?_; exact keep_post 200 HR.out HX5.out.chg (Nat.le_of_lt HX5.out.lt) _ HRn.out
            | some x =>
              have HXx := Asd.mk hx
              have HKx := Asd.mk (HR.out.ok.kind _ _ hx)
              have HA := Asd.mk (fun W (hC : Chg [] w W) => at_someA (HR.out.chg hC) hx)
              rw [← HTa.out] at HA
              obtain ⟨kx, Zx⟩ := x
              simp only at HA HKx
              have k0 : ¬ (kx : Int) = 0 := by have := HKx.out; omega
              have k00 : ((kx : Int) == 0) = false := by simp; omega
              clear hx
              go_wp2_with fail; refine (HA.out _ HX3.out.chg).mono ?_; rintro e w4 ⟨rfl, hC⟩; have HX4 := Asd.mk (HX3.out.on hC); clear HX3 b0 b1 b2; have b0 := cell_of_heap HX4.out.b1 0; have b1 := cell_of_heap HX4.out.b1 1; have b2 := cell_of_heap HX4.out.b1 2
              clear hC HA
              go_upto_region 15 with (first | (refine wpList_store_row (o := ⟨none, _, _, _, _, _⟩) rfl 41 (.tmp 10) (.tmp 53) rfl w4.heap.size _ rfl rfl 41 _ (hp_new _ _) (size_entry _ _ _) rfl (one_entry _ _ _) ?_))
              refine wp_opaque2 (fun W hW => ?_)
              have hCW : Chg [w4.heap.size] w4 W := by rw [hW]; exact ((Chg.refl _ _).alloc _).setRow (fun _ => by simp) _
              have hbD : W.heap[w4.heap.size]? = some (.cells #[.string a, .int .i64 (kx : Int), .string Zx] 41 (0, 0)) := by rw [hW]; exact setRow_heap _ _ _ _ _ _ (hp_new _ _)
              have HX5 := Asd.mk (HX4.out.off (lt_of_heap HX4.out.b2) hCW)
              have HDw := Asd.mk (show wa.heap.size < w4.heap.size from lt_of_heap HX4.out.b2)
              obtain ⟨D, hD⟩ : ∃ D, w4.heap.size = D := ⟨_, rfl⟩
              rw [hD] at hbD HDw ⊢
              have HbD := Asd.mk hbD
              have d0 := cell_of_heap hbD 0
              have d1 := cell_of_heap hbD 1
              have d2 := cell_of_heap hbD 2
              clear hW hCW HX4 b0 b1 b2 hD hbD
              have b0 := cell_of_heap HX5.out.b1 0; have b1 := cell_of_heap HX5.out.b1 1; have b2 := cell_of_heap HX5.out.b1 2
              obtain ⟨Cx, hCx⟩ : ∃ c, decide (kx = 2 ∧ a ≠ b ∧ belowB a b = true) = c := ⟨_, rfl⟩
              have HBe := Asd.mk (fun W => refbelow_calls a b W (by omega) (by omega))
              have t1 := ba_eqs b a
              go_upto_region 17 with fail
              go_cut [70] from 58 to 70 (fun v70 wx => W = wx ∧ v70 = .bool Cx)
              case first =>
                by_cases h2 : kx = 2
                · have k2 : decide ((kx : Int) = 2) = true := decide_eq_true (by omega)
                  have k3 : ((kx : Int) == 2) = true := by simp; omega
                  by_cases hab : a = b
                  · rw [decide_eq_true hab.symm] at t1
                    have H1 := Asd.mk (show Cx = false by rw [← hCx]; exact decide_eq_false (fun h => h.2.1 hab))
                    clear h2 hab hCx
                    go_wp2
                    go_meet
                    case rel => exact ⟨rfl, by rw [H1.out]⟩
                  · rw [decide_eq_false (fun e => hab e.symm)] at t1
                    have H1 := Asd.mk (show belowB a b = Cx by rw [← hCx]; cases belowB a b with
                      | true => exact (decide_eq_true ⟨h2, hab, rfl⟩).symm
                      | false => exact (decide_eq_false (fun h => by cases h.2.2)).symm)
                    rw [H1.out] at HBe
                    clear h2 hab hCx
                    go_wp2_with fail
                    refine (HBe.out _).mono ?_
                    rintro e w6 ⟨rfl, hw⟩
                    have hw' := hw.symm
                    subst hw'
                    go_wp2
                    go_meet
                    case rel => exact ⟨rfl, rfl⟩
                · have k2 : decide ((kx : Int) = 2) = false := decide_eq_false (by omega)
                  have k3 : ((kx : Int) == 2) = false := by simp; omega
                  have H1 := Asd.mk (show Cx = false by rw [← hCx]; exact decide_eq_false (fun h => h2 h.1))
                  clear h2 hCx
                  go_wp2
                  go_meet
                  case rel => exact ⟨rfl, by rw [H1.out]⟩
              case rest =>
                obtain ⟨rfl, rfl⟩ := hcut
                clear t1 HBe
                have t1 := ba_eqs a b
                cases Cx with
                | true =>
                  have HRn := Asd.mk (show R = (207, G) by rw [HRw.out, rest_in HWp.out HXx.out (of_decide_eq_true hCx)])
                  clear hCx t1
                  (go_upto_region 18 with fail); (repeat (first | (refine wpList_store_row (o := ⟨none, _, _, _, _, _⟩) rfl 56 (.tmp 6) (.tmp 71) rfl wa.heap.size _ rfl rfl 56 _ HX5.out.b2 (size_tab _ _ _) rfl (one_tabv HR.out.row _ _) ?_) | go_values | go_skip | go_guarded | go_step | go_upon)); refine bodyPost_ret (results_row_tmp rfl _ _ wa.heap.size 56 _ (0, 0) _ rfl (setRow_heap _ _ _ _ _ _ HX5.out.b2) Tryz.underlying56 rfl (size_tab _ _ _)) rfl ?_; exact keep_post 207 HR.out HX5.out.chg (Nat.le_of_lt HX5.out.lt) _ HRn.out
                | false =>
                  have HNb := Asd.mk (of_decide_eq_false hCx)
                  clear hCx
                  have HbD2 := Asd.mk (fun W' (hC : Chg [] W W') => hC.heap HbD.out (by simp))
                  go_wp2_with fail; refine (HWb.out _ HX5.out.chg).mono ?_; rintro e w6 ⟨rfl, hC⟩; have HX6 := Asd.mk (HX5.out.on hC); clear HX5 b0 b1 b2; have b0 := cell_of_heap HX6.out.b1 0; have b1 := cell_of_heap HX6.out.b1 1; have b2 := cell_of_heap HX6.out.b1 2
                  have HbD6 := Asd.mk (HbD2.out _ hC)
                  clear hC HWb HbD2 HbD d0 d1 d2
                  by_cases h1 : N5 ≠ 0
                  · have HRn := Asd.mk (show R = (N5, G) by
                      have e := wayN_bad (G := G) HQ.out (by rw [HN.out.2.2.2]; exact h1)
                      rw [HRw.out, rest_wq HWp.out HXx.out HNb.out e, HN.out.2.2.2])
                    have k5 : ¬ (N5 : Int) = 0 := by omega
                    clear h1 t1
                    (go_upto_region 21 with fail); (repeat (first | (refine wpList_store_row (o := ⟨none, _, _, _, _, _⟩) rfl 56 (.tmp 6) (.tmp 77) rfl wa.heap.size _ rfl rfl 56 _ HX6.out.b2 (size_tab _ _ _) rfl (one_tabv HR.out.row _ _) ?_) | go_values | go_skip | go_guarded | go_step | go_upon)); refine bodyPost_ret (results_row_tmp rfl _ _ wa.heap.size 56 _ (0, 0) _ rfl (setRow_heap _ _ _ _ _ _ HX6.out.b2) Tryz.underlying56 rfl (size_tab _ _ _)) rfl ?_; exact keep_post N5 HR.out HX6.out.chg (Nat.le_of_lt HX6.out.lt) _ HRn.out
                  · have hw := wayN_good (G := G) HQ.out (by rw [HN.out.2.2.2]; omega)
                    have HWq := Asd.mk hw
                    obtain rfl : N5 = 0 := by omega
                    clear h1 hw
                    by_cases hab : a = b
                    · have HRn := Asd.mk (show R = (0, G) by rw [HRw.out, rest_eq HWp.out HXx.out HNb.out HWq.out hab])
                      rw [decide_eq_true hab] at t1
                      clear hab
                      (go_upto_region 23 with fail); (repeat (first | (refine wpList_store_row (o := ⟨none, _, _, _, _, _⟩) rfl 56 (.tmp 6) (.tmp 82) rfl wa.heap.size _ rfl rfl 56 _ HX6.out.b2 (size_tab _ _ _) rfl (one_tabv HR.out.row _ _) ?_) | go_values | go_skip | go_guarded | go_step | go_upon)); refine bodyPost_ret (results_row_tmp rfl _ _ wa.heap.size 56 _ (0, 0) _ rfl (setRow_heap _ _ _ _ _ _ HX6.out.b2) Tryz.underlying56 rfl (size_tab _ _ _)) rfl ?_; exact keep_post 0 HR.out HX6.out.chg (Nat.le_of_lt HX6.out.lt) _ HRn.out
                    · rw [decide_eq_false hab] at t1
                      have HAb := Asd.mk hab
                      clear hab
                      have hp0 := HZ.out.1
                      have hq0 := HZ.out.2
                      obtain ⟨Py, ky, Zy, hAt, hky⟩ : ∃ Py ky Zy, (∀ W, Chg [] w W → Calls Tryz.prog 72 #[.agg #[v, .int .i64 (bb : Int), .int .i64 (nn : Int)], .string b] W fun e w' => e = .returned (.agg #[.string Py, .int .i64 ((ky : Nat) : Int), .string Zy]) ∧ Chg [] W w') ∧ ((ky = 0 ∧ G.at q = none) ∨ (∃ y, G.at q = some y ∧ y.kind = ky ∧ (ky = 1 ∨ ky = 2 ∨ ky = 3))) := by
                        cases hy : G.at q with
                        | none =>
                          refine ⟨⟨#[]⟩, 0, ⟨#[]⟩, fun W hC => ?_, .inl ⟨rfl, rfl⟩⟩
                          have := at_noneA (HR.out.chg hC) HOq.out hy
                          rw [← HTb.out] at this
                          exact this
                        | some y =>
                          refine ⟨b, y.kind, y.text, fun W hC => ?_, .inr ⟨y, rfl, rfl, HR.out.ok.kind _ _ hy⟩⟩
                          have := at_someA (HR.out.chg hC) hy
                          rw [← HTb.out] at this
                          exact this
                      have HAt := Asd.mk hAt
                      have HKy := Asd.mk hky
                      have HBq := Asd.mk (fun W (hC : Chg [] w W) => belA (HR.out.chg hC) HOq.out hq0)
                      have HBp := Asd.mk (fun W (hC : Chg [] w W) => belA (HR.out.chg hC) HOp.out hp0)
                      rw [← HTb.out] at HBq
                      rw [← HTa.out] at HBp
                      clear hAt hky hp0 hq0
                      have HbD7 := Asd.mk (fun W' (hC : Chg [] w6 W') => hC.heap HbD6.out (by simp))
                      go_wp2_with fail; refine (HAt.out _ HX6.out.chg).mono ?_; rintro e w7 ⟨rfl, hC⟩; have HX7 := Asd.mk (HX6.out.on hC); clear HX6 b0 b1 b2; have b0 := cell_of_heap HX7.out.b1 0; have b1 := cell_of_heap HX7.out.b1 1; have b2 := cell_of_heap HX7.out.b1 2
                      have hbD7 := HbD7.out _ hC
                      clear hC HAt HbD7 t1
                      go_upto_block 1 with (first | (refine wpList_store_row (o := ⟨none, _, _, _, _, _⟩) rfl 41 (.tmp 11) (.tmp 85) rfl w7.heap.size _ rfl rfl 41 _ (hp_new _ _) (size_entry _ _ _) rfl (one_entry _ _ _) ?_))
                      refine wp_opaque2 (fun W7 hW => ?_)
                      have hCW : Chg [w7.heap.size] w7 W7 := by rw [hW]; exact ((Chg.refl _ _).alloc _).setRow (fun _ => by simp) _
                      have hbE : W7.heap[w7.heap.size]? = some (.cells #[.string Py, .int .i64 (ky : Int), .string Zy] 41 (0, 0)) := by rw [hW]; exact setRow_heap _ _ _ _ _ _ (hp_new _ _)
                      have HX8 := Asd.mk (HX7.out.off (lt_of_heap HX7.out.b2) hCW)
                      have HbD := Asd.mk (hCW.heap hbD7 (by have := lt_of_heap hbD7; simp; omega))
                      obtain ⟨E, hE⟩ : ∃ D, w7.heap.size = D := ⟨_, rfl⟩
                      rw [hE] at hbE ⊢
                      have HbE := Asd.mk hbE
                      have d1 := cell_of_heap HbD.out 1
                      have e1 := cell_of_heap hbE 1
                      clear hW hCW HX7 b0 b1 b2 hE hbE hbD7 HbD6 k00
                      have b0 := cell_of_heap HX8.out.b1 0; have b1 := cell_of_heap HX8.out.b1 1; have b2 := cell_of_heap HX8.out.b1 2
                      (try simp only [Act.put, List.setIfInBounds_toArray, List.set_cons_zero, List.set_cons_succ])
                      go_cut [9] from 86 to 122 (fun v9 wx => Asd (Chg [] W7 wx) ∧ Asd (givesF G q ⟨kx, Zx⟩ = 0))
                      case first =>
                        rcases HKy.out with ⟨hy0, hy⟩ | ⟨y, hy, hyk, hy3⟩
                        · have HG := Asd.mk (show givesF G q ⟨kx, Zx⟩ = 0 by unfold givesF; rw [hy])
                          have m1 : ((ky : Int) == 2) = false := by simp; omega
                          have m2 : ((ky : Int) != 2) = true := by simp; omega
                          have m3 : ((ky : Int) != 0) = false := by simp; omega
                          clear hy0 hy
                          go_wp2
                          go_meet
                          case rel => exact ⟨⟨Chg.refl _ _⟩, HG⟩
                        · have m3 : ((ky : Int) != 0) = true := by simp; omega
                          by_cases hk2 : ky = 2
                          · have m1 : ((ky : Int) == 2) = true := by simp; omega
                            have m2 : ((ky : Int) != 2) = false := by simp; omega
                            by_cases hx2 : kx = 2
                            · have m4 : ((kx : Int) != 2) = false := by simp; omega
                              have hbk := bel_kids HR.out.ok q
                              obtain ⟨M, hM⟩ : ∃ M, (belF G q).length = M := ⟨_, rfl⟩
                              rw [hM] at hbk
                              have HM := Asd.mk hM
                              have hMz : M ≤ 65536 := by
                                have h1 : (belF G q).length ≤ G.length := List.length_filter_le _ _
                                have h2 := HR.out.num
                                omega
                              by_cases hkd : hasKids G q
                              · have HG := Asd.mk (show givesF G q ⟨kx, Zx⟩ = 205 by
                                  unfold givesF; rw [hy]; simp only
                                  rw [if_neg (fun h => h.2 hx2), if_pos ⟨hyk.trans hk2, hkd⟩])
                                have HRn := Asd.mk (show R = (205, G) by rw [HRw.out, rest_gv HWp.out HXx.out HNb.out HWq.out HAb.out (by rw [HG.out]; omega), HG.out])
                                have hM0 := hbk.2 hkd
                                have k2 : (0 : Int) < (M : Int) := by omega
                                clear hy hyk hy3 hk2 hx2 hkd hbk hM hM0
                                go_wp2_with fail
                                refine (HBq.out _ HX8.out.chg).mono ?_
                                rintro e w9 ⟨v9, rfl, hV, hC⟩
                                obtain ⟨A9, c9, hv9, _⟩ := own_form hV
                                rw [row_len, HM.out] at hv9
                                subst hv9
                                have HX9 := Asd.mk (HX8.out.on hC)
                                clear hC HX8 b0 b1 b2 hV d1 e1
                                have b0 := cell_of_heap HX9.out.b1 0; have b1 := cell_of_heap HX9.out.b1 1; have b2 := cell_of_heap HX9.out.b1 2
                                (go_upto_region 28 with fail); (repeat (first | (refine wpList_store_row (o := ⟨none, _, _, _, _, _⟩) rfl 56 (.tmp 6) (.tmp 107) rfl wa.heap.size _ rfl rfl 56 _ HX9.out.b2 (size_tab _ _ _) rfl (one_tabv HR.out.row _ _) ?_) | go_values | go_skip | go_guarded | go_step | go_upon)); refine bodyPost_ret (results_row_tmp rfl _ _ wa.heap.size 56 _ (0, 0) _ rfl (setRow_heap _ _ _ _ _ _ HX9.out.b2) Tryz.underlying56 rfl (size_tab _ _ _)) rfl ?_; exact keep_post 205 HR.out HX9.out.chg (Nat.le_of_lt HX9.out.lt) _ HRn.out
                              · have HG := Asd.mk (show givesF G q ⟨kx, Zx⟩ = 0 by
                                  unfold givesF; rw [hy]; simp only
                                  rw [if_neg (fun h => h.2 hx2), if_neg (fun h => hkd h.2), if_neg (fun h => h.1 (hyk.trans hk2))])
                                have hM0 : M = 0 := by
                                  rcases Nat.eq_zero_or_pos M with h | h
                                  · exact h
                                  · exact absurd (hbk.1 h) hkd
                                subst hM0
                                have HbE2 := Asd.mk (fun W' (hC : Chg [] W7 W') => hC.heap HbE.out (by simp))
                                clear hy hyk hy3 hk2 hx2 hkd hbk hM hMz
                                go_wp2_with fail
                                refine (HBq.out _ HX8.out.chg).mono ?_
                                rintro e w9 ⟨v9, rfl, hV, hC⟩
                                obtain ⟨A9, c9, hv9, _⟩ := own_form hV
                                rw [row_len, HM.out] at hv9
                                subst hv9
                                have hbE9 := HbE2.out _ hC
                                have e1' := cell_of_heap hbE9 1
                                have HC9 := Asd.mk hC
                                clear hC HX8 b0 b1 b2 hV d1 e1 hbE9
                                go_wp2
                                go_meet
                                case rel => exact ⟨HC9, HG⟩
                            · have m4 : ((kx : Int) != 2) = true := by simp; omega
                              have HG := Asd.mk (show givesF G q ⟨kx, Zx⟩ = 202 by
                                unfold givesF; rw [hy]; simp only
                                rw [if_pos ⟨hyk.trans hk2, hx2⟩])
                              have HRn := Asd.mk (show R = (202, G) by rw [HRw.out, rest_gv HWp.out HXx.out HNb.out HWq.out HAb.out (by rw [HG.out]; omega), HG.out])
                              clear hy hyk hy3 hk2 hx2
                              (go_upto_region 26 with fail); (repeat (first | (refine wpList_store_row (o := ⟨none, _, _, _, _, _⟩) rfl 56 (.tmp 6) (.tmp 95) rfl wa.heap.size _ rfl rfl 56 _ HX8.out.b2 (size_tab _ _ _) rfl (one_tabv HR.out.row _ _) ?_) | go_values | go_skip | go_guarded | go_step | go_upon)); refine bodyPost_ret (results_row_tmp rfl _ _ wa.heap.size 56 _ (0, 0) _ rfl (setRow_heap _ _ _ _ _ _ HX8.out.b2) Tryz.underlying56 rfl (size_tab _ _ _)) rfl ?_; exact keep_post 202 HR.out HX8.out.chg (Nat.le_of_lt HX8.out.lt) _ HRn.out
                          · have m1 : ((ky : Int) == 2) = false := by simp; omega
                            have m2 : ((ky : Int) != 2) = true := by simp; omega
                            by_cases hx2 : kx = 2
                            · have m4 : ((kx : Int) == 2) = true := by simp; omega
                              have HG := Asd.mk (show givesF G q ⟨kx, Zx⟩ = 203 by
                                unfold givesF; rw [hy]; simp only
                                rw [if_neg (fun h => h.2 hx2), if_neg (fun h => hk2 (hyk.symm.trans h.1)), if_pos ⟨fun h => hk2 (hyk.symm.trans h), hx2⟩])
                              have HRn := Asd.mk (show R = (203, G) by rw [HRw.out, rest_gv HWp.out HXx.out HNb.out HWq.out HAb.out (by rw [HG.out]; omega), HG.out])
                              clear hy hyk hy3 hk2 hx2
                              (go_upto_region 30 with fail); (repeat (first | (refine wpList_store_row (o := ⟨none, _, _, _, _, _⟩) rfl 56 (.tmp 6) (.tmp 122) rfl wa.heap.size _ rfl rfl 56 _ HX8.out.b2 (size_tab _ _ _) rfl (one_tabv HR.out.row _ _) ?_) | go_values | go_skip | go_guarded | go_step | go_upon)); refine bodyPost_ret (results_row_tmp rfl _ _ wa.heap.size 56 _ (0, 0) _ rfl (setRow_heap _ _ _ _ _ _ HX8.out.b2) Tryz.underlying56 rfl (size_tab _ _ _)) rfl ?_; exact keep_post 203 HR.out HX8.out.chg (Nat.le_of_lt HX8.out.lt) _ HRn.out
                            · have m4 : ((kx : Int) == 2) = false := by simp; omega
                              have HG := Asd.mk (show givesF G q ⟨kx, Zx⟩ = 0 by
                                unfold givesF; rw [hy]; simp only
                                rw [if_neg (fun h => hk2 (hyk.symm.trans h.1)), if_neg (fun h => hk2 (hyk.symm.trans h.1)), if_neg (fun h => hx2 h.2)])
                              clear hy hyk hy3 hk2 hx2
                              go_wp2
                              go_meet
                              case rel => exact ⟨⟨Chg.refl _ _⟩, HG⟩
                      case rest =>
                        obtain ⟨HCc, HG⟩ := hcut
                        have HX9 := Asd.mk (HX8.out.on HCc.out)
                        have HbD9 := Asd.mk (HCc.out.heap HbD.out (by simp))
                        clear HX8 HbD HbE b0 b1 b2 d1 e1 HBq HKy
                        have b0 := cell_of_heap HX9.out.b1 0; have b1 := cell_of_heap HX9.out.b1 1; have b2 := cell_of_heap HX9.out.b1 2
                        have HbDn := Asd.mk (fun W' (hC : Chg [] wc W') => hC.heap HbD9.out (by simp))
                        go_wp2_with fail
                        refine (HBp.out _ HX9.out.chg).mono ?_
                        rintro e w10 ⟨v12, rfl, hV, hC⟩
                        have hX10 := HX9.out.on hC
                        have hwl := lt_of_heap HX9.out.b2
                        have HbD10 := Asd.mk (HbDn.out _ hC)
                        have HLo := Asd.mk (own_mono hV (show wa.heap.size + 1 ≤ wc.heap.size by omega))
                        obtain ⟨A12, c12, hv12, _⟩ := own_form hV
                        obtain ⟨M, hM⟩ : ∃ M, (belF G p).length = M := ⟨_, rfl⟩
                        rw [row_len, hM] at hv12
                        subst hv12
                        have HM := Asd.mk hM
                        have HEn := Asd.mk (entL_of_own hV)
                        have HX10 := Asd.mk hX10
                        have hMz : M ≤ 65536 := by
                          rw [← hM]
                          have h1 : (belF G p).length ≤ G.length := List.length_filter_le _ _
                          have h2 := HR.out.num
                          omega
                        have haz : a.size ≤ 4096 := by rw [HTa.out]; exact tx_size HOp.out
                        have hbz : b.size ≤ 4096 := by rw [HTb.out]; exact tx_size HOq.out
                        have HPn := Asd.mk (fun (U : ByteArray) (W : World) (hU : U.size ≤ 1048576) => partsA U W hU)
                        have HRf := Asd.mk (fun hf => rest_ft (a := a) (b := b) HWp.out HXx.out HNb.out HWq.out HAb.out HG.out hf)
                        have HRo := Asd.mk (fun hf => rest_ok (a := a) (b := b) HWp.out HXx.out HNb.out HWq.out HAb.out HG.out hf)
                        have HFb := Asd.mk (fits_bel HR.out.ok HZ.out.1 HZ.out.2 HQ.out)
                        clear hC HX9 hX10 hV hM hwl HBp HbDn HbD9 b0 b1 b2 HCc
                        go_wp2
                        go_loopg [13, 14, 15] (M + 1) (fun gk v13 v14 v15 wx => ∃ i : Nat, i ≤ M ∧ gk = M + 1 - i ∧ v13 = .int .i64 (i : Int) ∧ Asd (Chg [] w10 wx) ∧ Asd (∀ j, (h : j < (belF G p).length) → j < i → ∃ r, partsF (tx (mvP p q ((belF G p)[j]'h).1)) = .ok r))
                        case atStart => exact ⟨0, by omega, rfl, rfl, ⟨Chg.refl _ _⟩, ⟨fun j _ hj => by omega⟩⟩
                        case round =>
                          obtain ⟨i, hi, rfl, rfl, HC, HJ⟩ := hrel
                          by_cases hlt : i < M
                          · have k1 : (i : Int) < (M : Int) := by omega
                            have hil : i < (belF G p).length := by rw [HM.out]; exact hlt
                            obtain ⟨g, rfl, c0, c1, c2⟩ := ent_cells (HEn.out.chg HC.out) (show i < (rowE (belF G p)).length by rw [row_len]; exact hil)
                            have hmem := List.getElem_mem hil
                            have htx := bel_text HZ.out.1 HZ.out.2 hmem
                            have hlg := bel_long HZ.out.1 hmem
                            have hPz := tx_size ((okRow_of HR.out.ok).ok _ (mem_bel.1 hmem).1)
                            have e0 : (rowE (belF G p))[i]'(by rw [row_len]; exact hil) = entR ((belF G p)[i]'hil) := by unfold rowE; rw [List.getElem_map]
                            rw [e0] at c0
                            rw [← HTa.out, ← HTb.out] at htx
                            rw [← HTa.out] at hlg
                            obtain ⟨P, hP⟩ : ∃ P, tx ((belF G p)[i]'hil).1 = P := ⟨_, rfl⟩
                            rw [show (entR ((belF G p)[i]'hil)).1 = P from hP] at c0
                            rw [hP] at htx hlg hPz
                            obtain ⟨U, hU⟩ : ∃ U, b ++ P.extract a.size P.size = U := ⟨_, rfl⟩
                            rw [hU] at htx
                            have HTx := Asd.mk htx
                            obtain ⟨V, hV⟩ : ∃ V, P.extract a.size P.size = V := ⟨_, rfl⟩
                            rw [hV] at hU
                            have hVz : V.size ≤ 4096 := by rw [← hV, ByteArray.size_extract]; omega
                            have hUz : U.size ≤ 8192 := by rw [← hU, ByteArray.size_append]; omega
                            have H1 := Asd.mk (HPn.out U wr (by omega))
                            obtain ⟨N, hN⟩ : ∃ n, refPartsN U = n := ⟨_, rfl⟩
                            rw [hN] at H1
                            have HN := Asd.mk hN
                            have k3 : (a.size : Int) ≤ (P.size : Int) := by omega
                            have k4 : (0 : Int) ≤ (a.size : Int) := by omega
                            clear c1 c2 hmem htx e0 hP hN
                            go_wp2_with fail
                            refine H1.out.mono ?_
                            rintro e w11 ⟨⟨v11, rfl⟩, hC⟩
                            have HC11 := Asd.mk (HC.out.trans hC)
                            have HX11 := Asd.mk ((HX10.out.on HC.out).on hC)
                            clear hC H1 c0
                            have b0 := cell_of_heap HX11.out.b1 0; have b1 := cell_of_heap HX11.out.b1 1; have b2 := cell_of_heap HX11.out.b1 2
                            by_cases h1 : N ≠ 0
                            · have HRn := Asd.mk (show R = (2, G) by
                                rw [HRw.out]
                                refine HRf.out (fun hf => ?_)
                                obtain ⟨r, hr⟩ := HFb.out.1 hf _ (List.getElem_mem hil)
                                have hb := partsN_bad (s := U) (by rw [HN.out]; exact h1)
                                rw [HTx.out, hr] at hb
                                cases hb)
                              have k5 : ¬ (N : Int) = 0 := by omega
                              clear h1 HTx hil
                              (go_upto_region 37 with fail); (repeat (first | (refine wpList_store_row (o := ⟨none, _, _, _, _, _⟩) rfl 56 (.tmp 6) (.tmp 148) rfl wa.heap.size _ rfl rfl 56 _ HX11.out.b2 (size_tab _ _ _) rfl (one_tabv HR.out.row _ _) ?_) | go_values | go_skip | go_guarded | go_step | go_upon)); refine bodyPost_ret (results_row_tmp rfl _ _ wa.heap.size 56 _ (0, 0) _ rfl (setRow_heap _ _ _ _ _ _ HX11.out.b2) Tryz.underlying56 rfl (size_tab _ _ _)) rfl ?_; exact keep_post 2 HR.out HX11.out.chg (Nat.le_of_lt HX11.out.lt) _ HRn.out
                            · have HJ2 := Asd.mk (show ∀ j, (h : j < (belF G p).length) → j < i + 1 → ∃ r, partsF (tx (mvP p q ((belF G p)[j]'h).1)) = .ok r from fun j h hj => by
                                rcases Nat.lt_or_ge j i with h2 | h2
                                · exact HJ.out j h h2
                                · obtain rfl : j = i := by omega
                                  obtain ⟨r, hr⟩ := partsN_ok (s := U) (by rw [HN.out]; omega)
                                  exact ⟨r, by rw [← HTx.out]; exact hr⟩)
                              obtain rfl : N = 0 := by omega
                              clear h1 HTx hil HJ
                              go_wp2
                              go_roundg (M + 1 - (i + 1))
                              case rel => exact ⟨i + 1, by omega, by omega, by go_num, HC11, HJ2⟩
                              case measure => omega
                          · have k1 : ¬ (i : Int) < (M : Int) := by omega
                            have hf : fitsP G p b.data.toList := HFb.out.2 fun y hy => by
                              obtain ⟨j, hj, rfl⟩ := List.getElem_of_mem hy
                              exact HJ.out j hj (by have := HM.out; omega)
                            have HRn := Asd.mk (show R = (0, mvF (delF G q) p q) by rw [HRw.out]; exact HRo.out hf)
                            have HHf := Asd.mk hf
                            clear hf HJ HRo HRf HFb HPn
                            have HX11 := Asd.mk (HX10.out.on HC.out)
                            have hbD := HC.out.heap HbD10.out (by simp)
                            have HLo2 := Asd.mk (own_off HLo.out HC.out (fun _ _ => by simp))
                            have HC11 := Asd.mk HC.out
                            have b0 := cell_of_heap HX11.out.b1 0; have b1 := cell_of_heap HX11.out.b1 1; have b2 := cell_of_heap HX11.out.b1 2
                            have d0 := cell_of_heap hbD 0
                            have d1 := cell_of_heap hbD 1
                            have d2 := cell_of_heap hbD 2
                            clear hbD HX10 HLo HC
                            have hp0 := HZ.out.1
                            have hq0 := HZ.out.2
                            obtain ⟨y0, hO⟩ := ren_ok HR.out.ok HP.out HQ.out hp0 HAb.out HXx.out HNb.out (List.dropLast_concat_getLast hq0).symm HWq.out HG.out HHf.out
                            have hsnd := (hO.sound HR.out.ok HR.out.room).1
                            have HMv := Asd.mk (bel_moves HR.out.ok hO hsnd)
                            have hG1 := okRow_with (okRow_of HR.out.ok) HOq.out hq0 (kd := kx) (by have := HKx.out; omega) Zx
                            have hG2 := okRow_with hG1 HOp.out hp0 (kd := 0) (by omega) ⟨#[]⟩
                            have hl1 := with_len G q kx Zx
                            have hl2 := with_len (withF G q kx Zx) p 0 ⟨#[]⟩
                            have hnum := HR.out.num
                            have HEq := Asd.mk (fun hrow => moves_eqv HR.out.ok hO hrow hsnd)
                            obtain ⟨G2, hG2e⟩ : ∃ F, withF (withF G q kx Zx) p 0 ⟨#[]⟩ = F := ⟨_, rfl⟩
                            rw [hG2e] at hG2 hl2
                            have HGG := Asd.mk (show ∀ i, OkRow (((belF G p).take i).foldl (stepM p q) G2) ∧ (((belF G p).take i).foldl (stepM p q) G2).length ≤ 900000 from fun i => by
                              obtain ⟨r1, r2⟩ := okRow_moves ((belF G p).take i) G2 hG2 (fun y hy => HMv.out y (List.mem_of_mem_take hy))
                              refine ⟨r1, ?_⟩
                              have h3 : ((belF G p).take i).length ≤ (belF G p).length := List.length_take_le' i _
                              have := HM.out
                              omega)
                            have HEq2 := Asd.mk (show Eqv R.2 ((belF G p).foldl (stepM p q) G2) ∧ R.1 = 0 by
                              rw [HRn.out]
                              refine ⟨?_, rfl⟩
                              have hrow := (HGG.out M).1
                              rw [List.take_of_length_le (by rw [HM.out]; exact Nat.le_refl _)] at hrow
                              have := HEq.out (by unfold movesF; simp only; rw [hG2e]; exact hrow)
                              unfold movesF at this
                              simp only at this
                              rw [hG2e] at this
                              exact this)
                            have HW1 := Asd.mk (withA (bb := bb) (nn := nn) (HR.out.chg HX11.out.chg).row (okRow_of HR.out.ok) (by omega) HOq.out a kx Zx (by have := HKx.out; omega))
                            rw [← HTb.out] at HW1
                            have HW2 := Asd.mk (fun W v' b' (hV : RowE W b' v' (rowE (withF G q kx Zx))) => (withA (bb := bb) (nn := nn) hV hG1 (by omega) HOp.out ⟨#[]⟩ 0 ⟨#[]⟩ (by omega) : Calls Tryz.prog 74 #[.agg #[v', .int .i64 (bb : Int), .int .i64 (nn : Int)], .string (tx p), .agg #[.string ⟨#[]⟩, .int .i64 0, .string ⟨#[]⟩]] W fun e w' => ∃ v', e = .returned (.agg #[v', .int .i64 (bb : Int), .int .i64 (nn : Int)]) ∧ RowE w' W.heap.size v' (rowE (withF (withF G q kx Zx) p 0 ⟨#[]⟩)) ∧ Chg [] W w'))
                            rw [← HTa.out, hG2e] at HW2
                            have HWl := Asd.mk (lt_of_heap HX11.out.b2)
                            clear hp0 hq0 hO hsnd hG1 hG2 hl1 hl2 hG2e HEq hnum
                            go_wp2_with fail
                            refine HW1.out.mono ?_
                            rintro e w12 ⟨v20, rfl, hV, hC⟩
                            have HX12 := Asd.mk (HX11.out.on hC)
                            have HV := Asd.mk hV
                            have HLo3 := Asd.mk (own_off HLo2.out hC (fun _ _ => by simp))
                            clear hC HW1 HX11 HLo2 b0 b1 b2 d0 d1 d2 hV
                            go_upto_region 39 with (first | (refine wpList_store_row (o := ⟨none, _, _, _, _, _⟩) rfl 56 (.tmp 3) (.tmp 152) rfl w.heap.size _ rfl rfl 56 _ HX12.out.b1 (size_tab _ _ _) rfl (one_tabv HV.out _ _) ?_))
                            refine wp_opaque2 (fun W12 hW => ?_)
                            have HB := Asd.mk (show BoxR w wa W12 v20 bb nn (rowE (withF G q kx Zx)) _ _ by rw [hW]; exact boxR_start HX12.out HV.out HWl.out HLo3.out)
                            clear hW HX12 HLo3 HWl HC11 HbD10
                            have b0 := cell_of_heap HB.out.b1 0; have b1 := cell_of_heap HB.out.b1 1; have b2 := cell_of_heap HB.out.b1 2
                            go_wp2_with fail
                            refine (HW2.out _ _ _ HB.out.row).mono ?_
                            rintro e w13 ⟨v21, rfl, hV, hC⟩
                            have HB2 := Asd.mk (HB.out.on hC)
                            have HV := Asd.mk hV
                            have HL := Asd.mk (lt_of_heap HB.out.b2)
                            clear hC HW2 HB b0 b1 b2 hV
                            go_upto_region 40 with (first | (refine wpList_store_row (o := ⟨none, _, _, _, _, _⟩) rfl 56 (.tmp 3) (.tmp 156) rfl w.heap.size _ rfl rfl 56 _ HB2.out.b1 (size_tab _ _ _) rfl (one_tabv HV.out _ _) ?_))
                            refine wp_opaque2 (fun W13 hW => ?_)
                            have HB := Asd.mk (show BoxR w wa W13 v21 bb nn (rowE G2) _ _ by rw [hW]; exact HB2.out.put HV.out HL.out)
                            clear hW HB2 HV HL
                            go_wp2
                            go_loopg [16] (M + 1) (fun gk v16 wx => ∃ (i : Nat) (v' : Value), i ≤ M ∧ gk = M + 1 - i ∧ v16 = .int .i64 (i : Int) ∧ Asd (BoxR w wa wx v' bb nn (rowE (((belF G p).take i).foldl (stepM p q) G2)) (.slice A12 M c12) (rowE (belF G p))))
                            case atStart => exact ⟨0, v21, by omega, rfl, rfl, HB⟩
                            case round =>
                              obtain ⟨i, v', hi, rfl, rfl, HB⟩ := hrel
                              by_cases hlt : i < M
                              · have k1 : (i : Int) < (M : Int) := by omega
                                have hil : i < (belF G p).length := by rw [HM.out]; exact hlt
                                have hOk := HGG.out i
                                obtain ⟨Gi, hGi⟩ : ∃ F, ((belF G p).take i).foldl (stepM p q) G2 = F := ⟨_, rfl⟩
                                have hft := fold_take (p := p) (q := q) (G := G2) hil
                                rw [hGi] at hOk HB hft
                                have HFt := Asd.mk hft
                                have hmem := List.getElem_mem hil
                                have hmv := HMv.out _ hmem
                                obtain ⟨y, hy⟩ : ∃ y, (belF G p)[i]'hil = y := ⟨_, rfl⟩
                                rw [hy] at hmv HFt
                                have HLow := HB.out.low
                                obtain ⟨g, rfl, c0, c1, c2⟩ := ent_cells (entL_of_own HLow) (show i < (rowE (belF G p)).length by rw [row_len]; exact hil)
                                have e0 : (rowE (belF G p))[i]'(by rw [row_len]; exact hil) = entR y := by unfold rowE; rw [List.getElem_map, hy]
                                rw [e0] at c0 c1 c2
                                have HMe := Asd.mk hmv
                                have htx := hmv.text
                                have hlg := hmv.long
                                have hPz := tx_size hmv.ok
                                rw [← HTa.out, ← HTb.out] at htx
                                rw [← HTa.out] at hlg
                                obtain ⟨P, hP⟩ : ∃ P, tx y.1 = P := ⟨_, rfl⟩
                                obtain ⟨ky, hky⟩ : ∃ k, y.2.kind = k := ⟨_, rfl⟩
                                obtain ⟨Zy, hZy⟩ : ∃ Z, y.2.text = Z := ⟨_, rfl⟩
                                rw [show (entR y).1 = P from hP] at c0
                                rw [show (entR y).2.1 = ky from hky] at c1
                                rw [show (entR y).2.2 = Zy from hZy] at c2
                                rw [hP] at htx hlg hPz
                                obtain ⟨U, hU⟩ : ∃ U, b ++ P.extract a.size P.size = U := ⟨_, rfl⟩
                                rw [hU] at htx
                                obtain ⟨V, hV⟩ : ∃ V, P.extract a.size P.size = V := ⟨_, rfl⟩
                                rw [hV] at hU
                                have hVz : V.size ≤ 4096 := by rw [← hV, ByteArray.size_extract]; omega
                                have hUz : U.size ≤ 8192 := by rw [← hU, ByteArray.size_append]; omega
                                have k3 : (a.size : Int) ≤ (P.size : Int) := by omega
                                have k4 : (0 : Int) ≤ (a.size : Int) := by omega
                                obtain ⟨s1, s2⟩ := okRow_step (p := p) (q := q) hOk.1 hmv
                                have hl3 := with_len Gi y.1 0 ⟨#[]⟩
                                have HW1 := Asd.mk (fun W v' b' (hV : RowE W b' v' (rowE Gi)) => (withA (bb := bb) (nn := nn) hV hOk.1 (by omega) hmv.ok ⟨#[]⟩ 0 ⟨#[]⟩ (by omega) : Calls Tryz.prog 74 #[.agg #[v', .int .i64 (bb : Int), .int .i64 (nn : Int)], .string (tx y.1), .agg #[.string ⟨#[]⟩, .int .i64 0, .string ⟨#[]⟩]] W fun e w' => ∃ v', e = .returned (.agg #[v', .int .i64 (bb : Int), .int .i64 (nn : Int)]) ∧ RowE w' W.heap.size v' (rowE (withF Gi y.1 0 ⟨#[]⟩)) ∧ Chg [] W w'))
                                have HW2 := Asd.mk (fun W v' b' (hV : RowE W b' v' (rowE (withF Gi y.1 0 ⟨#[]⟩))) => withA (bb := bb) (nn := nn) hV s1 (by omega) hmv.ok2 P y.2.kind y.2.text (by have := hmv.kind; omega))
                                rw [hP] at HW1
                                rw [← htx] at HW2
                                have HS := Asd.mk (show withF (withF Gi y.1 0 ⟨#[]⟩) (mvP p q y.1) y.2.kind y.2.text = stepM p q Gi y from rfl)
                                rw [hky, hZy] at HW2 HS
                                obtain ⟨Gj, hGj⟩ : ∃ F, withF Gi y.1 0 ⟨#[]⟩ = F := ⟨_, rfl⟩
                                rw [hGj] at HW1 HW2 HS
                                have HHil := Asd.mk hil
                                have HPk := Asd.mk (show (rowE (belF G p))[i]'(by rw [row_len]; exact hil) = (P, ky, Zy) by rw [e0]; unfold entR; rw [hP, hky, hZy])
                                have b0 := cell_of_heap HB.out.b1 0; have b1 := cell_of_heap HB.out.b1 1; have b2 := cell_of_heap HB.out.b1 2
                                clear hOk hGi hft hmem hmv hy HLow e0 htx hlg hPz hP hky hZy s1 s2 hl3 hGj
                                have hwd : Chg [] wr wr.drew := (Chg.refl _ _).drew
                                go_upto_region 43 with fail
                                go_still_tail 7, (by kernel_rfl)
                                repeat (first | go_values | go_skip | go_guarded | go_step | go_upon)
                                refine (HW1.out _ _ _ (HB.out.on hwd).row).mono ?_
                                rintro e w14 ⟨v14, rfl, hV4, hC⟩
                                have HB4 := Asd.mk ((HB.out.on hwd).on hC)
                                have HV4 := Asd.mk hV4
                                have HL := Asd.mk (show wa.heap.size < wr.drew.heap.size from lt_of_heap (HB.out.on hwd).b2)
                                clear hC HW1 HB b0 b1 b2 hV4 hwd c0 c1 c2
                                go_upto_region 44 with (first | (refine wpList_store_row (o := ⟨none, _, _, _, _, _⟩) rfl 56 (.tmp 3) (.tmp 170) rfl w.heap.size _ rfl rfl 56 _ HB4.out.b1 (size_tab _ _ _) rfl (one_tabv HV4.out _ _) ?_))
                                refine wp_opaque2 (fun W14 hW => ?_)
                                have HB5 := Asd.mk (show BoxR w wa W14 v14 bb nn (rowE Gj) _ _ by rw [hW]; exact HB4.out.put HV4.out HL.out)
                                obtain ⟨g', hg', c0, c1, c2⟩ := ent_cells (entL_of_own HB5.out.low) (show i < (rowE (belF G p)).length by rw [row_len]; exact HHil.out)
                                cases hg'
                                have e0 : (rowE (belF G p))[i]'(by rw [row_len]; exact HHil.out) = (P, ky, Zy) := by rw [HPk.out]
                                rw [e0] at c0 c1 c2
                                simp only at c0 c1 c2
                                clear hW HB4 HV4 HL e0
                                have b0 := cell_of_heap HB5.out.b1 0; have b1 := cell_of_heap HB5.out.b1 1; have b2 := cell_of_heap HB5.out.b1 2
                                have hwd : Chg [] W14 W14.drew := (Chg.refl _ _).drew
                                have k6 : ¬ (9223372036854775807 < b.size + V.size) := by omega
                                have k7 : b.size + V.size ≤ 9223372036854775807 := by omega
                                go_still_tail 15, (by kernel_rfl)
                                repeat (first | go_values | go_skip | go_guarded | go_step | go_upon)
                                refine (HW2.out _ _ _ (HB5.out.on hwd).row).mono ?_
                                rintro e w15 ⟨v15, rfl, hV5, hC⟩
                                have HB6 := Asd.mk ((HB5.out.on hwd).on hC)
                                have HV5 := Asd.mk hV5
                                have HL := Asd.mk (show wa.heap.size < W14.drew.heap.size from lt_of_heap (HB5.out.on hwd).b2)
                                clear hC HW2 HB5 b0 b1 b2 hV5 hwd c0 c1 c2
                                go_upto_region 42 with (first | (refine wpList_store_row (o := ⟨none, _, _, _, _, _⟩) rfl 56 (.tmp 3) (.tmp 186) rfl w.heap.size _ rfl rfl 56 _ HB6.out.b1 (size_tab _ _ _) rfl (one_tabv HV5.out _ _) ?_))
                                refine wp_opaque2 (fun W15 hW => ?_)
                                have HB7 := Asd.mk (show BoxR w wa W15 v15 bb nn (rowE (((belF G p).take (i + 1)).foldl (stepM p q) G2)) _ _ by rw [hW, HFt.out, ← HS.out]; exact HB6.out.put HV5.out HL.out)
                                clear hW HB6 HV5 HL HFt HS
                                go_wp2
                                go_roundg (M + 1 - (i + 1))
                                case rel => exact ⟨i + 1, v15, by omega, by omega, by go_num, HB7⟩
                                case measure => omega
                              · have k1 : ¬ (i : Int) < (M : Int) := by omega
                                rw [List.take_of_length_le (by have := HM.out; omega)] at HB
                                have b0 := cell_of_heap HB.out.b1 0; have b1 := cell_of_heap HB.out.b1 1; have b2 := cell_of_heap HB.out.b1 2
                                (go_upto_region 45 with fail); (repeat (first | (refine wpList_store_row (o := ⟨none, _, _, _, _, _⟩) rfl 56 (.tmp 6) (.tmp 187) rfl wa.heap.size _ rfl rfl 56 _ HB.out.b2 (size_tab _ _ _) rfl (one_tabv HB.out.row _ _) ?_) | go_values | go_skip | go_guarded | go_step | go_upon))
                                refine bodyPost_ret (results_row_tmp rfl _ _ wa.heap.size 56 _ (0, 0) _ rfl (setRow_heap _ _ _ _ _ _ HB.out.b2) Tryz.underlying56 rfl (size_tab _ _ _)) rfl ?_
                                exact new_post 0 HEq2.out.2 HEq2.out.1 HB.out.row HB.out.chg (Nat.le_of_lt HB.out.lt) (Nat.lt_succ_self _) HK.out _
end Go.Proofs.YtiijbecklkccfaaGreatDoor.I
