/- Merged out of these texts: DSync, DRead, DDid. -/
import Derived.Test.YthojofeocjmglaaGreatDoorDk17
/- The disk's Sync, Start, Fail, Down: the walks. -/
namespace Go.Proofs.YthojofeocjmglaaGreatDoor.I
open Go.RowKit Go.Proofs.YthojofeocjmglaaGreatDoor.B Go.Sort
set_option linter.unusedVariables false
set_option linter.unusedSimpArgs false
section
variable {W X : World} {K Q : List Nat} {base d b n : Nat} {D : DK} {tn ts : Nat} {lv : Value} {Ln Ls : List Nat}
/-- The log is empty. -/
theorem DiskAt.nolog (h : DiskAt W K Q base d b n D tn ts lv Ln Ls) : DiskAt (W.setCell ⟨d, 2, none⟩ (.slice none 0 0)) K Q base d b n { D with log := [] } tn ts (.slice none 0 0) Ln Ls := by
  have hC := chg_cell W d 2 (.slice none 0 0)
  obtain ⟨A, M, k1⟩ := h.now
  obtain ⟨A2, M2, k2⟩ := h.safe
  have e1 : ∀ i ∈ Ln, i ∉ [d] := fun i hi => by rw [List.mem_singleton]; rintro rfl; exact h.dn hi
  have e2 : ∀ i ∈ Ls, i ∉ [d] := fun i hi => by rw [List.mem_singleton]; rintro rfl; exact h.ds hi
  exact ⟨by have := hp_set h.blk 2 (.slice none 0 0); simpa using this, ⟨A, M, k1.keep hC e1⟩, ⟨A2, M2, k2.keep hC e2⟩, RowC.nil _ _ _, h.dK, h.nK, h.sK, fun g hg => absurd hg (by simp [Value.ownBlock]), h.dn, h.ds, h.apart, fun g hg => absurd hg (by simp [Value.ownBlock]), fun g hg => absurd hg (by simp [Value.ownBlock]), by simp [Value.ownBlock],
    fun i hi => ⟨Nat.lt_of_lt_of_le (h.q i hi).1 hC.size, (h.q i hi).2⟩, fun i hi => Nat.lt_of_lt_of_le (h.kl i hi) hC.size⟩
theorem DiskAt.fails (h : DiskAt W K Q base d b n D tn ts lv Ln Ls) (m : Nat) : DiskAt (W.setCell ⟨d, 4, none⟩ (.int .i64 (m : Int))) K Q base d b n { D with fails := m } tn ts lv Ln Ls :=
  h.turn (chg_cell _ _ _ _) (by have := hp_set h.blk 4 (.int .i64 (m : Int)); simpa using this) rfl rfl rfl
theorem DiskAt.downs (h : DiskAt W K Q base d b n D tn ts lv Ln Ls) (m : Nat) : DiskAt (W.setCell ⟨d, 5, none⟩ (.int .i64 (m : Int))) K Q base d b n { D with downs := m } tn ts lv Ln Ls :=
  h.turn (chg_cell _ _ _ _) (by have := hp_set h.blk 5 (.int .i64 (m : Int)); simpa using this) rfl rfl rfl
theorem DiskAt.keeps (h : DiskAt W K Q base d b n D tn ts lv Ln Ls) (m : Nat) : DiskAt (W.setCell ⟨d, 6, none⟩ (.int .i64 (m : Int))) K Q base d b n { D with keep := m } tn ts lv Ln Ls :=
  h.turn (chg_cell _ _ _ _) (by have := hp_set h.blk 6 (.int .i64 (m : Int)); simpa using this) rfl rfl rfl
/-- Another file system becomes the safe one. -/
theorem DiskAt.newsafe (h : DiskAt W K Q base d b n D tn ts lv Ln Ls) (hC : Chg [] W X) {L : List Nat} {c : Nat} {fs : FS} {A M : Pth → Nat} (hT : TabAt X L c fs b n A M) (hL : ∀ i ∈ L, W.heap.size ≤ i) :
    DiskAt (X.setCell ⟨d, 1, none⟩ (.pointer (some ⟨c, 0, none⟩))) (K ++ L) Q base d b n { D with safe := fs } tn c lv Ln L := by
  have h0 := h.keep0 hC
  have hn : ∀ i ∈ L, i ∉ K := fun i hi hk => by have := hL i hi; have := h.kl i hk; omega
  have hC2 := chg_cell X d 1 (.pointer (some ⟨c, 0, none⟩))
  obtain ⟨A2, M2, k2⟩ := h0.now
  have e1 : ∀ i ∈ L, i ∉ [d] := fun i hi => by rw [List.mem_singleton]; rintro rfl; exact hn _ hi h.dK
  have e2 : ∀ i ∈ Ln, i ∉ [d] := fun i hi => by rw [List.mem_singleton]; rintro rfl; exact h.dn hi
  have e3 : ∀ i ∈ Q, i ∉ [d] := fun i hi => by rw [List.mem_singleton]; rintro rfl; exact (h.q _ hi).2 h.dK
  have e4 : Off lv [d] := fun g hg => by rw [List.mem_singleton]; rintro rfl; exact h.rd hg
  refine ⟨by have := hp_set h0.blk 1 (.pointer (some ⟨c, 0, none⟩)); simpa using this, ⟨A2, M2, k2.keep hC2 e2⟩, ⟨A, M, hT.keep hC2 e1⟩, h0.row.keep hC2 e3 e4, List.mem_append_left _ h.dK, fun i hi => List.mem_append_left _ (h.nK i hi), fun i hi => List.mem_append_right _ hi, fun g hg => List.mem_append_left _ (h.rK g hg), h.dn, fun hi => hn _ hi h.dK, fun i hi hs => hn i hs (h.nK i hi), h.rn, fun g hg hi => hn g hi (h.rK g hg), h.rd, fun i hi => ⟨Nat.lt_of_lt_of_le (h0.q i hi).1 hC2.size, fun hk => ?_⟩, fun i hi => ?_⟩
  · rcases List.mem_append.1 hk with hk | hk
    · exact (h.q i hi).2 hk
    · have := hL i hk; have := (h.q i hi).1; omega
  · rcases List.mem_append.1 hi with hi | hi
    · exact Nat.lt_of_lt_of_le (h0.kl i hi) hC2.size
    · exact Nat.lt_of_lt_of_le (hT.bl i hi) hC2.size
theorem chg_dK (hd : d ∈ K) {W : World} (j : Nat) (v : Value) : Chg K W (W.setCell ⟨d, j, none⟩ v) := (chg_cell W d j v).mono (fun i hi _ => by rw [List.mem_singleton] at hi; rw [hi]; exact hd)
end
set_option maxRecDepth 100000 in
set_option maxHeartbeats 16000000 in
theorem dsync_calls (w W : World) (K Q : List Nat) (d b n : Nat) (D : DK) (h : DiskS w W K Q d b n D) (hm : MaxLenAt w) (hst : D.steps ≤ 1000000) :
    Calls Tryz.prog 22 #[(.pointer (some ⟨d, 0, none⟩))] W fun e w' => DPost w W K Q d b n (syncD b n D) e w' := by
  obtain ⟨hC, hKw, hOk, tn, ts, lv, Ln, Ls, hD⟩ := id h
  obtain ⟨R, hR⟩ : ∃ R, syncD b n D = R := ⟨_, rfl⟩
  have hRok : DOk b n R.2 := by rw [← hR]; exact syncD_ok hOk
  rw [hR]
  unfold syncD at hR
  obtain ⟨CR, hCR⟩ : ∃ CR, countD b n D = CR := ⟨_, rfl⟩
  have HCt := Asd.mk (count_calls K Q w.heap.size d b n D tn ts lv Ln Ls W hD hOk (maxlen_on hm hC hKw) hst)
  rw [hCR] at HCt hR
  have HOk := Asd.mk (show DOk b n CR.2 by rw [← hCR]; exact countD_ok hOk)
  have HRq := Asd.mk hR
  have HRok := Asd.mk hRok
  have HH := Asd.mk h
  clear hR hCR hOk hRok h hC hKw hD
  (go_enter Tryz.func22, Tryz.ntmps22)
  go_wp2_with fail
  refine HCt.out.mono ?_
  rintro e w2 ⟨he, K1, tn1, Ln1, hD2, hC2, hK1⟩
  have HD2 := Asd.mk hD2
  have HC2 := Asd.mk hC2
  have HK1 := Asd.mk hK1
  subst he
  clear hD2 hC2 hK1 HCt
  by_cases h0 : CR.1 = 0
  · have HRq2 := Asd.mk (show (0, { CR.2 with safe := CR.2.now, log := [] }) = R by
      have := HRq.out
      rw [if_neg (by simp [h0])] at this
      exact this)
    rw [h0]
    simp only [errV, if_true]
    obtain ⟨A, M, hT2⟩ := HD2.out.now
    have HCl := Asd.mk (fun X (hX : Chg [] w2 X) => clone_calls Ln1 tn1 CR.2.now b n A M X (hT2.keep0 hX) HOk.out.now)
    have c0 := cell_of_heap HD2.out.blk 0
    clear hT2 h0 HRq
    go_wp2_with fail
    refine (HCl.out _ (Chg.refl _ _)).mono ?_
    rintro e w3 ⟨c, L2, A3, M3, rfl, hC, hT, hL2⟩
    have HD3 := Asd.mk (HD2.out.newsafe hC hT hL2)
    have HC3 := Asd.mk hC
    have HL2 := Asd.mk hL2
    have hb3 := hC.heap HD2.out.blk (by simp)
    have d1 := cell_of_heap hb3 1
    have d2 := cell_of_heap hb3 2
    have f1 := frozen_of_heap hb3 1
    have f2 := frozen_of_heap hb3 2
    clear hC hT hL2 hb3 HCl c0
    go_wp2_with fail
    go_ret
    exact by
      show DPost _ _ _ _ _ _ _ _ _ _
      have hK2 : ∀ i ∈ K1 ++ L2, i ∈ K ∨ W.heap.size ≤ i := fun i hi => by
        rcases List.mem_append.1 hi with hi | hi
        · exact HK1.out i hi
        · exact .inr (Nat.le_trans HC2.out.size (HL2.out i hi))
      have hCC : Chg K W ((w3.setCell ⟨d, 1, none⟩ (.pointer (some ⟨c, 0, none⟩))).setCell ⟨d, 2, none⟩ (.slice none 0 0)) := ((HC2.out.trans (HC3.out.mono (by simp))).trans (chg_dK (by
        rcases HK1.out d HD2.out.dK with h | h
        · exact h
        · have := HH.out.2.2.2
          obtain ⟨_, _, _, _, _, hDD⟩ := this
          exact hDD.dK) _ _)).trans (chg_dK (by
        obtain ⟨_, _, _, _, _, hDD⟩ := HH.out.2.2.2
        exact hDD.dK) _ _)
      refine ⟨by rw [← HRq2.out]; rfl, K1 ++ L2, Q, ⟨Chg.fresh ((HH.out.1.mono (by simp)).trans hCC) HH.out.2.1, fun i hi => (hK2 i hi).elim (HH.out.2.1 i) (fun hx => Nat.le_trans HH.out.1.size hx), HRok.out, tn1, c, .slice none 0 0, Ln1, L2, ?_⟩, hCC, hK2, fun i hi => .inl hi⟩
      rw [← HRq2.out]
      exact HD3.out.nolog
  · have HRq2 := Asd.mk (show CR = R by
      have := HRq.out
      rw [if_pos h0] at this
      exact this)
    have HN := Asd.mk (show errV CR.1 = .iface 88 (.int .i64 (CR.1 : Int)) by unfold errV; rw [if_neg h0])
    rw [HN.out]
    go_wp2_with fail
    go_ret
    exact by
      show DPost _ _ _ _ _ _ _ _ _ _
      refine ⟨by rw [← HRq2.out, HN.out]; rfl, K1, Q, ⟨Chg.fresh ((HH.out.1.mono (by simp)).trans HC2.out) HH.out.2.1, fun i hi => (HK1.out i hi).elim (HH.out.2.1 i) (fun hx => Nat.le_trans HH.out.1.size hx), HRok.out, tn1, ts, lv, Ln1, Ls, ?_⟩, HC2.out, HK1.out, fun i hi => .inl hi⟩
      rw [← HRq2.out]
      exact HD2.out
/-- What a plan leaves, out of the disk in memory. -/
theorem plan_dpost {w W w' : World} {K Q : List Nat} {d b n : Nat} {D : DK} {R : Nat × DK} {e : Ending} {tn ts : Nat} {lv : Value} {Ln Ls : List Nat} (h : DiskS w W K Q d b n D) (he : e = .returned (errV R.1)) (hC : Chg K W w') (hD : DiskAt w' K Q w.heap.size d b n R.2 tn ts lv Ln Ls) (hR : DOk b n R.2) : DPost w W K Q d b n R e w' :=
  ⟨he, K, Q, ⟨Chg.fresh ((h.1.mono (by simp)).trans hC) h.2.1, h.2.1, hR, tn, ts, lv, Ln, Ls, hD⟩, hC, fun i hi => .inl hi, fun i hi => .inl hi⟩
set_option maxRecDepth 100000 in
set_option maxHeartbeats 16000000 in
theorem dfail_calls (w W : World) (K Q : List Nat) (d b n : Nat) (D : DK) (m : Int) (h : DiskS w W K Q d b n D) (hst : D.steps ≤ 1000000) :
    Calls Tryz.prog 24 #[(.pointer (some ⟨d, 0, none⟩)), .int .i64 m] W fun e w' => DPost w W K Q d b n (failA D m) e w' := by
  obtain ⟨hC, hKw, hOk, tn, ts, lv, Ln, Ls, hD⟩ := id h
  obtain ⟨R, hR⟩ : ∃ R, failA D m = R := ⟨_, rfl⟩
  have hRok : DOk b n R.2 := by rw [← hR]; exact failA_ok hOk m
  rw [hR]
  unfold failA at hR
  have HD := Asd.mk hD
  have HRok := Asd.mk hRok
  have HH := Asd.mk h
  have c0 := cell_of_heap HD.out.blk 0; have c2 := cell_of_heap HD.out.blk 2; have c3 := cell_of_heap HD.out.blk 3; have c4 := cell_of_heap HD.out.blk 4; have c5 := cell_of_heap HD.out.blk 5; have c6 := cell_of_heap HD.out.blk 6; have c7 := cell_of_heap HD.out.blk 7; have f2 := frozen_of_heap HD.out.blk 2; have f4 := frozen_of_heap HD.out.blk 4; have f5 := frozen_of_heap HD.out.blk 5; have f6 := frozen_of_heap HD.out.blk 6; have f7 := frozen_of_heap HD.out.blk 7
  clear hRok h hC hKw hD hOk
  by_cases hb : m < 1 ∨ 2147483647 < m
  · rw [if_pos hb] at hR
    have HR := Asd.mk hR
    clear hR
    by_cases b1 : m < 1
    · have t1 : decide (m < 1) = true := decide_eq_true b1
      clear hb b1
      (go_enter Tryz.func24, Tryz.ntmps24)
      go_wp2_with fail
      go_ret
      exact plan_dpost HH.out (by rw [← HR.out]; rfl) (Chg.refl _ _) (by rw [← HR.out]; exact HD.out) HRok.out
    · have t1 : decide (m < 1) = false := decide_eq_false b1
      have t2 : decide (2147483647 < m) = true := decide_eq_true (by omega)
      clear hb b1
      (go_enter Tryz.func24, Tryz.ntmps24)
      go_wp2_with fail
      go_ret
      exact plan_dpost HH.out (by rw [← HR.out]; rfl) (Chg.refl _ _) (by rw [← HR.out]; exact HD.out) HRok.out
  · rw [if_neg hb] at hR
    have t1 : decide (m < 1) = false := decide_eq_false (by omega)
    have t2 : decide (2147483647 < m) = false := decide_eq_false (by omega)
    by_cases hoff : D.off = true
    · rw [if_pos hoff] at hR
      have HR := Asd.mk hR
      rw [hoff] at c7
      clear hR hb hoff
      (go_enter Tryz.func24, Tryz.ntmps24)
      go_wp2_with fail
      go_ret
      exact plan_dpost HH.out (by rw [← HR.out]; rfl) (Chg.refl _ _) (by rw [← HR.out]; exact HD.out) HRok.out
    · have hoff2 : D.off = false := by simpa using hoff
      rw [if_neg hoff] at hR
      have HR := Asd.mk hR
      rw [hoff2] at c7
      obtain ⟨mm, rfl⟩ : ∃ mm : Nat, m = (mm : Int) := ⟨m.toNat, by omega⟩
      clear hR hoff hoff2
      (go_enter Tryz.func24, Tryz.ntmps24)
      go_wp2_with fail
      go_ret
      exact plan_dpost HH.out (by rw [← HR.out]; rfl) (chg_dK HD.out.dK _ _) (by rw [← HR.out]; have := HD.out.fails (D.steps + mm); simpa using this) HRok.out
set_option maxRecDepth 100000 in
set_option maxHeartbeats 16000000 in
theorem ddown_calls (w W : World) (K Q : List Nat) (d b n : Nat) (D : DK) (m k : Int) (h : DiskS w W K Q d b n D) (hst : D.steps ≤ 1000000) :
    Calls Tryz.prog 20 #[(.pointer (some ⟨d, 0, none⟩)), .int .i64 m, .int .i64 k] W fun e w' => DPost w W K Q d b n (downA D m k) e w' := by
  obtain ⟨hC, hKw, hOk, tn, ts, lv, Ln, Ls, hD⟩ := id h
  obtain ⟨R, hR⟩ : ∃ R, downA D m k = R := ⟨_, rfl⟩
  have hRok : DOk b n R.2 := by rw [← hR]; exact downA_ok hOk m k
  rw [hR]
  unfold downA at hR
  have HD := Asd.mk hD
  have HRok := Asd.mk hRok
  have HH := Asd.mk h
  have c0 := cell_of_heap HD.out.blk 0; have c2 := cell_of_heap HD.out.blk 2; have c3 := cell_of_heap HD.out.blk 3; have c4 := cell_of_heap HD.out.blk 4; have c5 := cell_of_heap HD.out.blk 5; have c6 := cell_of_heap HD.out.blk 6; have c7 := cell_of_heap HD.out.blk 7; have f2 := frozen_of_heap HD.out.blk 2; have f4 := frozen_of_heap HD.out.blk 4; have f5 := frozen_of_heap HD.out.blk 5; have f6 := frozen_of_heap HD.out.blk 6; have f7 := frozen_of_heap HD.out.blk 7
  clear hRok h hC hKw hD hOk
  by_cases hb : m < 1 ∨ 2147483647 < m ∨ k < 0
  · rw [if_pos hb] at hR
    have HR := Asd.mk hR
    clear hR
    by_cases b1 : m < 1
    · have t1 : decide (m < 1) = true := decide_eq_true b1
      clear hb b1
      (go_enter Tryz.func20, Tryz.ntmps20)
      go_wp2_with fail
      go_ret
      exact plan_dpost HH.out (by rw [← HR.out]; rfl) (Chg.refl _ _) (by rw [← HR.out]; exact HD.out) HRok.out
    · have t1 : decide (m < 1) = false := decide_eq_false b1
      by_cases b2 : 2147483647 < m
      · have t2 : decide (2147483647 < m) = true := decide_eq_true (by omega)
        clear hb b1 b2
        (go_enter Tryz.func20, Tryz.ntmps20)
        go_wp2_with fail
        go_ret
        exact plan_dpost HH.out (by rw [← HR.out]; rfl) (Chg.refl _ _) (by rw [← HR.out]; exact HD.out) HRok.out
      · have t2 : decide (2147483647 < m) = false := decide_eq_false b2
        have t3 : decide (k < 0) = true := decide_eq_true (by omega)
        clear hb b1 b2
        (go_enter Tryz.func20, Tryz.ntmps20)
        go_wp2_with fail
        go_ret
        exact plan_dpost HH.out (by rw [← HR.out]; rfl) (Chg.refl _ _) (by rw [← HR.out]; exact HD.out) HRok.out
  · rw [if_neg hb] at hR
    have t1 : decide (m < 1) = false := decide_eq_false (by omega)
    have t2 : decide (2147483647 < m) = false := decide_eq_false (by omega)
    have t3 : decide (k < 0) = false := decide_eq_false (by omega)
    by_cases hoff : D.off = true
    · rw [if_pos hoff] at hR
      have HR := Asd.mk hR
      rw [hoff] at c7
      clear hR hb hoff
      (go_enter Tryz.func20, Tryz.ntmps20)
      go_wp2_with fail
      go_ret
      exact plan_dpost HH.out (by rw [← HR.out]; rfl) (Chg.refl _ _) (by rw [← HR.out]; exact HD.out) HRok.out
    · have hoff2 : D.off = false := by simpa using hoff
      rw [if_neg hoff] at hR
      have HR := Asd.mk hR
      rw [hoff2] at c7
      obtain ⟨mm, rfl⟩ : ∃ mm : Nat, m = (mm : Int) := ⟨m.toNat, by omega⟩
      obtain ⟨kk, rfl⟩ : ∃ kk : Nat, k = (kk : Int) := ⟨k.toNat, by omega⟩
      clear hR hoff hoff2
      (go_enter Tryz.func20, Tryz.ntmps20)
      go_wp2_with fail
      go_ret
      exact plan_dpost HH.out (by rw [← HR.out]; rfl) ((chg_dK HD.out.dK _ _).trans (chg_dK HD.out.dK _ _)) (by rw [← HR.out]; have := (HD.out.downs (D.steps + mm)).keeps kk; simpa using this) HRok.out
set_option maxRecDepth 100000 in
set_option maxHeartbeats 16000000 in
theorem dstart_calls (w W : World) (K Q : List Nat) (d b n : Nat) (D : DK) (h : DiskS w W K Q d b n D) :
    Calls Tryz.prog 23 #[(.pointer (some ⟨d, 0, none⟩))] W fun e w' => DPost w W K Q d b n (startD D) e w' := by
  obtain ⟨hC, hKw, hOk, tn, ts, lv, Ln, Ls, hD⟩ := id h
  obtain ⟨R, hR⟩ : ∃ R, startD D = R := ⟨_, rfl⟩
  have hRok : DOk b n R.2 := by rw [← hR]; exact startD_ok hOk
  rw [hR]
  unfold startD at hR
  have HD := Asd.mk hD
  have HRok := Asd.mk hRok
  have HH := Asd.mk h
  have HOk := Asd.mk hOk
  have c0 := cell_of_heap HD.out.blk 0; have c2 := cell_of_heap HD.out.blk 2; have c3 := cell_of_heap HD.out.blk 3; have c4 := cell_of_heap HD.out.blk 4; have c5 := cell_of_heap HD.out.blk 5; have c6 := cell_of_heap HD.out.blk 6; have c7 := cell_of_heap HD.out.blk 7; have f2 := frozen_of_heap HD.out.blk 2; have f4 := frozen_of_heap HD.out.blk 4; have f5 := frozen_of_heap HD.out.blk 5; have f6 := frozen_of_heap HD.out.blk 6; have f7 := frozen_of_heap HD.out.blk 7
  clear hRok h hC hKw hD hOk
  by_cases hoff : D.off = true
  · rw [if_pos hoff] at hR
    have HR := Asd.mk hR
    rw [hoff] at c7
    have HD4 := Asd.mk ((((HD.out.offs false).nolog).fails 0).downs 0)
    have HC4 := Asd.mk ((((chg_dK HD.out.dK (W := W) 7 (.bool false)).trans (chg_dK HD.out.dK 2 (.slice none 0 0))).trans (chg_dK HD.out.dK 4 (.int .i64 ((0 : Nat) : Int)))).trans (chg_dK HD.out.dK 5 (.int .i64 ((0 : Nat) : Int))))
    obtain ⟨V, hV⟩ : ∃ V, (((W.setCell ⟨d, 7, none⟩ (.bool false)).setCell ⟨d, 2, none⟩ (.slice none 0 0)).setCell ⟨d, 4, none⟩ (.int .i64 ((0 : Nat) : Int))).setCell ⟨d, 5, none⟩ (.int .i64 ((0 : Nat) : Int)) = V := ⟨_, rfl⟩
    rw [hV] at HD4 HC4
    obtain ⟨A, M, hT2⟩ := HD4.out.now
    have HCl := Asd.mk (clone_calls Ln tn D.now b n A M V hT2 HOk.out.now)
    have HV := Asd.mk hV
    clear hR hoff hT2 hV
    (go_enter Tryz.func23, Tryz.ntmps23)
    go_wp2_with fail
    (try simp only [Int.natCast_zero, Int.ofNat_zero, Int.cast_ofNat_Int])
    rw [show ((((W.setCell ⟨d, 7, none⟩ (.bool false)).setCell ⟨d, 2, none⟩ (.slice none 0 0)).setCell ⟨d, 4, none⟩ (.int .i64 0)).setCell ⟨d, 5, none⟩ (.int .i64 0)) = V from HV.out]
    refine HCl.out.mono ?_
    rintro e w3 ⟨c, L2, A3, M3, rfl, hC, hT, hL2⟩
    have HD5 := Asd.mk (HD4.out.newsafe hC hT hL2)
    have HC5 := Asd.mk hC
    have HL2 := Asd.mk hL2
    have hb3 := hC.heap HD4.out.blk (by simp)
    have d1 := cell_of_heap hb3 1
    have f1 := frozen_of_heap hb3 1
    clear hC hT hL2 hb3 HCl c0 c2 c3 c4 c5 c6 c7 f2 f4 f5 f6 f7 HV
    go_wp2_with fail
    go_ret
    exact by
      show DPost _ _ _ _ _ _ _ _ _ _
      have hK2 : ∀ i ∈ K ++ L2, i ∈ K ∨ W.heap.size ≤ i := fun i hi => by
        rcases List.mem_append.1 hi with hi | hi
        · exact .inl hi
        · exact .inr (Nat.le_trans HC4.out.size (HL2.out i hi))
      have hCC : Chg K W (w3.setCell ⟨d, 1, none⟩ (.pointer (some ⟨c, 0, none⟩))) := (HC4.out.trans (HC5.out.mono (by simp))).trans (chg_dK HD.out.dK _ _)
      refine ⟨by rw [← HR.out]; rfl, K ++ L2, Q, ⟨Chg.fresh ((HH.out.1.mono (by simp)).trans hCC) HH.out.2.1, fun i hi => (hK2 i hi).elim (HH.out.2.1 i) (fun hx => Nat.le_trans HH.out.1.size hx), HRok.out, tn, c, .slice none 0 0, Ln, L2, ?_⟩, hCC, hK2, fun i hi => .inl hi⟩
      rw [← HR.out]
      exact HD5.out
  · have hoff2 : D.off = false := by simpa using hoff
    rw [if_neg hoff] at hR
    have HR := Asd.mk hR
    rw [hoff2] at c7
    clear hR hoff hoff2
    (go_enter Tryz.func23, Tryz.ntmps23)
    go_wp2_with fail
    go_ret
    exact plan_dpost HH.out (by rw [← HR.out]; rfl) (Chg.refl _ _) (by rw [← HR.out]; exact HD.out) HRok.out
end Go.Proofs.YthojofeocjmglaaGreatDoor.I
/- The disk's New; what it tells of itself: Tree, Read, List, Used, Steps, Unsafe. The walks. -/
namespace Go.Proofs.YthojofeocjmglaaGreatDoor.I
open Go.RowKit Go.Proofs.YthojofeocjmglaaGreatDoor.B Go.Sort
set_option linter.unusedVariables false
set_option linter.unusedSimpArgs false
/-- A new disk in memory. -/
theorem DiskAt.made {X : World} {L L2 : List Nat} {b n t c base : Nat} {A M A2 M2 : Pth → Nat} (hT : TabAt X L t [] b n A M) (hT2 : TabAt X L2 c [] b n A2 M2) (hd : ∀ i ∈ L, i ∉ L2) :
    DiskAt (X.alloc (.cells #[(.pointer (some ⟨t, 0, none⟩)), (.pointer (some ⟨c, 0, none⟩)), .slice none 0 0, .int .i64 0, .int .i64 0, .int .i64 0, .int .i64 0, .bool false] 76)) (X.heap.size :: (L ++ L2)) [] base X.heap.size b n newD t c (.slice none 0 0) L L2 := by
  have hC : Chg [] X (X.alloc (.cells #[(.pointer (some ⟨t, 0, none⟩)), (.pointer (some ⟨c, 0, none⟩)), .slice none 0 0, .int .i64 0, .int .i64 0, .int .i64 0, .int .i64 0, .bool false] 76)) := (Chg.refl _ _).alloc _
  refine ⟨hp_new _ _, ⟨A, M, hT.keep0 hC⟩, ⟨A2, M2, hT2.keep0 hC⟩, RowC.nil _ _ _, List.mem_cons_self .., fun i hi => List.mem_cons_of_mem _ (List.mem_append_left _ hi), fun i hi => List.mem_cons_of_mem _ (List.mem_append_right _ hi), fun g hg => absurd hg (by simp [Value.ownBlock]), fun h => by have := hT.bl _ h; omega, fun h => by have := hT2.bl _ h; omega, hd, fun g hg => absurd hg (by simp [Value.ownBlock]), fun g hg => absurd hg (by simp [Value.ownBlock]), by simp [Value.ownBlock], fun i hi => absurd hi (by simp), fun i hi => ?_⟩
  rw [World.size_alloc]
  rcases List.mem_cons.1 hi with rfl | hi
  · omega
  · rcases List.mem_append.1 hi with hi | hi
    · have := hT.bl i hi; omega
    · have := hT2.bl i hi; omega
set_option maxRecDepth 100000 in
set_option maxHeartbeats 16000000 in
theorem dnew_ok (b n : Nat) (w W : World) (hC : Chg [] w W) (hb : b ≤ 2147483647) (hn : n ≤ 65536) :
    Calls Tryz.prog 9 #[.int .i64 (b : Int), .int .i64 (n : Int)] W fun e w' => ∃ d K, e = .returned (.tuple #[(.pointer (some ⟨d, 0, none⟩)), .nilIface]) ∧ DiskS w w' K [] d b n newD ∧ Chg [] W w' ∧ ∀ i ∈ K, W.heap.size ≤ i := by
  have H1 := Asd.mk (new_ok b n W hb hn)
  have HC := Asd.mk hC
  have HB := Asd.mk (And.intro hb hn)
  clear hC hb hn
  (go_enter Tryz.func9, Tryz.ntmps9)
  go_wp2_with fail
  refine H1.out.mono ?_
  rintro e w1 ⟨t, L, A, M, rfl, hC1, hT, hL⟩
  have HT := Asd.mk hT
  have HC1 := Asd.mk hC1
  have HL := Asd.mk hL
  have H2 := Asd.mk (fun X (hX : Chg [] w1 X) => clone_calls L t [] b n A M X (hT.keep0 hX) fsOk_nil)
  clear hT hC1 hL H1
  go_wp2_with fail
  refine (H2.out _ (Chg.refl _ _)).mono ?_
  rintro e w2 ⟨c, L2, A2, M2, rfl, hC2, hT2, hL2⟩
  have HT2 := Asd.mk hT2
  have HC2 := Asd.mk hC2
  have HL2 := Asd.mk hL2
  clear hT2 hC2 hL2 H2
  go_wp2
  go_ret2
  have hD := DiskAt.made (base := w.heap.size) (HT.out.keep0 HC2.out) HT2.out (fun i hi h2 => by have := HT.out.bl i hi; have := HL2.out i h2; omega)
  have hCC : Chg [] W (w2.alloc (.cells #[(.pointer (some ⟨t, 0, none⟩)), (.pointer (some ⟨c, 0, none⟩)), .slice none 0 0, .int .i64 0, .int .i64 0, .int .i64 0, .int .i64 0, .bool false] 76)) := (HC1.out.trans HC2.out).alloc _
  have hK : ∀ i ∈ w2.heap.size :: (L ++ L2), W.heap.size ≤ i := fun i hi => by
    rcases List.mem_cons.1 hi with rfl | hi
    · exact (HC1.out.trans HC2.out).size
    · rcases List.mem_append.1 hi with hi | hi
      · exact HL.out i hi
      · exact Nat.le_trans HC1.out.size (HL2.out i hi)
  exact ⟨w2.heap.size, w2.heap.size :: (L ++ L2), rfl, ⟨HC.out.trans hCC, fun i hi => Nat.le_trans HC.out.size (hK i hi), newD_ok HB.out.1 HB.out.2, t, c, _, L, L2, hD⟩, hCC, hK⟩
set_option maxRecDepth 100000 in
set_option maxHeartbeats 16000000 in
theorem dnew_bad (b n : Int) (W : World) (hb : b < 0 ∨ 2147483647 < b ∨ n < 0 ∨ 65536 < n) :
    Calls Tryz.prog 9 #[.int .i64 b, .int .i64 n] W fun e w' => e = .returned (.tuple #[.pointer none, .iface 88 (.int .i64 1)]) ∧ Chg [] W w' := by
  have H1 := Asd.mk (new_bad b n W hb)
  clear hb
  (go_enter Tryz.func9, Tryz.ntmps9)
  go_wp2_with fail
  refine H1.out.mono ?_
  rintro e w1 ⟨rfl, hC1⟩
  have HC1 := Asd.mk hC1
  clear hC1 H1
  go_wp2
  go_ret2
  exact ⟨rfl, HC1.out⟩
section
variable {w W : World} {K Q : List Nat} {d b n : Nat} {D : DK}
set_option maxRecDepth 100000 in
set_option maxHeartbeats 16000000 in
theorem dtree_on (h : DiskS w W K Q d b n D) (hm : MaxLenAt w) (hoff : D.off = false) :
    Calls Tryz.prog 15 #[(.pointer (some ⟨d, 0, none⟩)), .string ⟨#[]⟩] W fun e w' => (∃ v, e = .returned (.tuple #[v, .nilIface]) ∧ RowE w' W.heap.size v (treeF D.now [])) ∧ Chg [] W w' := by
  obtain ⟨hC, hKw, hOk, tn, ts, lv, Ln, Ls, hD⟩ := h
  obtain ⟨A, M, hT⟩ := hD.now
  have H := tree_calls Ln tn D.now b n A M ⟨#[]⟩ W hT hOk.now hOk.rnow (hm.chg hC) (by decide)
  rw [there_root hOk.now] at H
  have H1 := Asd.mk H
  have c0 := cell_of_heap hD.blk 0
  have c7 := cell_of_heap hD.blk 7
  rw [hoff] at c7
  clear hC hKw hOk hD hT H hm hoff
  (go_enter Tryz.func15, Tryz.ntmps15)
  go_wp2_with fail
  refine H1.out.mono ?_
  rintro e w1 ⟨⟨v, rfl, hv⟩, hC1⟩
  have HV := Asd.mk (And.intro hv hC1)
  clear hv hC1 H1
  go_wp2
  go_ret2
  exact ⟨⟨v, rfl, HV.out.1⟩, HV.out.2⟩
set_option maxRecDepth 100000 in
set_option maxHeartbeats 16000000 in
theorem dtree_off (s : ByteArray) (h : DiskS w W K Q d b n D) (hoff : D.off = true) :
    Calls Tryz.prog 15 #[(.pointer (some ⟨d, 0, none⟩)), .string s] W fun e w' => e = .returned (.tuple #[.slice none 0 0, errV 211]) ∧ Chg [] W w' := by
  obtain ⟨hC, hKw, hOk, tn, ts, lv, Ln, Ls, hD⟩ := h
  have c7 := cell_of_heap hD.blk 7
  rw [hoff] at c7
  clear hC hKw hOk hD hoff
  (go_enter Tryz.func15, Tryz.ntmps15)
  go_wp2_with fail
  go_ret2
  exact ⟨rfl, Chg.refl _ _⟩
set_option maxRecDepth 100000 in
set_option maxHeartbeats 16000000 in
theorem dlist_on (s : ByteArray) (h : DiskS w W K Q d b n D) (hm : MaxLenAt w) (hs : s.size ≤ 4294967280) (hoff : D.off = false) :
    Calls Tryz.prog 29 #[(.pointer (some ⟨d, 0, none⟩)), .string s] W fun e w' => ListPost D.now W.heap.size (listE D.now s) e w' ∧ Chg [] W w' := by
  obtain ⟨hC, hKw, hOk, tn, ts, lv, Ln, Ls, hD⟩ := h
  obtain ⟨A, M, hT⟩ := hD.now
  have H := list_calls Ln tn D.now b n A M s W hT hOk.now hOk.rnow (hm.chg hC) hs
  have c0 := cell_of_heap hD.blk 0
  have c7 := cell_of_heap hD.blk 7
  rw [hoff] at c7
  obtain ⟨R, hR⟩ : ∃ R, listE D.now s = R := ⟨_, rfl⟩
  rw [hR] at H ⊢
  have H1 := Asd.mk H
  clear hC hKw hOk hD hT H hm hoff hR hs
  cases R with
  | error m =>
    (go_enter Tryz.func29, Tryz.ntmps29)
    go_wp2_with fail
    refine H1.out.mono ?_
    rintro e w1 ⟨hv, hC1⟩
    have hv2 : e = .returned (.tuple #[.slice none 0 0, errV m]) := hv
    subst hv2
    have HC1 := Asd.mk hC1
    clear hv hC1 H1
    go_wp2
    go_ret2
    exact ⟨rfl, HC1.out⟩
  | ok p =>
    (go_enter Tryz.func29, Tryz.ntmps29)
    go_wp2_with fail
    refine H1.out.mono ?_
    rintro e w1 ⟨⟨v, rfl, hv⟩, hC1⟩
    have HV := Asd.mk (And.intro hv hC1)
    clear hv hC1 H1
    go_wp2
    go_ret2
    exact ⟨⟨v, rfl, HV.out.1⟩, HV.out.2⟩
set_option maxRecDepth 100000 in
set_option maxHeartbeats 16000000 in
theorem dlist_off (s : ByteArray) (h : DiskS w W K Q d b n D) (hoff : D.off = true) :
    Calls Tryz.prog 29 #[(.pointer (some ⟨d, 0, none⟩)), .string s] W fun e w' => e = .returned (.tuple #[.slice none 0 0, errV 211]) ∧ Chg [] W w' := by
  obtain ⟨hC, hKw, hOk, tn, ts, lv, Ln, Ls, hD⟩ := h
  have c7 := cell_of_heap hD.blk 7
  rw [hoff] at c7
  clear hC hKw hOk hD hoff
  (go_enter Tryz.func29, Tryz.ntmps29)
  go_wp2_with fail
  go_ret2
  exact ⟨rfl, Chg.refl _ _⟩
set_option maxRecDepth 100000 in
set_option maxHeartbeats 16000000 in
theorem dread_on (s : ByteArray) (h : DiskS w W K Q d b n D) (hm : MaxLenAt w) (hs : s.size ≤ 4294967280) (hoff : D.off = false) :
    Calls Tryz.prog 36 #[(.pointer (some ⟨d, 0, none⟩)), .string s] W fun e w' => e = .returned (.tuple #[.string (readF D.now s).2, errV (readF D.now s).1]) ∧ Chg [] W w' := by
  obtain ⟨hC, hKw, hOk, tn, ts, lv, Ln, Ls, hD⟩ := h
  obtain ⟨A, M, hT⟩ := hD.now
  have H1 := Asd.mk (read_calls Ln tn D.now b n A M s W hT hOk.now (hm.chg hC) hs)
  have c0 := cell_of_heap hD.blk 0
  have c7 := cell_of_heap hD.blk 7
  rw [hoff] at c7
  obtain ⟨R, hR⟩ : ∃ R, readF D.now s = R := ⟨_, rfl⟩
  rw [hR] at H1 ⊢
  clear hC hKw hOk hD hT hm hoff hR hs
  (go_enter Tryz.func36, Tryz.ntmps36)
  go_wp2_with fail
  refine H1.out.mono ?_
  rintro e w1 ⟨rfl, hC1⟩
  have HC1 := Asd.mk hC1
  clear hC1 H1
  go_wp2
  go_ret2
  exact ⟨rfl, HC1.out⟩
set_option maxRecDepth 100000 in
set_option maxHeartbeats 16000000 in
theorem dread_off (s : ByteArray) (h : DiskS w W K Q d b n D) (hoff : D.off = true) :
    Calls Tryz.prog 36 #[(.pointer (some ⟨d, 0, none⟩)), .string s] W fun e w' => e = .returned (.tuple #[.string ⟨#[]⟩, errV 211]) ∧ Chg [] W w' := by
  obtain ⟨hC, hKw, hOk, tn, ts, lv, Ln, Ls, hD⟩ := h
  have c7 := cell_of_heap hD.blk 7
  rw [hoff] at c7
  clear hC hKw hOk hD hoff
  (go_enter Tryz.func36, Tryz.ntmps36)
  go_wp2_with fail
  go_ret2
  exact ⟨rfl, Chg.refl _ _⟩
set_option maxRecDepth 100000 in
set_option maxHeartbeats 16000000 in
theorem dused_on (h : DiskS w W K Q d b n D) (hoff : D.off = false) :
    Calls Tryz.prog 50 #[(.pointer (some ⟨d, 0, none⟩))] W fun e w' => e = .returned (.tuple #[.int .i64 (usedF D.now : Int), .int .i64 (D.now.length : Int)]) ∧ Chg [] W w' := by
  obtain ⟨hC, hKw, hOk, tn, ts, lv, Ln, Ls, hD⟩ := h
  obtain ⟨A, M, hT⟩ := hD.now
  have H1 := Asd.mk (used_calls Ln tn D.now b n A M W hT)
  have c0 := cell_of_heap hD.blk 0
  have c7 := cell_of_heap hD.blk 7
  rw [hoff] at c7
  clear hC hKw hOk hD hT hoff
  (go_enter Tryz.func50, Tryz.ntmps50)
  go_wp2_with fail
  refine H1.out.mono ?_
  rintro e w1 ⟨rfl, hC1⟩
  have HC1 := Asd.mk hC1
  clear hC1 H1
  go_wp2
  go_ret2
  exact ⟨rfl, HC1.out⟩
set_option maxRecDepth 100000 in
set_option maxHeartbeats 16000000 in
theorem dused_off (h : DiskS w W K Q d b n D) (hoff : D.off = true) :
    Calls Tryz.prog 50 #[(.pointer (some ⟨d, 0, none⟩))] W fun e w' => e = .returned (.tuple #[.int .i64 0, .int .i64 0]) ∧ Chg [] W w' := by
  obtain ⟨hC, hKw, hOk, tn, ts, lv, Ln, Ls, hD⟩ := h
  have c7 := cell_of_heap hD.blk 7
  rw [hoff] at c7
  clear hC hKw hOk hD hoff
  (go_enter Tryz.func50, Tryz.ntmps50)
  go_wp2_with fail
  go_ret2
  exact ⟨rfl, Chg.refl _ _⟩
theorem dsteps_calls (h : DiskS w W K Q d b n D) :
    Calls Tryz.prog 25 #[(.pointer (some ⟨d, 0, none⟩))] W fun e w' => e = .returned (.int .i64 (D.steps : Int)) ∧ w' = W := by
  obtain ⟨hC, hKw, hOk, tn, ts, lv, Ln, Ls, hD⟩ := h
  have c3 := cell_of_heap hD.blk 3
  clear hC hKw hOk hD
  (go_enter Tryz.func25, Tryz.ntmps25)
  go_wp2_with fail
  go_ret
  exact ⟨rfl, rfl⟩
theorem dunsafe_calls (h : DiskS w W K Q d b n D) :
    Calls Tryz.prog 16 #[(.pointer (some ⟨d, 0, none⟩))] W fun e w' => e = .returned (.int .i64 (D.log.length : Int)) ∧ w' = W := by
  obtain ⟨hC, hKw, hOk, tn, ts, lv, Ln, Ls, hD⟩ := h
  have c2 := cell_of_heap hD.blk 2
  obtain ⟨E, h1, h2, h3⟩ := hD.row
  obtain ⟨A, cap, rfl⟩ : ∃ A cap, lv = .slice A D.log.length cap := by
    rcases row_form h2 with ⟨rfl, h0⟩ | ⟨g, cap, rfl, _⟩
    · exact ⟨none, 0, by rw [← h1, h0]⟩
    · exact ⟨_, cap, by rw [h1]⟩
  clear hC hKw hOk hD h1 h2 h3
  (go_enter Tryz.func16, Tryz.ntmps16)
  go_wp2_with fail
  go_ret
  exact ⟨rfl, rfl⟩
end
end Go.Proofs.YthojofeocjmglaaGreatDoor.I
/- The law's did: an act on a disk. The walk. (Printed by did.py.) -/
namespace Go.Proofs.YthojofeocjmglaaGreatDoor.I
open Go.RowKit Go.Proofs.YthojofeocjmglaaGreatDoor.B Go.Sort
set_option linter.unusedVariables false
theorem DPost.pre {w W W1 : World} {K Q : List Nat} {d b n : Nat} {R : Nat × DK} {e : Ending} {w' : World} (hC : Chg [] W W1) (h : DPost w W1 K Q d b n R e w') : DPost w W K Q d b n R e w' := by
  obtain ⟨h1, K', Q', h2, h3, h4, h5⟩ := h
  exact ⟨h1, K', Q', h2, (hC.mono (by simp)).trans h3, fun i hi => (h4 i hi).imp id (fun h => Nat.le_trans hC.size h), fun i hi => (h5 i hi).imp id (fun h => Nat.le_trans hC.size h)⟩
set_option maxRecDepth 100000 in
set_option maxHeartbeats 16000000 in
theorem did_calls (w W : World) (K Q : List Nat) (d b n : Nat) (D : DK) (k : Int) (a z : ByteArray) (m p : Int) (h : DiskS w W K Q d b n D) (hm : MaxLenAt w) (ha : a.size ≤ 4294967280) (hz : z.size ≤ 4294967280) (hst : D.steps ≤ 1000000) (hll : D.log.length ≤ 1000000) :
    Calls Tryz.prog 12 #[(.pointer (some ⟨d, 0, none⟩)), .agg #[.int .i64 k, .string a, .string z, .int .i64 m, .int .i64 p]] W fun e w' => DPost w W K Q d b n (actD b n D ⟨k, a, z, m, p⟩) e w' := by
  have HC := Asd.mk (show Chg [] W (W.alloc (.cells #[.int .i64 k, .string a, .string z, .int .i64 m, .int .i64 p] 33)) from (Chg.refl _ _).alloc _)
  have hB := hp_new W (.cells #[.int .i64 k, .string a, .string z, .int .i64 m, .int .i64 p] 33)
  have b0 := cell_of_heap hB 0
  have b1 := cell_of_heap hB 1
  have b2 := cell_of_heap hB 2
  have b3 := cell_of_heap hB 3
  have b4 := cell_of_heap hB 4
  have hS := h.chg0 HC.out
  have H1 := Asd.mk (dmake_calls w (W.alloc (.cells #[.int .i64 k, .string a, .string z, .int .i64 m, .int .i64 p] 33)) K Q d b n D a z hS hm ha hz hst hll)
  have H2 := Asd.mk (dcreate_calls w (W.alloc (.cells #[.int .i64 k, .string a, .string z, .int .i64 m, .int .i64 p] 33)) K Q d b n D a z hS hm ha hz hst hll)
  have H3 := Asd.mk (dappend_calls w (W.alloc (.cells #[.int .i64 k, .string a, .string z, .int .i64 m, .int .i64 p] 33)) K Q d b n D a z hS hm ha hz hst hll)
  have H4 := Asd.mk (dlink_calls w (W.alloc (.cells #[.int .i64 k, .string a, .string z, .int .i64 m, .int .i64 p] 33)) K Q d b n D a z hS hm ha hz hst hll)
  have H5 := Asd.mk (drename_calls w (W.alloc (.cells #[.int .i64 k, .string a, .string z, .int .i64 m, .int .i64 p] 33)) K Q d b n D a z hS hm ha hz hst hll)
  have H6 := Asd.mk (dremove_calls w (W.alloc (.cells #[.int .i64 k, .string a, .string z, .int .i64 m, .int .i64 p] 33)) K Q d b n D a z hS hm ha hz hst hll)
  have H7 := Asd.mk (dsync_calls w (W.alloc (.cells #[.int .i64 k, .string a, .string z, .int .i64 m, .int .i64 p] 33)) K Q d b n D hS hm hst)
  have H8 := Asd.mk (dfail_calls w (W.alloc (.cells #[.int .i64 k, .string a, .string z, .int .i64 m, .int .i64 p] 33)) K Q d b n D m hS hst)
  have H9 := Asd.mk (ddown_calls w (W.alloc (.cells #[.int .i64 k, .string a, .string z, .int .i64 m, .int .i64 p] 33)) K Q d b n D m p hS hst)
  have H0 := Asd.mk (dstart_calls w (W.alloc (.cells #[.int .i64 k, .string a, .string z, .int .i64 m, .int .i64 p] 33)) K Q d b n D hS)
  clear hB hS h hm ha hz hst hll
  by_cases k1 : k = 1
  · subst k1
    have HA := Asd.mk (show actD b n D ⟨1, a, z, m, p⟩ = doD b n D ⟨1, a, z⟩ by unfold actD; rw [if_pos ⟨by show (1 : Int) ≤ 1; decide, by show (1 : Int) ≤ 6; decide⟩])
    clear H2 H3 H4 H5 H6 H7 H8 H9 H0
    (go_enter Tryz.func12, Tryz.ntmps12)
    go_wp2_with fail
    refine H1.out.mono ?_
    rintro e w1 hP
    have he : e = .returned (errV (doD b n D ⟨1, a, z⟩).1) := hP.1
    subst he
    have HP := Asd.mk (hP.pre HC.out)
    clear hP H1
    go_wp2
    go_ret
    exact by rw [HA.out]; exact HP.out
  · have n1 : ¬ k = 1 := k1
    by_cases k2 : k = 2
    · subst k2
      have HA := Asd.mk (show actD b n D ⟨2, a, z, m, p⟩ = doD b n D ⟨2, a, z⟩ by unfold actD; rw [if_pos ⟨by show (1 : Int) ≤ 2; decide, by show (2 : Int) ≤ 6; decide⟩])
      clear H1 H3 H4 H5 H6 H7 H8 H9 H0
      (go_enter Tryz.func12, Tryz.ntmps12)
      go_wp2_with fail
      refine H2.out.mono ?_
      rintro e w1 hP
      have he : e = .returned (errV (doD b n D ⟨2, a, z⟩).1) := hP.1
      subst he
      have HP := Asd.mk (hP.pre HC.out)
      clear hP H2
      go_wp2
      go_ret
      exact by rw [HA.out]; exact HP.out
    · have n2 : ¬ k = 2 := k2
      by_cases k3 : k = 3
      · subst k3
        have HA := Asd.mk (show actD b n D ⟨3, a, z, m, p⟩ = doD b n D ⟨3, a, z⟩ by unfold actD; rw [if_pos ⟨by show (1 : Int) ≤ 3; decide, by show (3 : Int) ≤ 6; decide⟩])
        clear H1 H2 H4 H5 H6 H7 H8 H9 H0
        (go_enter Tryz.func12, Tryz.ntmps12)
        go_wp2_with fail
        refine H3.out.mono ?_
        rintro e w1 hP
        have he : e = .returned (errV (doD b n D ⟨3, a, z⟩).1) := hP.1
        subst he
        have HP := Asd.mk (hP.pre HC.out)
        clear hP H3
        go_wp2
        go_ret
        exact by rw [HA.out]; exact HP.out
      · have n3 : ¬ k = 3 := k3
        by_cases k4 : k = 4
        · subst k4
          have HA := Asd.mk (show actD b n D ⟨4, a, z, m, p⟩ = doD b n D ⟨4, a, z⟩ by unfold actD; rw [if_pos ⟨by show (1 : Int) ≤ 4; decide, by show (4 : Int) ≤ 6; decide⟩])
          clear H1 H2 H3 H5 H6 H7 H8 H9 H0
          (go_enter Tryz.func12, Tryz.ntmps12)
          go_wp2_with fail
          refine H4.out.mono ?_
          rintro e w1 hP
          have he : e = .returned (errV (doD b n D ⟨4, a, z⟩).1) := hP.1
          subst he
          have HP := Asd.mk (hP.pre HC.out)
          clear hP H4
          go_wp2
          go_ret
          exact by rw [HA.out]; exact HP.out
        · have n4 : ¬ k = 4 := k4
          by_cases k5 : k = 5
          · subst k5
            have HA := Asd.mk (show actD b n D ⟨5, a, z, m, p⟩ = doD b n D ⟨5, a, z⟩ by unfold actD; rw [if_pos ⟨by show (1 : Int) ≤ 5; decide, by show (5 : Int) ≤ 6; decide⟩])
            clear H1 H2 H3 H4 H6 H7 H8 H9 H0
            (go_enter Tryz.func12, Tryz.ntmps12)
            go_wp2_with fail
            refine H5.out.mono ?_
            rintro e w1 hP
            have he : e = .returned (errV (doD b n D ⟨5, a, z⟩).1) := hP.1
            subst he
            have HP := Asd.mk (hP.pre HC.out)
            clear hP H5
            go_wp2
            go_ret
            exact by rw [HA.out]; exact HP.out
          · have n5 : ¬ k = 5 := k5
            by_cases k6 : k = 6
            · subst k6
              have HA := Asd.mk (show actD b n D ⟨6, a, z, m, p⟩ = doD b n D ⟨6, a, z⟩ by unfold actD; rw [if_pos ⟨by show (1 : Int) ≤ 6; decide, by show (6 : Int) ≤ 6; decide⟩])
              clear H1 H2 H3 H4 H5 H7 H8 H9 H0
              (go_enter Tryz.func12, Tryz.ntmps12)
              go_wp2_with fail
              refine H6.out.mono ?_
              rintro e w1 hP
              have he : e = .returned (errV (doD b n D ⟨6, a, z⟩).1) := hP.1
              subst he
              have HP := Asd.mk (hP.pre HC.out)
              clear hP H6
              go_wp2
              go_ret
              exact by rw [HA.out]; exact HP.out
            · have n6 : ¬ k = 6 := k6
              by_cases k7 : k = 7
              · subst k7
                have HA := Asd.mk (show actD b n D ⟨7, a, z, m, p⟩ = syncD b n D by unfold actD; rw [if_neg (by show ¬ ((1 : Int) ≤ 7 ∧ (7 : Int) ≤ 6); decide), if_pos rfl])
                clear H1 H2 H3 H4 H5 H6 H8 H9 H0
                (go_enter Tryz.func12, Tryz.ntmps12)
                go_wp2_with fail
                refine H7.out.mono ?_
                rintro e w1 hP
                have he : e = .returned (errV (syncD b n D).1) := hP.1
                subst he
                have HP := Asd.mk (hP.pre HC.out)
                clear hP H7
                go_wp2
                go_ret
                exact by rw [HA.out]; exact HP.out
              · have n7 : ¬ k = 7 := k7
                by_cases k8 : k = 8
                · subst k8
                  have HA := Asd.mk (show actD b n D ⟨8, a, z, m, p⟩ = failA D m by unfold actD; rw [if_neg (by show ¬ ((1 : Int) ≤ 8 ∧ (8 : Int) ≤ 6); decide), if_neg (by show ¬ (8 : Int) = 7; decide), if_pos rfl])
                  clear H1 H2 H3 H4 H5 H6 H7 H9 H0
                  (go_enter Tryz.func12, Tryz.ntmps12)
                  go_wp2_with fail
                  refine H8.out.mono ?_
                  rintro e w1 hP
                  have he : e = .returned (errV (failA D m).1) := hP.1
                  subst he
                  have HP := Asd.mk (hP.pre HC.out)
                  clear hP H8
                  go_wp2
                  go_ret
                  exact by rw [HA.out]; exact HP.out
                · have n8 : ¬ k = 8 := k8
                  by_cases k9 : k = 9
                  · subst k9
                    have HA := Asd.mk (show actD b n D ⟨9, a, z, m, p⟩ = downA D m p by unfold actD; rw [if_neg (by show ¬ ((1 : Int) ≤ 9 ∧ (9 : Int) ≤ 6); decide), if_neg (by show ¬ (9 : Int) = 7; decide), if_neg (by show ¬ (9 : Int) = 8; decide), if_pos rfl])
                    clear H1 H2 H3 H4 H5 H6 H7 H8 H0
                    (go_enter Tryz.func12, Tryz.ntmps12)
                    go_wp2_with fail
                    refine H9.out.mono ?_
                    rintro e w1 hP
                    have he : e = .returned (errV (downA D m p).1) := hP.1
                    subst he
                    have HP := Asd.mk (hP.pre HC.out)
                    clear hP H9
                    go_wp2
                    go_ret
                    exact by rw [HA.out]; exact HP.out
                  · have n9 : ¬ k = 9 := k9
                    have HA := Asd.mk (show actD b n D ⟨k, a, z, m, p⟩ = startD D by unfold actD; rw [if_neg (by show ¬ (1 ≤ k ∧ k ≤ 6); omega), if_neg (show ¬ k = 7 from k7), if_neg (show ¬ k = 8 from k8), if_neg (show ¬ k = 9 from k9)])
                    clear H1 H2 H3 H4 H5 H6 H7 H8 H9
                    (go_enter Tryz.func12, Tryz.ntmps12)
                    go_wp2_with fail
                    refine H0.out.mono ?_
                    rintro e w1 hP
                    have he : e = .returned (errV (startD D).1) := hP.1
                    subst he
                    have HP := Asd.mk (hP.pre HC.out)
                    clear hP H0
                    go_wp2
                    go_ret
                    exact by rw [HA.out]; exact HP.out
end Go.Proofs.YthojofeocjmglaaGreatDoor.I
