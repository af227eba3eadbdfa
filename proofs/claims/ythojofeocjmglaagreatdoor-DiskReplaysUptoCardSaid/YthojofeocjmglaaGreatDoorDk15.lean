/- Merged out of these texts: DCount, OpErr, DDo. -/
import Derived.Test.YthojofeocjmglaaGreatDoorDk13
import Derived.Test.YthojofeocjmglaaGreatDoorDk14
import Derived.Test.YthojofeocjmglaaGreatDoorDk12
import Derived.Deep.AppendLies
import Derived.Deep.RegionLaw
/- The disk's count: the walk. -/
namespace Go.Proofs.YthojofeocjmglaaGreatDoor.I
open Go.RowKit Go.Proofs.YthojofeocjmglaaGreatDoor.B Go.Sort
set_option linter.unusedVariables false
/-- Only the disk's own cells have turned. -/
theorem DiskAt.turn {W W' : World} {K Q : List Nat} {base d b n : Nat} {D E : DK} {tn ts : Nat} {lv : Value} {Ln Ls : List Nat} (h : DiskAt W K Q base d b n D tn ts lv Ln Ls) (hC : Chg [d] W W') (hb : W'.heap[d]? = some (.cells #[(.pointer (some ⟨tn, 0, none⟩)), (.pointer (some ⟨ts, 0, none⟩)), lv, .int .i64 (E.steps : Int), .int .i64 (E.fails : Int), .int .i64 (E.downs : Int), .int .i64 (E.keep : Int), .bool E.off] 76 (0, 0))) (h1 : E.now = D.now) (h2 : E.safe = D.safe) (h3 : E.log = D.log) : DiskAt W' K Q base d b n E tn ts lv Ln Ls := by
  obtain ⟨A, M, k1⟩ := h.now
  obtain ⟨A2, M2, k2⟩ := h.safe
  have e1 : ∀ i ∈ Ln, i ∉ [d] := fun i hi => by rw [List.mem_singleton]; rintro rfl; exact h.dn hi
  have e2 : ∀ i ∈ Ls, i ∉ [d] := fun i hi => by rw [List.mem_singleton]; rintro rfl; exact h.ds hi
  have e3 : ∀ i ∈ Q, i ∉ [d] := fun i hi => by rw [List.mem_singleton]; rintro rfl; exact (h.q _ hi).2 h.dK
  have e4 : Off lv [d] := fun g hg => by rw [List.mem_singleton]; rintro rfl; exact h.rd hg
  exact ⟨hb, ⟨A, M, by rw [h1]; exact k1.keep hC e1⟩, ⟨A2, M2, by rw [h2]; exact k2.keep hC e2⟩, by rw [h3]; exact h.row.keep hC e3 e4, h.dK, h.nK, h.sK, h.rK, h.dn, h.ds, h.apart, h.rn, h.rs, h.rd,
    fun i hi => ⟨Nat.lt_of_lt_of_le (h.q i hi).1 hC.size, (h.q i hi).2⟩, fun i hi => Nat.lt_of_lt_of_le (h.kl i hi) hC.size⟩
theorem chg_cell (W : World) (d j : Nat) (v : Value) : Chg [d] W (W.setCell ⟨d, j, none⟩ v) := (Chg.refl [d] W).setCell (p := ⟨d, j, none⟩) (fun _ => List.mem_singleton_self d) v
theorem DiskAt.step {W : World} {K Q : List Nat} {base d b n : Nat} {D : DK} {tn ts : Nat} {lv : Value} {Ln Ls : List Nat} (h : DiskAt W K Q base d b n D tn ts lv Ln Ls) : DiskAt (W.setCell ⟨d, 3, none⟩ (.int .i64 ((D.steps : Int) + 1))) K Q base d b n { D with steps := D.steps + 1 } tn ts lv Ln Ls :=
  h.turn (chg_cell _ _ _ _) (by have := hp_set h.blk 3 (.int .i64 ((D.steps : Int) + 1)); simpa using this) rfl rfl rfl
theorem DiskAt.offs {W : World} {K Q : List Nat} {base d b n : Nat} {D : DK} {tn ts : Nat} {lv : Value} {Ln Ls : List Nat} (h : DiskAt W K Q base d b n D tn ts lv Ln Ls) (x : Bool) : DiskAt (W.setCell ⟨d, 7, none⟩ (.bool x)) K Q base d b n { D with off := x } tn ts lv Ln Ls :=
  h.turn (chg_cell _ _ _ _) (by have := hp_set h.blk 7 (.bool x); simpa using this) rfl rfl rfl
/-- Another file system becomes the one that is now. -/
theorem DiskAt.swap {W X : World} {K Q : List Nat} {base d b n : Nat} {D : DK} {tn ts : Nat} {lv : Value} {Ln Ls : List Nat} (h : DiskAt W K Q base d b n D tn ts lv Ln Ls) (hC : Chg [] W X) {L : List Nat} {c : Nat} {fs : FS} {A M : Pth → Nat} (hT : TabAt X L c fs b n A M) (hL : ∀ i ∈ L, W.heap.size ≤ i) :
    DiskAt (X.setCell ⟨d, 0, none⟩ (.pointer (some ⟨c, 0, none⟩))) (K ++ L) Q base d b n { D with now := fs } c ts lv L Ls := by
  have h0 := h.keep0 hC
  have hn : ∀ i ∈ L, i ∉ K := fun i hi hk => by have := hL i hi; have := h.kl i hk; omega
  have hC2 := chg_cell X d 0 (.pointer (some ⟨c, 0, none⟩))
  obtain ⟨A2, M2, k2⟩ := h0.safe
  have e1 : ∀ i ∈ L, i ∉ [d] := fun i hi => by rw [List.mem_singleton]; rintro rfl; exact hn _ hi h.dK
  have e2 : ∀ i ∈ Ls, i ∉ [d] := fun i hi => by rw [List.mem_singleton]; rintro rfl; exact h.ds hi
  have e3 : ∀ i ∈ Q, i ∉ [d] := fun i hi => by rw [List.mem_singleton]; rintro rfl; exact (h.q _ hi).2 h.dK
  have e4 : Off lv [d] := fun g hg => by rw [List.mem_singleton]; rintro rfl; exact h.rd hg
  refine ⟨by have := hp_set h0.blk 0 (.pointer (some ⟨c, 0, none⟩)); simpa using this, ⟨A, M, hT.keep hC2 e1⟩, ⟨A2, M2, k2.keep hC2 e2⟩, h0.row.keep hC2 e3 e4, List.mem_append_left _ h.dK, fun i hi => List.mem_append_right _ hi, fun i hi => List.mem_append_left _ (h.sK i hi), fun g hg => List.mem_append_left _ (h.rK g hg), fun hi => hn _ hi h.dK, h.ds, fun i hi hs => hn i hi (h.sK i hs), fun g hg hi => hn g hi (h.rK g hg), h.rs, h.rd, fun i hi => ⟨Nat.lt_of_lt_of_le (h0.q i hi).1 hC2.size, fun hk => ?_⟩, fun i hi => ?_⟩
  · rcases List.mem_append.1 hk with hk | hk
    · exact (h.q i hi).2 hk
    · have := hL i hk; have := (h.q i hi).1; omega
  · rcases List.mem_append.1 hi with hi | hi
    · exact Nat.lt_of_lt_of_le (h0.kl i hi) hC2.size
    · exact Nat.lt_of_lt_of_le (hT.bl i hi) hC2.size
/-- What the count leaves. -/
def CPost (W : World) (K Q : List Nat) (base d b n ts : Nat) (lv : Value) (Ls : List Nat) (R : Nat × DK) (e : Ending) (w' : World) : Prop :=
  e = .returned (errV R.1) ∧ ∃ K' tn' Ln', DiskAt w' K' Q base d b n R.2 tn' ts lv Ln' Ls ∧ Chg K W w' ∧ (∀ i ∈ K', i ∈ K ∨ W.heap.size ≤ i)
theorem enters_K (k : Int) : ∀ args w, (callFunc (fnK k) args).run Tryz.prog w = .ok (.enter (fnK k) args) w := by
  unfold fnK
  split
  · exact enters_of Tryz.func69 (by kernel_rfl) rfl
  · split
    · exact enters_of Tryz.func63 (by kernel_rfl) rfl
    · split
      · exact enters_of Tryz.func66 (by kernel_rfl) rfl
      · split
        · exact enters_of Tryz.func71 (by kernel_rfl) rfl
        · split
          · exact enters_of Tryz.func73 (by kernel_rfl) rfl
          · exact enters_of Tryz.func75 (by kernel_rfl) rfl
theorem row_form {w : World} {base z n : Nat} {t : TypeId} {v : Value} {xs : List Value} (h : w.ownsRow base t z v n xs) : (v = .slice none 0 0 ∧ n = 0) ∨ ∃ g cap, v = .slice (some ⟨g, 0, none⟩) n cap ∧ n ≤ cap ∧ cap ≤ maxLen ∧ ∀ j x, xs[j]? = some x → w.cell? ⟨g, j, none⟩ = some x := by
  rcases h.2 with h2 | ⟨g, cap, cur, hv, hb, hg, hn, hm, hs, ht⟩
  · exact .inl h2
  · refine .inr ⟨g, cap, hv, hn, hm, fun j x hx => ?_⟩
    rw [cell_of_heap hg]
    rw [← ht] at hx
    have hj : j < n * z := by
      have := (List.getElem?_eq_some_iff.1 hx).1
      rw [List.length_take] at this
      omega
    rw [List.getElem?_take_of_lt hj] at hx
    simpa using hx
theorem size_chg (a b : Value) : (Tryz.prog.info? 83).map (·.size) = some (#[a, b]).size := by kernel_rfl
theorem one_chg (f : Fn) (a c : Array Value) (s : ByteArray) : (#[Value.func f a c, .string s]).all (·.oneCell') = true := by kernel_rfl
theorem hp_setRow {w : World} {g : Nat} {cs cs' : Array Value} {t : TypeId} {fz : Nat × Nat} (h : w.heap[g]? = some (.cells cs t fz)) : (w.setRow g cs').heap[g]? = some (.cells cs' t fz) := by
  simp only [World.setRow]
  rw [Array.getElem?_modify, if_pos rfl, h]
  rfl
set_option maxRecDepth 100000 in
set_option maxHeartbeats 16000000 in
theorem count_calls (K Q : List Nat) (base d b n : Nat) (D : DK) (tn ts : Nat) (lv : Value) (Ln Ls : List Nat) (W : World) (hD : DiskAt W K Q base d b n D tn ts lv Ln Ls) (hO : DOk b n D) (hm : ∀ X, Chg K W X → MaxLenAt X) (hs : D.steps ≤ 1000000) :
    Calls Tryz.prog 44 #[(.pointer (some ⟨d, 0, none⟩))] W fun e w' => CPost W K Q base d b n ts lv Ls (countD b n D) e w' := by
  obtain ⟨R, hR⟩ : ∃ R, countD b n D = R := ⟨_, rfl⟩
  rw [hR]
  have hR0 := hR
  unfold countD at hR
  have c0 := cell_of_heap hD.blk 0
  have c1 := cell_of_heap hD.blk 1
  have c2 := cell_of_heap hD.blk 2
  have c3 := cell_of_heap hD.blk 3
  have c4 := cell_of_heap hD.blk 4
  have c5 := cell_of_heap hD.blk 5
  have c6 := cell_of_heap hD.blk 6
  have c7 := cell_of_heap hD.blk 7
  have f3 := frozen_of_heap hD.blk 3
  have f7 := frozen_of_heap hD.blk 7
  have f0 := frozen_of_heap hD.blk 0
  have HD := Asd.mk hD
  have HO := Asd.mk hO
  have HM := Asd.mk hm
  have hsz : W.heap.size ≤ W.heap.size := Nat.le_refl _
  clear hD hO hm hR0
  by_cases hoff : D.off = true
  · rw [if_pos hoff] at hR
    have HR := Asd.mk hR
    rw [hoff] at c7
    clear hR hoff
    (go_enter Tryz.func44, Tryz.ntmps44)
    go_wp2
    go_ret
    exact by
      show CPost _ _ _ _ _ _ _ _ _ _ _ _ _
      rw [← HR.out]
      exact ⟨rfl, K, tn, Ln, HD.out, Chg.refl _ _, fun i hi => .inl hi⟩
  · have hoff2 : D.off = false := by simpa using hoff
    rw [if_neg hoff] at hR
    rw [hoff2] at c7
    have HOf := Asd.mk hoff2
    clear hoff hoff2
    by_cases hdn : D.steps + 1 = D.downs
    · rw [if_pos hdn] at hR
      have HR := Asd.mk hR
      have t1 : (((D.steps : Int) + 1) == (D.downs : Int)) = true := by
        rw [← hdn]
        simp
      clear hR hdn
      (go_enter Tryz.func44, Tryz.ntmps44)
      have HD2 := Asd.mk (HD.out.step.offs true)
      have HCv := Asd.mk ((chg_cell W d 3 (.int .i64 ((D.steps : Int) + 1))).trans (chg_cell _ d 7 (.bool true)))
      go_wp2_with fail
      obtain ⟨V, hV⟩ : ∃ V, (W.setCell ⟨d, 3, none⟩ (.int .i64 ((D.steps : Int) + 1))).setCell ⟨d, 7, none⟩ (.bool true) = V := ⟨_, rfl⟩
      rw [hV] at HD2 HCv ⊢
      obtain ⟨A2, M2, hT2⟩ := HD2.out.safe
      have HCl := Asd.mk (clone_calls Ls ts D.safe b n A2 M2 V hT2 HO.out.safe)
      clear hV hT2 HD f0 f3 f7 c0 c1 c3 c4 c5 c7
      refine HCl.out.mono ?_
      rintro e w1 ⟨c, L2, A3, M3, rfl, hC, hT, hL2⟩
      have HS := Asd.mk (show Sys V w1 c D.safe b n from ⟨hC, HO.out.safe, HO.out.rsafe, L2, A3, M3, hT, hL2⟩)
      have hB1 := hC.heap HD2.out.blk (by simp)
      have c2 := cell_of_heap hB1 2
      have c6 := cell_of_heap hB1 6
      clear hC hT hL2 hB1
      obtain ⟨EE, hE1, hE2, hE3⟩ := HD2.out.row
      rcases row_form hE2 with ⟨rfl, hE4⟩ | ⟨g, cap, rfl, hcap, hcm, hcell⟩
      rotate_left
      unfold maxLen at hcm
      rotate_left
      · have hl0 : D.log = [] := List.eq_nil_of_length_eq_zero (hE1.symm.trans hE4)
        go_upto_region 8 with fail
        go_quiet (fail)
        rw [show min (D.keep : Int) 0 = 0 by omega]
        go_wp2
        go_loopg [52] 1 (fun gk v52 wx => gk = 1 ∧ v52 = .int .i64 0 ∧ Asd (Sys V wx c D.safe b n))
        case atStart => exact ⟨rfl, rfl, ⟨HS.out.chg ((Chg.refl _ _).drewN nq)⟩⟩
        case round =>
          obtain ⟨rfl, rfl, HX⟩ := hrel
          have HX2 := Asd.mk (show runAll b n D.safe (D.log.take D.keep) = D.safe by rw [hl0, List.take_nil]; rfl)
          have hBr := HX.out.1.heap HD2.out.blk (by simp)
          have c0 := cell_of_heap hBr 0
          have f0 := frozen_of_heap hBr 0
          clear hBr
          go_wp2_with fail
          go_ret
          exact by
            show CPost _ _ _ _ _ _ _ _ _ _ _ _ _
            rw [← HR.out, HX2.out]
            obtain ⟨hCx, _, _, Lx, Ax, Mx, hTx, hLx⟩ := HX.out
            refine ⟨rfl, K ++ Lx, c, Lx, ?_, ?_, fun i hi => ?_⟩
            · have := HD2.out.swap hCx hTx hLx
              exact this
            · exact (((HCv.out.mono (fun i hi _ => by rw [List.mem_singleton] at hi; rw [hi]; exact HD2.out.dK)).trans (hCx.mono (by simp)))).trans ((chg_cell _ d 0 _).mono (fun i hi _ => by rw [List.mem_singleton] at hi; rw [hi]; exact HD2.out.dK))
            · rcases List.mem_append.1 hi with hi | hi
              · exact .inl hi
              · exact .inr (Nat.le_trans HCv.out.size (hLx i hi))
      · have hmin : min (D.keep : Int) (D.log.length : Int) = ((min D.keep D.log.length : Nat) : Int) := by omega
        obtain ⟨m, hmq⟩ : ∃ m, min D.keep D.log.length = m := ⟨_, rfl⟩
        rw [hmq] at hmin
        have HMQ := Asd.mk hmq
        clear hmq
        go_upto_region 8 with fail
        go_quiet (fail)
        (try rw [hmin])
        (try rw [show max (m : Int) 0 = (m : Int) by omega])
        (try rw [Int.toNat_natCast])
        have HEL := Asd.mk hE1
        have HCE := Asd.mk hcell
        have HEN := Asd.mk hE3
        clear hE1 hE2 hE3 hcell hmin
        go_wp2
        go_loopg [52] (m + 1) (fun gk v52 wx => ∃ i : Nat, i ≤ m ∧ gk = m + 1 - i ∧ v52 = .int .i64 (i : Int) ∧ Asd (Sys V wx c (runAll b n D.safe (D.log.take i)) b n))
        case atStart => exact ⟨0, by omega, rfl, rfl, ⟨HS.out.chg ((Chg.refl _ _).drewN nq)⟩⟩
        case round =>
          obtain ⟨i, hi, rfl, rfl, HX⟩ := hrel
          by_cases hlt : i < m
          · have k1 : (i : Int) < (m : Int) := by omega
            have hil : i < D.log.length := by have := HMQ.out; omega
            have hiE : i < EE.length := by rw [HEL.out]; exact hil
            obtain ⟨g1, g2⟩ := flat2_at EE i hiE
            have hEn := HEN.out i D.log[i] EE[i] (List.getElem?_eq_getElem hil) (List.getElem?_eq_getElem hiE)
            obtain ⟨o, ho⟩ : ∃ o, D.log[i] = o := ⟨_, rfl⟩
            obtain ⟨⟨fv, tv⟩, hx⟩ : ∃ x, EE[i] = x := ⟨_, rfl⟩
            rw [ho] at hEn
            rw [hx] at hEn g1 g2
            obtain ⟨⟨q, q2, hq, _⟩, _⟩ := id hEn
            simp only [Prod.mk.injEq] at hq
            obtain ⟨hq, hq'⟩ := hq
            obtain ⟨f, hf⟩ : ∃ f, fnK o.kind = f := ⟨_, rfl⟩
            obtain ⟨C, hC⟩ : ∃ C, capK o.kind q q2 = C := ⟨_, rfl⟩
            have hEf := enters_K o.kind
            rw [hf] at hEf hq
            rw [hC] at hq
            subst hq
            have mv : ∀ {p : Addr} {u : Value}, V.cell? p = some u → wr.cell? p = some u := fun h => (HX.out.1.below.cell (World.block_lt_of_cell? _ _ h)).trans h
            have e0 := mv (HCE.out _ _ g1)
            have e1 := mv (HCE.out _ _ g2)
            obtain ⟨told, htv⟩ : ∃ told, toldO o = told := ⟨_, rfl⟩
            rw [htv] at hq'
            subst hq'
            have HEn := Asd.mk hEn
            have HO2 := Asd.mk ho
            obtain ⟨B, hB⟩ : ∃ B, wr.heap.size = B := ⟨_, rfl⟩
            have HZ := Asd.mk (show (wr.alloc (.cells #[.nilFunc, .string ⟨#[]⟩] 83)).heap[B]? = some (.cells #[.nilFunc, .string ⟨#[]⟩] 83 (0, 0)) by rw [← hB]; exact hp_new _ _)
            have HBq := Asd.mk hB
            clear g1 g2 hf hC mv hEn ho htv
            go_upto_region 11 with (first | (refine wpList_store_row (o := ⟨none, _, _, _, _, _⟩) rfl 83 (.tmp 5) (.tmp 55) rfl B _ rfl rfl 83 _ HZ.out (size_chg _ _) rfl (one_chg _ _ _ _) ?_))
            refine wp_opaque2 (fun X hXq => ?_)
            have HXc := Asd.mk (show Chg [] wr X by rw [hXq]; exact ((Chg.refl _ _).alloc _).setRow (fun h => absurd h (by have := HBq.out; omega)) _)
            have hXb : X.heap[B]? = some (.cells #[.func (.func f) #[] C, .string told] 83 (0, 0)) := by rw [hXq]; exact hp_setRow HZ.out
            have b0 := cell_of_heap hXb 0
            clear hXq HZ hXb e0 e1
            have HSX := Asd.mk (HX.out.chg HXc.out)
            have hCl2 : Calls Tryz.prog f (#[(.pointer (some ⟨c, 0, none⟩))] ++ C) X fun e w' => (∃ v, e = .returned v) ∧ Sys V w' c (runAll b n D.safe (D.log.take (i + 1))) b n := by
              obtain ⟨hCX, hgX, hrX, LX, AX, MX, hTX, hLX⟩ := HSX.out
              refine (clos_calls LX c _ b n AX MX f C _ HEn.out X (fun i hi => hCX.block i (HD2.out.q i hi).1 (by simp)) hTX hgX hrX (HM.out X (((HCv.out.mono (fun i hi _ => by rw [List.mem_singleton] at hi; rw [hi]; exact HD2.out.dK))).trans (hCX.mono (by simp))))).mono ?_
              rintro e w' hP
              have := Sys.op hCX hLX hP (opF_keep hgX hrX o)
              refine ⟨⟨_, this.1⟩, ?_⟩
              rw [List.take_add_one, List.getElem?_eq_getElem hil, HO2.out]
              show Sys V w' c (runAll b n D.safe (D.log.take i ++ [o])) b n
              rw [runAll_snoc]
              exact this.2
            have HCl2 := Asd.mk hCl2
            clear hCl2
            go_wp2_with fail
            refine HCl2.out.mono ?_
            rintro e w5 ⟨⟨v, rfl⟩, hS5⟩
            have HS5 := Asd.mk hS5
            clear hS5 HCl2 b0
            go_wp2_with fail
            go_roundg (m + 1 - (i + 1))
            case rel => exact ⟨i + 1, by omega, by omega, by go_num, HS5⟩
            case measure => omega
          · obtain rfl : i = m := by omega
            have HX2 := Asd.mk (show D.log.take i = D.log.take D.keep by
              rw [← HMQ.out]
              rcases Nat.lt_or_ge D.keep D.log.length with h | h
              · rw [Nat.min_eq_left (by omega)]
              · rw [Nat.min_eq_right h, List.take_of_length_le (Nat.le_refl _), List.take_of_length_le h])
            rw [HX2.out] at HX
            have hBr := HX.out.1.heap HD2.out.blk (by simp)
            have c0 := cell_of_heap hBr 0
            have f0 := frozen_of_heap hBr 0
            clear hBr
            go_wp2_with fail
            go_ret
            exact by
              show CPost _ _ _ _ _ _ _ _ _ _ _ _ _
              rw [← HR.out]
              obtain ⟨hCx, _, _, Lx, Ax, Mx, hTx, hLx⟩ := HX.out
              refine ⟨rfl, K ++ Lx, c, Lx, ?_, ?_, fun i hi => ?_⟩
              · have := HD2.out.swap hCx hTx hLx
                exact this
              · exact (((HCv.out.mono (fun i hi _ => by rw [List.mem_singleton] at hi; rw [hi]; exact HD2.out.dK)).trans (hCx.mono (by simp)))).trans ((chg_cell _ d 0 _).mono (fun i hi _ => by rw [List.mem_singleton] at hi; rw [hi]; exact HD2.out.dK))
              · rcases List.mem_append.1 hi with hi | hi
                · exact .inl hi
                · exact .inr (Nat.le_trans HCv.out.size (hLx i hi))
    · rw [if_neg hdn] at hR
      have t1 : (((D.steps : Int) + 1) == (D.downs : Int)) = false := by
        simp only [beq_eq_false_iff_ne, ne_eq]; omega
      by_cases hfl : D.steps + 1 = D.fails
      · rw [if_pos hfl] at hR
        have HR := Asd.mk hR
        have t2 : (((D.steps : Int) + 1) == (D.fails : Int)) = true := by
          rw [← hfl]; simp
        clear hR hdn hfl
        (go_enter Tryz.func44, Tryz.ntmps44)
        go_wp2_with fail
        go_ret
        exact by
          show CPost _ _ _ _ _ _ _ _ _ _ _ _ _
          rw [← HR.out]
          exact ⟨rfl, K, tn, Ln, HD.out.step, (chg_cell _ _ _ _).mono (fun i hi _ => by rw [List.mem_singleton] at hi; rw [hi]; exact HD.out.dK), fun i hi => .inl hi⟩
      · rw [if_neg hfl] at hR
        have HR := Asd.mk hR
        have t2 : (((D.steps : Int) + 1) == (D.fails : Int)) = false := by
          simp only [beq_eq_false_iff_ne, ne_eq]; omega
        clear hR hdn hfl
        (go_enter Tryz.func44, Tryz.ntmps44)
        go_wp2_with fail
        go_ret
        exact by
          show CPost _ _ _ _ _ _ _ _ _ _ _ _ _
          rw [← HR.out]
          exact ⟨rfl, K, tn, Ln, HD.out.step, (chg_cell _ _ _ _).mono (fun i hi _ => by rw [List.mem_singleton] at hi; rw [hi]; exact HD.out.dK), fun i hi => .inl hi⟩
end Go.Proofs.YthojofeocjmglaaGreatDoor.I
/- A call that answers an error leaves the file system. Plain. -/
namespace Go.Proofs.YthojofeocjmglaaGreatDoor.I
open Go.RowKit Go.Proofs.YthojofeocjmglaaGreatDoor.B Go.Sort
set_option linter.unusedVariables false
theorem putF_err {fs : FS} {by' nd : Nat} {p : Pth} {x : Nd} (h : (putF fs by' nd p x).1 ≠ 0) : (putF fs by' nd p x).2 = fs := by
  unfold putF at h ⊢
  split
  · rfl
  · rename_i h1; rw [if_neg h1] at h; exact absurd rfl h
theorem opF_err {fs : FS} {by' nd : Nat} {o : OpV} (h : (opF fs by' nd o).1 ≠ 0) : (opF fs by' nd o).2 = fs := by
  unfold opF at h ⊢
  by_cases h1 : o.kind = 1
  · rw [if_pos h1] at h ⊢
    unfold makeF at h ⊢
    split at h
    · rfl
    · split at h
      · rename_i h2; rw [if_pos h2]
      · rename_i h2; rw [if_neg h2]; exact putF_err h
  · rw [if_neg h1] at h ⊢
    by_cases h2 : o.kind = 2
    · rw [if_pos h2] at h ⊢
      unfold createF at h ⊢
      split at h
      · rfl
      · split at h
        · exact putF_err h
        · split at h
          · rename_i h3; rw [if_pos h3]
          · rename_i h3
            split at h
            · rename_i h4; rw [if_neg h3, if_pos h4]
            · exact absurd rfl h
    · rw [if_neg h2] at h ⊢
      by_cases h3 : o.kind = 3
      · rw [if_pos h3] at h ⊢
        unfold appendF at h ⊢
        split at h
        · rfl
        · split at h
          · rfl
          · split at h
            · rename_i k1; rw [if_pos k1]
            · rename_i k1
              split at h
              · rename_i k2; rw [if_neg k1, if_pos k2]
              · rename_i k2
                split at h
                · rename_i k3; rw [if_neg k1, if_neg k2, if_pos k3]
                · rename_i k3
                  split at h
                  · rename_i k4; rw [if_neg k1, if_neg k2, if_neg k3, if_pos k4]
                  · exact absurd rfl h
      · rw [if_neg h3] at h ⊢
        by_cases h4 : o.kind = 4
        · rw [if_pos h4] at h ⊢
          unfold linkF at h ⊢
          split at h
          · rename_i k1; rw [if_pos k1]
          · rename_i k1
            rw [if_neg k1]
            split at h
            · rfl
            · split at h
              · rename_i k2; rw [if_pos k2]
              · rename_i k2; rw [if_neg k2]; exact putF_err h
        · rw [if_neg h4] at h ⊢
          by_cases h5 : o.kind = 5
          · rw [if_pos h5] at h ⊢
            unfold renameF at h ⊢
            split at h
            · rfl
            · split at h
              · rfl
              · split at h
                · rename_i k1; rw [if_pos k1]
                · rename_i k1
                  split at h
                  · rename_i k2; rw [if_neg k1, if_pos k2]
                  · rename_i k2
                    rw [if_neg k1, if_neg k2]
                    split at h
                    · rfl
                    · split at h
                      · rfl
                      · split at h
                        · rename_i k3; rw [if_pos k3]
                        · rename_i k3
                          rw [if_neg k3]
                          split at h
                          · rfl
                          · split at h
                            · exact absurd rfl h
                            · rename_i k4
                              rw [if_neg k4]
                              split at h
                              · rename_i k5; rw [if_pos k5]
                              · rename_i k5
                                split at h
                                · rename_i k6; rw [if_neg k5, if_pos k6]
                                · exact absurd rfl h
          · rw [if_neg h5] at h ⊢
            unfold removeF at h ⊢
            split at h
            · rfl
            · split at h
              · rename_i k1; rw [if_pos k1]
              · rename_i k1
                rw [if_neg k1]
                split at h
                · rfl
                · split at h
                  · rename_i k2; rw [if_pos k2]
                  · exact absurd rfl h
end Go.Proofs.YthojofeocjmglaaGreatDoor.I
/- The disk's do: an operation counted, done, put into the log. The walk. -/
namespace Go.Proofs.YthojofeocjmglaaGreatDoor.I
open Go.RowKit Go.Proofs.YthojofeocjmglaaGreatDoor.B Go.Sort
set_option linter.unusedVariables false
set_option linter.unusedSimpArgs false
theorem info_chg : (Tryz.prog.info? 83).map (fun i => (i.zero, i.size, i.bytes)) = some (some (.agg #[.nilFunc, .string ⟨#[]⟩]), 2, 24) := by kernel_rfl
theorem info_chg' : ∃ ie z, Tryz.prog.info? 83 = some ie ∧ ie.zero = some z ∧ ie.size = 2 ∧ ie.bytes = 24 ∧ z.cells.size = 2 := by
  cases hie : Tryz.prog.info? 83 with
  | none => have := info_chg; rw [hie] at this; cases this
  | some ie =>
    have h := info_chg
    rw [hie] at h
    simp only [Option.map_some, Option.some.injEq, Prod.mk.injEq] at h
    exact ⟨ie, _, rfl, h.1, h.2.1, h.2.2, rfl⟩
theorem build_chg (a b : Value) (w : World) : (Instr.buildSlice 74 1 #[(0, .agg #[a, b])]).run Tryz.prog w = .ok (.slice (some ⟨w.heap.size, 0, none⟩) 1 1) (w.alloc (.cells #[a, b] 83)) := by
  obtain ⟨ie, z, h1, h2, h3, h4, h5⟩ := info_chg'
  refine Go.run_buildSlice w 74 83 1 _ _ ie _ Tryz.underlying74 h1 h2 (by rw [h3]; decide) (by rw [h3]; decide) ?_
  rw [h3]
  have := Great.fill_whole (s := 2) (by omega) [.agg #[a, b]] ((Array.range (1 * 2)).map (z.cells[· % z.cells.size]!)) (by simp [Value.cells]) (by simp)
  simpa [Value.cells] using this
attribute [local go_sem high] build_chg
/-- One entry more in the log. -/
theorem DiskAt.push {X Y w' : World} {K Q : List Nat} {base d b n : Nat} {D : DK} {tn ts : Nat} {lv : Value} {Ln Ls : List Nat} (h : DiskAt X K Q base d b n D tn ts lv Ln Ls) {o : OpV} {x : Value × Value} (hE : EntAt X Q o x) (hY : Chg [] X Y) {g' cap' : Nat} {E : List (Value × Value)}
    (hEl : E.length = D.log.length) (hEe : ∀ (i : Nat) (o : OpV) (x : Value × Value), D.log[i]? = some o → E[i]? = some x → EntAt X Q o x)
    (hown : w'.ownsRow base 83 2 (.slice (some ⟨g', 0, none⟩) (E.length + 1) cap') (E.length + 1) (flat2 E ++ [x.1, x.2])) (hgrow : Y.grownBy w' lv.ownBlock) (hat : lv.ownBlock = some g' ∨ g' = Y.heap.size) :
    DiskAt (w'.setCell ⟨d, 2, none⟩ (.slice (some ⟨g', 0, none⟩) (E.length + 1) cap')) (K ++ [g']) Q base d b n { D with log := D.log ++ [o] } tn ts (.slice (some ⟨g', 0, none⟩) (E.length + 1) cap') Ln Ls ∧ Chg K X (w'.setCell ⟨d, 2, none⟩ (.slice (some ⟨g', 0, none⟩) (E.length + 1) cap')) ∧ X.heap.size ≤ Y.heap.size := by
  have hJK : ∀ i ∈ lv.ownBlock.toList, i ∈ K := fun i hi => h.rK i (by simpa using hi)
  have hC1 : Chg lv.ownBlock.toList X w' := chg_rgrown (hY.mono (by simp)) hgrow (fun g hg _ => by rw [hg]; simp)
  have hdJ : d ∉ lv.ownBlock.toList := fun hd => h.rd (by simpa using hd)
  have hb1 := hC1.heap h.blk hdJ
  have hgd : g' ≠ d := fun e => by
    subst e
    exact own_ne hown hb1 (by decide) rfl
  have hgn : ∀ {L : List Nat}, (∀ i ∈ L, i ∈ K) → Off lv L → g' ∉ L := fun hL hO hi => by
    rcases hat with h1 | h1
    · exact hO g' h1 hi
    · have := h.kl _ (hL _ hi); have := hY.size; omega
  have hC2 := chg_cell w' d 2 (.slice (some ⟨g', 0, none⟩) (E.length + 1) cap')
  have hCC : Chg (d :: lv.ownBlock.toList) X (w'.setCell ⟨d, 2, none⟩ (.slice (some ⟨g', 0, none⟩) (E.length + 1) cap')) := (hC1.mono (fun i hi _ => List.mem_cons_of_mem _ hi)).trans (hC2.mono (fun i hi _ => by rw [List.mem_singleton] at hi; rw [hi]; exact List.mem_cons_self ..))
  have hCK : Chg K X (w'.setCell ⟨d, 2, none⟩ (.slice (some ⟨g', 0, none⟩) (E.length + 1) cap')) := hCC.mono (fun i hi _ => by
    rcases List.mem_cons.1 hi with rfl | hi
    · exact h.dK
    · exact hJK i hi)
  have off : ∀ {L : List Nat}, Off lv L → d ∉ L → ∀ i ∈ L, i ∉ d :: lv.ownBlock.toList := fun hO hd i hi hm => by
    rcases List.mem_cons.1 hm with rfl | hm
    · exact hd hi
    · exact hO i (by simpa using hm) hi
  have hQ : ∀ i ∈ Q, i ∉ K := fun i hi => (h.q i hi).2
  obtain ⟨A, M, k1⟩ := h.now
  obtain ⟨A2, M2, k2⟩ := h.safe
  have hsw : w'.heap.size = (w'.setCell ⟨d, 2, none⟩ (.slice (some ⟨g', 0, none⟩) (E.length + 1) cap')).heap.size := by show _ = (w'.heap.modify _ _).size; simp
  refine ⟨⟨?_, ⟨A, M, k1.keep hCC (off h.rn h.dn)⟩, ⟨A2, M2, k2.keep hCC (off h.rs h.ds)⟩, ⟨E ++ [x], ?_, ?_, ?_⟩, List.mem_append_left _ h.dK, fun i hi => List.mem_append_left _ (h.nK i hi), fun i hi => List.mem_append_left _ (h.sK i hi), fun g hg => ?_, h.dn, h.ds, h.apart, ?_, ?_, ?_, fun i hi => ⟨Nat.lt_of_lt_of_le (h.q i hi).1 hCK.size, fun hk => ?_⟩, fun i hi => ?_⟩, hCK, hY.size⟩
  · have := hp_set hb1 2 (.slice (some ⟨g', 0, none⟩) (E.length + 1) cap')
    simpa using this
  · simp [hEl]
  · rw [flat2_snoc, List.length_append, List.length_singleton]
    exact own_off hown hC2 (fun g hg => by
      have e : g' = g := by simpa [Value.ownBlock] using hg
      rw [← e, List.mem_singleton]
      exact hgd)
  · intro i o2 x2 ho hx
    rcases Nat.lt_or_ge i D.log.length with hlt | hge
    · rw [List.getElem?_append_left hlt] at ho
      rw [List.getElem?_append_left (by omega)] at hx
      exact (hEe i o2 x2 ho hx).keep hCK hQ
    · have hi : i = D.log.length := by
        have := (List.getElem?_eq_some_iff.1 ho).1
        rw [List.length_append, List.length_singleton] at this
        omega
      subst hi
      rw [List.getElem?_append_right (Nat.le_refl _), Nat.sub_self] at ho
      rw [← hEl, List.getElem?_append_right (Nat.le_refl _), Nat.sub_self] at hx
      have ho2 : o = o2 := by simpa using ho
      have hx2 : x = x2 := by simpa using hx
      rw [← ho2, ← hx2]
      exact hE.keep hCK hQ
  · have e : g' = g := by simpa [Value.ownBlock] using hg
    rw [← e]
    exact List.mem_append_right _ (List.mem_singleton_self _)
  · intro g hg
    have e : g' = g := by simpa [Value.ownBlock] using hg
    rw [← e]
    exact hgn h.nK h.rn
  · intro g hg
    have e : g' = g := by simpa [Value.ownBlock] using hg
    rw [← e]
    exact hgn h.sK h.rs
  · intro e
    have : g' = d := by simpa [Value.ownBlock] using e
    exact hgd this
  · rcases List.mem_append.1 hk with hk | hk
    · exact (h.q i hi).2 hk
    · rw [List.mem_singleton] at hk
      rw [hk] at hi
      rcases hat with h1 | h1
      · exact (h.q g' hi).2 (h.rK g' h1)
      · have := (h.q g' hi).1; have := hY.size; omega
  · rcases List.mem_append.1 hi with hi | hi
    · exact Nat.lt_of_lt_of_le (h.kl i hi) hCK.size
    · rw [List.mem_singleton] at hi
      rw [hi]
      obtain ⟨_, cur, hc⟩ := own_block hown rfl
      rw [← hsw]
      exact lt_of_heap hc
/-- What an operation on the disk's own file system leaves. -/
theorem DiskAt.op {X w' : World} {K Q : List Nat} {base d b n : Nat} {D : DK} {tn ts : Nat} {lv : Value} {Ln Ls : List Nat} (h : DiskAt X K Q base d b n D tn ts lv Ln Ls) {R : Nat × FS} {e : Ending} (hP : OpPost X Ln tn b n R e w') :
    ∃ K' Ln', DiskAt w' K' Q base d b n { D with now := R.2 } tn ts lv Ln' Ls ∧ Chg K X w' ∧ ∀ i ∈ K', i ∈ K ∨ X.heap.size ≤ i := by
  obtain ⟨_, hC, L', A', M', hT, hL⟩ := hP
  obtain ⟨A2, M2, k2⟩ := h.safe
  have hnew : ∀ i ∈ L', i ∈ K ∨ X.heap.size ≤ i := fun i hi => (hL i hi).imp (h.nK i) id
  have hno : ∀ {i : Nat}, i < X.heap.size → i ∉ Ln → i ∉ L' := fun hlt hn hi => by
    rcases hL _ hi with h1 | h1
    · exact hn h1
    · omega
  refine ⟨K ++ L', L', ⟨hC.heap h.blk h.dn, ⟨A', M', hT⟩, ⟨A2, M2, k2.keep hC (fun i hs hi => h.apart i hi hs)⟩, h.row.keep hC (fun i hi hm => (h.q i hi).2 (h.nK i hm)) h.rn, List.mem_append_left _ h.dK, fun i hi => List.mem_append_right _ hi, fun i hi => List.mem_append_left _ (h.sK i hi), fun g hg => List.mem_append_left _ (h.rK g hg), hno (h.kl d h.dK) h.dn, h.ds, fun i hi hs => ?_, fun g hg => hno (h.kl g (h.rK g hg)) (h.rn g hg), h.rs, h.rd, fun i hi => ⟨Nat.lt_of_lt_of_le (h.q i hi).1 hC.size, fun hk => ?_⟩, fun i hi => ?_⟩, hC.mono (fun i hi _ => h.nK i hi), fun i hi => ?_⟩
  · exact hno (h.kl i (h.sK i hs)) (fun hn => h.apart i hn hs) hi
  · rcases List.mem_append.1 hk with hk | hk
    · exact (h.q i hi).2 hk
    · rcases hnew i hk with h1 | h1
      · exact (h.q i hi).2 h1
      · have := (h.q i hi).1; omega
  · rcases List.mem_append.1 hi with hi | hi
    · exact Nat.lt_of_lt_of_le (h.kl i hi) hC.size
    · exact hT.bl i hi
  · rcases List.mem_append.1 hi with hi | hi
    · exact .inl hi
    · exact hnew i hi
def DoPost (W : World) (K Q : List Nat) (base d b n ts : Nat) (Ls : List Nat) (R : Nat × DK) (e : Ending) (w' : World) : Prop :=
  e = .returned (errV R.1) ∧ ∃ K' tn' lv' Ln', DiskAt w' K' Q base d b n R.2 tn' ts lv' Ln' Ls ∧ Chg K W w' ∧ (∀ i ∈ K', i ∈ K ∨ W.heap.size ≤ i)
set_option maxRecDepth 100000 in
set_option maxHeartbeats 16000000 in
theorem do_calls (K Q : List Nat) (base d b n : Nat) (D : DK) (tn ts : Nat) (lv : Value) (Ln Ls : List Nat) (o : OpV) (f : FuncId) (C : Array Value) (told : ByteArray) (W : World) (hD : DiskAt W K Q base d b n D tn ts lv Ln Ls) (hO : DOk b n D) (hE : EntAt W Q o ((Value.func (.func f) #[] C), .string told)) (hm : ∀ X, Chg K W X → MaxLenAt X) (hs : D.steps ≤ 1000000) (hll : D.log.length ≤ 1000000) (hbs : base ≤ W.heap.size) :
    Calls Tryz.prog 62 #[(.pointer (some ⟨d, 0, none⟩)), .agg #[(Value.func (.func f) #[] C), .string told]] W fun e w' => DoPost W K Q base d b n ts Ls (doD b n D o) e w' := by
  obtain ⟨R, hR⟩ : ∃ R, doD b n D o = R := ⟨_, rfl⟩
  rw [hR]
  unfold doD at hR
  obtain ⟨CR, hCR⟩ : ∃ CR, countD b n D = CR := ⟨_, rfl⟩
  have hEf := enters_K o.kind
  have hfk : fnK o.kind = f := by
    obtain ⟨⟨q, q2, hq, _⟩, _⟩ := hE
    simp only [Prod.mk.injEq, Value.func.injEq, Fn.func.injEq] at hq
    exact hq.1.1.symm
  rw [hfk] at hEf
  have HKL := Asd.mk hD.kl
  obtain ⟨F, hF⟩ : ∃ F, W.heap.size = F := ⟨_, rfl⟩
  have HFK := Asd.mk (show F ∉ K from fun h => by have := hD.kl F h; omega)
  obtain ⟨W1, hW1⟩ : ∃ W1, W.alloc (.cells #[(Value.func (.func f) #[] C), .string told] 83) = W1 := ⟨_, rfl⟩
  have HC1 := Asd.mk (show Chg [] W W1 by rw [← hW1]; exact (Chg.refl _ _).alloc _)
  have HF1 := Asd.mk (show W1.heap[F]? = some (.cells #[(Value.func (.func f) #[] C), .string told] 83 (0, 0)) by rw [← hW1, ← hF]; exact hp_new _ _)
  have HD1 := Asd.mk (hD.keep0 HC1.out)
  have HE1 := Asd.mk (hE.keep HC1.out (by simp))
  have HCt := Asd.mk (count_calls K Q base d b n D tn ts lv Ln Ls W1 HD1.out hO (fun X hX => hm X ((HC1.out.mono (by simp)).trans hX)) hs)
  rw [hCR] at HCt hR
  have HM := Asd.mk hm
  have HOk := Asd.mk (show DOk b n CR.2 by rw [← hCR]; exact countD_ok hO)
  have HLg := Asd.mk (show CR.2.log = D.log by rw [← hCR]; exact (countD_log b n D).1)
  have HRq := Asd.mk hR
  have HFq := Asd.mk hF
  clear hR hCR hD hO hE hm hfk hF
  (go_enter Tryz.func62, Tryz.ntmps62)
  go_upto_region 1 with fail
  rw [HFq.out]
  go_wp2_with fail
  refine HCt.out.mono ?_
  rintro e w2 ⟨he, K1, tn1, Ln1, hD2, hC2, hK1⟩
  have HD2 := Asd.mk hD2
  have HC2 := Asd.mk hC2
  have HK1 := Asd.mk hK1
  have HF2 := Asd.mk (hC2.heap HF1.out HFK.out)
  subst he
  clear hD2 hC2 hK1 HCt
  by_cases h0 : CR.1 = 0
  · have HRq2 := Asd.mk (show (if (opF CR.2.now b n o).1 ≠ 0 then ((opF CR.2.now b n o).1, CR.2) else (0, { CR.2 with now := (opF CR.2.now b n o).2, log := CR.2.log ++ [o] })) = R by
      have := HRq.out
      rw [if_neg (by simp [h0])] at this
      exact this)
    rw [h0]
    simp only [errV, if_true]
    have HE2 := Asd.mk (HE1.out.keep HC2.out (fun i hi => (HD1.out.q i hi).2))
    obtain ⟨A, M, hT2⟩ := HD2.out.now
    have HCl := Asd.mk (fun (X : World) (hX : Chg [] w2 X) => clos_calls Ln1 tn1 CR.2.now b n A M f C (.string told) HE2.out X (fun i hi => hX.block i (HD2.out.q i hi).1 (by simp)) (hT2.keep0 hX) HOk.out.now HOk.out.rnow (HM.out X (((HC1.out.mono (by simp)).trans HC2.out).trans (hX.mono (by simp)))))
    have c0 := cell_of_heap HD2.out.blk 0
    have e0 := cell_of_heap HF2.out 0
    clear hT2 h0 HRq
    go_upto_region 4 with fail
    go_still_tail 6, (by kernel_rfl)
    go_wp2_with fail
    refine (HCl.out w2.drew (Chg.refl _ _).drew).mono ?_
    rintro e w3 hP
    have he : e = .returned (errV (opF CR.2.now b n o).1) := hP.1
    subst he
    obtain ⟨P, hPq⟩ : ∃ P, opF CR.2.now b n o = P := ⟨_, rfl⟩
    have HPq := Asd.mk hPq
    rw [hPq] at hP HRq2 ⊢
    have HDd := Asd.mk (HD2.out.keep0 (Chg.refl [] w2).drew)
    obtain ⟨K3, Ln3, hD3, hC3, hK3⟩ := HDd.out.op hP
    have HFn := Asd.mk (show F ∉ K1 from fun h => by
      rcases HK1.out F h with h1 | h1
      · exact HFK.out h1
      · have := lt_of_heap HF1.out; omega)
    have HF3 := Asd.mk (hC3.heap (hp_drew HF2.out) HFn.out)
    have HE3 := Asd.mk ((HE2.out.keep (Chg.refl [] w2).drew (by simp)).keep hC3 (fun i hi => (HD2.out.q i hi).2))
    have HD3 := Asd.mk hD3
    have HC3 := Asd.mk hC3
    have HK3 := Asd.mk hK3
    have HKK := Asd.mk (show ∀ i ∈ K3, i ∈ K ∨ W.heap.size ≤ i from fun i hi => by
      rcases hK3 i hi with h | h
      · rcases HK1.out i h with h | h
        · exact .inl h
        · exact .inr (Nat.le_trans HC1.out.size h)
      · exact .inr (Nat.le_trans HC1.out.size (Nat.le_trans HC2.out.size h)))
    have HCW := Asd.mk (show Chg K W w3 from (((HC1.out.mono (by simp)).trans HC2.out).trans (((Chg.refl K w2).drew))).step hC3 (fun i hi hl => by
      rcases HK1.out i hi with h | h
      · exact h
      · have := HC1.out.size; omega))
    clear hP hD3 hC3 hK3 HCl c0 e0 hPq
    by_cases p0 : P.1 = 0
    · have HRf := Asd.mk (show (0, { CR.2 with now := P.2, log := CR.2.log ++ [o] }) = R by
        have := HRq2.out
        rw [if_neg (by simp [p0])] at this
        exact this)
      rw [p0]
      simp only [errV, if_true]
      clear p0 HRq2
      obtain ⟨E, hEl, hown, hEe⟩ := HD3.out.row
      have HEl := Asd.mk hEl
      have HEe := Asd.mk hEe
      obtain ⟨ie, z, h1, h2, h3, h4, h5⟩ := info_chg'
      have c2 := cell_of_heap HD3.out.blk 2
      have e0 := cell_of_heap HF3.out 0
      have e1 := cell_of_heap HF3.out 1
      have HOw := Asd.mk ((own_keep hown (Chg.refl [] w3).drew (by simp)).alloc (.cells #[(Value.func (.func f) #[] C), .string told] 83))
      have HNw := Asd.mk (World.news_of_block (hp_new w3.drew (.cells #[(Value.func (.func f) #[] C), .string told] 83)))
      have HOne := Asd.mk (show ∀ u ∈ [(Value.func (.func f) #[] C), Value.string told], u.oneCell' = true from fun u hu => by
        rcases List.mem_cons.1 hu with rfl | hu
        · rfl
        · rw [List.mem_singleton] at hu
          rw [hu]
          rfl)
      have HY := Asd.mk (hp_drew (hp_alloc HD3.out.blk (.cells #[(Value.func (.func f) #[] C), .string told] 83)))
      have c2a := cell_of_heap HY.out 2
      have c2b := cell_of_heap (hp_alloc HD3.out.blk (.cells #[(Value.func (.func f) #[] C), .string told] 83)) 2
      have HLL := Asd.mk (show E.length ≤ 1000000 by rw [hEl]; show CR.2.log.length ≤ _; rw [HLg.out]; exact hll)
      have HBs := Asd.mk (show base ≤ (w3.drew.alloc (.cells #[(Value.func (.func f) #[] C), .string told] 83)).heap.size from Nat.le_trans hbs (Nat.le_trans HCW.out.size ((Chg.refl [] w3).drew.alloc _).size))
      clear hEl hEe hown hll hbs
      go_upto_region 7 with fail
      go_region_law (refine step_append_lies _ rfl (.tmp 26) (.tmp 28) 74 rfl base 83 ie z 2 24 Tryz.underlying74 h1 h2 h3 h4 h5 (by decide) lv E.length (flat2 E) rfl HOw.out ⟨w3.heap.size, 0, none⟩ 1 1 [(Value.func (.func f) #[] C), .string told] rfl rfl HNw.out HOne.out (by decide) (by have := HLL.out; unfold maxLen; omega) (by have := HLL.out; omega) HBs.out _ rfl ?_; intro g' cap' w4 hown hgrow hat hlt; have hd4 := (hgrow.block d (lt_of_heap HY.out) (fun e => HD3.out.rd e.symm)).trans HY.out; have c2 := cell_of_heap hd4 2; have fz2 := frozen_of_heap hd4 2; have HOw4 := Asd.mk hown; have HGr := Asd.mk hgrow; have HAt := Asd.mk hat; clear hown hgrow hat hlt hd4)
      all_goals
        go_wp2
        go_ret
        exact by
          show DoPost _ _ _ _ _ _ _ _ _ _ _ _
          rw [← HRf.out]
          obtain ⟨k1, k2, k3⟩ := HD3.out.push HE3.out (Y := (w3.alloc (.cells #[(Value.func (.func f) #[] C), .string told] 83)).drew) ((Chg.refl [] w3).alloc _).drew HEl.out HEe.out HOw4.out HGr.out HAt.out
          refine ⟨rfl, K3 ++ [g'], tn1, _, Ln3, k1, HCW.out.step k2 (fun i hi hl => ?_), fun i hi => ?_⟩
          · rcases HKK.out i hi with h | h
            · exact h
            · omega
          · rcases List.mem_append.1 hi with hi | hi
            · exact HKK.out i hi
            · rw [List.mem_singleton] at hi
              rw [hi]
              rcases HAt.out with h | h
              · exact HKK.out g' (HD3.out.rK g' h)
              · right
                have := HCW.out.size
                have e : ((w3.alloc (.cells #[(Value.func (.func f) #[] C), .string told] 83)).drew).heap.size = w3.heap.size + 1 := World.size_alloc _ _
                omega
    · have HRf := Asd.mk (show (P.1, CR.2) = R by
        have := HRq2.out
        rw [if_pos p0] at this
        exact this)
      have HPn := Asd.mk (show P.2 = CR.2.now by
        have := opF_err (fs := CR.2.now) (by' := b) (nd := n) (o := o) (by rw [HPq.out]; exact p0)
        rw [HPq.out] at this
        exact this)
      have HN := Asd.mk (show errV P.1 = .iface 88 (.int .i64 (P.1 : Int)) by unfold errV; rw [if_neg p0])
      rw [HN.out]
      go_wp2_with fail
      go_ret
      exact by
        show DoPost _ _ _ _ _ _ _ _ _ _ _ _
        rw [← HRf.out]
        refine ⟨by rw [HN.out]; rfl, K3, tn1, lv, Ln3, ?_, HCW.out, HKK.out⟩
        have := HD3.out
        rw [HPn.out] at this
        exact this
  · have HRq2 := Asd.mk (show CR = R by
      have := HRq.out
      rw [if_pos h0] at this
      exact this)
    have HN := Asd.mk (show errV CR.1 = .iface 88 (.int .i64 (CR.1 : Int)) by unfold errV; rw [if_neg h0])
    rw [HN.out]
    go_wp2_with fail
    go_ret
    exact by
      show DoPost _ _ _ _ _ _ _ _ _ _ _ _
      rw [← HRq2.out]
      refine ⟨by rw [HN.out]; rfl, K1, tn1, lv, Ln1, HD2.out, (HC1.out.mono (by simp)).trans HC2.out, fun i hi => ?_⟩
      rcases HK1.out i hi with h | h
      · exact .inl h
      · exact .inr (Nat.le_trans HC1.out.size h)
end Go.Proofs.YthojofeocjmglaaGreatDoor.I
