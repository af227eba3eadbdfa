/- A set behind its bracket: the walk at one beginning. Printed by set.py. -/
import Derived.Test.YtgkifphfibcfdaaGreatDoorRu5
namespace Go.Proofs.YtgkifphfibcfdaaGreatDoor.G
open Go.RowKit Go.Proofs.YtgkifphfibcfdaaGreatDoor.B
set_option linter.unusedVariables false
set_option maxRecDepth 100000 in
set_option maxHeartbeats 8000000 in
theorem set_a (b : Nat) (s : ByteArray) (i0 : Nat) (w : World) (hb : RdAt w b s i0) (hi0 : i0 ≤ s.size) (hs : s.size ≤ 1048576) (hn : startsAt s i0 ⟨#[33]⟩ = true) (R : Option (Nat × (Nat → Bool))) (hR : setLoop s (s.size + 2) (i0 + 1) (fun _ => false) true = R) :
    Calls Tryz.prog 27 #[.pointer (some ⟨b, 0, none⟩)] w fun e w' => SetPost b s true w R e w' := by
  have HB := Asd.mk hb
  have HN := Asd.mk hn
  have H0 := Asd.mk hR
  have hin := startsAt_in hn
  have hbs := lt_of_heap hb
  clear hb hn hR
  go_enter Tryz.func27, Tryz.ntmps27
  go_wp2_with fail
  refine (starts_calls b s i0 _ _ (hp_alloc (hp_alloc HB.out _) _) hi0 hs (by decide)).mono ?_
  rw [HN.out]
  rintro e w' ⟨rfl, n, rfl⟩
  have r1 := HB.out.c1
  have rf := HB.out.f1
  go_wp2
  go_loopg [6] (s.size + 2) (fun gk v wr => ∃ (i : Nat) (T : Nat → Bool) (first : Bool), v = .bool first ∧ Asd (setLoop s gk i T first = R) ∧ Asd (i ≤ s.size) ∧ Asd (s.size + 2 ≤ gk + i) ∧ Asd (Chg [b] w wr) ∧ Asd (RdAt wr b s i) ∧ Asd (PartAt wr (w.heap.size + 1) false T) ∧ Asd (PartAt wr w.heap.size false (fun _ => false)))
  case atStart =>
    have z1 : PartAt (w.alloc (.cells Tryz.zeroCells66 66)) w.heap.size false (fun _ => false) := by unfold PartAt; rw [← zero66]; exact hp_new _ _
    have z2 : PartAt ((w.alloc (.cells Tryz.zeroCells66 66)).alloc (.cells Tryz.zeroCells66 66)) (w.heap.size + 1) false (fun _ => false) := by
      have h := hp_new (w.alloc (.cells Tryz.zeroCells66 66)) (.cells Tryz.zeroCells66 66)
      rw [World.size_alloc] at h
      unfold PartAt; rw [← zero66]; exact h
    refine ⟨(i0 + 1), fun _ => false, true, rfl, H0, ⟨by omega⟩, ⟨by omega⟩, ⟨?_⟩, ⟨?_⟩, ⟨?_⟩, ⟨?_⟩⟩
    · exact (((((Chg.refl _ _).alloc _).alloc _).drewN _).setCell (by simp) _)
    · exact hp_set (hp_drewN (hp_alloc (hp_alloc HB.out _) _) _) _ _
    · exact hp_set_other (hp_drewN z2 _) (by omega) _ _
    · exact hp_set_other (hp_drewN (hp_alloc z1 _) _) (by omega) _ _
  case round =>
    obtain ⟨i, T, first, rfl, HL, HI, HF, HC, HR, HP, HP2⟩ := hrel
    cases gk with
    | zero => exact absurd HF.out (by have := HI.out; omega)
    | succ k =>
      cases first with
      | true =>
        have r0 := HR.out.c0
        have r1 := HR.out.c1
        by_cases hge : s.size ≤ i
        · have g1 : decide ((s.size : Int) ≤ (i : Int)) = true := decide_eq_true (by omega)
          go_wp2
          go_quiet (fail)
          go_wp2_with (first | (refine wpList_load_row (o := ⟨some 43, _, _, _, _, _⟩) rfl 66 (.tmp 4) rfl (w.heap.size + 1) rfl 66 _ (0, 0) _ (hp_drewN HP.out _) Tryz.underlying66 rfl (size66 _ _) ?_) | (refine wpList_store_row (o := ⟨none, _, _, _, _, _⟩) rfl 66 (.tmp 2) (.tmp 43) rfl w.heap.size _ rfl rfl 66 _ (hp_drewN HP2.out _) (size66 _ _) (by rw [cellsOf_size, cellsOf_size]) (cellsOf_one _ _) ?_))
          refine bodyPost_ret (results_row_tmp rfl _ _ w.heap.size 66 _ (0, 0) _ rfl (setRow_heap _ _ _ _ _ _ (hp_drewN HP2.out _)) Tryz.underlying66 rfl (size66 _ _)) rfl ?_
          rw [setLoop_over HL.out rfl hge]
          exact ⟨_, rfl, (HC.out.drewN _).setRow (by omega) _⟩
        · have g1 : decide ((s.size : Int) ≤ (i : Int)) = false := decide_eq_false (by omega)
          go_wp2
          go_still_tail 12, (by kernel_rfl)
          go_wp2_with fail
          refine (item_calls b (w.heap.size + 1) s i false T _ (hp_drew HR.out) (hp_drew HP.out) (by omega) HI.out hs).mono ?_
          intro e w4 h4
          cases hit : itemF s i T with
          | none =>
            rw [hit] at h4
            obtain ⟨rfl, hC4, U, hU⟩ := h4
            have HC4 := Asd.mk hC4
            have HU := Asd.mk hU
            have HV := Asd.mk (show PartAt w4 w.heap.size false (fun _ => false) from hC4.heap (hp_drew HP2.out) (by simp; omega))
            have HIT := Asd.mk hit
            clear hC4 hU hit
            go_wp2_with (first | (refine wpList_load_row (o := ⟨some 43, _, _, _, _, _⟩) rfl 66 (.tmp 4) rfl (w.heap.size + 1) rfl 66 _ (0, 0) _ (HU.out) Tryz.underlying66 rfl (size66 _ _) ?_) | (refine wpList_store_row (o := ⟨none, _, _, _, _, _⟩) rfl 66 (.tmp 2) (.tmp 43) rfl w.heap.size _ rfl rfl 66 _ (HV.out) (size66 _ _) (by rw [cellsOf_size, cellsOf_size]) (cellsOf_one _ _) ?_))
            refine bodyPost_ret (results_row_tmp rfl _ _ w.heap.size 66 _ (0, 0) _ rfl (setRow_heap _ _ _ _ _ _ (HV.out)) Tryz.underlying66 rfl (size66 _ _)) rfl ?_
            rw [setLoop_bad HL.out rfl hge HIT.out]
            exact ⟨_, rfl, ((HC.out.drew).step HC4.out (by simp; omega)).setRow (by omega) _⟩
          | some r =>
            obtain ⟨j, U⟩ := r
            rw [hit] at h4
            obtain ⟨rfl, hC4, hR4, hU⟩ := h4
            have hnx := itemF_next HI.out hit
            have HC4 := Asd.mk hC4
            have HU := Asd.mk hU
            have HR4 := Asd.mk hR4
            have HV := Asd.mk (show PartAt w4 w.heap.size false (fun _ => false) from hC4.heap (hp_drew HP2.out) (by simp; omega))
            have HIT := Asd.mk hit
            clear hC4 hU hR4 hit
            go_wp2
            go_roundg k
            case rel => exact ⟨j, U, false, rfl, ⟨setLoop_go HL.out rfl hge HIT.out⟩, ⟨hnx.2⟩, ⟨by have := HF.out; omega⟩, ⟨(HC.out.drew).step HC4.out (by simp; omega)⟩, HR4, HU, HV⟩
            case measure => omega
      | false =>
        cases h9 : startsAt s i ⟨#[93]⟩ with
        | false =>
          have H9 := Asd.mk h9
          clear h9
          go_wp2_with fail
          refine (starts_calls b s i _ _ HR.out HI.out hs (by decide)).mono ?_
          rw [H9.out]
          rintro e w5 ⟨rfl, n, hw5⟩
          replace HR := Asd.mk (show RdAt w5 b s i by rw [hw5]; exact hp_drewN HR.out n)
          replace HP := Asd.mk (show PartAt w5 (w.heap.size + 1) false T by rw [hw5]; exact hp_drewN HP.out n)
          replace HP2 := Asd.mk (show PartAt w5 w.heap.size false (fun _ => false) by rw [hw5]; exact hp_drewN HP2.out n)
          replace HC := Asd.mk (show Chg [b] w w5 by rw [hw5]; exact HC.out.drewN n)
          clear hw5
          have r0 := HR.out.c0
          have r1 := HR.out.c1
          by_cases hge : s.size ≤ i
          · have g1 : decide ((s.size : Int) ≤ (i : Int)) = true := decide_eq_true (by omega)
            go_wp2
            go_quiet (fail)
            go_wp2_with (first | (refine wpList_load_row (o := ⟨some 43, _, _, _, _, _⟩) rfl 66 (.tmp 4) rfl (w.heap.size + 1) rfl 66 _ (0, 0) _ (hp_drewN HP.out _) Tryz.underlying66 rfl (size66 _ _) ?_) | (refine wpList_store_row (o := ⟨none, _, _, _, _, _⟩) rfl 66 (.tmp 2) (.tmp 43) rfl w.heap.size _ rfl rfl 66 _ (hp_drewN HP2.out _) (size66 _ _) (by rw [cellsOf_size, cellsOf_size]) (cellsOf_one _ _) ?_))
            refine bodyPost_ret (results_row_tmp rfl _ _ w.heap.size 66 _ (0, 0) _ rfl (setRow_heap _ _ _ _ _ _ (hp_drewN HP2.out _)) Tryz.underlying66 rfl (size66 _ _)) rfl ?_
            rw [setLoop_over HL.out (by rw [H9.out]; rfl) hge]
            exact ⟨_, rfl, (HC.out.drewN _).setRow (by omega) _⟩
          · have g1 : decide ((s.size : Int) ≤ (i : Int)) = false := decide_eq_false (by omega)
            go_wp2
            go_still_tail 12, (by kernel_rfl)
            go_wp2_with fail
            refine (item_calls b (w.heap.size + 1) s i false T _ (hp_drew HR.out) (hp_drew HP.out) (by omega) HI.out hs).mono ?_
            intro e w4 h4
            cases hit : itemF s i T with
            | none =>
              rw [hit] at h4
              obtain ⟨rfl, hC4, U, hU⟩ := h4
              have HC4 := Asd.mk hC4
              have HU := Asd.mk hU
              have HV := Asd.mk (show PartAt w4 w.heap.size false (fun _ => false) from hC4.heap (hp_drew HP2.out) (by simp; omega))
              have HIT := Asd.mk hit
              clear hC4 hU hit
              go_wp2_with (first | (refine wpList_load_row (o := ⟨some 43, _, _, _, _, _⟩) rfl 66 (.tmp 4) rfl (w.heap.size + 1) rfl 66 _ (0, 0) _ (HU.out) Tryz.underlying66 rfl (size66 _ _) ?_) | (refine wpList_store_row (o := ⟨none, _, _, _, _, _⟩) rfl 66 (.tmp 2) (.tmp 43) rfl w.heap.size _ rfl rfl 66 _ (HV.out) (size66 _ _) (by rw [cellsOf_size, cellsOf_size]) (cellsOf_one _ _) ?_))
              refine bodyPost_ret (results_row_tmp rfl _ _ w.heap.size 66 _ (0, 0) _ rfl (setRow_heap _ _ _ _ _ _ (HV.out)) Tryz.underlying66 rfl (size66 _ _)) rfl ?_
              rw [setLoop_bad HL.out (by rw [H9.out]; rfl) hge HIT.out]
              exact ⟨_, rfl, ((HC.out.drew).step HC4.out (by simp; omega)).setRow (by omega) _⟩
            | some r =>
              obtain ⟨j, U⟩ := r
              rw [hit] at h4
              obtain ⟨rfl, hC4, hR4, hU⟩ := h4
              have hnx := itemF_next HI.out hit
              have HC4 := Asd.mk hC4
              have HU := Asd.mk hU
              have HR4 := Asd.mk hR4
              have HV := Asd.mk (show PartAt w4 w.heap.size false (fun _ => false) from hC4.heap (hp_drew HP2.out) (by simp; omega))
              have HIT := Asd.mk hit
              clear hC4 hU hR4 hit
              go_wp2
              go_roundg k
              case rel => exact ⟨j, U, false, rfl, ⟨setLoop_go HL.out (by rw [H9.out]; rfl) hge HIT.out⟩, ⟨hnx.2⟩, ⟨by have := HF.out; omega⟩, ⟨(HC.out.drew).step HC4.out (by simp; omega)⟩, HR4, HU, HV⟩
              case measure => omega
        | true =>
          have H9 := Asd.mk h9
          have hin9 := startsAt_in h9
          clear h9
          go_wp2_with fail
          refine (starts_calls b s i _ _ HR.out HI.out hs (by decide)).mono ?_
          rw [H9.out]
          rintro e w5 ⟨rfl, n, hw5⟩
          replace HR := Asd.mk (show RdAt w5 b s i by rw [hw5]; exact hp_drewN HR.out n)
          replace HP := Asd.mk (show PartAt w5 (w.heap.size + 1) false T by rw [hw5]; exact hp_drewN HP.out n)
          replace HP2 := Asd.mk (show PartAt w5 w.heap.size false (fun _ => false) by rw [hw5]; exact hp_drewN HP2.out n)
          replace HC := Asd.mk (show Chg [b] w w5 by rw [hw5]; exact HC.out.drewN n)
          clear hw5
          have r1 := HR.out.c1
          have rf := HR.out.f1
          have HR6 := Asd.mk (show RdAt (w5.setCell ⟨b, 1, none⟩ (.int .i64 ((i : Int) + 1))) b s (i + 1) from hp_set HR.out _ _)
          have HP6 := Asd.mk (show PartAt (w5.setCell ⟨b, 1, none⟩ (.int .i64 ((i : Int) + 1))) (w.heap.size + 1) false T from hp_set_other HP.out (by omega) _ _)
          have HV6 := Asd.mk (show PartAt (w5.setCell ⟨b, 1, none⟩ (.int .i64 ((i : Int) + 1))) w.heap.size false (fun _ => false) from hp_set_other HP2.out (by omega) _ _)
          have HC6 := Asd.mk (show Chg [b] w (w5.setCell ⟨b, 1, none⟩ (.int .i64 ((i : Int) + 1))) from HC.out.setCell (by simp) _)
          go_wp2
          go_loopw [52] (fun v wx => ∃ x : Nat, x ≤ 256 ∧ v = .int .i64 x ∧ Asd (Chg [b] w wx) ∧ Asd (RdAt wx b s (i + 1)) ∧ Asd (PartAt wx (w.heap.size + 1) false (fun t => if t < x then !T t else T t)) ∧ Asd (PartAt wx w.heap.size false (fun _ => false))) (fun v _ => 256 - (intOf v).toNat)
          case atStart => exact ⟨0, by omega, rfl, HC6, HR6, ⟨HP6.out.congr (fun t _ => by simp)⟩, HV6⟩
          case round =>
            obtain ⟨x, hx, rfl, HC7, HR7, HP7, HV7⟩ := hrel
            by_cases hx2 : x < 256
            · have p0 := HP7.out.cell x hx2
              have pf := HP7.out.frozen (1 + x)
              rw [if_neg (by omega)] at p0
              have b1 : (x : Int) < 256 := by omega
              have b0 : 0 ≤ (x : Int) := by omega
              go_wp2
              exact ⟨⟨x + 1, by omega, by go_num, ⟨HC7.out.setCell (by simp; omega) _⟩, ⟨hp_set_other HR7.out (by omega) _ _⟩, ⟨(HP7.out.set x (!T x)).congr (fun t _ => by
                simp only [upd]
                by_cases ht : t = x
                · subst ht; rw [if_pos rfl, if_pos (by omega)]
                · rw [if_neg ht]
                  by_cases h2 : t < x
                  · rw [if_pos h2, if_pos (by omega)]
                  · rw [if_neg h2, if_neg (by omega)])⟩, ⟨hp_set_other HV7.out (by omega) _ _⟩⟩, by simp [intOf]; omega⟩
            · obtain rfl : x = 256 := by omega
              have HP8 := Asd.mk (show PartAt wr (w.heap.size + 1) false (flipB true T) from HP7.out.congr (fun t ht => by rw [if_pos ht]; simp [flipB]))
              go_wp2_with (first | (refine wpList_load_row (o := ⟨some 64, _, _, _, _, _⟩) rfl 66 (.tmp 4) rfl (w.heap.size + 1) rfl 66 _ (0, 0) _ (HP8.out) Tryz.underlying66 rfl (size66 _ _) ?_) | (refine wpList_store_row (o := ⟨none, _, _, _, _, _⟩) rfl 66 (.tmp 2) (.tmp 64) rfl w.heap.size _ rfl rfl 66 _ (HV7.out) (size66 _ _) (by rw [cellsOf_size, cellsOf_size]) (cellsOf_one _ _) ?_))
              refine bodyPost_ret (results_row_tmp rfl _ _ w.heap.size 66 _ (0, 0) _ rfl (setRow_heap _ _ _ _ _ _ (HV7.out)) Tryz.underlying66 rfl (size66 _ _)) rfl ?_
              rw [setLoop_end HL.out (by rw [H9.out]; rfl)]
              exact ⟨rfl, (HC7.out).setRow (by omega) _, (hp_setRow_other (by omega)).trans HR7.out⟩
end Go.Proofs.YtgkifphfibcfdaaGreatDoor.G
