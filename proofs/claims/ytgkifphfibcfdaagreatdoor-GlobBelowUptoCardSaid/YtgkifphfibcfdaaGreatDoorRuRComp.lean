/- The reference's Compile: the walk. Printed by rcomp.py. -/
import Derived.Test.YtgkifphfibcfdaaGreatDoorRu6
import Derived.Test.YtgkifphfibcfdaaGreatDoorRuRSet
import Derived.Test.YtgkifphfibcfdaaGreatDoorRu7
namespace Go.Proofs.YtgkifphfibcfdaaGreatDoor.G
open Go.RowKit Go.Proofs.YtgkifphfibcfdaaGreatDoor.B
set_option linter.unusedVariables false
set_option maxHeartbeats 1000000 in
/-- A pattern that is too long. -/
theorem rcompile_long (s : ByteArray) (w : World) (hs : 1024 < s.size) (h9 : s.size ≤ 9223372036854775807) :
    Calls Tryz.prog 13 #[.string s] w fun e w' => e = .returned (.tuple #[.slice none 0 0, .int .i64 2]) ∧ w' = w := by
  go_enter Tryz.func13, Tryz.ntmps13
  go_wp2
  go_ret2
  exact ⟨rfl, rfl⟩
theorem rparts_end {w wr : World} {L : List PartV} {v : Value} (h : ROwn w wr L v) (hL : L.length ≤ 1048576) : RCompPost2 w (some L) (.returned (.tuple #[v, .int .i64 0])) wr := by
  obtain ⟨A, c, rfl, hP⟩ := rparts_of_own h.own
  exact ⟨h.chg, A, c, rfl, h.own, hL⟩
set_option maxRecDepth 100000 in
set_option maxHeartbeats 16000000 in
theorem rcompile_calls (s : ByteArray) (w : World) (hs : s.size ≤ 1024) (k : Nat) (R : Option (List PartV)) (h : crun s k 0 [] = some R) :
    Calls Tryz.prog 13 #[.string s] w fun e w' => RCompPost2 w R e w' := by
  have H := Asd.mk h
  clear h
  go_enter Tryz.func13, Tryz.ntmps13
  go_wp2
  go_loopg [4, 5] k (fun gk v4 v5 wr => ∃ (i : Nat) (L : List PartV), v5 = .int .i64 (i : Int) ∧ Asd (crun s gk i L = some R) ∧ i ≤ s.size ∧ L.length ≤ i ∧ Asd (ROwn w wr L v4))
  case atStart => exact ⟨0, [], rfl, H, by omega, by simp, ⟨⟨Chg.refl _ _, World.ownsRow_nil _ _ _ _⟩⟩⟩
  case round =>
    obtain ⟨i, L, rfl, HR, hi, hL, HO⟩ := hrel
    cases gk with
    | zero => exact absurd HR.out (by simp [crun])
    | succ k =>
      have hwz := HO.out.chg.size
      have hob : u4.ownBlock ≠ some wr.heap.size := fun e => by have := (HO.out.out e).2; omega
      by_cases hlt : i < s.size
      · have hbn : bn s i = s[i].toNat := by unfold bn; rw [dif_pos hlt]
        by_cases h42 : bn s i = 42
        · have t1 : (((s[i].toNat : Nat) : Int) == 42) = true := by rw [← hbn, h42]; rfl
          have hrun : crun s k (i + 1) (L ++ [((true, noneT) : PartV)]) = some R := by
            have := HR.out
            simp only [crun] at this
            rw [if_pos hlt, if_pos h42] at this
            exact this
          have HRun := Asd.mk hrun
          have HC := Asd.mk (show Tryz.zeroCells72.setIfInBounds 0 (.bool true) = cellsOf true noneT by rw [zero72, cellsOf_set0]; rfl)
          clear hrun hbn h42 HR
          go_wp2_with (first | (refine wpList_build27 rfl (Tryz.zeroCells72.setIfInBounds 0 (.bool true)) _ _ HC.out (wr.heap.size) (by simp) (.tmp 34) rfl rfl ?_; simp only [Act.put, List.setIfInBounds_toArray, List.set_cons_zero, List.set_cons_succ]) | (at_builtin; refine wpList_append72 rfl (Tryz.zeroCells72.setIfInBounds 0 (.bool true)) _ _ HC.out (.tmp 33) (.tmp 35) rfl w.heap.size u4 L rfl ((HO.out.alloc _).own) (wr.heap.size) rfl (hp_new _ _) (by omega) (by simp; omega) ?_; intro v2 w9 hown9 hgrow9; replace hown9 := Asd.mk hown9; replace hgrow9 := Asd.mk hgrow9; simp only [Act.put, List.setIfInBounds_toArray, List.set_cons_zero, List.set_cons_succ]))
          go_roundg k
          case rel => exact ⟨i + 1, L ++ [((true, noneT) : PartV)], rfl, HRun, hlt, by rw [List.length_append]; simp; omega, ⟨(HO.out.alloc _).grow hgrow9.out hown9.out⟩⟩
          case measure => omega
        · have t1 : (((s[i].toNat : Nat) : Int) == 42) = false := by rw [← hbn]; simp; omega
          by_cases h63 : bn s i = 63
          · have t2 : (((s[i].toNat : Nat) : Int) == 63) = true := by rw [← hbn, h63]; rfl
            have hrun : crun s k (i + 1) (L ++ [((false, fun _ => true) : PartV)]) = some R := by
              have := HR.out
              simp only [crun] at this
              rw [if_pos hlt, if_neg h42, if_pos h63] at this
              exact this
            have HRun := Asd.mk hrun
            clear hrun hbn h42 h63 HR
            have hst := store72z wr wr.heap.size rfl
            go_wp2
            clear hst
            obtain ⟨BP, hBP⟩ : ∃ B, B = wr.heap.size := ⟨_, rfl⟩
            have HO1 := Asd.mk (show ROwn w (wr.alloc (.cells Tryz.zeroCells72 72)) L u4 from HO.out.alloc _)
            have HP1 := Asd.mk (show RPartAt (wr.alloc (.cells Tryz.zeroCells72 72)) BP false (fun t => decide (t < 0)) by
              have h := hp_new wr (.cells Tryz.zeroCells72 72)
              rw [zero72, ← hBP] at h
              rw [zero72]
              exact RPartAt.congr h (fun t _ => by simp))
            rw [← hBP] at hwz hob ⊢
            clear hBP
            go_loopw [7] (fun v7 wx => ∃ x : Nat, x ≤ 256 ∧ v7 = .int .i64 (x : Int) ∧ Asd (ROwn w wx L u4) ∧ Asd (RPartAt wx BP false (fun t => decide (t < x)))) (fun v7 _ => 256 - (intOf v7).toNat)
            case atStart => exact ⟨0, by omega, rfl, HO1, HP1⟩
            case round =>
              obtain ⟨x, hx, rfl, HO2, HP2⟩ := hrel
              have hwx : BP < wr.heap.size := lt_of_heap HP2.out
              by_cases hx2 : x < 256
              · have p0 := HP2.out.cell x hx2
                have pf := HP2.out.frozen (1 + x)
                have b1 : (x : Int) < 256 := by omega
                have b0 : 0 ≤ (x : Int) := by omega
                go_wp2
                exact ⟨⟨x + 1, by omega, by go_num, ⟨HO2.out.setCell hwz hob _ _⟩, ⟨(HP2.out.set x true).congr (fun t _ => by
                  simp only [upd]
                  by_cases ht : t = x
                  · subst ht; rw [if_pos rfl]; simp
                  · rw [if_neg ht]
                    exact decide_eq_decide.2 (by omega))⟩⟩, by simp [intOf]; omega⟩
              · obtain rfl : x = 256 := by omega
                obtain ⟨C, hC⟩ : ∃ C, C = cellsOf false (fun _ => true) := ⟨_, rfl⟩
                have HP3 := Asd.mk (show wr.heap[BP]? = some (.cells C 72 (0, 0)) by rw [hC]; exact HP2.out.congr (fun t ht => by simpa using ht))
                have HC := Asd.mk hC
                clear hC HP2
                go_wp2_with (first | (refine wpList_load_row (o := ⟨some 50, _, _, _, _, _⟩) rfl 72 (.tmp 6) rfl BP rfl 72 _ (0, 0) _ (HP3.out) Tryz.underlying72 rfl (by rw [HC.out]; exact size72 _ _) ?_) | (refine wpList_build27 rfl C _ _ HC.out (wr.heap.size) (by simp) (.tmp 50) rfl rfl ?_; simp only [Act.put, List.setIfInBounds_toArray, List.set_cons_zero, List.set_cons_succ]) | (at_builtin; refine wpList_append72 rfl C _ _ HC.out (.tmp 49) (.tmp 51) rfl w.heap.size u4 L rfl ((HO2.out.alloc _).own) (wr.heap.size) rfl (hp_new _ _) (by omega) (by simp; omega) ?_; intro v2 w9 hown9 hgrow9; replace hown9 := Asd.mk hown9; replace hgrow9 := Asd.mk hgrow9; simp only [Act.put, List.setIfInBounds_toArray, List.set_cons_zero, List.set_cons_succ]))
                go_roundg k
                case rel => exact ⟨i + 1, L ++ [((false, fun _ => true) : PartV)], rfl, HRun, hlt, by rw [List.length_append]; simp; omega, ⟨(HO2.out.alloc _).grow hgrow9.out hown9.out⟩⟩
                case measure => omega
          · have t2 : (((s[i].toNat : Nat) : Int) == 63) = false := by rw [← hbn]; simp; omega
            by_cases h92 : bn s i = 92
            · have t3 : (((s[i].toNat : Nat) : Int) == 92) = true := by rw [← hbn, h92]; rfl
              by_cases hin : i + 1 < s.size
              · have hb1 : bn s (i + 1) = s[i + 1].toNat := by unfold bn; rw [dif_pos hin]
                have hrun : crun s k (i + 1 + 1) (L ++ [((false, upd noneT (bn s (i + 1)) true) : PartV)]) = some R := by
                  have := HR.out
                  simp only [crun] at this
                  rw [if_pos hlt, if_neg h42, if_neg h63, if_neg (by omega), bytePlace_yes hlt h92, if_pos hin] at this
                  exact this
                have c5 : bn s (i + 1) ≤ 255 := bn_le _ _
                rw [hb1] at hrun c5
                have HRun := Asd.mk hrun
                clear hrun hbn h42 h63 h92 HR hb1
                obtain ⟨C, hC⟩ : ∃ C, C = cellsOf false (upd noneT s[i + 1].toNat true) := ⟨_, rfl⟩
                have hOne := one_calls s[i + 1].toNat wr c5
                rw [show cellsOf false (upd (fun _ => false) s[i + 1].toNat true) = C from hC.symm] at hOne
                have HOne := Asd.mk hOne
                have HC := Asd.mk hC
                clear hOne hC
                go_wp2_with fail
                refine HOne.out.mono ?_
                rintro e w3 ⟨rfl, hC3⟩
                have HO3 := Asd.mk (HO.out.step hC3)
                have hz3 := hC3.size
                clear hC3 HOne
                go_wp2_with (first | (refine wpList_build27 rfl C _ _ HC.out (w3.heap.size) (by simp) (.tmp 67) rfl rfl ?_; simp only [Act.put, List.setIfInBounds_toArray, List.set_cons_zero, List.set_cons_succ]) | (at_builtin; refine wpList_append72 rfl C _ _ HC.out (.tmp 62) (.tmp 68) rfl w.heap.size u4 L rfl ((HO3.out.alloc _).own) (w3.heap.size) rfl (hp_new _ _) (by omega) (by simp; omega) ?_; intro v2 w9 hown9 hgrow9; replace hown9 := Asd.mk hown9; replace hgrow9 := Asd.mk hgrow9; simp only [Act.put, List.setIfInBounds_toArray, List.set_cons_zero, List.set_cons_succ]))
                go_roundg k
                case rel => exact ⟨i + 1 + 1, L ++ [((false, upd noneT s[i + 1].toNat true) : PartV)], rfl, HRun, hin, by rw [List.length_append]; simp; omega, ⟨(HO3.out.alloc _).grow hgrow9.out hown9.out⟩⟩
                case measure => omega
              · have hrn : R = none := by
                  have := HR.out
                  simp only [crun] at this
                  rw [if_pos hlt, if_neg h42, if_neg h63, if_neg (by omega), bytePlace_yes hlt h92, if_neg hin] at this
                  exact (Option.some.inj this).symm
                clear hbn h42 h63 h92 HR
                go_wp2
                go_ret2
                rw [hrn]
                exact ⟨HO.out.chg, rfl⟩
            · have t3 : (((s[i].toNat : Nat) : Int) == 92) = false := by rw [← hbn]; simp; omega
              by_cases h91 : bn s i = 91
              · have t4 : (((s[i].toNat : Nat) : Int) == 91) = true := by rw [← hbn, h91]; rfl
                have hrun : (match setF s (i + 1) with | some (j, U) => crun s k j (L ++ [((false, U) : PartV)]) | none => some none) = some R := by
                  have := HR.out
                  simp only [crun] at this
                  rw [if_pos hlt, if_neg h42, if_neg h63, if_pos h91] at this
                  exact this
                have HRun := Asd.mk hrun
                clear hrun hbn h42 h63 h92 h91 HR
                go_upto_region 27 with fail
                go_cut [9] from 76 to 91 (fun v9 wx => wr = wx ∧ ∃ nb : Bool, v9 = .bool nb ∧ Asd (nb = notAt s (i + 1)))
                case first =>
                  by_cases h1 : i + 1 < s.size
                  · have hb1 : bn s (i + 1) = s[i + 1].toNat := by unfold bn; rw [dif_pos h1]
                    by_cases h33 : bn s (i + 1) = 33
                    · have t5 : (((s[i + 1].toNat : Nat) : Int) == 33) = true := by rw [← hb1, h33]; rfl
                      have HN := Asd.mk (notAt_33 h1 h33)
                      clear hb1 h33
                      go_wp2
                      go_meet
                      case rel => exact ⟨rfl, _, rfl, ⟨by rw [HN.out]⟩⟩
                    · have t5 : (((s[i + 1].toNat : Nat) : Int) == 33) = false := by rw [← hb1]; simp; omega
                      by_cases h94 : bn s (i + 1) = 94
                      · have t6 : (((s[i + 1].toNat : Nat) : Int) == 94) = true := by rw [← hb1, h94]; rfl
                        have HN := Asd.mk (notAt_94 h1 h94)
                        clear hb1 h33 h94
                        go_wp2
                        go_meet
                        case rel => exact ⟨rfl, _, rfl, ⟨by rw [HN.out]⟩⟩
                      · have t6 : (((s[i + 1].toNat : Nat) : Int) == 94) = false := by rw [← hb1]; simp; omega
                        have HN := Asd.mk (notAt_no h33 h94)
                        clear hb1 h33 h94
                        go_wp2
                        go_meet
                        case rel => exact ⟨rfl, _, rfl, ⟨by rw [HN.out]⟩⟩
                  · have HN := Asd.mk (notAt_out h1)
                    have d1 : decide ((i : Int) + 1 < (s.size : Int)) = false := decide_eq_false (by omega)
                    go_wp2
                    go_meet
                    case rel => exact ⟨rfl, _, rfl, ⟨by rw [HN.out]⟩⟩
                case rest =>
                  obtain ⟨rfl, nb, rfl, HN⟩ := hcut
                  have key : ∀ i0 : Nat, i0 = (if nb = true then i + 1 + 1 else i + 1) → ∀ W : World, Calls Tryz.prog 30 #[.string s, .int .i64 (i0 : Int), .bool nb] W fun e w' => Chg [] W w' ∧ match setF s (i + 1) with
                      | some (j, U) => e = .returned (.tuple #[.agg (cellsOf false U), .int .i64 ((j : Nat) : Int)])
                      | none => ∃ U, e = .returned (.tuple #[.agg (cellsOf false U), .int .i64 0]) := by
                    intro i0 hi0 W
                    have hle : i0 ≤ s.size := by
                      rw [hi0]
                      cases nb with
                      | false => simp only [Bool.false_eq_true, if_false]; omega
                      | true => have := notAt_in HN.out.symm; simp only [if_true]; omega
                    refine (rset_calls s i0 nb W hle (by omega) _ rfl).mono ?_
                    rintro e w' ⟨h1, h2⟩
                    refine ⟨h1, ?_⟩
                    have hF : setF s (i + 1) = match setLoop s (s.size + 2) i0 (fun _ => false) true with | some (j, U) => some (j + 1, flipB nb U) | none => none := by
                      unfold setF
                      rw [← HN.out, hi0]
                      cases setLoop s (s.size + 2) (if nb = true then i + 1 + 1 else i + 1) (fun _ => false) true with
                      | none => rfl
                      | some r => rfl
                    rw [hF]
                    cases hl : setLoop s (s.size + 2) i0 (fun _ => false) true with
                    | none => rw [hl] at h2; exact h2
                    | some r => rw [hl] at h2; exact h2
                  have KEY := Asd.mk key
                  clear key HN
                  cases nb with
                  | false =>
                    have HK := Asd.mk (KEY.out (i + 1) (by simp))
                    clear KEY
                    go_wp2_with fail
                    refine (HK.out _).mono ?_
                    clear HK
                    intro e w3 h3
                    obtain ⟨hC3, h3⟩ := h3
                    have HO3 := Asd.mk (HO.out.step hC3)
                    have hz3 := hC3.size
                    clear hC3
                    cases hsf : setF s (i + 1) with
                    | none =>
                      rw [hsf] at h3
                      obtain ⟨U, rfl⟩ := h3
                      have hrn : R = none := by
                        have := HRun.out
                        rw [hsf] at this
                        exact (Option.some.inj this).symm
                      obtain ⟨C, hC⟩ : ∃ C, cellsOf false U = C := ⟨_, rfl⟩
                      have hst := store72c C false U hC.symm w3
                      have hcs : C.size = 257 := by rw [← hC]; exact cellsOf_size _ _
                      rw [hC]
                      clear hsf HRun hC
                      go_wp2
                      go_ret2
                      rw [hrn]
                      exact ⟨(HO3.out.alloc _).chg, rfl⟩
                    | some r =>
                      obtain ⟨j, U⟩ := r
                      rw [hsf] at h3
                      obtain rfl := h3
                      have hj := setF_some hsf hlt
                      have hrn : crun s k j (L ++ [((false, U) : PartV)]) = some R := by
                        have := HRun.out
                        rw [hsf] at this
                        exact this
                      have HRn := Asd.mk hrn
                      obtain ⟨C, hC⟩ : ∃ C, cellsOf false U = C := ⟨_, rfl⟩
                      have HC := Asd.mk hC.symm
                      have hst := store72c C false U hC.symm w3
                      have hcs : C.size = 257 := by rw [← hC]; exact cellsOf_size _ _
                      have j0 : (((j : Nat) : Int) == 0) = false := by simp; omega
                      have HW := Asd.mk (show (w3.alloc (.cells C 72)).heap[w3.heap.size]? = some (.cells C 72 (0, 0)) from hp_new _ _)
                      have HO4 := Asd.mk (HO3.out.alloc (.cells C 72))
                      rw [hC]
                      clear hsf HRun hrn hC
                      go_wp2_with (first | (refine wpList_load_row (o := ⟨some 105, _, _, _, _, _⟩) rfl 72 (.tmp 10) rfl (w3.heap.size) rfl 72 C (0, 0) _ (HW.out) Tryz.underlying72 rfl (by rw [HC.out]; exact size72 _ _) ?_) | (refine wpList_build27 rfl C _ _ HC.out (w3.heap.size + 1) (by simp) (.tmp 105) rfl rfl ?_; simp only [Act.put, List.setIfInBounds_toArray, List.set_cons_zero, List.set_cons_succ]) | (at_builtin; refine wpList_append72 rfl C _ _ HC.out (.tmp 104) (.tmp 106) rfl w.heap.size u4 L rfl ((HO4.out.alloc _).own) (w3.heap.size + 1) rfl (by have h := hp_new (w3.alloc (.cells C 72)) (.cells C 72); rw [World.size_alloc] at h; exact h) (by omega) (by simp; omega) ?_; intro v2 w9 hown9 hgrow9; replace hown9 := Asd.mk hown9; replace hgrow9 := Asd.mk hgrow9; simp only [Act.put, List.setIfInBounds_toArray, List.set_cons_zero, List.set_cons_succ]))
                      go_roundg k
                      case rel => exact ⟨j, L ++ [((false, U) : PartV)], rfl, HRn, hj.2.1, by rw [List.length_append]; simp; omega, ⟨(HO4.out.alloc _).grow hgrow9.out hown9.out⟩⟩
                      case measure => omega
                  | true =>
                    have HK := Asd.mk (KEY.out (i + 1 + 1) (by simp))
                    clear KEY
                    go_wp2_with fail
                    refine (HK.out _).mono ?_
                    clear HK
                    intro e w3 h3
                    obtain ⟨hC3, h3⟩ := h3
                    have HO3 := Asd.mk (HO.out.step hC3)
                    have hz3 := hC3.size
                    clear hC3
                    cases hsf : setF s (i + 1) with
                    | none =>
                      rw [hsf] at h3
                      obtain ⟨U, rfl⟩ := h3
                      have hrn : R = none := by
                        have := HRun.out
                        rw [hsf] at this
                        exact (Option.some.inj this).symm
                      obtain ⟨C, hC⟩ : ∃ C, cellsOf false U = C := ⟨_, rfl⟩
                      have hst := store72c C false U hC.symm w3
                      have hcs : C.size = 257 := by rw [← hC]; exact cellsOf_size _ _
                      rw [hC]
                      clear hsf HRun hC
                      go_wp2
                      go_ret2
                      rw [hrn]
                      exact ⟨(HO3.out.alloc _).chg, rfl⟩
                    | some r =>
                      obtain ⟨j, U⟩ := r
                      rw [hsf] at h3
                      obtain rfl := h3
                      have hj := setF_some hsf hlt
                      have hrn : crun s k j (L ++ [((false, U) : PartV)]) = some R := by
                        have := HRun.out
                        rw [hsf] at this
                        exact this
                      have HRn := Asd.mk hrn
                      obtain ⟨C, hC⟩ : ∃ C, cellsOf false U = C := ⟨_, rfl⟩
                      have HC := Asd.mk hC.symm
                      have hst := store72c C false U hC.symm w3
                      have hcs : C.size = 257 := by rw [← hC]; exact cellsOf_size _ _
                      have j0 : (((j : Nat) : Int) == 0) = false := by simp; omega
                      have HW := Asd.mk (show (w3.alloc (.cells C 72)).heap[w3.heap.size]? = some (.cells C 72 (0, 0)) from hp_new _ _)
                      have HO4 := Asd.mk (HO3.out.alloc (.cells C 72))
                      rw [hC]
                      clear hsf HRun hrn hC
                      go_wp2_with (first | (refine wpList_load_row (o := ⟨some 105, _, _, _, _, _⟩) rfl 72 (.tmp 10) rfl (w3.heap.size) rfl 72 C (0, 0) _ (HW.out) Tryz.underlying72 rfl (by rw [HC.out]; exact size72 _ _) ?_) | (refine wpList_build27 rfl C _ _ HC.out (w3.heap.size + 1) (by simp) (.tmp 105) rfl rfl ?_; simp only [Act.put, List.setIfInBounds_toArray, List.set_cons_zero, List.set_cons_succ]) | (at_builtin; refine wpList_append72 rfl C _ _ HC.out (.tmp 104) (.tmp 106) rfl w.heap.size u4 L rfl ((HO4.out.alloc _).own) (w3.heap.size + 1) rfl (by have h := hp_new (w3.alloc (.cells C 72)) (.cells C 72); rw [World.size_alloc] at h; exact h) (by omega) (by simp; omega) ?_; intro v2 w9 hown9 hgrow9; replace hown9 := Asd.mk hown9; replace hgrow9 := Asd.mk hgrow9; simp only [Act.put, List.setIfInBounds_toArray, List.set_cons_zero, List.set_cons_succ]))
                      go_roundg k
                      case rel => exact ⟨j, L ++ [((false, U) : PartV)], rfl, HRn, hj.2.1, by rw [List.length_append]; simp; omega, ⟨(HO4.out.alloc _).grow hgrow9.out hown9.out⟩⟩
                      case measure => omega
              · have t4 : (((s[i].toNat : Nat) : Int) == 91) = false := by rw [← hbn]; simp; omega
                have hrun : crun s k (i + 1) (L ++ [((false, upd noneT (bn s i) true) : PartV)]) = some R := by
                  have := HR.out
                  simp only [crun] at this
                  rw [if_pos hlt, if_neg h42, if_neg h63, if_neg h91, bytePlace_no h92, if_pos hlt] at this
                  exact this
                have c5 : bn s i ≤ 255 := bn_le _ _
                rw [hbn] at hrun c5
                have HRun := Asd.mk hrun
                clear hrun hbn h42 h63 h92 h91 HR
                obtain ⟨C, hC⟩ : ∃ C, C = cellsOf false (upd noneT s[i].toNat true) := ⟨_, rfl⟩
                have hOne := one_calls s[i].toNat wr c5
                rw [show cellsOf false (upd (fun _ => false) s[i].toNat true) = C from hC.symm] at hOne
                have HOne := Asd.mk hOne
                have HC := Asd.mk hC
                clear hOne hC
                go_wp2_with fail
                refine HOne.out.mono ?_
                rintro e w3 ⟨rfl, hC3⟩
                have HO3 := Asd.mk (HO.out.step hC3)
                have hz3 := hC3.size
                clear hC3 HOne
                go_wp2_with (first | (refine wpList_build27 rfl C _ _ HC.out (w3.heap.size) (by simp) (.tmp 26) rfl rfl ?_; simp only [Act.put, List.setIfInBounds_toArray, List.set_cons_zero, List.set_cons_succ]) | (at_builtin; refine wpList_append72 rfl C _ _ HC.out (.tmp 22) (.tmp 27) rfl w.heap.size u4 L rfl ((HO3.out.alloc _).own) (w3.heap.size) rfl (hp_new _ _) (by omega) (by simp; omega) ?_; intro v2 w9 hown9 hgrow9; replace hown9 := Asd.mk hown9; replace hgrow9 := Asd.mk hgrow9; simp only [Act.put, List.setIfInBounds_toArray, List.set_cons_zero, List.set_cons_succ]))
                go_roundg k
                case rel => exact ⟨i + 1, L ++ [((false, upd noneT s[i].toNat true) : PartV)], rfl, HRun, hlt, by rw [List.length_append]; simp; omega, ⟨(HO3.out.alloc _).grow hgrow9.out hown9.out⟩⟩
                case measure => omega
      · have hRs : R = some L := by
          have := HR.out
          simp only [crun] at this
          rw [if_neg hlt] at this
          exact (Option.some.inj this).symm
        clear HR hob
        go_wp2
        go_ret2
        rw [hRs]
        exact rparts_end HO.out (by omega)
theorem rcompile_own (s : ByteArray) (w : World) (hs : s.size ≤ 1024) : Calls Tryz.prog 13 #[.string s] w fun e w' => RCompPost2 w (parts s) e w' := rcompile_calls s w hs _ _ (crun_parts s)
theorem rcompile_parts (s : ByteArray) (w : World) (hs : s.size ≤ 1024) : Calls Tryz.prog 13 #[.string s] w fun e w' => RCompPost w (parts s) e w' := by
  refine (rcompile_own s w hs).mono ?_
  rintro e w' ⟨h1, h2⟩
  refine ⟨h1, ?_⟩
  cases hp : parts s with
  | none => rw [hp] at h2; exact h2
  | some L =>
    rw [hp] at h2
    obtain ⟨A, c, he, ho, hL⟩ := h2
    obtain ⟨A2, c2, hv, hP⟩ := rparts_of_own ho
    simp only [Value.slice.injEq] at hv
    obtain ⟨rfl, _, rfl⟩ := hv
    exact ⟨_, _, he, hP, hL⟩
end Go.Proofs.YtgkifphfibcfdaaGreatDoor.G
