/- Merged out of these texts: Fails, ActOpen. -/
import Derived.Test.YthojofeocjmglaaGreatDoorDk19
import Derived.Test.YthojofeocjmglaaGreatDoorDk7
import Derived.Test.YthojofeocjmglaaGreatDoorRows
import Derived.ChangeSame
import Derived.ChangeArms
import Derived.SliceStrings
/- DiskFails: the walk. -/
namespace Go.Proofs.YthojofeocjmglaaGreatDoor.I
open Go.RowKit Go.Proofs.YthojofeocjmglaaGreatDoor.B Go.Sort
set_option linter.unusedVariables false
set_option linter.unusedSimpArgs false
/-- The number of an error. -/
theorem num_errV (m : Nat) (W : World) (hg : ErrType W) : Calls Tryz.prog 21 #[errV m] W fun e w' => e = .returned (.int .i64 (m : Int)) ∧ Chg [] W w' := by
  by_cases h : m = 0
  · subst h
    exact num_nil W
  · rw [errV_ne h]
    exact num_errno (m : Int) W hg
/-- Two disks that do not touch each other. -/
def Twain (K Q K2 Q2 : List Nat) : Prop := (∀ i, i ∈ K ∨ i ∈ Q → i ∉ K2) ∧ (∀ i, i ∈ K2 ∨ i ∈ Q2 → i ∉ K)
theorem DiskS.klt {w W : World} {K Q : List Nat} {d b n : Nat} {D : DK} (h : DiskS w W K Q d b n D) : ∀ i, i ∈ K ∨ i ∈ Q → i < W.heap.size := by
  obtain ⟨_, _, _, _, _, _, _, _, hD⟩ := h
  exact fun i hi => hi.elim (hD.kl i) (fun h => (hD.q i h).1)
theorem DiskS.row {w W : World} {K Q : List Nat} {d b n : Nat} {D : DK} (h : DiskS w W K Q d b n D) : W.heap.size ≥ w.heap.size := h.1.size
/-- The first of two disks goes on. -/
theorem Twain.left {w W w' : World} {K Q K2 Q2 K' Q' : List Nat} {d b n : Nat} {E : DK} (h : Twain K Q K2 Q2) (h2 : DiskS w W K2 Q2 d b n E) (hK : ∀ i ∈ K', i ∈ K ∨ W.heap.size ≤ i) (hQ : ∀ i ∈ Q', i ∈ Q ∨ W.heap.size ≤ i) (hC : Chg K W w') (hKw : ∀ i ∈ K, w.heap.size ≤ i) :
    Twain K' Q' K2 Q2 ∧ DiskS w w' K2 Q2 d b n E := by
  refine ⟨⟨fun i hi hk => ?_, fun i hi hk => ?_⟩, h2.chg hC hKw (fun i hi hk => h.2 i (.inl hi) hk) (fun i hi hk => h.2 i (.inr hi) hk)⟩
  · have hlt := h2.klt i (.inl hk)
    rcases hi with hi | hi
    · rcases hK i hi with h1 | h1
      · exact h.1 i (.inl h1) hk
      · omega
    · rcases hQ i hi with h1 | h1
      · exact h.1 i (.inr h1) hk
      · omega
  · have hlt := h2.klt i hi
    rcases hK i hk with h1 | h1
    · exact h.2 i hi h1
    · omega
theorem Twain.symm {K Q K2 Q2 : List Nat} (h : Twain K Q K2 Q2) : Twain K2 Q2 K Q := ⟨h.2, h.1⟩
theorem tree_small {w W : World} {K Q : List Nat} {d b n : Nat} {D : DK} (h : DiskS w W K Q d b n D) : (treeF D.now []).length ≤ 16777216 := by
  obtain ⟨_, _, hOk, _⟩ := h
  have : (treeF D.now []).length = D.now.length + 1 := tree_count hOk.now
  have := hOk.rnow.count
  have := hOk.rnow.n
  omega
set_option maxRecDepth 100000 in
set_option maxHeartbeats 16000000 in
theorem fails_bad (bb nn : Int) (sp : Option Addr) (n cap : Nat) (m : Int) (w : World) (hm : MaxLenAt w) (he : ErrType w) (hb : bb < 0 ∨ 2147483647 < bb ∨ nn < 0 ∨ 65536 < nn) :
    Calls Tryz.prog 5 #[.agg #[.int .i64 bb, .int .i64 nn, .slice sp n cap], .int .i64 m] w fun e w' => e = .returned (.bool true) ∧ Chg [] w w' := by
  obtain ⟨w0, hw0⟩ : ∃ W, w.alloc (.cells #[.int .i64 bb, .int .i64 nn, .slice sp n cap] 24) = W := ⟨_, rfl⟩
  have HC0 := Asd.mk (show Chg [] w w0 by rw [← hw0]; exact (Chg.refl _ _).alloc _)
  have hB : w0.heap[w.heap.size]? = some (.cells #[.int .i64 bb, .int .i64 nn, .slice sp n cap] 24 (0, 0)) := by rw [← hw0]; exact hp_new _ _
  have HB := Asd.mk hB
  have b0 := cell_of_heap hB 0
  have b1 := cell_of_heap hB 1
  have HN := Asd.mk (fun W => dnew_bad bb nn W hb)
  have HM := Asd.mk (hm.chg HC0.out)
  have HE := Asd.mk (he.chg HC0.out)
  clear hB hm he hb
  (go_enter Tryz.func5, Tryz.ntmps5)
  go_upto_region 1 with fail
  (try rw [hw0])
  clear hw0
  go_wp2_with fail
  refine (HN.out _).mono ?_
  rintro e w1 ⟨rfl, hC⟩
  have HC1 := Asd.mk hC
  have hB1 := hC.heap HB.out (by simp)
  have b0 := cell_of_heap hB1 0
  have b1 := cell_of_heap hB1 1
  clear hC hB1
  go_wp2_with fail
  refine (HN.out _).mono ?_
  rintro e w2 ⟨rfl, hC⟩
  have HC2 := Asd.mk (HC1.out.trans hC)
  clear hC HN
  go_wp2_with fail
  refine (sure_calls w2 (HM.out.chg HC2.out) (HE.out.chg HC2.out)).mono ?_
  rintro e w3 ⟨rfl, hC⟩
  have HC3 := Asd.mk (HC2.out.trans hC)
  clear hC
  go_wp2
  go_ret
  exact ⟨rfl, HC0.out.trans HC3.out⟩
set_option maxRecDepth 100000 in
set_option maxHeartbeats 32000000 in
theorem fails_ok (bb nn : Nat) (sp : Option Addr) (n cap : Nat) (O : Nat → ActV) (m : Int) (w : World) (hO : ActsAt w sp n O) (hn : n ≤ 1048576) (hm : MaxLenAt w) (he : ErrType w) (hbb : bb ≤ 2147483647) (hnn : nn ≤ 65536) :
    Calls Tryz.prog 5 #[.agg #[.int .i64 (bb : Int), .int .i64 (nn : Int), .slice sp n cap], .int .i64 m] w fun e w' => e = .returned (.bool true) ∧ Chg [] w w' := by
  obtain ⟨w0, hw0⟩ : ∃ W, w.alloc (.cells #[.int .i64 (bb : Int), .int .i64 (nn : Int), .slice sp n cap] 24) = W := ⟨_, rfl⟩
  have HC0 := Asd.mk (show Chg [] w w0 by rw [← hw0]; exact (Chg.refl _ _).alloc _)
  obtain ⟨B0, hB0⟩ : ∃ B0, w.heap.size = B0 := ⟨_, rfl⟩
  have hB : w0.heap[B0]? = some (.cells #[.int .i64 (bb : Int), .int .i64 (nn : Int), .slice sp n cap] 24 (0, 0)) := by rw [← hw0, ← hB0]; exact hp_new _ _
  have HB := Asd.mk hB
  have HM := Asd.mk (hm.chg HC0.out)
  have HE := Asd.mk (he.chg HC0.out)
  have HO := Asd.mk (hO.chg HC0.out)
  have H0 := Asd.mk (dnew_ok bb nn w0 w0 (Chg.refl _ _) hbb hnn)
  have H1 := Asd.mk (fun W (hC : Chg [] w0 W) => dnew_ok bb nn w0 W hC hbb hnn)
  have b0 := cell_of_heap hB 0
  have b1 := cell_of_heap hB 1
  obtain ⟨N, hN⟩ : ∃ N : Nat, max 1 (min m 100) = (N : Int) := ⟨(max 1 (min m 100)).toNat, by omega⟩
  have hN1 : 1 ≤ N ∧ N ≤ 100 := by omega
  clear hm he hO hB
  (go_enter Tryz.func5, Tryz.ntmps5)
  go_upto_region 1 with fail
  (try rw [hw0])
  (try rw [hB0])
  clear hw0 hB0
  go_wp2_with fail
  refine H0.out.mono ?_
  rintro e w1 ⟨d, Kd, rfl, hS, hC1, hKd⟩
  have HS1 := Asd.mk hS
  have hB1 := hC1.heap HB.out (by simp)
  have b0 := cell_of_heap hB1 0
  have b1 := cell_of_heap hB1 1
  have H2 := Asd.mk (H1.out w1 hC1)
  clear hS hC1 hB1 H0 H1 hKd
  go_wp2_with fail
  refine H2.out.mono ?_
  rintro e w2 ⟨k, Kk, rfl, hS, hC2, hKk⟩
  have HE2 := Asd.mk hS
  have HS2 := Asd.mk (HS1.out.chg0 hC2)
  have HTw := Asd.mk (show Twain Kd [] Kk [] from ⟨fun i hi hk => by have := HS1.out.klt i hi; have := hKk i hk; omega, fun i hi hk => by
    have h1 := HS1.out.klt i (.inl hk)
    rcases hi with hi | hi
    · have := hKk i hi; omega
    · cases hi⟩)
  have hf := dfail_calls w0 w2 Kd [] d bb nn newD (N : Int) HS2.out (by decide)
  rw [show failA newD (N : Int) = (0, { newD with fails := N }) by
    unfold failA
    rw [if_neg (by omega), if_neg (by decide)]
    simp [newD]] at hf
  have H3 := Asd.mk hf
  clear hS hC2 hKk H2 HS1 hf b0 b1
  go_wp2_with fail
  (try rw [hN])
  refine H3.out.mono ?_
  rintro e w3 ⟨rfl, Kd3, Qd3, hS, hC3, hK3, hQ3⟩
  obtain ⟨hTw3, hE3⟩ := HTw.out.left HE2.out hK3 hQ3 hC3 HS2.out.2.1
  have HS3 := Asd.mk hS
  have HE3 := Asd.mk hE3
  have HTw3 := Asd.mk hTw3
  clear hS hC3 hK3 hQ3 hTw3 hE3 H3 HS2 HE2 HTw
  simp only [errV, if_true]
  go_wp2_with fail
  go_loopg [9, 10] 42 (fun gk v9 v10 wx => ∃ (i c : Nat) (D E : DK) (Kd Qd Kk Qk : List Nat), i ≤ 40 ∧ c ≤ i ∧ gk = 42 - i ∧ v9 = .int .i64 (c : Int) ∧ v10 = .int .i64 (i : Int) ∧ Asd (DiskS w0 wx Kd Qd d bb nn D) ∧ Asd (DiskS w0 wx Kk Qk k bb nn E) ∧ Asd (Twain Kd Qd Kk Qk) ∧ Asd (Pair D E ∧ D.steps = c ∧ D.fails = N ∧ E.fails = 0 ∧ E.steps ≤ c ∧ D.log.length ≤ c))
  case atStart => exact ⟨0, 0, _, _, _, _, _, _, by omega, by omega, rfl, rfl, rfl, HS3, HE3, HTw3, ⟨pair_new N, rfl, rfl, rfl, Nat.le_refl _, Nat.le_refl _⟩⟩
  case round =>
    obtain ⟨i, c, D, E, Kd, Qd, Kk, Qk, hi, hci, rfl, rfl, rfl, HS, HEs, HT, HP⟩ := hrel
    have hBr := HS.out.1.heap HB.out (by simp)
    have b2 := cell_of_heap hBr 2
    clear hBr
    go_upto_region 10 with fail
    go_cut [64] from 56 to 64 (fun v64 wx => wr = wx ∧ ∃ c : Bool, v64 = .bool c ∧ Asd (c = true → i < n ∧ i < 40))
    case first =>
      by_cases h1 : i < n
      · have k1 : (i : Int) < (n : Int) := by omega
        by_cases h2 : i < 40
        · have k2 : (i : Int) < 40 := by omega
          go_wp2
          go_meet
          case rel => exact ⟨rfl, true, rfl, ⟨fun _ => ⟨h1, h2⟩⟩⟩
        · have k2 : ¬ (i : Int) < 40 := by omega
          go_wp2
          go_meet
          case rel => exact ⟨rfl, false, rfl, ⟨fun h => by cases h⟩⟩
      · have k1 : ¬ (i : Int) < (n : Int) := by omega
        go_wp2
        go_meet
        case rel => exact ⟨rfl, false, rfl, ⟨fun h => by cases h⟩⟩
    case rest =>
      obtain ⟨rfl, t, rfl, HRc⟩ := hcut
      cases t with
      | true =>
        obtain ⟨hin, hi40⟩ := HRc.out rfl
        obtain ⟨a, rfl, hAct, z1, z2⟩ := (HO.out.chg HS.out.1) i hin
        obtain ⟨⟨kk, aa, az, an, ak⟩, hOi⟩ : ∃ x, O i = x := ⟨_, rfl⟩
        rw [hOi] at hAct z1 z2
        have HA := Asd.mk hAct
        have HZ := Asd.mk (show aa.size ≤ 4294967280 ∧ az.size ≤ 4294967280 from ⟨Nat.le_trans z1 (by decide), Nat.le_trans z2 (by decide)⟩)
        have k1 : (i : Int) < (n : Int) := by omega
        clear hAct z1 z2 hOi HRc
        go_upto_region 13 with (refine wpList_load_act rfl (.tmp 70) rfl (a.add (i * 5)) rfl ⟨kk, aa, az, an, ak⟩ HA.out ?_)
        refine wp_opaque2 (fun V hV => ?_)
        have HCV := Asd.mk (show Chg [] wr V by rw [hV]; exact (Chg.refl _ _).alloc _)
        have hBV : V.heap[wr.heap.size]? = some (.cells #[.int .i64 kk, .string aa, .string az, .int .i64 an, .int .i64 ak] 33 (0, 0)) := by rw [hV]; exact hp_new _ _
        obtain ⟨B, hBq⟩ : ∃ B, wr.heap.size = B := ⟨_, rfl⟩
        rw [hBq] at hBV ⊢
        have HBV := Asd.mk hBV
        have HBq := Asd.mk hBq
        have e0 := cell_of_heap hBV 0
        have HBd := Asd.mk (show B ∉ Kd from fun h => by have := HS.out.klt B (.inl h); omega)
        have HSV := Asd.mk (HS.out.chg0 HCV.out)
        have HEV := Asd.mk (HEs.out.chg0 HCV.out)
        clear hV hBV hBq HS HEs HA b2
        go_cut [79] from 72 to 79 (fun v79 wx => V = wx ∧ ∃ c : Bool, v79 = .bool c ∧ Asd (c = false → 1 ≤ kk ∧ kk ≤ 7))
        case first =>
          by_cases h1 : kk < 1
          · have t1 : decide (kk < 1) = true := decide_eq_true h1
            go_wp2
            go_meet
            case rel => exact ⟨rfl, true, rfl, ⟨fun h => by cases h⟩⟩
          · have t1 : decide (kk < 1) = false := decide_eq_false h1
            by_cases h2 : 7 < kk
            · have t2 : decide (7 < kk) = true := decide_eq_true h2
              go_wp2
              go_meet
              case rel => exact ⟨rfl, true, rfl, ⟨fun h => by cases h⟩⟩
            · have t2 : decide (7 < kk) = false := decide_eq_false h2
              go_wp2
              go_meet
              case rel => exact ⟨rfl, false, rfl, ⟨fun _ => ⟨by omega, by omega⟩⟩⟩
        case rest =>
          obtain ⟨rfl, t, rfl, HKd⟩ := hcut
          cases t with
          | true =>
            clear HKd
            go_wp2_with fail
            go_roundg (42 - (i + 1))
            case rel => exact ⟨i + 1, c, D, E, Kd, Qd, Kk, Qk, by omega, by omega, rfl, rfl, by go_num, HSV, HEV, HT, HP⟩
            case measure => omega
          | false =>
            have hkd := HKd.out rfl
            have HKk := Asd.mk hkd
            have HD := Asd.mk (did_calls w0 V Kd Qd d bb nn D kk aa az an ak HSV.out HM.out HZ.out.1 HZ.out.2 (by have := HP.out.2.1; omega) (by have := HP.out.2.2.2.2.2; omega))
            have HAB := Asd.mk (act_block (o := ⟨kk, aa, az, an, ak⟩) HBV.out)
            obtain ⟨R, hR⟩ : ∃ R, actD bb nn D ⟨kk, aa, az, an, ak⟩ = R := ⟨_, rfl⟩
            rw [hR] at HD
            have HRq := Asd.mk hR
            clear hkd HKd hR
            go_wp2_with (refine wpList_load_act rfl (.tmp 11) rfl ⟨B, 0, none⟩ rfl ⟨kk, aa, az, an, ak⟩ HAB.out ?_)
            refine HD.out.mono ?_
            rintro e w4 ⟨he, Kd4, Qd4, hS, hC4, hK4, hQ4⟩
            obtain ⟨ev, hev⟩ : ∃ ev, errV R.1 = ev := ⟨_, rfl⟩
            rw [hev] at he
            subst he
            obtain ⟨hTw, hE4⟩ := HT.out.left HEV.out hK4 hQ4 hC4 HSV.out.2.1
            have HS4 := Asd.mk hS
            have HE4 := Asd.mk hE4
            have HT4 := Asd.mk hTw
            have HB4 := Asd.mk (hS.1.heap HB.out (by simp))
            have HA4 := Asd.mk (show w4.heap[B]? = some (.cells #[.int .i64 kk, .string aa, .string az, .int .i64 an, .int .i64 ak] 33 (0, 0)) from hC4.heap HBV.out HBd.out)
            have HNm := Asd.mk (fun X (hX : ErrType X) => num_errV R.1 X hX)
            rw [hev] at HNm
            have HEv := Asd.mk hev
            clear hS hC4 hK4 hQ4 hE4 hTw hev HD HSV HEV HT HAB
            by_cases hcN : c + 1 = N
            · have hp := pair_act_fail (b := bb) (n := nn) ⟨kk, aa, az, an, ak⟩ HKk.out HP.out.1 (by have := HP.out.2; omega)
              rw [HRq.out] at hp
              have hnm := HNm.out w4 (HE.out.chg HS4.out.1)
              rw [hp.1] at hnm
              have HNn := Asd.mk hnm
              have HPn := Asd.mk (show Pair R.2 E ∧ R.2.steps = c + 1 ∧ R.2.fails = N ∧ E.fails = 0 ∧ E.steps ≤ c + 1 ∧ R.2.log.length ≤ c + 1 from by
                have hl := actD_log bb nn D ⟨kk, aa, az, an, ak⟩
                rw [HRq.out] at hl
                have := HP.out.2
                exact ⟨hp.2.1, by have := hp.2.2.1; omega, by rw [hp.2.2.2]; exact this.2.1, this.2.2.1, by omega, by omega⟩)
              have t1 : (((c : Int) + 1) == (N : Int)) = true := by rw [← hcN]; simp
              clear hp hnm HNm HEv HP hcN
              go_wp2_with fail
              refine HNn.out.mono ?_
              rintro e w5 ⟨rfl, hC⟩
              have HS5 := Asd.mk (HS4.out.chg0 hC)
              have HE5 := Asd.mk (HE4.out.chg0 hC)
              clear hC HNn HS4 HE4
              go_wp2_with fail
              go_roundg (42 - (i + 1))
              case rel => exact ⟨i + 1, c + 1, R.2, E, Kd4, Qd4, Kk, Qk, by omega, by omega, rfl, by go_num, by go_num, HS5, HE5, HT4, HPn⟩
              case measure => omega
            · have hp := pair_act (b := bb) (n := nn) ⟨kk, aa, az, an, ak⟩ HKk.out HP.out.1 (by have := HP.out.2; omega) (by have := HP.out.2; omega)
              have hl := actD_log bb nn D ⟨kk, aa, az, an, ak⟩
              rw [HRq.out] at hp hl
              have hoE : E.log.length ≤ 1000000 := by
                have := HP.out.2.2.2.2.2
                have h2 := HP.out.1.log
                rw [← h2]
                omega
              have hD2 := did_calls w0 w4 Kk Qk k bb nn E kk aa az an ak HE4.out HM.out HZ.out.1 HZ.out.2 (by have := HP.out.2; omega) hoE
              have HAB := Asd.mk (act_block (o := ⟨kk, aa, az, an, ak⟩) HA4.out)
              obtain ⟨R2, hR2⟩ : ∃ R2, actD bb nn E ⟨kk, aa, az, an, ak⟩ = R2 := ⟨_, rfl⟩
              rw [hR2] at hp hD2
              have HD2 := Asd.mk hD2
              have HPn := Asd.mk (show Pair R.2 R2.2 ∧ R.2.steps = c + 1 ∧ R.2.fails = N ∧ R2.2.fails = 0 ∧ R2.2.steps ≤ c + 1 ∧ R.2.log.length ≤ c + 1 from by
                have := HP.out.2
                exact ⟨hp.2.1, by have := hp.2.2.1; omega, by rw [hp.2.2.2.2.1]; exact this.2.1, by rw [hp.2.2.2.2.2]; exact this.2.2.1, by have := hp.2.2.2.1; omega, by omega⟩)
              have HEq := Asd.mk (show errV R2.1 = ev by rw [← hp.1]; exact HEv.out)
              have t1 : (((c : Int) + 1) == (N : Int)) = false := by
                simp only [beq_eq_false_iff_ne, ne_eq]; omega
              clear hp hl hoE hD2 hR2 HP hcN HEv
              go_wp2_with (refine wpList_load_act rfl (.tmp 11) rfl ⟨B, 0, none⟩ rfl ⟨kk, aa, az, an, ak⟩ HAB.out ?_)
              refine HD2.out.mono ?_
              rintro e w5 ⟨he, Kk5, Qk5, hS, hC5, hK5, hQ5⟩
              rw [HEq.out] at he
              subst he
              obtain ⟨hTw, hE5⟩ := HT4.out.symm.left HS4.out hK5 hQ5 hC5 HE4.out.2.1
              have HS5 := Asd.mk hE5
              have HE5 := Asd.mk hS
              have HT5 := Asd.mk hTw.symm
              have H6 := Asd.mk (dtree_on HS5.out HM.out HPn.out.1.on1)
              clear hS hC5 hK5 hQ5 hTw hE5 HD2 HS4 HE4 HT4 HAB HA4
              go_wp2_with fail
              refine H6.out.mono ?_
              rintro e w6 ⟨⟨v6, rfl, hv6⟩, hC⟩
              have HS6 := Asd.mk (HS5.out.chg0 hC)
              have HE6 := Asd.mk (HE5.out.chg0 hC)
              have HV6 := Asd.mk hv6
              have H7 := Asd.mk (dtree_on HE6.out HM.out HPn.out.1.on2)
              clear hv6 hC H6 HS5 HE5
              go_wp2_with fail
              refine H7.out.mono ?_
              rintro e w7 ⟨⟨v7, rfl, hv7⟩, hC⟩
              have HS7 := Asd.mk (HS6.out.chg0 hC)
              have HE7 := Asd.mk (HE6.out.chg0 hC)
              have HV7 := Asd.mk (show RowE w7 w6.heap.size v7 (treeF R.2.now []) by rw [HPn.out.1.now]; exact hv7)
              have HV6' := Asd.mk (own_off HV6.out hC (fun _ _ => by simp))
              have H8 := Asd.mk (HNm.out w7 (HE.out.chg HS7.out.1))
              clear hv7 hC H7 HS6 HE6 HV6
              go_wp2_with fail
              refine H8.out.mono ?_
              rintro e w8 ⟨rfl, hC⟩
              have HS8 := Asd.mk (HS7.out.chg0 hC)
              have HE8 := Asd.mk (HE7.out.chg0 hC)
              have HV8 := Asd.mk (And.intro (own_off HV6'.out hC (fun _ _ => by simp)) (own_off HV7.out hC (fun _ _ => by simp)))
              have H9 := Asd.mk (HNm.out w8 (HE.out.chg HS8.out.1))
              clear hC H8 HS7 HE7 HV6' HV7
              go_wp2_with fail
              refine H9.out.mono ?_
              rintro e w9 ⟨rfl, hC⟩
              have HS9 := Asd.mk (HS8.out.chg0 hC)
              have HE9 := Asd.mk (HE8.out.chg0 hC)
              have hsm := sameEntries_calls (treeF R.2.now []) (treeF R.2.now []) v6 v7 w9 (entL_of_own (own_off HV8.out.1 hC (fun _ _ => by simp))) (entL_of_own (own_off HV8.out.2 hC (fun _ _ => by simp))) (tree_small HS9.out) (tree_small HS9.out)
              rw [decide_eq_true (rfl : treeF R.2.now [] = treeF R.2.now [])] at hsm
              have H10 := Asd.mk hsm
              clear hC H9 HS8 HE8 HV8 hsm
              go_wp2_with fail
              refine H10.out.mono ?_
              rintro e w10 ⟨rfl, hC⟩
              have HS10 := Asd.mk (HS9.out.chg0 hC)
              have HE10 := Asd.mk (HE9.out.chg0 hC)
              clear hC H10 HS9 HE9
              go_wp2_with fail
              go_roundg (42 - (i + 1))
              case rel => exact ⟨i + 1, c + 1, R.2, R2.2, Kd4, Qd4, Kk5, Qk5, by omega, by omega, rfl, by go_num, by go_num, HS10, HE10, HT5, HPn⟩
              case measure => omega
      | false =>
        have HSt := Asd.mk (dsteps_calls HS.out)
        have HSq := Asd.mk HP.out.2.1
        clear b2 HRc
        go_wp2_with fail
        refine HSt.out.mono ?_
        rintro e w4 ⟨rfl, rfl⟩
        rw [HSq.out]
        go_wp2_with fail
        refine (sure_calls w4 (HM.out.chg HS.out.1) (HE.out.chg HS.out.1)).mono ?_
        rintro e w5 ⟨rfl, hC⟩
        have HC5 := Asd.mk (HS.out.1.trans hC)
        clear hC
        go_wp2
        go_ret
        exact ⟨rfl, HC0.out.trans HC5.out⟩
/-- DiskFails, of all cases and numbers. -/
theorem diskfails_calls (bb nn : Int) (sp : Option Addr) (n cap : Nat) (O : Nat → ActV) (m : Int) (w : World) (hO : ActsAt w sp n O) (hn : n ≤ 1048576) (hm : MaxLenAt w) (he : ErrType w) :
    Calls Tryz.prog 5 #[.agg #[.int .i64 bb, .int .i64 nn, .slice sp n cap], .int .i64 m] w fun e w' => e = .returned (.bool true) ∧ Chg [] w w' := by
  by_cases hb : bb < 0 ∨ 2147483647 < bb ∨ nn < 0 ∨ 65536 < nn
  · exact fails_bad bb nn sp n cap m w hm he hb
  · obtain ⟨b, rfl⟩ : ∃ b : Nat, bb = (b : Int) := ⟨bb.toNat, by omega⟩
    obtain ⟨k, rfl⟩ : ∃ k : Nat, nn = (k : Int) := ⟨nn.toNat, by omega⟩
    exact fails_ok b k sp n cap O m w hO hn hm he (by omega) (by omega)
end Go.Proofs.YthojofeocjmglaaGreatDoor.I
/- The argument that is a row of acts, out of a row's reading. -/
namespace Go.Proofs.YthojofeocjmglaaGreatDoor.I
open Go.ChangeShapes Go.WideShapes Go.ChangeAt Go.RowKit Go.Proofs.YthojofeocjmglaaGreatDoor.B Go.Deep
set_option linter.unusedVariables false
theorem cells_act : Tryz.prog.cellsOf 33 = 5 := by kernel_rfl
theorem cells_i : Tryz.prog.cellsOf 3 = 1 := by kernel_rfl
theorem cells_s : Tryz.prog.cellsOf 9 = 1 := by kernel_rfl
section
variable {H : Type} {enc : TypeId × Value → H} {w : World} {base : Nat} {spare : Nat → Bool} {held : Bool}
set_option maxRecDepth 100000 in
theorem act_of_cells {n : Nat} {cs : List Value} {x : DataW H × List MemPlace} (h : DataW.trod enc Tryz.prog w base spare held n 33 cs = some x) :
    ∃ (k : Int) (a b : ByteArray) (m p : Int), cs = [.int .i64 k, .string a, .string b, .int .i64 m, .int .i64 p] ∧ x.1 = .agg [.lit (.int .i64 k), .lit (.string a.data.toList), .lit (.string b.data.toList), .lit (.int .i64 m), .lit (.int .i64 p)] := by
  obtain ⟨xs, m, _, rfl, hl, hxl, hf⟩ := DataW.trod_struct Tryz.underlying33 h
  rw [cells_act] at hl
  match xs, hxl, cs, hl with
  | [y0, y1, y2, y3, y4], _, [v0, v1, v2, v3, v4], _ =>
    have g0 : DataW.trod enc Tryz.prog w base spare held m 3 (([v0, v1, v2, v3, v4].drop 0).take (Tryz.prog.cellsOf 3)) = some y0 := hf 0 _ rfl
    have g1 : DataW.trod enc Tryz.prog w base spare held m 9 (([v0, v1, v2, v3, v4].drop 1).take (Tryz.prog.cellsOf 9)) = some y1 := hf 1 _ rfl
    have g2 : DataW.trod enc Tryz.prog w base spare held m 9 (([v0, v1, v2, v3, v4].drop 2).take (Tryz.prog.cellsOf 9)) = some y2 := hf 2 _ rfl
    have g3 : DataW.trod enc Tryz.prog w base spare held m 3 (([v0, v1, v2, v3, v4].drop 3).take (Tryz.prog.cellsOf 3)) = some y3 := hf 3 _ rfl
    have g4 : DataW.trod enc Tryz.prog w base spare held m 3 (([v0, v1, v2, v3, v4].drop 4).take (Tryz.prog.cellsOf 3)) = some y4 := hf 4 _ rfl
    rw [cells_i] at g0 g3 g4
    rw [cells_s] at g1 g2
    obtain ⟨k, e0, rfl, _⟩ := DataW.trod_int Tryz.underlying3 g0
    obtain ⟨a, e1, rfl, _⟩ := DataW.trod_string Tryz.underlying9 g1
    obtain ⟨b, e2, rfl, _⟩ := DataW.trod_string Tryz.underlying9 g2
    obtain ⟨q, e3, rfl, _⟩ := DataW.trod_int Tryz.underlying3 g3
    obtain ⟨r, e4, rfl, _⟩ := DataW.trod_int Tryz.underlying3 g4
    have e0' : [v0] = [Value.int .i64 k] := e0
    have e1' : [v1] = [Value.string a] := e1
    have e2' : [v2] = [Value.string b] := e2
    have e3' : [v3] = [Value.int .i64 q] := e3
    have e4' : [v4] = [Value.int .i64 r] := e4
    simp only [List.cons.injEq, and_true] at e0' e1' e2' e3' e4'
    exact ⟨k, a, b, q, r, by rw [e0', e1', e2', e3', e4'], rfl⟩
theorem bulk_map {n : Nat} {D : Nat → DataW H} {i : Nat} (hi : i < n) : Rows.uptoBulk (D i) ≤ Rows.uptoBulkAll ((List.range n).map D) ∧ n ≤ Rows.uptoBulkAll ((List.range n).map D) := by
  have pos : ∀ d : DataW H, 1 ≤ Rows.uptoBulk d := fun d => by
    cases d with
    | lit l => cases l <;> simp only [Rows.uptoBulk] <;> omega
    | _ => simp only [Rows.uptoBulk] <;> omega
  have all : ∀ l : List (DataW H), l.length ≤ Rows.uptoBulkAll l := fun l => by
    induction l with
    | nil => simp
    | cons d l ih =>
      simp only [Rows.uptoBulkAll, List.length_cons]
      have := pos d
      omega
  have mem : ∀ (l : List (DataW H)) (d : DataW H), d ∈ l → Rows.uptoBulk d ≤ Rows.uptoBulkAll l := fun l d hd => by
    induction l with
    | nil => cases hd
    | cons e l ih =>
      simp only [Rows.uptoBulkAll]
      rcases List.mem_cons.1 hd with rfl | h
      · omega
      · have := ih h; omega
  exact ⟨mem _ _ (List.mem_map.2 ⟨i, List.mem_range.2 hi, rfl⟩), by have := all ((List.range n).map D); simpa using this⟩
/-- A row of acts, read out of a row. -/
theorem open_acts {fuel : Nat} {cs : List Value} {x : DataW H × List MemPlace} (h : DataW.trod enc Tryz.prog w base spare held fuel 22 cs = some x) (hb : Rows.uptoBulk x.1 ≤ 1048576) :
    ∃ sp n cap O, cs = [.slice sp n cap] ∧ n ≤ 1048576 ∧ ActsAt w sp n O := by
  rcases open_slice Tryz.underlying22 h with ⟨rfl, _⟩ | ⟨a, len, cap, m, nn, D, Pl, rfl, _, hl, hm, hmm, rfl, hx⟩
  · exact ⟨none, 0, 0, fun _ => ⟨0, ⟨#[]⟩, ⟨#[]⟩, 0, 0⟩, rfl, by omega, fun i hi => by omega⟩
  · have hlm : len ≤ m := by rw [hmm]; split <;> omega
    have each : ∀ i, i < len → ∃ o : ActV, ActAt w (a.add (i * 5)) o ∧ o.a.size ≤ 1048576 ∧ o.b.size ≤ 1048576 := fun i hi => by
      obtain ⟨cs', h1, h2⟩ := hx i (by omega)
      obtain ⟨k, s, z, q, r, rfl, e⟩ := act_of_cells h2
      rw [cells_act] at h1
      obtain ⟨_, _, hcell⟩ := World.cells?_some h1
      have c0 := hcell 0 (by omega)
      have c1 := hcell 1 (by omega)
      have c2 := hcell 2 (by omega)
      have c3 := hcell 3 (by omega)
      have c4 := hcell 4 (by omega)
      have hbi := (bulk_map (D := D) hi).1
      have e' : D i = .agg [.lit (.int .i64 k), .lit (.string s.data.toList), .lit (.string z.data.toList), .lit (.int .i64 q), .lit (.int .i64 r)] := e
      rw [e'] at hbi
      simp only [Rows.uptoBulk, Rows.uptoBulkAll] at hbi hb
      have es : s.data.toList.length = s.size := by simp
      have ez : z.data.toList.length = z.size := by simp
      exact ⟨⟨k, s, z, q, r⟩, ⟨by simpa using c0, by simpa using c1, by simpa using c2, by simpa using c3, by simpa using c4⟩, by show s.size ≤ _; omega, by show z.size ≤ _; omega⟩
    refine ⟨some a, len, cap, fun i => if h : i < len then Classical.choose (each i h) else ⟨0, ⟨#[]⟩, ⟨#[]⟩, 0, 0⟩, rfl, ?_, fun i hi => ⟨a, rfl, ?_⟩⟩
    rotate_left
    · simp only [dif_pos hi]
      exact Classical.choose_spec (each i hi)
    by_cases h0 : len = 0
    · omega
    · have := (bulk_map (D := D) (n := len) (i := 0) (by omega)).2
      simp only [Rows.uptoBulk] at hb
      omega
end
end Go.Proofs.YthojofeocjmglaaGreatDoor.I
