/- DiskReplays: the walk. -/
import Derived.Test.YthojofeocjmglaaGreatDoorDk24
import Derived.Test.YthojofeocjmglaaGreatDoorDk21
import Derived.Test.YthojofeocjmglaaGreatDoorDk19
namespace Go.Proofs.YthojofeocjmglaaGreatDoor.I
open Go.RowKit Go.Proofs.YthojofeocjmglaaGreatDoor.B Go.Sort
set_option linter.unusedVariables false
set_option linter.unusedSimpArgs false
set_option maxRecDepth 100000 in
set_option maxHeartbeats 16000000 in
theorem replays_bad (bb nn : Int) (sp : Option Addr) (n cap : Nat) (w : World) (hm : MaxLenAt w) (hb : bb < 0 ∨ 2147483647 < bb ∨ nn < 0 ∨ 65536 < nn) :
    Calls Tryz.prog 3 #[.agg #[.int .i64 bb, .int .i64 nn, .slice sp n cap]] w fun e w' => e = .returned (.bool true) ∧ Chg [] w w' := by
  obtain ⟨w0, hw0⟩ : ∃ W, w.alloc (.cells #[.int .i64 bb, .int .i64 nn, .slice sp n cap] 24) = W := ⟨_, rfl⟩
  have HC0 := Asd.mk (show Chg [] w w0 by rw [← hw0]; exact (Chg.refl _ _).alloc _)
  have hB : w0.heap[w.heap.size]? = some (.cells #[.int .i64 bb, .int .i64 nn, .slice sp n cap] 24 (0, 0)) := by rw [← hw0]; exact hp_new _ _
  have b0 := cell_of_heap hB 0
  have b1 := cell_of_heap hB 1
  have HN := Asd.mk (fun W => dnew_bad bb nn W hb)
  have HM := Asd.mk (hm.chg HC0.out)
  clear hB hm hb
  (go_enter Tryz.func3, Tryz.ntmps3)
  go_upto_region 1 with fail
  (try rw [hw0])
  clear hw0
  go_wp2_with fail
  refine (HN.out _).mono ?_
  rintro e w2 ⟨rfl, hC⟩
  have HC2 := Asd.mk hC
  clear hC HN
  go_wp2_with fail
  refine (logged_calls w2 (HM.out.chg HC2.out)).mono ?_
  rintro e w3 ⟨rfl, hC⟩
  have HC3 := Asd.mk (HC2.out.trans hC)
  clear hC
  go_wp2
  go_ret
  exact ⟨rfl, HC0.out.trans HC3.out⟩
/-- The log's operations, as calls may bear them. -/
def LogSmall (D : DK) : Prop := ∀ o ∈ D.log, (1 ≤ o.kind ∧ o.kind ≤ 6) ∧ o.a.size ≤ 268435456 ∧ o.b.size ≤ 268435456
theorem small_act {b n : Nat} {D : DK} (h : LogSmall D) (a : ActV) (ha : 1 ≤ a.kind ∧ a.kind ≤ 7) (hz : a.a.size ≤ 1048576 ∧ a.b.size ≤ 1048576) : LogSmall (actD b n D a).2 := by
  have hcl := (countD_log b n D).1
  by_cases h7 : a.kind = 7
  · rw [act_sync h7]
    unfold syncD
    split
    · intro o ho; rw [hcl] at ho; exact h o ho
    · intro o ho; cases ho
  · rw [act_op (by omega)]
    unfold doD
    split
    · intro o ho; rw [hcl] at ho; exact h o ho
    · split
      · intro o ho; exact h o (by rw [← hcl]; exact ho)
      · intro o ho
        have ho2 : o ∈ (countD b n D).2.log ++ [⟨a.kind, a.a, a.b⟩] := ho
        rw [hcl] at ho2
        rcases List.mem_append.1 ho2 with h1 | h1
        · exact h o h1
        · rw [List.mem_singleton] at h1
          rw [h1]
          exact ⟨⟨ha.1, by show a.kind ≤ 6; omega⟩, Nat.le_trans hz.1 (by decide), Nat.le_trans hz.2 (by decide)⟩
theorem log_act {b n : Nat} {D : DK} (hd : DOk b n D) (h : LogOk b n D) (a : ActV) (ha : 1 ≤ a.kind ∧ a.kind ≤ 7) : LogOk b n (actD b n D a).2 := by
  by_cases h7 : a.kind = 7
  · rw [act_sync h7]; exact log_sync h
  · rw [act_op (by omega)]; exact log_do hd h _
/-- The disk and its clone: the clone is what is safe. -/
structure Mirror (bb nn : Nat) (D E : DK) : Prop where
  dc : Calm D
  ec : Calm E
  en : E.now = D.safe
  el : E.log = []
  lok : LogOk bb nn D
  small : LogSmall D
theorem mirror_act {b n : Nat} {D E : DK} (h : Mirror b n D E) (hd : DOk b n D) (a : ActV) (ha : 1 ≤ a.kind ∧ a.kind ≤ 7) (hz : a.a.size ≤ 1048576 ∧ a.b.size ≤ 1048576) :
    (a.kind ≠ 7 → Mirror b n (actD b n D a).2 E) ∧ (a.kind = 7 → Mirror b n (actD b n D a).2 (actD b n D a).2) ∧ (actD b n D a).2.steps = D.steps + 1 := by
  have hl := log_act hd h.lok a ha
  have hs := small_act (b := b) (n := n) h.small a ha hz
  by_cases h7 : a.kind = 7
  · rw [act_sync h7] at hl hs ⊢
    rw [sync_free h.dc.on h.dc.downs (by rw [h.dc.fails]; omega)] at hl hs ⊢
    exact ⟨fun h => absurd h7 h, fun _ => ⟨⟨h.dc.on, h.dc.downs, h.dc.fails⟩, ⟨h.dc.on, h.dc.downs, h.dc.fails⟩, rfl, rfl, hl, hs⟩, rfl⟩
  · rw [act_op (by omega)] at hl hs ⊢
    rw [do_free _ h.dc.on h.dc.downs (by rw [h.dc.fails]; omega)] at hl hs ⊢
    refine ⟨fun _ => ?_, fun h => absurd h h7, ?_⟩
    · split
      · rename_i h0
        rw [if_pos h0] at hl hs
        exact ⟨⟨h.dc.on, h.dc.downs, h.dc.fails⟩, h.ec, h.en, h.el, hl, hs⟩
      · rename_i h0
        rw [if_neg h0] at hl hs
        exact ⟨⟨h.dc.on, h.dc.downs, h.dc.fails⟩, h.ec, h.en, h.el, hl, hs⟩
    · split <;> rfl
theorem Twain.clone {w W : World} {K Q K2 : List Nat} {d b n : Nat} {D : DK} (h : DiskS w W K Q d b n D) (hK : ∀ i ∈ K2, W.heap.size ≤ i) : Twain K Q K2 Q := by
  refine ⟨fun i hi hk => by have := h.klt i hi; have := hK i hk; omega, fun i hi hk => ?_⟩
  rcases hi with hi | hi
  · have := h.klt i (.inl hk); have := hK i hi; omega
  · obtain ⟨_, _, _, _, _, _, _, _, hD⟩ := h
    exact (hD.q i hi).2 hk
set_option maxRecDepth 100000 in
set_option maxHeartbeats 32000000 in
theorem replays_ok (bb nn : Nat) (sp : Option Addr) (n cap : Nat) (O : Nat → ActV) (w : World) (hO : ActsAt w sp n O) (hn : n ≤ 1048576) (hm : MaxLenAt w) (hbb : bb ≤ 2147483647) (hnn : nn ≤ 65536) :
    Calls Tryz.prog 3 #[.agg #[.int .i64 (bb : Int), .int .i64 (nn : Int), .slice sp n cap]] w fun e w' => e = .returned (.bool true) ∧ Chg [] w w' := by
  obtain ⟨w0, hw0⟩ : ∃ W, w.alloc (.cells #[.int .i64 (bb : Int), .int .i64 (nn : Int), .slice sp n cap] 24) = W := ⟨_, rfl⟩
  have HC0 := Asd.mk (show Chg [] w w0 by rw [← hw0]; exact (Chg.refl _ _).alloc _)
  obtain ⟨B0, hB0⟩ : ∃ B0, w.heap.size = B0 := ⟨_, rfl⟩
  have hB : w0.heap[B0]? = some (.cells #[.int .i64 (bb : Int), .int .i64 (nn : Int), .slice sp n cap] 24 (0, 0)) := by rw [← hw0, ← hB0]; exact hp_new _ _
  have HB := Asd.mk hB
  have HM := Asd.mk (hm.chg HC0.out)
  have HO := Asd.mk (hO.chg HC0.out)
  have H0 := Asd.mk (dnew_ok bb nn w0 w0 (Chg.refl _ _) hbb hnn)
  have b0 := cell_of_heap hB 0
  have b1 := cell_of_heap hB 1
  clear hm hO hB
  (go_enter Tryz.func3, Tryz.ntmps3)
  go_upto_region 1 with fail
  (try rw [hw0])
  (try rw [hB0])
  clear hw0 hB0
  go_wp2_with fail
  refine H0.out.mono ?_
  rintro e w1 ⟨d, K0, rfl, hS, hC1, hKd⟩
  have HS1 := Asd.mk hS
  have H1 := Asd.mk (dclone_calls w0 w1 K0 [] d bb nn newD hS HM.out (by decide))
  clear hS hC1 hKd b0 b1 H0
  go_wp2_with fail
  refine H1.out.mono ?_
  rintro e w2 ⟨k, Kk, rfl, hSk, hC, hKk⟩
  have HS2 := Asd.mk (HS1.out.chg0 hC)
  have HE2 := Asd.mk hSk
  have HT2 := Asd.mk (Twain.clone HS1.out hKk)
  clear hSk hC hKk H1 HS1
  go_wp2_with fail
  go_loopg [5, 6] 42 (fun gk v5 v6 wx => ∃ (i kd : Nat) (D E : DK) (Kd Qd Kk Qk : List Nat), i ≤ 40 ∧ gk = 42 - i ∧ v5 = (.pointer (some ⟨kd, 0, none⟩)) ∧ v6 = .int .i64 (i : Int) ∧ Asd (DiskS w0 wx Kd Qd d bb nn D) ∧ Asd (DiskS w0 wx Kk Qk kd bb nn E) ∧ Asd (Twain Kd Qd Kk Qk) ∧ Asd (Mirror bb nn D E) ∧ Asd (D.steps ≤ i ∧ D.log.length ≤ i ∧ E.steps ≤ i))
  case atStart => exact ⟨0, k, newD, newD, K0, [], Kk, [], by omega, rfl, rfl, rfl, HS2, HE2, HT2, ⟨⟨rfl, rfl, rfl⟩, ⟨rfl, rfl, rfl⟩, rfl, rfl, fun _ => runs_nil _ _ _, fun o ho => by cases ho⟩, ⟨Nat.le_refl _, Nat.le_refl _, Nat.le_refl _⟩⟩
  case round =>
    obtain ⟨i, kd, D, E, Kd, Qd, Kk, Qk, hi, rfl, rfl, rfl, HS, HEs, HT, HMi, HP⟩ := hrel
    have hBr := HS.out.1.heap HB.out (by simp)
    have b2 := cell_of_heap hBr 2
    clear hBr
    go_upto_region 6 with fail
    go_cut [44] from 36 to 44 (fun v44 wx => wr = wx ∧ ∃ c : Bool, v44 = .bool c ∧ Asd (c = true → i < n ∧ i < 40))
    case first =>
      by_cases h1 : i < n
      · have k1 : (i : Int) < (n : Int) := by omega
        by_cases h2 : i < 40
        · have k2 : (i : Int) < 40 := by omega
          go_wp2
          go_meet
          case rel => exact ⟨rfl, true, rfl, ⟨fun _ => ⟨h1, h2⟩⟩⟩
        · have k2 : ¬ (i : Int) < 40 := by omega
          go_wp2
          go_meet
          case rel => exact ⟨rfl, false, rfl, ⟨fun h => by cases h⟩⟩
      · have k1 : ¬ (i : Int) < (n : Int) := by omega
        go_wp2
        go_meet
        case rel => exact ⟨rfl, false, rfl, ⟨fun h => by cases h⟩⟩
    case rest =>
      obtain ⟨rfl, t, rfl, HRc⟩ := hcut
      cases t with
      | true =>
        obtain ⟨hin, hi40⟩ := HRc.out rfl
        obtain ⟨a, rfl, hAct, z1, z2⟩ := (HO.out.chg HS.out.1) i hin
        obtain ⟨⟨kk, aa, az, an, ak⟩, hOi⟩ : ∃ x, O i = x := ⟨_, rfl⟩
        rw [hOi] at hAct z1 z2
        have HA := Asd.mk hAct
        have HZ := Asd.mk (show aa.size ≤ 1048576 ∧ az.size ≤ 1048576 from ⟨z1, z2⟩)
        have k1 : (i : Int) < (n : Int) := by omega
        clear hAct z1 z2 hOi HRc
        go_upto_region 9 with (refine wpList_load_act rfl (.tmp 50) rfl (a.add (i * 5)) rfl ⟨kk, aa, az, an, ak⟩ HA.out ?_)
        refine wp_opaque2 (fun V hV => ?_)
        have HCV := Asd.mk (show Chg [] wr V by rw [hV]; exact (Chg.refl _ _).alloc _)
        have hBV : V.heap[wr.heap.size]? = some (.cells #[.int .i64 kk, .string aa, .string az, .int .i64 an, .int .i64 ak] 33 (0, 0)) := by rw [hV]; exact hp_new _ _
        obtain ⟨B, hBq⟩ : ∃ B, wr.heap.size = B := ⟨_, rfl⟩
        rw [hBq] at hBV ⊢
        have HBV := Asd.mk hBV
        have e0 := cell_of_heap hBV 0
        have HBd := Asd.mk (show B ∉ Kd from fun h => by have := HS.out.klt B (.inl h); omega)
        have HSV := Asd.mk (HS.out.chg0 HCV.out)
        have HEV := Asd.mk (HEs.out.chg0 HCV.out)
        clear hV hBV hBq HS HEs HA b2
        go_cut [59] from 52 to 59 (fun v59 wx => V = wx ∧ ∃ c : Bool, v59 = .bool c ∧ Asd (c = false → 1 ≤ kk ∧ kk ≤ 7))
        case first =>
          by_cases h1 : kk < 1
          · have t1 : decide (kk < 1) = true := decide_eq_true h1
            go_wp2
            go_meet
            case rel => exact ⟨rfl, true, rfl, ⟨fun h => by cases h⟩⟩
          · have t1 : decide (kk < 1) = false := decide_eq_false h1
            by_cases h2 : 7 < kk
            · have t2 : decide (7 < kk) = true := decide_eq_true h2
              go_wp2
              go_meet
              case rel => exact ⟨rfl, true, rfl, ⟨fun h => by cases h⟩⟩
            · have t2 : decide (7 < kk) = false := decide_eq_false h2
              go_wp2
              go_meet
              case rel => exact ⟨rfl, false, rfl, ⟨fun _ => ⟨by omega, by omega⟩⟩⟩
        case rest =>
          obtain ⟨rfl, t, rfl, HKd⟩ := hcut
          cases t with
          | true =>
            clear HKd
            go_wp2_with fail
            go_roundg (42 - (i + 1))
            case rel => exact ⟨i + 1, kd, D, E, Kd, Qd, Kk, Qk, by omega, rfl, rfl, by go_num, HSV, HEV, HT, HMi, ⟨by have := HP.out; omega⟩⟩
            case measure => omega
          | false =>
            have HKk := Asd.mk (HKd.out rfl)
            have HD := Asd.mk (did_calls w0 V Kd Qd d bb nn D kk aa az an ak HSV.out HM.out (Nat.le_trans HZ.out.1 (by decide)) (Nat.le_trans HZ.out.2 (by decide)) (by have := HP.out; omega) (by have := HP.out; omega))
            have HAB := Asd.mk (act_block (o := ⟨kk, aa, az, an, ak⟩) HBV.out)
            have hma := mirror_act (b := bb) (n := nn) HMi.out HSV.out.2.2.1 ⟨kk, aa, az, an, ak⟩ HKk.out HZ.out
            have hla := actD_log bb nn D ⟨kk, aa, az, an, ak⟩
            obtain ⟨R, hR⟩ : ∃ R, actD bb nn D ⟨kk, aa, az, an, ak⟩ = R := ⟨_, rfl⟩
            rw [hR] at HD hma hla
            have HMa := Asd.mk hma
            have HPn := Asd.mk (show R.2.steps ≤ i + 1 ∧ R.2.log.length ≤ i + 1 from by have := HP.out; have := hma.2.2; omega)
            clear HKd hR hma hla
            go_wp2_with (refine wpList_load_act rfl (.tmp 7) rfl ⟨B, 0, none⟩ rfl ⟨kk, aa, az, an, ak⟩ HAB.out ?_)
            refine HD.out.mono ?_
            rintro e w4 ⟨he, Kd4, Qd4, hS, hC4, hK4, hQ4⟩
            obtain ⟨ev, hev⟩ : ∃ ev, errV R.1 = ev := ⟨_, rfl⟩
            rw [hev] at he
            subst he
            obtain ⟨hTw, hE4⟩ := HT.out.left HEV.out hK4 hQ4 hC4 HSV.out.2.1
            have HS4 := Asd.mk hS
            have HE4 := Asd.mk hE4
            have HT4 := Asd.mk hTw
            have hA4 := hC4.heap HBV.out HBd.out
            have e0 := cell_of_heap hA4 0
            clear hS hC4 hK4 hQ4 hE4 hTw hev HD HSV HEV HT HAB hA4
            by_cases h7 : kk = 7
            · have t1 : (kk == 7) = true := by rw [h7]; rfl
              have H5 := Asd.mk (dclone_calls w0 w4 Kd4 Qd4 d bb nn R.2 HS4.out HM.out (by have := HPn.out; omega))
              go_wp2_with fail
              refine H5.out.mono ?_
              rintro e w5 ⟨k5, Kk5, rfl, hSk, hC, hKk⟩
              have HS5 := Asd.mk (HS4.out.chg0 hC)
              have HE5 := Asd.mk hSk
              have HT5 := Asd.mk (Twain.clone HS4.out hKk)
              clear hSk hC hKk H5 HS4 HE4 HT4 e0
              go_wp2_with fail
              go_roundg (42 - (i + 1))
              case rel => exact ⟨i + 1, k5, R.2, R.2, Kd4, Qd4, Kk5, Qd4, by omega, rfl, rfl, by go_num, HS5, HE5, HT5, ⟨HMa.out.2.1 h7⟩, ⟨by have := HPn.out; omega⟩⟩
              case measure => omega
            · have t1 : (kk == 7) = false := by simp only [beq_eq_false_iff_ne, ne_eq]; omega
              go_wp2_with fail
              go_roundg (42 - (i + 1))
              case rel => exact ⟨i + 1, kd, R.2, E, Kd4, Qd4, Kk, Qk, by omega, rfl, rfl, by go_num, HS4, HE4, HT4, ⟨HMa.out.1 h7⟩, ⟨by have := HPn.out; have := HP.out; omega⟩⟩
              case measure => omega
      | false =>
        have hll : D.log.length ≤ 1000000 := by have := HP.out; omega
        have HLg := Asd.mk (dlog_on w0 wr Kd Qd d bb nn D HS.out HMi.out.dc.on hll)
        obtain ⟨ml, hml⟩ : ∃ ml, D.log.length = ml := ⟨_, rfl⟩
        have hmb : ml ≤ 40 := by have := HP.out; omega
        have HMl := Asd.mk hml
        clear b2 HRc hll hml
        go_wp2_with fail
        refine HLg.out.mono ?_
        rintro e w4 ⟨⟨v, rfl, hv⟩, hC⟩
        obtain ⟨A, cp, rfl, _⟩ := own_form hv
        have HS4 := Asd.mk (HS.out.chg0 hC)
        have HE4 := Asd.mk (HEs.out.chg0 hC)
        have HV4 := Asd.mk hv
        have HKn := Asd.mk (show ∀ g, (Value.slice A (D.log.map toldO).length cp).ownBlock = some g → g ∉ Kk from fun g hg hi => by
          have h1 := HEs.out.klt g (.inl hi)
          have := (own_block hv hg).1
          omega)
        have hrp := replay_told w0 w4 Kk Qk kd bb nn E A cp D.log HE4.out HM.out HMi.out.ec.on HMi.out.ec.downs HMi.out.ec.fails (by have := HP.out; omega) (by rw [HMi.out.el]; decide) (by have := HP.out; omega) HMi.out.small (by rw [HMi.out.en]; exact HMi.out.lok HMi.out.dc.on) (fun X hX => by
          have := strL_of_own (own_off HV4.out hX HKn.out)
          rw [List.length_map] at this
          exact this)
        rw [HMl.out] at hrp
        have HRp := Asd.mk hrp
        have hml2 : (D.log.map toldO).length = ml := by rw [List.length_map, HMl.out]
        rw [hml2]
        have HML := Asd.mk hml2
        clear hv hC HLg hrp hml2 HS HEs
        go_wp2_with fail
        refine HRp.out.mono ?_
        rintro e w5 ⟨rfl, E5, K5, Q5, hS5, hoff5, hnow5, hlog5, hC5, hK5, hQ5⟩
        obtain ⟨hTw, hD5⟩ := HT.out.symm.left HS4.out hK5 hQ5 hC5 HE4.out.2.1
        have HS5 := Asd.mk hD5
        have HE5 := Asd.mk hS5
        have HV5 := Asd.mk (own_off HV4.out hC5 HKn.out)
        have HX5 := Asd.mk (show E5.off = false ∧ E5.now = runAll bb nn D.safe D.log ∧ E5.log = D.log from ⟨hoff5, by rw [hnow5, HMi.out.en], by rw [hlog5, HMi.out.el, List.nil_append]⟩)
        have H6 := Asd.mk (dtree_on HS5.out HM.out HMi.out.dc.on)
        clear hTw hD5 hS5 hoff5 hnow5 hlog5 hC5 hK5 hQ5 HRp HS4 HE4 HV4 HT
        go_wp2_with fail
        refine H6.out.mono ?_
        rintro e w6 ⟨⟨v6, rfl, hv6⟩, hC⟩
        have HS6 := Asd.mk (HS5.out.chg0 hC)
        have HE6 := Asd.mk (HE5.out.chg0 hC)
        have HV6 := Asd.mk (own_off HV5.out hC (fun _ _ => by simp))
        have HR6 := Asd.mk hv6
        have H7 := Asd.mk (dtree_on HE6.out HM.out HX5.out.1)
        clear hv6 hC H6 HS5 HE5 HV5
        go_wp2_with fail
        refine H7.out.mono ?_
        rintro e w7 ⟨⟨v7, rfl, hv7⟩, hC⟩
        have HS7 := Asd.mk (HS6.out.chg0 hC)
        have HE7 := Asd.mk (HE6.out.chg0 hC)
        have HV7 := Asd.mk (own_off HV6.out hC (fun _ _ => by simp))
        have HR7 := Asd.mk (own_off HR6.out hC (fun _ _ => by simp))
        have HQ7 := Asd.mk (show RowE w7 w6.heap.size v7 (treeF D.now []) by
          have e : treeF E5.now [] = treeF D.now [] := by
            rw [HX5.out.2.1]
            exact (HS6.out.2.2.1.led HMi.out.dc.on).tree
          rw [← e]
          exact hv7)
        have hu := dunsafe_calls HS7.out
        rw [HMl.out] at hu
        have H8 := Asd.mk hu
        clear hv7 hC H7 HS6 HE6 HV6 HR6 hu
        go_wp2_with fail
        refine H8.out.mono ?_
        rintro e w8 ⟨rfl, rfl⟩
        have hsm := sameEntries_calls (treeF D.now []) (treeF D.now []) v6 v7 w8 (entL_of_own HR7.out) (entL_of_own HQ7.out) (tree_small HS7.out) (tree_small HS7.out)
        rw [decide_eq_true (rfl : treeF D.now [] = treeF D.now [])] at hsm
        have H9 := Asd.mk hsm
        clear H8 hsm
        go_wp2_with fail
        refine H9.out.mono ?_
        rintro e w9 ⟨rfl, hC⟩
        have HE9 := Asd.mk (HE7.out.chg0 hC)
        have HV9 := Asd.mk (own_off HV7.out hC (fun _ _ => by simp))
        have hlg := dlog_on w0 w9 K5 Q5 kd bb nn E5 HE9.out HX5.out.1 (by rw [HX5.out.2.2]; have := HP.out; omega)
        rw [HX5.out.2.2] at hlg
        have H10 := Asd.mk hlg
        clear hC H9 HS7 HE7 HV7 HR7 HQ7 hlg
        go_wp2_with fail
        refine H10.out.mono ?_
        rintro e w10 ⟨⟨v10, rfl, hv10⟩, hC⟩
        have HC10 := Asd.mk (HE9.out.1.trans hC)
        have hnm := sameTexts_calls (D.log.map toldO) (D.log.map toldO) v10 (.slice A ml cp) w10 (strL_of_own hv10) (by
          have := strL_of_own (own_off HV9.out hC (fun _ _ => by simp))
          rw [HML.out] at this
          exact this) (by rw [HML.out]; omega) (by rw [HML.out]; omega)
        rw [decide_eq_true (rfl : D.log.map toldO = D.log.map toldO)] at hnm
        have H11 := Asd.mk hnm
        clear hv10 hC H10 HE9 HV9 hnm
        go_wp2_with fail
        refine H11.out.mono ?_
        rintro e w11 ⟨rfl, hC⟩
        have HC11 := Asd.mk (HC10.out.trans hC)
        clear hC H11
        go_wp2_with fail
        refine (logged_calls w11 (HM.out.chg HC11.out)).mono ?_
        rintro e w12 ⟨rfl, hC⟩
        have HC12 := Asd.mk (HC11.out.trans hC)
        clear hC
        go_wp2
        go_ret
        exact ⟨rfl, HC0.out.trans HC12.out⟩
/-- DiskReplays, of all cases. -/
theorem diskreplays_calls (bb nn : Int) (sp : Option Addr) (n cap : Nat) (O : Nat → ActV) (w : World) (hO : ActsAt w sp n O) (hn : n ≤ 1048576) (hm : MaxLenAt w) :
    Calls Tryz.prog 3 #[.agg #[.int .i64 bb, .int .i64 nn, .slice sp n cap]] w fun e w' => e = .returned (.bool true) ∧ Chg [] w w' := by
  by_cases hb : bb < 0 ∨ 2147483647 < bb ∨ nn < 0 ∨ 65536 < nn
  · exact replays_bad bb nn sp n cap w hm hb
  · obtain ⟨b, rfl⟩ : ∃ b : Nat, bb = (b : Int) := ⟨bb.toNat, by omega⟩
    obtain ⟨k, rfl⟩ : ∃ k : Nat, nn = (k : Int) := ⟨nn.toNat, by omega⟩
    exact replays_ok b k sp n cap O w hO hn hm (by omega) (by omega)
end Go.Proofs.YthojofeocjmglaaGreatDoor.I
