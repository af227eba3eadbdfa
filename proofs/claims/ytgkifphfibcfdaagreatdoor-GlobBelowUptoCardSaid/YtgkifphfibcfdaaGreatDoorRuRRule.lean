/- The reference's rule: the walk. -/
import Derived.Test.YtgkifphfibcfdaaGreatDoorRu6
import Derived.Test.YtgkifphfibcfdaaGreatDoorRuRComp
import Derived.Test.YtgkifphfibcfdaaGreatDoorRuRMatch
namespace Go.Proofs.YtgkifphfibcfdaaGreatDoor.G
open Go.RowKit Go.Proofs.YtgkifphfibcfdaaGreatDoor.B
set_option linter.unusedVariables false
theorem size93 (a b c : Bool) (A : Option Addr) (n m : Nat) : (Tryz.prog.info? 93).map (·.size) = some (#[Value.bool a, .bool b, .bool c, .slice A n m]).size := by kernel_rfl
theorem one93 (a b c : Bool) (A : Option Addr) (n m : Nat) : (#[Value.bool a, .bool b, .bool c, .slice A n m]).all (·.oneCell') = true := by kernel_rfl
theorem isBack_yes {s : ByteArray} (h : 0 < s.size) (e : bn s 0 = 33) : isBack s = true := by unfold isBack; exact decide_eq_true ⟨h, e⟩
theorem isBack_no {s : ByteArray} (e : bn s 0 ≠ 33) : isBack s = false := by unfold isBack; exact decide_eq_false (fun h => e h.2)
theorem isDir_yes {s : ByteArray} (h : 0 < s.size) (e : bn s (s.size - 1) = 47) : isDir s = true := by unfold isDir; exact decide_eq_true ⟨h, e⟩
theorem isDir_no {s : ByteArray} (e : bn s (s.size - 1) ≠ 47) : isDir s = false := by unfold isDir; exact decide_eq_false (fun h => e h.2)
theorem isDir_nil {s : ByteArray} (h : ¬ 0 < s.size) : isDir s = false := by unfold isDir; exact decide_eq_false (fun h' => h h'.1)
theorem cutBack_le (s : ByteArray) : (cutBack s).size ≤ s.size := by
  unfold cutBack
  split
  · rw [ByteArray.size_extract]; omega
  · omega
theorem cutDir_le (s : ByteArray) : (cutDir s).size ≤ s.size := by
  unfold cutDir
  split
  · rw [ByteArray.size_extract]; omega
  · omega
theorem isEmpty_no {s : ByteArray} (hz : 0 < s.size) : s.toList.isEmpty = false := by
  cases hh : s.toList with
  | nil => have := nonempty_list hz; rw [hh] at this; cases this
  | cons b l => rfl
theorem isEmpty_yes {s : ByteArray} (hz : ¬ 0 < s.size) : s.toList.isEmpty = true := by rw [empty_bytes hz, ByteArray.toList_eq]; rfl
theorem star2 {p : ByteArray} : (p.toList == [42, 42]) = true ↔ p = ⟨#[42, 42]⟩ := by
  have e : (⟨#[42, 42]⟩ : ByteArray).toList = [42, 42] := by rw [ByteArray.toList_eq]
  constructor
  · intro h
    exact eq_of_toList (by rw [e]; exact h)
  · rintro rfl
    rw [e]; rfl
set_option maxRecDepth 100000 in
set_option maxHeartbeats 16000000 in
theorem rrule_calls (s : ByteArray) (w : World) (hs : s.size ≤ 1048576) (h0 : 0 < s.size) :
    Calls Tryz.prog 39 #[.string s] w fun e w' => RRulePost w (ruleF s) e w' := by
  have hs1 := cutBack_le s
  have hs2 := cutDir_le (cutBack s)
  go_enter Tryz.func39, Tryz.ntmps39
  go_upto_region 2 with fail
  refine wp_opaque2 (fun W hW => ?_)
  have HC := Asd.mk (show Chg [] w W by rw [hW]; exact ((Chg.refl _ _).alloc _).alloc _)
  have HR0 := Asd.mk (show RRuleAt W w.heap.size false false false (.slice none 0 0) by rw [hW]; exact hp_alloc (hp_new _ _) _)
  have HR1 := Asd.mk (show RRuleAt W (w.heap.size + 1) false false false (.slice none 0 0) by
    rw [hW]
    have h := hp_new (w.alloc (.cells #[.bool false, .bool false, .bool false, .slice none 0 0] 93)) (.cells #[.bool false, .bool false, .bool false, .slice none 0 0] 93)
    rw [World.size_alloc] at h
    exact h)
  clear hW
  go_cut [12] from 10 to 12 (fun v12 wx => W = wx ∧ v12 = .bool (isBack s))
  case first =>
    have b0 : bn s 0 = s[0].toNat := by unfold bn; rw [dif_pos h0]
    by_cases h33 : bn s 0 = 33
    · have t1 : (((s[0].toNat : Nat) : Int) == 33) = true := by rw [← b0, h33]; rfl
      have HV := Asd.mk (isBack_yes h0 h33)
      clear b0 h33
      go_wp2
      go_meet
      case rel => exact ⟨rfl, by rw [HV.out]⟩
    · have t1 : (((s[0].toNat : Nat) : Int) == 33) = false := by rw [← b0]; simp; omega
      have HV := Asd.mk (isBack_no h33)
      clear b0 h33
      go_wp2
      go_meet
      case rel => exact ⟨rfl, by rw [HV.out]⟩
  case rest =>
  obtain ⟨rfl, rfl⟩ := hcut
  obtain ⟨bk, hbk⟩ : ∃ bk, isBack s = bk := ⟨_, rfl⟩
  rw [hbk]
  have HBK := Asd.mk hbk
  clear hbk
  go_upto_if 12 with fail
  go_cut [0] from 13 to 15 (fun v0 wx => v0 = .string (cutBack s) ∧ Asd (Chg [] w wx) ∧ Asd (RRuleAt wx w.heap.size false false false (.slice none 0 0)) ∧ Asd (RRuleAt wx (w.heap.size + 1) bk false false (.slice none 0 0)))
  case first =>
    cases bk with
    | true =>
      have HV := Asd.mk (show cutBack s = s.extract 1 s.size by unfold cutBack; rw [HBK.out, if_pos rfl])
      have pc := cell_of_heap HR1.out 0
      have pf := frozen_of_heap HR1.out 0
      have k1 : (1 : Int) ≤ (s.size : Int) := by omega
      go_wp2
      go_meet
      case rel => exact ⟨by rw [HV.out], ⟨HC.out.setCell (by simp) _⟩, ⟨hp_set_other HR0.out (by omega) _ _⟩, ⟨hp_set HR1.out 0 _⟩⟩
    | false =>
      have HV := Asd.mk (show cutBack s = s by unfold cutBack; rw [HBK.out, if_neg (by decide)])
      go_wp2
      go_meet
      case rel => exact ⟨by rw [HV.out], HC, HR0, HR1⟩
  case rest =>
  clear HC HR0 HR1
  obtain ⟨rfl, HC, HR0, HR1⟩ := hcut
  obtain ⟨S1, hS1⟩ : ∃ S, cutBack s = S := ⟨_, rfl⟩
  rw [hS1] at hs1 hs2 ⊢
  have HS1 := Asd.mk hS1
  clear hS1
  go_upto_region 5 with fail
  go_cut [25] from 16 to 25 (fun v25 wx => wc = wx ∧ v25 = .bool (isDir S1))
  case first =>
    by_cases hz : 0 < S1.size
    · obtain ⟨n, hn⟩ : ∃ n, S1.size = n + 1 := ⟨S1.size - 1, by omega⟩
      have hlt : n < S1.size := by omega
      have te := isEmpty_no hz
      have b0 : bn S1 n = S1[n].toNat := by unfold bn; rw [dif_pos hlt]
      by_cases h47 : bn S1 n = 47
      · have t1 : (((S1[n].toNat : Nat) : Int) == 47) = true := by rw [← b0, h47]; rfl
        have HV := Asd.mk (isDir_yes hz (by rw [hn]; exact h47))
        clear b0 h47
        go_wp2
        go_meet
        case rel => exact ⟨rfl, by rw [HV.out]⟩
      · have t1 : (((S1[n].toNat : Nat) : Int) == 47) = false := by rw [← b0]; simp; omega
        have HV := Asd.mk (isDir_no (s := S1) (by rw [hn]; exact h47))
        clear b0 h47
        go_wp2
        go_meet
        case rel => exact ⟨rfl, by rw [HV.out]⟩
    · have te := isEmpty_yes hz
      have HV := Asd.mk (isDir_nil hz)
      go_wp2
      go_meet
      case rel => exact ⟨rfl, by rw [HV.out]⟩
  case rest =>
  obtain ⟨rfl, rfl⟩ := hcut
  obtain ⟨dr, hdr⟩ : ∃ dr, isDir S1 = dr := ⟨_, rfl⟩
  rw [hdr]
  have HDR := Asd.mk hdr
  clear hdr
  go_upto_if 25 with fail
  go_cut [0] from 26 to 31 (fun v0 wx => v0 = .string (cutDir S1) ∧ Asd (Chg [] w wx) ∧ Asd (RRuleAt wx w.heap.size false false false (.slice none 0 0)) ∧ Asd (RRuleAt wx (w.heap.size + 1) bk dr false (.slice none 0 0)))
  case first =>
    cases dr with
    | true =>
      have HV := Asd.mk (show cutDir S1 = S1.extract 0 (S1.size - 1) by unfold cutDir; rw [HDR.out, if_pos rfl])
      have hz : 0 < S1.size := by
        have := HDR.out
        unfold isDir at this
        exact (of_decide_eq_true this).1
      obtain ⟨n, hn⟩ : ∃ n, S1.size = n + 1 := ⟨S1.size - 1, by omega⟩
      have pc := cell_of_heap HR1.out 1
      have pf := frozen_of_heap HR1.out 1
      obtain ⟨p, hp⟩ : ∃ p, S1.extract 0 n = p := ⟨_, rfl⟩
      have HV2 := Asd.mk (show cutDir S1 = p by rw [HV.out, hn]; exact hp)
      have HVP := Asd.mk (show p.size = n by rw [← hp, ByteArray.size_extract]; omega)
      clear HV
      by_cases hn0 : 0 < n
      · go_wp2
        go_meet
        case rel => exact ⟨by rw [HV2.out, ← hp], ⟨HC.out.setCell (by simp) _⟩, ⟨hp_set_other HR0.out (by omega) _ _⟩, ⟨hp_set HR1.out 1 _⟩⟩
      · obtain rfl : n = 0 := by omega
        have HVE := Asd.mk (show p = ByteArray.empty from empty_bytes (s := p) (by have := HVP.out; omega))
        go_wp2
        go_meet
        case rel => exact ⟨by rw [HV2.out, HVE.out], ⟨HC.out.setCell (by simp) _⟩, ⟨hp_set_other HR0.out (by omega) _ _⟩, ⟨hp_set HR1.out 1 _⟩⟩
    | false =>
      have HV := Asd.mk (show cutDir S1 = S1 by unfold cutDir; rw [HDR.out, if_neg (by decide)])
      go_wp2
      go_meet
      case rel => exact ⟨by rw [HV.out], HC, HR0, HR1⟩
  case rest =>
  clear HC HR0 HR1
  obtain ⟨rfl, HC, HR0, HR1⟩ := hcut
  obtain ⟨S, hS⟩ : ∃ S, cutDir S1 = S := ⟨_, rfl⟩
  rw [hS] at hs2 ⊢
  have HRF := Asd.mk (show ruleF s = if S.size = 0 then .error 40 else match piecesF (rootedF S) (unroot (spl 47 S)) with | .ok l => .ok ⟨bk, dr, rootedF S, l⟩ | .error e => .error e by
    unfold ruleF
    rw [HS1.out, hS, HBK.out, HDR.out]
    rfl)
  clear hS HS1 HBK HDR
  by_cases hz : 0 < S.size
  · have te := isEmpty_no hz
    have HQ := Asd.mk (show ruleF s = match piecesF (rootedF S) (unroot (spl 47 S)) with | .ok l => .ok ⟨bk, dr, rootedF S, l⟩ | .error e => .error e by rw [HRF.out, if_neg (by omega)])
    clear HRF
    go_wp2_with fail
    refine (rcut_calls S _ (by omega)).mono ?_
    rintro e w1 ⟨v5, rfl, hC1, hO1⟩
    have hsl := spl_len 47 S
    obtain ⟨g, c5, rfl, hc5, hg5, hS5⟩ := strR_of_own hO1 hsl.1
    have HC1 := Asd.mk (HC.out.trans hC1)
    have HR0' := Asd.mk (show RRuleAt w1 w.heap.size false false false (.slice none 0 0) from hC1.heap HR0.out (by simp))
    have HR1' := Asd.mk (show RRuleAt w1 (w.heap.size + 1) bk dr false (.slice none 0 0) from hC1.heap HR1.out (by simp))
    have HS5 := Asd.mk hS5
    have hgb : w.heap.size + 1 < g := by
      have := lt_of_heap HR1.out
      omega
    clear hC1 hO1 hS5 HC HR0 HR1
    obtain ⟨l0, hl0⟩ : ∃ l0, spl 47 S = l0 := ⟨_, rfl⟩
    have HL0 := Asd.mk (show ∀ p ∈ l0, p.size ≤ S.size from fun p hp => spl_size (by rw [hl0]; exact hp))
    obtain ⟨rt, hrt⟩ : ∃ rt, rootedF S = rt := ⟨_, rfl⟩
    have hrd : decide (1 < (l0.length : Int)) = rt := by
      rw [← hrt, ← hl0]
      unfold rootedF
      exact decide_eq_decide.2 (by omega)
    rw [hl0] at hsl hc5 HS5 HQ ⊢
    rw [hrt] at HQ
    have HQ2 := Asd.mk HQ.out
    have HRT := Asd.mk (show rt = decide (1 < l0.length) by rw [← hrd]; exact decide_eq_decide.2 (by omega))
    have pc := cell_of_heap HR1'.out 2
    have pf := frozen_of_heap HR1'.out 2
    clear hl0 hrt HQ
    go_upto_region 12 with fail
    refine wp_opaque2 (fun W hW => ?_)
    have HC2 := Asd.mk (show Chg [] w W by rw [hW]; exact HC1.out.setCell (by simp) _)
    have HR02 := Asd.mk (show RRuleAt W w.heap.size false false false (.slice none 0 0) by rw [hW]; exact hp_set_other HR0'.out (by omega) _ _)
    have HR12 := Asd.mk (show RRuleAt W (w.heap.size + 1) bk dr rt (.slice none 0 0) by rw [hW]; exact hp_set HR1'.out 2 _)
    have HS52 := Asd.mk (show StrR W g 0 l0 by rw [hW]; obtain ⟨cs, q1, q2⟩ := HS5.out; exact ⟨cs, hp_set_other q1 (by omega) _ _, q2⟩)
    clear hW HC1 HR0' HR1' HS5 pc pf hrd
    go_cut [48] from 41 to 48 (fun v48 wx => W = wx ∧ ∃ cc : Bool, v48 = .bool cc ∧ Asd (unroot l0 = if cc = true then l0.tail else l0) ∧ Asd (cc = true → 1 < l0.length))
    case first =>
      have pc := cell_of_heap HR12.out 2
      have ps : W.cell? ⟨g, 0, none⟩ = some (.string (l0[0]'(by omega))) := HS52.out.cell (i := 0) (by omega)
      obtain ⟨p, r, hpr⟩ : ∃ p r, l0 = p :: r := by
        cases l0 with
        | nil => simp at hsl
        | cons p r => exact ⟨p, r, rfl⟩
      subst hpr
      simp only [List.getElem_cons_zero] at ps
      have k1 : (0 : Int) < ((p :: r).length : Int) := by omega
      cases rt with
      | true =>
        have h1l := of_decide_eq_true HRT.out.symm
        by_cases hpz : 0 < p.size
        · have te := isEmpty_no hpz
          have HV := Asd.mk (show unroot (p :: r) = p :: r by simp only [unroot]; rw [if_neg (by omega)])
          go_wp2
          go_meet
          case rel => exact ⟨rfl, _, rfl, ⟨by rw [HV.out]; rfl⟩, ⟨fun h => by cases h⟩⟩
        · have te := isEmpty_yes hpz
          have HV := Asd.mk (show unroot (p :: r) = r by simp only [unroot]; rw [if_pos ⟨by omega, fun e => by rw [e] at h1l; simp at h1l⟩])
          have HL1 := Asd.mk h1l
          go_wp2
          go_meet
          case rel => exact ⟨rfl, _, rfl, ⟨by rw [HV.out]; rfl⟩, ⟨fun h => HL1.out⟩⟩
      | false =>
        have h1l := of_decide_eq_false HRT.out.symm
        have HV := Asd.mk (show unroot (p :: r) = p :: r by
          simp only [unroot]
          rw [if_neg]
          rintro ⟨_, hr⟩
          cases r with
          | nil => exact hr rfl
          | cons q r => simp at h1l)
        go_wp2
        go_meet
        case rel => exact ⟨rfl, _, rfl, ⟨by rw [HV.out]; rfl⟩, ⟨fun h => by cases h⟩⟩
    case rest =>
    obtain ⟨rfl, cc, rfl, HCC, HCL⟩ := hcut
    obtain ⟨l, hl⟩ : ∃ l, unroot l0 = l := ⟨_, rfl⟩
    have HLS := Asd.mk (show ∀ p ∈ l, p.size ≤ 1048576 from fun p hp => by
      rw [← hl] at hp
      have := HL0.out p (unroot_mem hp)
      omega)
    rw [hl] at HCC HQ2
    go_upto_if 48 with fail
    go_cut [5] from 49 to 50 (fun v5 wx => W = wx ∧ ∃ (o c6 : Nat), v5 = .slice (some ⟨g, o, none⟩) l.length c6 ∧ l.length ≤ c6 ∧ Asd (StrR wx g o l) ∧ l.length ≤ 1048577)
    case first =>
      cases cc with
      | true =>
        have h1l := HCL.out rfl
        have hll := HCC.out
        rw [if_pos rfl] at hll
        have hlen : l.length = l0.length - 1 := by rw [hll, List.length_tail]
        have k1 : (1 : Int) ≤ (l0.length : Int) := by omega
        have k2 : (1 : Int) ≤ (c5 : Int) := by omega
        have HR5 := Asd.mk (show StrR W g 1 l by
          obtain ⟨cs, q1, q2⟩ := HS52.out
          refine ⟨cs, q1, fun i hi => ?_⟩
          have h3 := q2 (i + 1) (by omega)
          rw [Nat.zero_add] at h3
          rw [Nat.add_comm 1 i, h3]
          subst hll
          simp)
        go_wp2
        go_meet
        case rel => exact ⟨rfl, 1, c5 - 1, by rw [hlen], by omega, HR5, by omega⟩
      | false =>
        have hll := HCC.out
        rw [if_neg (by decide)] at hll
        subst hll
        go_wp2
        go_meet
        case rel => exact ⟨rfl, 0, c5, rfl, hc5, HS52, by omega⟩
    case rest =>
    obtain ⟨rfl, o, c6, rfl, hc6, HS6, hlb⟩ := hcut
    clear HCC HCL HS52 hl hsl hc5 hc6
    obtain ⟨RL, hRL⟩ : ∃ RL, piecesF rt l = RL := ⟨_, rfl⟩
    rw [hRL] at HQ2
    have HAcc := Asd.mk (show accF rt [] l = RL by rw [accF_nil]; exact hRL)
    clear hRL
    go_wp2
    go_loopg [6] (l.length + 1) (fun gk v6 wx => ∃ (i : Nat) (Z : List (PieceV × Value)) (A : Option Addr) (c n : Nat), i ≤ l.length ∧ n = Z.length ∧ gk = l.length + 1 - i ∧ v6 = .int .i64 (i : Int) ∧ Z.length ≤ i ∧ Asd (accF rt (Z.map (·.1)) (l.drop i) = RL) ∧ Asd (Chg [] w wx) ∧ Asd (RRuleAt wx w.heap.size false false false (.slice none 0 0)) ∧ Asd (RRuleAt wx (w.heap.size + 1) bk dr rt (.slice A n c)) ∧ Asd (StrR wx g o l) ∧ Asd (wx.ownsRow w.heap.size 143 2 (.slice A n c) n (rcells Z)) ∧ Asd (∀ z ∈ Z, RPieceH wx z))
    case atStart => exact ⟨0, [], none, 0, 0, by omega, rfl, by omega, rfl, by simp, ⟨by rw [List.drop_zero]; exact HAcc.out⟩, HC2, HR02, HR12, HS6, ⟨World.ownsRow_nil _ _ _ _⟩, ⟨fun z hz => by cases hz⟩⟩
    case round =>
      obtain ⟨i, Z, A, c, n, hi, rfl, rfl, rfl, hZ, HA, HC3, HR03, HR13, HS7, HO, HP⟩ := hrel
      have hwz := HC3.out.size
      have hB1 : w.heap.size + 1 < wr.heap.size := lt_of_heap HR13.out
      have hB0 : w.heap.size < wr.heap.size := by omega
      by_cases hlt : i < l.length
      · have hR := HA.out
        obtain ⟨p, hp⟩ : ∃ p, l[i] = p := ⟨_, rfl⟩
        rw [List.drop_eq_getElem_cons hlt, hp] at hR
        have ps : wr.cell? ⟨g, o + i, none⟩ = some (.string p) := by rw [HS7.out.cell hlt, hp]
        have hps : p.size ≤ 1048576 := HLS.out p (by rw [← hp]; exact List.getElem_mem hlt)
        have k1 : (i : Int) < (l.length : Int) := by omega
        by_cases hany : rt = true ∧ p = ⟨#[42, 42]⟩
        · rw [accF_any hany] at hR
          have HQR := Asd.mk hR
          have t1 : (p.toList == [42, 42]) = true := star2.2 hany.2
          have pr : wr.cell? ⟨w.heap.size + 1, 2, none⟩ = some (.bool true) := by
            have := cell_of_heap HR13.out 2
            rw [hany.1] at this
            exact this
          have pc3 := cell_of_heap HR13.out 3
          have HOY := HO
          have HR1Y := HR13
          have HR0Y := HR03
          have HPY := HP
          have HSY := HS7
          clear hR HA hany
          go_wp2_with (first | (refine wpList_build91 rfl true none 0 0 (wr.heap.size) (by simp) (.tmp 68) rfl rfl ?_; simp only [Act.put, List.setIfInBounds_toArray, List.set_cons_zero, List.set_cons_succ]) | (at_builtin; refine wpList_append143 rfl (.tmp 67) (.tmp 69) rfl w.heap.size (.slice A Z.length c) Z rfl (HOY.out.alloc _) none none 0 0 wr.heap.size rfl (hp_new _ _) (by omega) (by simp; omega) ?_; intro v2 w9 hown9 hgrow9; rw [List.length_append, List.length_singleton] at hown9; obtain ⟨A2, c2, hv2⟩ := own_len hown9; subst hv2; have q1 : RRuleAt w9 (w.heap.size + 1) bk dr rt (.slice A Z.length c) := (hgrow9.block _ (lt_of_heap (hp_alloc HR1Y.out _)) (fun e => own_ne HOY.out HR1Y.out (by decide) e.symm)).trans (hp_alloc HR1Y.out _); have q1c := cell_of_heap q1 3; have q1f := frozen_of_heap q1 3; replace q1 := Asd.mk q1; replace hown9 := Asd.mk hown9; replace hgrow9 := Asd.mk hgrow9; simp only [Act.put, List.setIfInBounds_toArray, List.set_cons_zero, List.set_cons_succ]))
          have hk : Keeps [143, 93] wr (w9.setCell ⟨w.heap.size + 1, 3, none⟩ (.slice A2 (Z.length + 1) c2)) := ((Keeps.alloc _ _).trans (Keeps.grown (HOY.out.alloc _) (by simp) hgrow9.out)).trans (Keeps.setCell q1.out (by simp) _ _)
          have q0 : RRuleAt w9 w.heap.size false false false (.slice none 0 0) := (hgrow9.out.block _ (lt_of_heap (hp_alloc HR0Y.out _)) (fun e => own_ne HOY.out HR0Y.out (by decide) e.symm)).trans (hp_alloc HR0Y.out _)
          have HCN := Asd.mk (show Chg [] w (w9.setCell ⟨w.heap.size + 1, 3, none⟩ (.slice A2 (Z.length + 1) c2)) from (Chg.rgrown (HC3.out.alloc _) hgrow9.out (fun g e hk => by have := (HOY.out.lt g e).1; omega)).setCell (by simp) _)
          have HON := Asd.mk (show (w9.setCell ⟨w.heap.size + 1, 3, none⟩ (.slice A2 (Z.length + 1) c2)).ownsRow w.heap.size 143 2 (.slice A2 (Z.length + 1) c2) (Z.length + 1) (rcells (Z ++ [((none, Value.slice none 0 0) : PieceV × Value)])) from own_keeps hown9.out (Keeps.setCell (T := [93]) q1.out (by simp) _ _) (by simp))
          have HPN := Asd.mk (show ∀ z ∈ Z ++ [((none, Value.slice none 0 0) : PieceV × Value)], RPieceH (w9.setCell ⟨w.heap.size + 1, 3, none⟩ (.slice A2 (Z.length + 1) c2)) z from fun z hz => by
            rcases List.mem_append.1 hz with hz | hz
            · exact (HPY.out z hz).keeps hk (by simp)
            · obtain rfl := List.mem_singleton.1 hz
              exact trivial)
          have HSN := Asd.mk (HSY.out.keeps hk (by simp))
          have HR0N := Asd.mk (hp_set_other q0 (show w.heap.size ≠ w.heap.size + 1 by omega) 3 (.slice A2 (Z.length + 1) c2))
          have HR1N := Asd.mk (hp_set q1.out 3 (.slice A2 (Z.length + 1) c2))
          clear q0 hk
          go_roundg (l.length + 1 - (i + 1))
          case rel => exact ⟨i + 1, Z ++ [((none, Value.slice none 0 0) : PieceV × Value)], A2, c2, Z.length + 1, by omega, by simp, by omega, by go_num, by rw [List.length_append]; simp; omega, ⟨by rw [List.map_append]; exact HQR.out⟩, HCN, HR0N, HR1N, HSN, HON, HPN⟩
          case measure => omega
        · have HRest : True := trivial
          have hsel : (p.toList == [42, 42]) = false ∨ ((p.toList == [42, 42]) = true ∧ rt = false) := by
            cases h1 : (p.toList == [42, 42]) with
            | false => exact .inl rfl
            | true =>
              right
              refine ⟨rfl, ?_⟩
              cases rt with
              | false => rfl
              | true => exact absurd ⟨rfl, star2.1 h1⟩ hany
          have pr : wr.cell? ⟨w.heap.size + 1, 2, none⟩ = some (.bool rt) := cell_of_heap HR13.out 2
          go_upto_region 17 with fail
          go_cut [65] from 57 to 65 (fun v65 wx => wr = wx ∧ v65 = .bool false)
          case first =>
            rcases hsel with t1 | ⟨t1, hrt⟩
            · go_wp2
              go_meet
              case rel => exact ⟨rfl, rfl⟩
            · rw [hrt] at pr
              go_wp2
              go_meet
              case rel => exact ⟨rfl, rfl⟩
          case rest =>
          obtain ⟨rfl, rfl⟩ := hcut
          clear hsel pr
          by_cases hlong : 1024 < p.size
          · rw [accF_long hany hlong] at hR
            have HQ3 := Asd.mk (show ruleF s = .error 2 by rw [HQ2.out, ← hR])
            clear hR HA HQ2 hany
            go_wp2_with fail
            refine (rcompile_long p _ hlong (by omega)).mono ?_
            rintro e w7 ⟨rfl, hw7⟩
            have HR0Z := Asd.mk (show RRuleAt w7 w.heap.size false false false (.slice none 0 0) by rw [hw7]; exact HR03.out)
            have HR1Z := Asd.mk (show RRuleAt w7 (w.heap.size + 1) bk dr rt (.slice A Z.length c) by rw [hw7]; exact HR13.out)
            have HC7 := Asd.mk (show Chg [] w w7 by rw [hw7]; exact HC3.out)
            clear hw7
            go_wp2_with (first | (refine wpList_load_row (o := ⟨some 82, _, _, _, _, _⟩) rfl 93 (.tmp 4) rfl (w.heap.size + 1) rfl 93 _ (0, 0) _ (HR1Z.out) Tryz.underlying93 rfl (size93 _ _ _ _ _ _) ?_) | (refine wpList_store_row (o := ⟨none, _, _, _, _, _⟩) rfl 93 (.tmp 2) (.tmp 82) rfl w.heap.size _ rfl rfl 93 _ (HR0Z.out) (size93 _ _ _ _ _ _) rfl (one93 _ _ _ _ _ _) ?_))
            refine bodyPost_ret (results_row_tmp rfl _ _ w.heap.size 93 _ (0, 0) _ rfl (setRow_heap _ _ _ _ _ _ (HR0Z.out)) Tryz.underlying93 rfl (size93 _ _ _ _ _ _)) rfl ?_
            rw [HQ3.out]
            exact ⟨HC7.out.setRow (by omega) _, _, _, _, _, _, _, rfl, by decide⟩
          · have hcomp := fun W : World => rcompile_own p W (by omega)
            cases hpar : parts p with
            | none =>
              rw [hpar] at hcomp
              rw [accF_none hany hlong hpar] at hR
              have HComp := Asd.mk hcomp
              have HQ3 := Asd.mk (show ruleF s = .error 40 by rw [HQ2.out, ← hR])
              clear hR HA HQ2 hany hcomp hpar
              go_wp2_with fail
              refine (HComp.out _).mono ?_
              rintro e w7 ⟨hC7, rfl⟩
              have HR0Z := Asd.mk (show RRuleAt w7 w.heap.size false false false (.slice none 0 0) from hC7.heap HR03.out (by simp))
              have HR1Z := Asd.mk (show RRuleAt w7 (w.heap.size + 1) bk dr rt (.slice A Z.length c) from hC7.heap HR13.out (by simp))
              have HC7 := Asd.mk (HC3.out.trans hC7)
              clear hC7
              go_wp2_with (first | (refine wpList_load_row (o := ⟨some 82, _, _, _, _, _⟩) rfl 93 (.tmp 4) rfl (w.heap.size + 1) rfl 93 _ (0, 0) _ (HR1Z.out) Tryz.underlying93 rfl (size93 _ _ _ _ _ _) ?_) | (refine wpList_store_row (o := ⟨none, _, _, _, _, _⟩) rfl 93 (.tmp 2) (.tmp 82) rfl w.heap.size _ rfl rfl 93 _ (HR0Z.out) (size93 _ _ _ _ _ _) rfl (one93 _ _ _ _ _ _) ?_))
              refine bodyPost_ret (results_row_tmp rfl _ _ w.heap.size 93 _ (0, 0) _ rfl (setRow_heap _ _ _ _ _ _ (HR0Z.out)) Tryz.underlying93 rfl (size93 _ _ _ _ _ _)) rfl ?_
              rw [HQ3.out]
              exact ⟨HC7.out.setRow (by omega) _, _, _, _, _, _, _, rfl, by decide⟩
            | some L1 =>
              rw [hpar] at hcomp
              rw [accF_some hany hlong hpar] at hR
              have HComp := Asd.mk hcomp
              have HQR := Asd.mk hR
              clear hR HA hany hcomp hpar
              go_wp2_with fail
              refine (HComp.out _).mono ?_
              rintro e w7 ⟨hC7, A1, c1, rfl, hO1, hL1⟩
              have HR0Y := Asd.mk (show RRuleAt w7 w.heap.size false false false (.slice none 0 0) from hC7.heap HR03.out (by simp))
              have HR1Y := Asd.mk (show RRuleAt w7 (w.heap.size + 1) bk dr rt (.slice A Z.length c) from hC7.heap HR13.out (by simp))
              have HC7 := Asd.mk (HC3.out.trans hC7)
              have hk7 : Keeps [] wr w7 := Keeps.of_chg hC7
              have HOY := Asd.mk (own_keeps HO.out hk7 (by simp))
              have HSY := Asd.mk (HS7.out.keeps hk7 (by simp))
              have HPY := Asd.mk (show ∀ z ∈ Z, RPieceH w7 z from fun z hz => (HP.out z hz).keeps hk7 (by simp))
              have HO1 := Asd.mk hO1
              have hz7 := hC7.size
              have pc3 := cell_of_heap HR1Y.out 3
              clear hC7 hk7 hO1 HComp
              go_wp2_with (first | (refine wpList_build91 rfl false A1 L1.length c1 (w7.heap.size) (by simp) (.tmp 87) rfl rfl ?_; simp only [Act.put, List.setIfInBounds_toArray, List.set_cons_zero, List.set_cons_succ]) | (at_builtin; refine wpList_append143 rfl (.tmp 85) (.tmp 88) rfl w.heap.size (.slice A Z.length c) Z rfl (HOY.out.alloc _) (some L1) A1 L1.length c1 w7.heap.size rfl (hp_new _ _) (by omega) (by simp; omega) ?_; intro v2 w9 hown9 hgrow9; rw [List.length_append, List.length_singleton] at hown9; obtain ⟨A2, c2, hv2⟩ := own_len hown9; subst hv2; have q1 : RRuleAt w9 (w.heap.size + 1) bk dr rt (.slice A Z.length c) := (hgrow9.block _ (lt_of_heap (hp_alloc HR1Y.out _)) (fun e => own_ne HOY.out HR1Y.out (by decide) e.symm)).trans (hp_alloc HR1Y.out _); have q1c := cell_of_heap q1 3; have q1f := frozen_of_heap q1 3; replace q1 := Asd.mk q1; replace hown9 := Asd.mk hown9; replace hgrow9 := Asd.mk hgrow9; simp only [Act.put, List.setIfInBounds_toArray, List.set_cons_zero, List.set_cons_succ]))
              have hk : Keeps [143, 93] w7 (w9.setCell ⟨w.heap.size + 1, 3, none⟩ (.slice A2 (Z.length + 1) c2)) := ((Keeps.alloc _ _).trans (Keeps.grown (HOY.out.alloc _) (by simp) hgrow9.out)).trans (Keeps.setCell q1.out (by simp) _ _)
              have q0 : RRuleAt w9 w.heap.size false false false (.slice none 0 0) := (hgrow9.out.block _ (lt_of_heap (hp_alloc HR0Y.out _)) (fun e => own_ne HOY.out HR0Y.out (by decide) e.symm)).trans (hp_alloc HR0Y.out _)
              have HCN := Asd.mk (show Chg [] w (w9.setCell ⟨w.heap.size + 1, 3, none⟩ (.slice A2 (Z.length + 1) c2)) from (Chg.rgrown (HC7.out.alloc _) hgrow9.out (fun g e hk => by have := (HOY.out.lt g e).1; omega)).setCell (by simp) _)
              have HON := Asd.mk (show (w9.setCell ⟨w.heap.size + 1, 3, none⟩ (.slice A2 (Z.length + 1) c2)).ownsRow w.heap.size 143 2 (.slice A2 (Z.length + 1) c2) (Z.length + 1) (rcells (Z ++ [((some L1, Value.slice A1 L1.length c1) : PieceV × Value)])) from own_keeps hown9.out (Keeps.setCell (T := [93]) q1.out (by simp) _ _) (by simp))
              have HPN := Asd.mk (show ∀ z ∈ Z ++ [((some L1, Value.slice A1 L1.length c1) : PieceV × Value)], RPieceH (w9.setCell ⟨w.heap.size + 1, 3, none⟩ (.slice A2 (Z.length + 1) c2)) z from fun z hz => by
                rcases List.mem_append.1 hz with hz | hz
                · exact (HPY.out z hz).keeps hk (by simp)
                · obtain rfl := List.mem_singleton.1 hz
                  exact ⟨⟨_, own_keeps HO1.out hk (by simp)⟩, hL1⟩)
              have HSN := Asd.mk (HSY.out.keeps hk (by simp))
              have HR0N := Asd.mk (hp_set_other q0 (show w.heap.size ≠ w.heap.size + 1 by omega) 3 (.slice A2 (Z.length + 1) c2))
              have HR1N := Asd.mk (hp_set q1.out 3 (.slice A2 (Z.length + 1) c2))
              clear q0 hk
              go_roundg (l.length + 1 - (i + 1))
              case rel => exact ⟨i + 1, Z ++ [((some L1, Value.slice A1 L1.length c1) : PieceV × Value)], A2, c2, Z.length + 1, by omega, by simp, by omega, by go_num, by rw [List.length_append]; simp; omega, ⟨by rw [List.map_append]; exact HQR.out⟩, HCN, HR0N, HR1N, HSN, HON, HPN⟩
              case measure => omega
      · obtain rfl : i = l.length := by omega
        have HF := Asd.mk (show RL = .ok (Z.map (·.1)) by rw [← HA.out, List.drop_length, accF_end])
        have HQ3 := Asd.mk (show ruleF s = .ok ⟨bk, dr, rt, Z.map (·.1)⟩ by rw [HQ2.out, HF.out])
        clear HA HF HQ2
        go_wp2_with (first | (refine wpList_load_row (o := ⟨some 91, _, _, _, _, _⟩) rfl 93 (.tmp 4) rfl (w.heap.size + 1) rfl 93 _ (0, 0) _ (HR13.out) Tryz.underlying93 rfl (size93 _ _ _ _ _ _) ?_) | (refine wpList_store_row (o := ⟨none, _, _, _, _, _⟩) rfl 93 (.tmp 2) (.tmp 91) rfl w.heap.size _ rfl rfl 93 _ (HR03.out) (size93 _ _ _ _ _ _) rfl (one93 _ _ _ _ _ _) ?_))
        refine bodyPost_ret (results_row_tmp rfl _ _ w.heap.size 93 _ (0, 0) _ rfl (setRow_heap _ _ _ _ _ _ (HR03.out)) Tryz.underlying93 rfl (size93 _ _ _ _ _ _)) rfl ?_
        have hk : Keeps [93] wr (wr.setRow w.heap.size #[.bool bk, .bool dr, .bool rt, .slice A Z.length c]) := Keeps.setRow HR03.out (by simp) _
        rw [HQ3.out]
        exact ⟨HC3.out.setRow (by omega) _, _, Z, rfl, own_keeps HO.out hk (by simp), fun z hz => (HP.out z hz).keeps hk (by simp), rfl⟩
  · have te := isEmpty_yes hz
    have HQ := Asd.mk (show ruleF s = .error 40 by rw [HRF.out, if_pos (by omega)])
    clear HRF
    go_wp2_with (first | (refine wpList_load_row (o := ⟨some 34, _, _, _, _, _⟩) rfl 93 (.tmp 4) rfl (w.heap.size + 1) rfl 93 _ (0, 0) _ (HR1.out) Tryz.underlying93 rfl (size93 _ _ _ _ _ _) ?_) | (refine wpList_store_row (o := ⟨none, _, _, _, _, _⟩) rfl 93 (.tmp 2) (.tmp 34) rfl w.heap.size _ rfl rfl 93 _ (HR0.out) (size93 _ _ _ _ _ _) rfl (one93 _ _ _ _ _ _) ?_))
    refine bodyPost_ret (results_row_tmp rfl _ _ w.heap.size 93 _ (0, 0) _ rfl (setRow_heap _ _ _ _ _ _ (HR0.out)) Tryz.underlying93 rfl (size93 _ _ _ _ _ _)) rfl ?_
    rw [HQ.out]
    exact ⟨HC.out.setRow (by omega) _, _, _, _, _, _, _, rfl, by decide⟩
end Go.Proofs.YtgkifphfibcfdaaGreatDoor.G
