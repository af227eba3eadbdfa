/- The reference's set: the walk. Printed by rset.py. -/
import Derived.Test.YtgkifphfibcfdaaGreatDoorRu6
import Derived.Deep.CutRange
import Derived.Deep.WholeRow
namespace Go.Proofs.YtgkifphfibcfdaaGreatDoor.G
open Go.RowKit Go.Proofs.YtgkifphfibcfdaaGreatDoor.B
set_option linter.unusedVariables false
theorem range_out {s : ByteArray} {q : Nat} (h : ¬ q + 1 < s.size) : isRange s q = false := by simp [isRange, h]
theorem isRange_in {s : ByteArray} {q : Nat} (h : isRange s q = true) : q + 1 < s.size := by
  apply Classical.byContradiction
  intro hn
  rw [range_out hn] at h
  cases h
theorem range_no {s : ByteArray} {q : Nat} (h : bn s q ≠ 45) : isRange s q = false := by
  unfold isRange
  rw [show startsAt s q ⟨#[45]⟩ = false from Bool.eq_false_iff.2 (fun hh => h (one_bn.1 hh).2)]
  rfl
theorem range_93 {s : ByteArray} {q : Nat} (h : bn s (q + 1) = 93) : isRange s q = false := by simp [isRange, h]
theorem range_bg {s : ByteArray} {q : Nat} (h0 : q + 1 < s.size) (h1 : bn s q = 45) (h2 : bn s (q + 1) ≠ 93) : isRange s q = !startsAt s (q + 1) ⟨#[91, 58]⟩ := by
  unfold isRange
  rw [one_bn.2 ⟨by omega, by rw [h1]; rfl⟩, decide_eq_true h0, decide_eq_true h2]
  rfl
/-- What the reference's set leaves. -/
def RSetEnd (w : World) (n : Bool) (r : Option (Nat × (Nat → Bool))) (e : Ending) (w' : World) : Prop :=
  Chg [] w w' ∧ match r with
  | some (j, U) => e = .returned (.tuple #[.agg (cellsOf false (flipB n U)), .int .i64 ((j : Int) + 1)])
  | none => ∃ U, e = .returned (.tuple #[.agg (cellsOf false U), .int .i64 0])
set_option maxRecDepth 100000 in
set_option maxHeartbeats 16000000 in
theorem rset_calls (s : ByteArray) (i0 : Nat) (n : Bool) (w : World) (hi0 : i0 ≤ s.size) (hs : s.size ≤ 1048576) (R : Option (Nat × (Nat → Bool))) (hR : setLoop s (s.size + 2) i0 (fun _ => false) true = R) :
    Calls Tryz.prog 30 #[.string s, .int .i64 (i0 : Int), .bool n] w fun e w' => RSetEnd w n R e w' := by
  have H0 := Asd.mk hR
  have hst := store72z (w.alloc (.cells Tryz.zeroCells72 72)) (w.heap.size + 1) (by simp)
  clear hR
  go_enter Tryz.func30, Tryz.ntmps30
  go_wp2
  clear hst
  go_loopg [1, 9] (s.size + 2) (fun gk v1 v9 wr => ∃ (i : Nat) (T : Nat → Bool) (first : Bool), v1 = .int .i64 (i : Int) ∧ v9 = .bool first ∧ Asd (setLoop s gk i T first = R) ∧ i ≤ s.size ∧ Asd (s.size + 2 ≤ gk + i) ∧ Asd (Chg [] w wr) ∧ Asd (RPartAt wr (w.heap.size + 1) false T) ∧ Asd (RPartAt wr w.heap.size false (fun _ => false)))
  case atStart =>
    have z1 : RPartAt (w.alloc (.cells Tryz.zeroCells72 72)) w.heap.size false (fun _ => false) := by unfold RPartAt; rw [← zero72]; exact hp_new _ _
    have z2 : RPartAt ((w.alloc (.cells Tryz.zeroCells72 72)).alloc (.cells Tryz.zeroCells72 72)) (w.heap.size + 1) false (fun _ => false) := by
      have h := hp_new (w.alloc (.cells Tryz.zeroCells72 72)) (.cells Tryz.zeroCells72 72)
      rw [World.size_alloc] at h
      unfold RPartAt; rw [← zero72]; exact h
    exact ⟨i0, fun _ => false, true, rfl, rfl, H0, hi0, ⟨by omega⟩, ⟨((Chg.refl _ _).alloc _).alloc _⟩, ⟨z2⟩, ⟨hp_alloc z1 _⟩⟩
  case round =>
    obtain ⟨i, T, first, rfl, rfl, HL, hi, HF, HC, HP, HV⟩ := hrel
    cases gk with
    | zero => exact absurd HF.out (by omega)
    | succ k =>
      have hwz := HC.out.size
      have hPl : w.heap.size + 1 < wr.heap.size := lt_of_heap HP.out
      go_upto_region 3 with fail
      go_cut [35] from 23 to 135 (fun v35 wx => wr = wx ∧ ∃ cc : Bool, v35 = .bool cc ∧ Asd (cc = (decide (i < s.size) && (first || !startsAt s i ⟨#[93]⟩))))
      case first =>
        by_cases hlt : i < s.size
        · have b0 : bn s i = s[i].toNat := by unfold bn; rw [dif_pos hlt]
          have d1 : decide (i < s.size) = true := decide_eq_true hlt
          cases first with
          | true =>
            clear b0
            go_wp2
            go_meet
            case rel => exact ⟨rfl, _, rfl, ⟨by rw [d1]; rfl⟩⟩
          | false =>
            by_cases h93 : bn s i = 93
            · have t1 : (((s[i].toNat : Nat) : Int) != 93) = false := by rw [← b0, h93]; rfl
              have h9 := Asd.mk (one_bn.2 ⟨hlt, by rw [h93]; rfl⟩ : startsAt s i ⟨#[93]⟩ = true)
              clear b0 h93
              go_wp2
              go_meet
              case rel => exact ⟨rfl, _, rfl, ⟨by rw [d1, h9.out]; rfl⟩⟩
            · have t1 : (((s[i].toNat : Nat) : Int) != 93) = true := by rw [← b0]; simp; omega
              have h9 := Asd.mk (Bool.eq_false_iff.2 (fun h => h93 (one_bn.1 h).2) : startsAt s i ⟨#[93]⟩ = false)
              clear b0 h93
              go_wp2
              go_meet
              case rel => exact ⟨rfl, _, rfl, ⟨by rw [d1, h9.out]; rfl⟩⟩
        · have d1 : decide (i < s.size) = false := decide_eq_false hlt
          go_wp2
          go_meet
          case rel => exact ⟨rfl, _, rfl, ⟨by rw [d1]; rfl⟩⟩
      case rest =>
        obtain ⟨rfl, cc, rfl, HCC⟩ := hcut
        cases cc with
        | true =>
          have hcc := HCC.out.symm
          rw [Bool.and_eq_true, decide_eq_true_eq] at hcc
          have hlt := hcc.1
          have HD := Asd.mk hcc.2
          clear hcc HCC
          go_wp2_with fail
          refine (begins_calls s i _ hi hs).mono ?_
          cases hb : startsAt s i ⟨#[91, 58]⟩ with
          | true =>
            have HB := Asd.mk hb
            have HB0 := Asd.mk (show startsAt (s.extract i s.size) 0 ⟨#[91, 58]⟩ = true by rw [sub_starts]; exact hb)
            have hi2 : (i : Int) ≤ (s.size : Int) := by omega
            clear hb
            rintro e w5 ⟨rfl, rfl⟩
            go_wp2_with fail
            refine (named_calls (s.extract i s.size) _ (by rw [ByteArray.size_extract]; omega) HB0.out).mono ?_
            cases hk : classNo s i 0 12 with
            | none =>
              have hN : namedF (s.extract i s.size) = (⟨#[]⟩, 0) := by unfold namedF; rw [sub_class, hk]
              rw [hN]
              have HR := Asd.mk (show R = none from setLoop_bad HL.out HD.out (by omega) (by unfold itemF; rw [if_pos HB.out, hk]))
              clear hk hN
              rintro e w6 ⟨rfl, rfl⟩
              go_wp2_with (first | (refine wpList_load_row (o := ⟨some 48, _, _, _, _, _⟩) rfl 72 (.tmp 8) rfl (w.heap.size + 1) rfl 72 _ (0, 0) _ (HP.out) Tryz.underlying72 rfl (size72 _ _) ?_) | (refine wpList_store_row (o := ⟨none, _, _, _, _, _⟩) rfl 72 (.tmp 6) (.tmp 48) rfl w.heap.size _ rfl rfl 72 _ (HV.out) (size72 _ _) (by rw [cellsOf_size, cellsOf_size]) (cellsOf_one _ _) ?_))
              refine bodyPost_ret (results_row_tmp rfl _ _ w.heap.size 72 _ (0, 0) _ rfl (setRow_heap _ _ _ _ _ _ (HV.out)) Tryz.underlying72 rfl (size72 _ _)) rfl ?_
              refine ⟨(HC.out).setRow (by simp) _, ?_⟩
              rw [HR.out]
              exact ⟨_, rfl⟩
            | some kc =>
              obtain ⟨_, hk12, hkp, _⟩ := classNo_some hk
              have hN : namedF (s.extract i s.size) = (cname kc, (cpat kc).size) := by unfold namedF; rw [sub_class, hk]
              rw [hN]
              have hk2 : kc < 12 := by omega
              have hsz : (cpat kc).size ≤ s.size := by have := ((startsAt_iff (cpat_pos kc)).1 hkp).1; omega
              have hsi : i + (cpat kc).size ≤ s.size := ((startsAt_iff (cpat_pos kc)).1 hkp).1
              have hpos := cpat_pos kc
              have HGo := Asd.mk (setLoop_go HL.out HD.out (by omega) (show itemF s i T = some (i + (cpat kc).size, fun j => T j || (decide (j < 128) && chas kc j)) by unfold itemF; rw [if_pos HB.out, hk]))
              obtain ⟨m, hm⟩ : ∃ m, (cpat kc).size = m := ⟨_, rfl⟩
              obtain ⟨nm, hnm⟩ : ∃ nm, cname kc = nm := ⟨_, rfl⟩
              rw [hm] at hsz hsi hpos HGo ⊢
              rw [hnm]
              have HRC := Asd.mk (fun (c : Nat) (W : World) (hc : c < 256) => by have := rclass_calls kc hk2 (c : Int) W (by omega) (by omega); rw [hnm] at this; exact this)
              have HHI := Asd.mk (fun c (h : 128 ≤ c) => chas_hi kc hk2 c h)
              clear hk hN hk12 hkp hm hnm
              have m0 : ((m : Int) == 0) = false := by simp; omega
              rintro e w6 ⟨rfl, rfl⟩
              go_wp2
              go_loopw [12] (fun v wx => ∃ x : Nat, x ≤ 256 ∧ v = .int .i64 (x : Int) ∧ Asd (Chg [] w wx) ∧ Asd (RPartAt wx (w.heap.size + 1) false (fun t => if t < x then (T t || chas kc t) else T t)) ∧ Asd (RPartAt wx w.heap.size false (fun _ => false))) (fun v _ => 256 - (intOf v).toNat)
              case atStart => exact ⟨0, by omega, rfl, HC, ⟨HP.out.congr (fun t _ => by simp)⟩, HV⟩
              case round =>
                obtain ⟨x, hx, rfl, HC7, HP7, HV7⟩ := hrel
                by_cases hx2 : x < 256
                · have p0 := HP7.out.cell x hx2
                  have pf := HP7.out.frozen (1 + x)
                  rw [if_neg (by omega)] at p0
                  have b1 : (x : Int) < 256 := by omega
                  have b0 : 0 ≤ (x : Int) := by omega
                  go_wp2_with fail
                  refine (HRC.out x _ hx2).mono ?_
                  rintro e w7 ⟨rfl, rfl⟩
                  cases ht : T x with
                  | true =>
                    rw [ht] at p0
                    have HT := Asd.mk ht
                    clear ht
                    go_wp2
                    exact ⟨⟨x + 1, by omega, by go_num, ⟨HC7.out.setCell (by simp) _⟩, ⟨(HP7.out.set x true).congr (fun t _ => by
                      have hT := HT.out
                      simp only [upd]
                      by_cases ht : t = x
                      · subst ht; rw [if_pos rfl, if_pos (by omega), hT]; rfl
                      · rw [if_neg ht]
                        by_cases h2 : t < x
                        · rw [if_pos h2, if_pos (by omega)]
                        · rw [if_neg h2, if_neg (by omega)])⟩, ⟨hp_set_other HV7.out (by omega) _ _⟩⟩, by simp [intOf]; omega⟩
                  | false =>
                    rw [ht] at p0
                    have HT := Asd.mk ht
                    clear ht
                    go_wp2
                    exact ⟨⟨x + 1, by omega, by go_num, ⟨HC7.out.setCell (by simp) _⟩, ⟨(HP7.out.set x (chas kc x)).congr (fun t _ => by
                      have hT := HT.out
                      simp only [upd]
                      by_cases ht : t = x
                      · subst ht; rw [if_pos rfl, if_pos (by omega), hT]; rfl
                      · rw [if_neg ht]
                        by_cases h2 : t < x
                        · rw [if_pos h2, if_pos (by omega)]
                        · rw [if_neg h2, if_neg (by omega)])⟩, ⟨hp_set_other HV7.out (by omega) _ _⟩⟩, by simp [intOf]; omega⟩
                · obtain rfl : x = 256 := by omega
                  have HP8 := Asd.mk (show RPartAt wr (w.heap.size + 1) false (fun j => T j || (decide (j < 128) && chas kc j)) from HP7.out.congr (fun t ht => by
                    rw [if_pos ht]
                    by_cases h1 : t < 128
                    · simp [h1]
                    · rw [HHI.out t (by omega)]; simp))
                  go_wp2
                  go_roundg k
                  case rel => exact ⟨i + m, _, false, by go_num, rfl, HGo, hsi, ⟨by have := HF.out; omega⟩, HC7, HP8, HV7⟩
                  case measure => omega
          | false =>
            have HB := Asd.mk hb
            clear hb
            rintro e w5 ⟨rfl, rfl⟩
            by_cases hin : bytePlace s i < s.size
            · obtain ⟨m, hm⟩ : ∃ m, bytePlace s i + 1 - i = m := ⟨_, rfl⟩
              obtain ⟨c, hc⟩ : ∃ c, bn s (bytePlace s i) = c := ⟨_, rfl⟩
              have hle := le_bytePlace s i
              have hc5 : c ≤ 255 := by rw [← hc]; exact bn_le s _
              have hLone := fun W : World => lone_yes s i W hs hin
              rw [hm, hc] at hLone
              have HLone := Asd.mk hLone
              have hq : bytePlace s i + 1 = i + m := by omega
              have hIt : itemF s i T = if isRange s (i + m) = true then (if bytePlace s (i + m + 1) < s.size then some (bytePlace s (i + m + 1) + 1, addRange T c (bn s (bytePlace s (i + m + 1)))) else none) else some (i + m, addRange T c c) := by
                unfold itemF
                rw [if_neg (by rw [HB.out]; decide), if_pos hin, hq, hc]
              have HIt := Asd.mk hIt
              have hm1 : 1 ≤ m := by omega
              have hms : i + m ≤ s.size := by omega
              have m0 : ((m : Int) == 0) = false := by simp; omega
              clear hLone hq hIt hm hc hle hin
              go_wp2_with fail
              refine (HLone.out _).mono ?_
              rintro e w6 ⟨rfl, rfl⟩
              clear HLone
              go_upto_region 20 with fail
              go_cut [109] from 85 to 109 (fun v109 wx => w6 = wx ∧ ∃ rb : Bool, v109 = .bool rb ∧ Asd (rb = isRange s (i + m)))
              case first =>
                by_cases h1 : i + m + 1 < s.size
                · have h0 : i + m < s.size := by omega
                  have b0 : bn s (i + m) = s[i + m].toNat := by unfold bn; rw [dif_pos h0]
                  have b1 : bn s (i + m + 1) = s[i + m + 1].toNat := by unfold bn; rw [dif_pos h1]
                  by_cases h45 : bn s (i + m) = 45
                  · have t1 : (((s[i + m].toNat : Nat) : Int) == 45) = true := by rw [← b0, h45]; rfl
                    by_cases h93 : bn s (i + m + 1) = 93
                    · have t2 : (((s[i + m + 1].toNat : Nat) : Int) != 93) = false := by rw [← b1, h93]; rfl
                      have HVV := Asd.mk (range_93 h93)
                      clear b0 b1 h45 h93
                      go_wp2
                      go_meet
                      case rel => exact ⟨rfl, _, rfl, ⟨by rw [HVV.out]⟩⟩
                    · have t2 : (((s[i + m + 1].toNat : Nat) : Int) != 93) = true := by rw [← b1]; simp; omega
                      have HVV := Asd.mk (range_bg h1 h45 h93)
                      have HBg := Asd.mk (fun W : World => show Calls Tryz.prog 47 #[.string s, .int .i64 ((i : Int) + (m : Int) + 1)] W fun e w' => e = .returned (.bool (startsAt s (i + m + 1) ⟨#[91, 58]⟩)) ∧ w' = W by
                        have := begins_calls s (i + m + 1) W (by omega) hs
                        rw [show ((i + m + 1 : Nat) : Int) = (i : Int) + (m : Int) + 1 by omega] at this
                        exact this)
                      obtain ⟨bg, hbg⟩ : ∃ bg, startsAt s (i + m + 1) ⟨#[91, 58]⟩ = bg := ⟨_, rfl⟩
                      rw [hbg] at HVV HBg
                      clear b0 b1 h45 h93 hbg
                      go_wp2_with fail
                      refine (HBg.out _).mono ?_
                      rintro e w7 ⟨rfl, rfl⟩
                      clear HBg
                      go_wp2
                      go_meet
                      case rel => exact ⟨rfl, _, rfl, ⟨by rw [HVV.out]⟩⟩
                  · have t1 : (((s[i + m].toNat : Nat) : Int) == 45) = false := by rw [← b0]; simp; omega
                    have HVV := Asd.mk (range_no h45)
                    clear b0 b1 h45
                    go_wp2
                    go_meet
                    case rel => exact ⟨rfl, _, rfl, ⟨by rw [HVV.out]⟩⟩
                · have HVV := Asd.mk (range_out h1)
                  have d1 : decide ((i : Int) + (m : Int) + 1 < (s.size : Int)) = false := decide_eq_false (by omega)
                  go_wp2
                  go_meet
                  case rel => exact ⟨rfl, _, rfl, ⟨by rw [HVV.out]⟩⟩
              case rest =>
                obtain ⟨rfl, rb, rfl, HRB⟩ := hcut
                cases rb with
                | true =>
                  have hIt := HIt.out
                  rw [if_pos HRB.out.symm] at hIt
                  by_cases hin2 : bytePlace s (i + m + 1) < s.size
                  · obtain ⟨m2, hm2⟩ : ∃ m2, bytePlace s (i + m + 1) + 1 - (i + m + 1) = m2 := ⟨_, rfl⟩
                    obtain ⟨c2, hc2⟩ : ∃ c2, bn s (bytePlace s (i + m + 1)) = c2 := ⟨_, rfl⟩
                    have hle2 := le_bytePlace s (i + m + 1)
                    have hc25 : c2 ≤ 255 := by rw [← hc2]; exact bn_le s _
                    have HL2 := Asd.mk (fun W : World => show Calls Tryz.prog 50 #[.string s, .int .i64 ((i : Int) + (m : Int) + 1)] W fun e w' => e = .returned (.tuple #[.int .u8 (c2 : Int), .int .i64 (m2 : Int)]) ∧ w' = W by
                      have := lone_yes s (i + m + 1) W hs hin2
                      rw [hm2, hc2, show ((i + m + 1 : Nat) : Int) = (i : Int) + (m : Int) + 1 by omega] at this
                      exact this)
                    have hq2 : bytePlace s (i + m + 1) + 1 = i + m + 1 + m2 := by omega
                    rw [if_pos hin2, hq2, hc2] at hIt
                    have HGo := Asd.mk (setLoop_go HL.out HD.out (by omega) hIt)
                    have m20 : ((m2 : Int) == 0) = false := by simp; omega
                    have hms2 : i + m + 1 + m2 ≤ s.size := by omega
                    clear hIt HIt hm2 hc2 hle2 hq2 hin2 HRB
                    go_wp2_with fail
                    refine (HL2.out _).mono ?_
                    rintro e w7 ⟨rfl, rfl⟩
                    clear HL2
                    go_wp2
                    go_loopw [20] (fun v wx => ∃ y : Nat, c ≤ y ∧ (y ≤ c2 + 1 ∨ y = c) ∧ v = .int .i64 (y : Int) ∧ Asd (Chg [] w wx) ∧ Asd (RPartAt wx (w.heap.size + 1) false (fun t => T t || (decide (c ≤ t) && decide (t < y)))) ∧ Asd (RPartAt wx w.heap.size false (fun _ => false))) (fun v _ => c2 + 1 - (intOf v).toNat)
                    case atStart => exact ⟨c, Nat.le_refl _, .inr rfl, rfl, HC, ⟨HP.out.congr (fun t _ => by
                        have : (decide (c ≤ t) && decide (t < c)) = false := by by_cases h : c ≤ t <;> simp [h] <;> omega
                        rw [this, Bool.or_false])⟩, HV⟩
                    case round =>
                      obtain ⟨y, hy, hy2, rfl, HC7, HP7, HV7⟩ := hrel
                      by_cases hyz : y ≤ c2
                      · have pc := HP7.out.cell y (by omega)
                        have pf := HP7.out.frozen (1 + y)
                        have b1 : (y : Int) < 256 := by omega
                        have b0 : 0 ≤ (y : Int) := by omega
                        go_wp2
                        exact ⟨⟨y + 1, by omega, .inl (by omega), by go_num, ⟨HC7.out.setCell (by simp) _⟩, ⟨(HP7.out.set y true).congr (fun t _ => by
                          simp only [upd]
                          by_cases ht : t = y
                          · subst ht; rw [if_pos rfl, decide_eq_true hy, decide_eq_true (by omega : t < t + 1)]; simp
                          · rw [if_neg ht, show decide (t < y) = decide (t < y + 1) from decide_eq_decide.mpr (by omega)])⟩, ⟨hp_set_other HV7.out (by omega) _ _⟩⟩, by simp [intOf]; omega⟩
                      · have HP8 := Asd.mk (show RPartAt wr (w.heap.size + 1) false (addRange T c c2) from HP7.out.congr (fun t _ => by
                          simp only [addRange]
                          have : (decide (c ≤ t) && decide (t < y)) = (decide (c ≤ t) && decide (t ≤ c2)) := by
                            by_cases h : c ≤ t
                            · rw [decide_eq_true h, Bool.true_and, Bool.true_and]; exact decide_eq_decide.mpr (by omega)
                            · rw [decide_eq_false h]; rfl
                          rw [this]))
                        go_wp2
                        go_roundg k
                        case rel => exact ⟨i + m + 1 + m2, addRange T c c2, false, by go_num, rfl, HGo, hms2, ⟨by have := HF.out; omega⟩, HC7, HP8, HV7⟩
                        case measure => omega
                  · have HR := Asd.mk (show R = none from setLoop_bad HL.out HD.out (by omega) (by rw [hIt, if_neg hin2]))
                    have HL2 := Asd.mk (fun W : World => show Calls Tryz.prog 50 #[.string s, .int .i64 ((i : Int) + (m : Int) + 1)] W fun e w' => e = .returned (.tuple #[.int .u8 0, .int .i64 0]) ∧ w' = W by
                      have := lone_no s (i + m + 1) W (by have := isRange_in HRB.out.symm; omega) hs hin2
                      rw [show ((i + m + 1 : Nat) : Int) = (i : Int) + (m : Int) + 1 by omega] at this
                      exact this)
                    clear hIt HIt hin2 HRB
                    go_wp2_with fail
                    refine (HL2.out _).mono ?_
                    rintro e w7 ⟨rfl, rfl⟩
                    clear HL2
                    go_wp2_with (first | (refine wpList_load_row (o := ⟨some 119, _, _, _, _, _⟩) rfl 72 (.tmp 8) rfl (w.heap.size + 1) rfl 72 _ (0, 0) _ (HP.out) Tryz.underlying72 rfl (size72 _ _) ?_) | (refine wpList_store_row (o := ⟨none, _, _, _, _, _⟩) rfl 72 (.tmp 6) (.tmp 119) rfl w.heap.size _ rfl rfl 72 _ (HV.out) (size72 _ _) (by rw [cellsOf_size, cellsOf_size]) (cellsOf_one _ _) ?_))
                    refine bodyPost_ret (results_row_tmp rfl _ _ w.heap.size 72 _ (0, 0) _ rfl (setRow_heap _ _ _ _ _ _ (HV.out)) Tryz.underlying72 rfl (size72 _ _)) rfl ?_
                    refine ⟨(HC.out).setRow (by simp) _, ?_⟩
                    rw [HR.out]
                    exact ⟨_, rfl⟩
                | false =>
                  have hIt := HIt.out
                  rw [if_neg (by rw [← HRB.out]; decide)] at hIt
                  have HGo := Asd.mk (setLoop_go HL.out HD.out (by omega) hIt)
                  clear hIt HIt HRB
                  go_wp2
                  go_loopw [20] (fun v wx => ∃ y : Nat, c ≤ y ∧ (y ≤ c + 1 ∨ y = c) ∧ v = .int .i64 (y : Int) ∧ Asd (Chg [] w wx) ∧ Asd (RPartAt wx (w.heap.size + 1) false (fun t => T t || (decide (c ≤ t) && decide (t < y)))) ∧ Asd (RPartAt wx w.heap.size false (fun _ => false))) (fun v _ => c + 1 - (intOf v).toNat)
                  case atStart => exact ⟨c, Nat.le_refl _, .inr rfl, rfl, HC, ⟨HP.out.congr (fun t _ => by
                      have : (decide (c ≤ t) && decide (t < c)) = false := by by_cases h : c ≤ t <;> simp [h] <;> omega
                      rw [this, Bool.or_false])⟩, HV⟩
                  case round =>
                    obtain ⟨y, hy, hy2, rfl, HC7, HP7, HV7⟩ := hrel
                    by_cases hyz : y ≤ c
                    · have pc := HP7.out.cell y (by omega)
                      have pf := HP7.out.frozen (1 + y)
                      have b1 : (y : Int) < 256 := by omega
                      have b0 : 0 ≤ (y : Int) := by omega
                      go_wp2
                      exact ⟨⟨y + 1, by omega, .inl (by omega), by go_num, ⟨HC7.out.setCell (by simp) _⟩, ⟨(HP7.out.set y true).congr (fun t _ => by
                        simp only [upd]
                        by_cases ht : t = y
                        · subst ht; rw [if_pos rfl, decide_eq_true hy, decide_eq_true (by omega : t < t + 1)]; simp
                        · rw [if_neg ht, show decide (t < y) = decide (t < y + 1) from decide_eq_decide.mpr (by omega)])⟩, ⟨hp_set_other HV7.out (by omega) _ _⟩⟩, by simp [intOf]; omega⟩
                    · have HP8 := Asd.mk (show RPartAt wr (w.heap.size + 1) false (addRange T c c) from HP7.out.congr (fun t _ => by
                        simp only [addRange]
                        have : (decide (c ≤ t) && decide (t < y)) = (decide (c ≤ t) && decide (t ≤ c)) := by
                          by_cases h : c ≤ t
                          · rw [decide_eq_true h, Bool.true_and, Bool.true_and]; exact decide_eq_decide.mpr (by omega)
                          · rw [decide_eq_false h]; rfl
                        rw [this]))
                      go_wp2
                      go_roundg k
                      case rel => exact ⟨i + m, addRange T c c, false, by go_num, rfl, HGo, hms, ⟨by have := HF.out; omega⟩, HC7, HP8, HV7⟩
                      case measure => omega
            · have HR := Asd.mk (show R = none from setLoop_bad HL.out HD.out (by omega) (by unfold itemF; rw [if_neg (by rw [HB.out]; decide), if_neg hin]))
              go_wp2_with fail
              refine (lone_no s i _ hi hs hin).mono ?_
              rintro e w6 ⟨rfl, rfl⟩
              go_wp2_with (first | (refine wpList_load_row (o := ⟨some 80, _, _, _, _, _⟩) rfl 72 (.tmp 8) rfl (w.heap.size + 1) rfl 72 _ (0, 0) _ (HP.out) Tryz.underlying72 rfl (size72 _ _) ?_) | (refine wpList_store_row (o := ⟨none, _, _, _, _, _⟩) rfl 72 (.tmp 6) (.tmp 80) rfl w.heap.size _ rfl rfl 72 _ (HV.out) (size72 _ _) (by rw [cellsOf_size, cellsOf_size]) (cellsOf_one _ _) ?_))
              refine bodyPost_ret (results_row_tmp rfl _ _ w.heap.size 72 _ (0, 0) _ rfl (setRow_heap _ _ _ _ _ _ (HV.out)) Tryz.underlying72 rfl (size72 _ _)) rfl ?_
              refine ⟨(HC.out).setRow (by simp) _, ?_⟩
              rw [HR.out]
              exact ⟨_, rfl⟩
        | false =>
          by_cases hlt : i < s.size
          · have HD := Asd.mk (show (first || !startsAt s i ⟨#[93]⟩) = false from by
              have := HCC.out.symm
              rw [decide_eq_true hlt, Bool.true_and] at this
              exact this)
            clear HCC
            go_wp2
            go_loopw [21] (fun v wx => ∃ x : Nat, x ≤ 256 ∧ v = .int .i64 x ∧ Asd (Chg [] w wx) ∧ Asd (RPartAt wx (w.heap.size + 1) false (fun t => if t < x then flipB n T t else T t)) ∧ Asd (RPartAt wx w.heap.size false (fun _ => false))) (fun v _ => 256 - (intOf v).toNat)
            case atStart => exact ⟨0, by omega, rfl, HC, ⟨HP.out.congr (fun t _ => by simp)⟩, HV⟩
            case round =>
              obtain ⟨x, hx, rfl, HC7, HP7, HV7⟩ := hrel
              by_cases hx2 : x < 256
              · have p0 := HP7.out.cell x hx2
                have pf := HP7.out.frozen (1 + x)
                rw [if_neg (by omega)] at p0
                have b1 : (x : Int) < 256 := by omega
                have b0 : 0 ≤ (x : Int) := by omega
                go_wp2
                exact ⟨⟨x + 1, by omega, by go_num, ⟨HC7.out.setCell (by simp) _⟩, ⟨(HP7.out.set x (T x != n)).congr (fun t _ => by
                  simp only [upd]
                  by_cases ht : t = x
                  · subst ht; rw [if_pos rfl, if_pos (by omega)]; rfl
                  · rw [if_neg ht]
                    by_cases h2 : t < x
                    · rw [if_pos h2, if_pos (by omega)]
                    · rw [if_neg h2, if_neg (by omega)])⟩, ⟨hp_set_other HV7.out (by omega) _ _⟩⟩, by simp [intOf]; omega⟩
              · obtain rfl : x = 256 := by omega
                have HP8 := Asd.mk (show RPartAt wr (w.heap.size + 1) false (flipB n T) from HP7.out.congr (fun t ht => by rw [if_pos ht]))
                go_wp2_with (first | (refine wpList_load_row (o := ⟨some 154, _, _, _, _, _⟩) rfl 72 (.tmp 8) rfl (w.heap.size + 1) rfl 72 _ (0, 0) _ (HP8.out) Tryz.underlying72 rfl (size72 _ _) ?_) | (refine wpList_store_row (o := ⟨none, _, _, _, _, _⟩) rfl 72 (.tmp 6) (.tmp 154) rfl w.heap.size _ rfl rfl 72 _ (HV7.out) (size72 _ _) (by rw [cellsOf_size, cellsOf_size]) (cellsOf_one _ _) ?_))
                refine bodyPost_ret (results_row_tmp rfl _ _ w.heap.size 72 _ (0, 0) _ rfl (setRow_heap _ _ _ _ _ _ (HV7.out)) Tryz.underlying72 rfl (size72 _ _)) rfl ?_
                refine ⟨HC7.out.setRow (by simp) _, ?_⟩
                rw [setLoop_end HL.out HD.out]
                exact rfl
          · have HD := Asd.mk (show R = none from by
              cases hcd : (first || !startsAt s i ⟨#[93]⟩) with
              | true => exact setLoop_over HL.out hcd (by omega)
              | false =>
                exfalso
                simp only [Bool.or_eq_false_iff, Bool.not_eq_false'] at hcd
                exact hlt (startsAt_in hcd.2))
            clear HCC
            go_wp2_with (first | (refine wpList_load_row (o := ⟨some 140, _, _, _, _, _⟩) rfl 72 (.tmp 8) rfl (w.heap.size + 1) rfl 72 _ (0, 0) _ (HP.out) Tryz.underlying72 rfl (size72 _ _) ?_) | (refine wpList_store_row (o := ⟨none, _, _, _, _, _⟩) rfl 72 (.tmp 6) (.tmp 140) rfl w.heap.size _ rfl rfl 72 _ (HV.out) (size72 _ _) (by rw [cellsOf_size, cellsOf_size]) (cellsOf_one _ _) ?_))
            refine bodyPost_ret (results_row_tmp rfl _ _ w.heap.size 72 _ (0, 0) _ rfl (setRow_heap _ _ _ _ _ _ (HV.out)) Tryz.underlying72 rfl (size72 _ _)) rfl ?_
            refine ⟨(HC.out).setRow (by simp) _, ?_⟩
            rw [HD.out]
            exact ⟨_, rfl⟩
end Go.Proofs.YtgkifphfibcfdaaGreatDoor.G
