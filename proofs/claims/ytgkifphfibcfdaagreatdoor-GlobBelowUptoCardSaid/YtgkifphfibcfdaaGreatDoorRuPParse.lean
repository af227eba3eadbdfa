/- The program's parse: the walk. Printed by parse.py. -/
import Derived.Test.YtgkifphfibcfdaaGreatDoorRu9
import Derived.Test.YtgkifphfibcfdaaGreatDoorRuRRule
namespace Go.Proofs.YtgkifphfibcfdaaGreatDoor.G
open Go.RowKit Go.Proofs.YtgkifphfibcfdaaGreatDoor.B
set_option linter.unusedVariables false
theorem size87 (a b c : Bool) (A : Option Addr) (n m : Nat) : (Tryz.prog.info? 87).map (·.size) = some (#[Value.bool a, .bool b, .bool c, .slice A n m]).size := by kernel_rfl
theorem pback (s : ByteArray) (W : World) : Calls Tryz.prog 59 #[.string s, .string ⟨#[33]⟩] W fun e w' => e = .returned (.tuple #[.string (cutBack s), .bool (isBack s)]) ∧ w' = W := by
  have h := Tryz.strings_CutPrefix s ⟨#[33]⟩ W
  rw [show (⟨#[33]⟩ : ByteArray).data.toList = [33] from rfl, trim_back, prefix_back] at h
  exact h
theorem pdir (s : ByteArray) (W : World) (hs : s.size ≤ 1048576) : Calls Tryz.prog 60 #[.string s, .string ⟨#[47]⟩] W fun e w' => e = .returned (.tuple #[.string (cutDir s), .bool (isDir s)]) ∧ w' = W := by
  have h := Tryz.strings_CutSuffix s ⟨#[47]⟩ W (by omega)
  rw [show (⟨#[47]⟩ : ByteArray).data.toList = [47] from rfl, trim_dir, suffix_dir] at h
  exact h
theorem prooted (s : ByteArray) (W : World) : Calls Tryz.prog 61 #[.string s, .string ⟨#[47]⟩] W fun e w' => e = .returned (.bool (rootedF s)) ∧ w' = W := by
  have h := Tryz.strings_Contains_one s 47 W
  rw [contains_rooted] at h
  exact h
def cutRoot (s : ByteArray) : ByteArray := ⟨(Lib.trimPrefix s.data.toList [47]).toArray⟩
theorem proot (s : ByteArray) (W : World) : Calls Tryz.prog 62 #[.string s, .string ⟨#[47]⟩] W fun e w' => e = .returned (.string (cutRoot s)) ∧ w' = W := by
  have h := Tryz.strings_TrimPrefix s ⟨#[47]⟩ W
  rw [show (⟨#[47]⟩ : ByteArray).data.toList = [47] from rfl] at h
  exact h
theorem cutRoot_le (s : ByteArray) : (cutRoot s).size ≤ s.size := by
  have hl : s.data.toList.length = s.size := by simp
  have h : (cutRoot s).size = (Lib.trimPrefix s.data.toList [47]).length := by simp [cutRoot, ByteArray.size]
  rw [h]
  unfold Lib.trimPrefix
  split
  · rw [List.length_drop]; omega
  · omega
set_option maxRecDepth 100000 in
set_option maxHeartbeats 16000000 in
theorem parse_calls (s : ByteArray) (w : World) (hm : MaxLenAt w) (hs : s.size ≤ 1048576) :
    Calls Tryz.prog 36 #[.string s] w fun e w' => PRulePost w (ruleF s) e w' := by
  have hs1 := cutBack_le s
  have hs2 := cutDir_le (cutBack s)
  have hs3 := cutRoot_le (cutDir (cutBack s))
  have HM := Asd.mk hm
  have hP1 := fun W : World => pback s W
  have hP2 := fun W : World => pdir (cutBack s) W (by omega)
  have hP3 := fun W : World => prooted (cutDir (cutBack s)) W
  have hP4 := fun W : World => proot (cutDir (cutBack s)) W
  have hP5 := fun (W : World) (h : MaxLenAt W) => psplit_calls 47 (cutRoot (cutDir (cutBack s))) W h (by omega)
  have hsp : spl (47 : UInt8).toNat (cutRoot (cutDir (cutBack s))) = unroot (spl 47 (cutDir (cutBack s))) := trim_root _
  rw [hsp] at hP5
  have HRF := Asd.mk (show ruleF s = if (cutDir (cutBack s)).size = 0 then .error 40 else match piecesF (rootedF (cutDir (cutBack s))) (unroot (spl 47 (cutDir (cutBack s)))) with | .ok l => .ok ⟨isBack s, isDir (cutBack s), rootedF (cutDir (cutBack s)), l⟩ | .error e => .error e by unfold ruleF; rfl)
  have HLS := Asd.mk (show ∀ p ∈ unroot (spl 47 (cutDir (cutBack s))), p.size ≤ 1048576 from fun p hp => by have := spl_size (unroot_mem hp); omega)
  have hll : (unroot (spl 47 (cutDir (cutBack s)))).length ≤ 1048577 := by
    have h1 := (spl_len 47 (cutDir (cutBack s))).2
    have h2 : ∀ l : List ByteArray, (unroot l).length ≤ l.length := fun l => by
      cases l with
      | nil => exact Nat.le_refl _
      | cons p r =>
        simp only [unroot]
        split <;> simp
    have := h2 (spl 47 (cutDir (cutBack s)))
    omega
  obtain ⟨l, hl⟩ : ∃ l, unroot (spl 47 (cutDir (cutBack s))) = l := ⟨_, rfl⟩
  obtain ⟨rt, hrt⟩ : ∃ rt, rootedF (cutDir (cutBack s)) = rt := ⟨_, rfl⟩
  obtain ⟨S', hS'⟩ : ∃ S', cutRoot (cutDir (cutBack s)) = S' := ⟨_, rfl⟩
  obtain ⟨dr, hdr⟩ : ∃ dr, isDir (cutBack s) = dr := ⟨_, rfl⟩
  obtain ⟨bk, hbk⟩ : ∃ bk, isBack s = bk := ⟨_, rfl⟩
  rw [hl] at hP5 HRF HLS hll
  rw [hrt] at hP3 HRF
  rw [hS'] at hP4 hP5
  rw [hdr] at hP2 HRF
  rw [hbk] at hP1 HRF
  obtain ⟨S, hS⟩ : ∃ S, cutDir (cutBack s) = S := ⟨_, rfl⟩
  rw [hS] at hP2 hP3 hP4 HRF
  obtain ⟨S1, hS1⟩ : ∃ S1, cutBack s = S1 := ⟨_, rfl⟩
  rw [hS1] at hP1 hP2
  have HP1 := Asd.mk hP1
  have HP2 := Asd.mk hP2
  have HP3 := Asd.mk hP3
  have HP4 := Asd.mk hP4
  have HP5 := Asd.mk hP5
  clear hP1 hP2 hP3 hP4 hP5 hsp hl hrt hS' hdr hbk hS hS1 hs1 hs2 hs3 hm
  go_enter Tryz.func36, Tryz.ntmps36
  go_wp2_with fail
  refine (HP1.out _).mono ?_
  rintro e w1 ⟨rfl, hw1⟩
  have HC1 := Asd.mk (show Chg [] w w1 by rw [hw1]; exact ((Chg.refl _ _).alloc _).alloc _)
  have HR0 := Asd.mk (show PRuleAt w1 w.heap.size false false false (.slice none 0 0) by rw [hw1]; exact hp_alloc (hp_new _ _) _)
  have HR1 := Asd.mk (show PRuleAt w1 (w.heap.size + 1) false false false (.slice none 0 0) by
    rw [hw1]
    have h := hp_new (w.alloc (.cells #[.bool false, .bool false, .bool false, .slice none 0 0] 87)) (.cells #[.bool false, .bool false, .bool false, .slice none 0 0] 87)
    rw [World.size_alloc] at h
    exact h)
  clear hw1 HP1
  have pc := cell_of_heap HR1.out 0
  have pf := frozen_of_heap HR1.out 0
  go_wp2_with fail
  refine (HP2.out _).mono ?_
  rintro e w2 ⟨rfl, hw2⟩
  have HC2 := Asd.mk (show Chg [] w w2 by rw [hw2]; exact HC1.out.setCell (by simp) _)
  have HR02 := Asd.mk (show PRuleAt w2 w.heap.size false false false (.slice none 0 0) by rw [hw2]; exact hp_set_other HR0.out (by omega) _ _)
  have HR12 := Asd.mk (show PRuleAt w2 (w.heap.size + 1) bk false false (.slice none 0 0) by rw [hw2]; exact hp_set HR1.out 0 _)
  clear hw2 HP2 pc pf HC1 HR0 HR1
  have pc := cell_of_heap HR12.out 1
  have pf := frozen_of_heap HR12.out 1
  by_cases hz : 0 < S.size
  · have te := isEmpty_no hz
    have HQ := Asd.mk (show ruleF s = match piecesF rt l with | .ok q => .ok ⟨bk, dr, rt, q⟩ | .error e => .error e by rw [HRF.out, if_neg (by omega)])
    clear HRF
    go_wp2_with fail
    refine (HP3.out _).mono ?_
    rintro e w3 ⟨rfl, hw3⟩
    have HC3 := Asd.mk (show Chg [] w w3 by rw [hw3]; exact HC2.out.setCell (by simp) _)
    have HR03 := Asd.mk (show PRuleAt w3 w.heap.size false false false (.slice none 0 0) by rw [hw3]; exact hp_set_other HR02.out (by omega) _ _)
    have HR13 := Asd.mk (show PRuleAt w3 (w.heap.size + 1) bk dr false (.slice none 0 0) by rw [hw3]; exact hp_set HR12.out 1 _)
    clear hw3 HP3 pc pf HC2 HR02 HR12
    have pc := cell_of_heap HR13.out 2
    have pf := frozen_of_heap HR13.out 2
    go_wp2_with fail
    refine (HP4.out _).mono ?_
    rintro e w4 ⟨rfl, hw4⟩
    have HC4 := Asd.mk (show Chg [] w w4 by rw [hw4]; exact HC3.out.setCell (by simp) _)
    have HR04 := Asd.mk (show PRuleAt w4 w.heap.size false false false (.slice none 0 0) by rw [hw4]; exact hp_set_other HR03.out (by omega) _ _)
    have HR14 := Asd.mk (show PRuleAt w4 (w.heap.size + 1) bk dr rt (.slice none 0 0) by rw [hw4]; exact hp_set HR13.out 2 _)
    clear hw4 HP4 pc pf HC3 HR03 HR13
    go_wp2_with fail
    refine (HP5.out _ (HM.out.chg HC4.out)).mono ?_
    rintro e w5 ⟨v5, rfl, hC5, hv5, hS5⟩
    subst hv5
    have HC5 := Asd.mk (HC4.out.trans hC5)
    have HR05 := Asd.mk (show PRuleAt w5 w.heap.size false false false (.slice none 0 0) from hC5.heap HR04.out (by simp))
    have HR15 := Asd.mk (show PRuleAt w5 (w.heap.size + 1) bk dr rt (.slice none 0 0) from hC5.heap HR14.out (by simp))
    have HS5 := Asd.mk hS5
    obtain ⟨g, hg⟩ : ∃ g, w4.heap.size = g := ⟨_, rfl⟩
    rw [hg] at HS5 ⊢
    clear hg hC5 hS5 HP5 HC4 HR04 HR14
    obtain ⟨RL, hRL⟩ : ∃ RL, piecesF rt l = RL := ⟨_, rfl⟩
    rw [hRL] at HQ
    have HQ2 := Asd.mk HQ.out
    have HAcc := Asd.mk (show accF rt [] l = RL by rw [accF_nil]; exact hRL)
    clear hRL HQ
    go_wp2
    go_loopg [32] (l.length + 1) (fun gk v32 wx => ∃ (i : Nat) (Y : List (PieceV × Value)) (A : Option Addr) (c n : Nat), i ≤ l.length ∧ n = Y.length ∧ gk = l.length + 1 - i ∧ v32 = .int .i64 (i : Int) ∧ Y.length ≤ i ∧ Asd (accF rt (Y.map (·.1)) (l.drop i) = RL) ∧ Asd (Chg [] w wx) ∧ Asd (PRuleAt wx w.heap.size false false false (.slice none 0 0)) ∧ Asd (PRuleAt wx (w.heap.size + 1) bk dr rt (.slice A n c)) ∧ Asd (StrR wx g 0 l) ∧ Asd (wx.ownsRow w.heap.size 22 1 (.slice A n c) n (Y.map (·.2))) ∧ Asd (∀ y ∈ Y, PPieceH wx y))
    case atStart => exact ⟨0, [], none, 0, 0, by omega, rfl, by omega, rfl, by simp, ⟨by rw [List.drop_zero]; exact HAcc.out⟩, HC5, HR05, HR15, HS5, ⟨World.ownsRow_nil _ _ _ _⟩, ⟨fun y hy => by cases hy⟩⟩
    case round =>
      obtain ⟨i, Y, A, c, n, hi, rfl, rfl, rfl, hY, HA, HC3, HR03, HR13, HS7, HO, HP⟩ := hrel
      have hwz := HC3.out.size
      have hB1 : w.heap.size + 1 < wr.heap.size := lt_of_heap HR13.out
      by_cases hlt : i < l.length
      · have hR := HA.out
        obtain ⟨p, hp⟩ : ∃ p, l[i] = p := ⟨_, rfl⟩
        rw [List.drop_eq_getElem_cons hlt, hp] at hR
        have ps : wr.cell? ⟨g, i, none⟩ = some (.string p) := by
          have h := HS7.out.cell hlt
          rw [Nat.zero_add, hp] at h
          exact h
        have hps : p.size ≤ 1048576 := HLS.out p (by rw [← hp]; exact List.getElem_mem hlt)
        have k1 : (i : Int) < (l.length : Int) := by omega
        by_cases hany : rt = true ∧ p = ⟨#[42, 42]⟩
        · rw [accF_any hany] at hR
          have HQR := Asd.mk hR
          have t1 : (p.toList == [42, 42]) = true := star2.2 hany.2
          have pr : wr.cell? ⟨w.heap.size + 1, 2, none⟩ = some (.bool true) := by
            have := cell_of_heap HR13.out 2
            rw [hany.1] at this
            exact this
          have pc3 := cell_of_heap HR13.out 3
          have HOY := HO
          have HR1Y := HR13
          have HR0Y := HR03
          have HPY := HP
          have HSY := HS7
          clear hR HA hany
          go_wp2_with (at_builtin; refine wpList_append85 rfl (.tmp 43) (.tmp 44) rfl w.heap.size (.slice A Y.length c) Y rfl (HOY.out.alloc _) none none wr.heap.size rfl (hp_new _ _) (by omega) (by simp; omega) ?_; intro v2 w9 hown9 hgrow9; obtain ⟨A2, c2, hv2⟩ := own_len hown9; subst hv2; have q1 : PRuleAt w9 (w.heap.size + 1) bk dr rt (.slice A Y.length c) := (hgrow9.block _ (lt_of_heap (hp_alloc HR1Y.out _)) (fun e => own_ne HOY.out HR1Y.out (by decide) e.symm)).trans (hp_alloc HR1Y.out _); have q1c := cell_of_heap q1 3; have q1f := frozen_of_heap q1 3; replace q1 := Asd.mk q1; replace hown9 := Asd.mk hown9; replace hgrow9 := Asd.mk hgrow9; simp only [Act.put, List.setIfInBounds_toArray, List.set_cons_zero, List.set_cons_succ])
          have hk : Keeps [22, 87] wr (w9.setCell ⟨w.heap.size + 1, 3, none⟩ (.slice A2 (Y.length + 1) c2)) := ((Keeps.alloc _ _).trans (Keeps.grown (HOY.out.alloc _) (by simp) hgrow9.out)).trans (Keeps.setCell q1.out (by simp) _ _)
          have q0 : PRuleAt w9 w.heap.size false false false (.slice none 0 0) := (hgrow9.out.block _ (lt_of_heap (hp_alloc HR0Y.out _)) (fun e => own_ne HOY.out HR0Y.out (by decide) e.symm)).trans (hp_alloc HR0Y.out _)
          have HCN := Asd.mk (show Chg [] w (w9.setCell ⟨w.heap.size + 1, 3, none⟩ (.slice A2 (Y.length + 1) c2)) from (Chg.rgrown (HC3.out.alloc _) hgrow9.out (fun g e hk => by have := (HOY.out.lt g e).1; omega)).setCell (by simp) _)
          have HON := Asd.mk (show ((w9.setCell ⟨w.heap.size + 1, 3, none⟩ (.slice A2 (Y.length + 1) c2))).ownsRow w.heap.size 22 1 (.slice A2 (Y.length + 1) c2) (Y.length + 1) ((Y ++ [((none, Value.pointer none) : PieceV × Value)]).map (·.2)) from own_keeps hown9.out (Keeps.setCell (T := [87]) q1.out (by simp) _ _) (by simp))
          have HPN := Asd.mk (show ∀ y ∈ (Y ++ [((none, Value.pointer none) : PieceV × Value)]), PPieceH (w9.setCell ⟨w.heap.size + 1, 3, none⟩ (.slice A2 (Y.length + 1) c2)) y from fun y hy => by
            rcases List.mem_append.1 hy with hy | hy
            · exact (HPY.out y hy).keeps hk (by simp) (by simp)
            · obtain rfl := List.mem_singleton.1 hy
              exact rfl)
          have HSN := Asd.mk (HSY.out.keeps hk (by simp))
          have HR0N := Asd.mk (hp_set_other q0 (show w.heap.size ≠ w.heap.size + 1 by omega) 3 (.slice A2 (Y.length + 1) c2))
          have HR1N := Asd.mk (hp_set q1.out 3 (.slice A2 (Y.length + 1) c2))
          clear q0 hk
          go_roundg (l.length + 1 - (i + 1))
          case rel => exact ⟨i + 1, (Y ++ [((none, Value.pointer none) : PieceV × Value)]), A2, c2, Y.length + 1, by omega, by simp, by omega, by go_num, by rw [List.length_append]; simp; omega, ⟨by rw [List.map_append]; exact HQR.out⟩, HCN, HR0N, HR1N, HSN, HON, HPN⟩
          case measure => omega
        · have hsel : (p.toList == [42, 42]) = false ∨ ((p.toList == [42, 42]) = true ∧ rt = false) := by
            cases h1 : (p.toList == [42, 42]) with
            | false => exact .inl rfl
            | true =>
              right
              refine ⟨rfl, ?_⟩
              cases rt with
              | false => rfl
              | true => exact absurd ⟨rfl, star2.1 h1⟩ hany
          have pr : wr.cell? ⟨w.heap.size + 1, 2, none⟩ = some (.bool rt) := cell_of_heap HR13.out 2
          go_upto_region 10 with fail
          go_cut [41] from 36 to 41 (fun v41 wx => wr = wx ∧ v41 = .bool false)
          case first =>
            rcases hsel with t1 | ⟨t1, hrt⟩
            · go_wp2
              go_meet
              case rel => exact ⟨rfl, rfl⟩
            · rw [hrt] at pr
              go_wp2
              go_meet
              case rel => exact ⟨rfl, rfl⟩
          case rest =>
          obtain ⟨rfl, rfl⟩ := hcut
          clear hsel pr
          by_cases hlong : 1024 < p.size
          · rw [accF_long hany hlong] at hR
            have HQ3 := Asd.mk (show ruleF s = .error 2 by rw [HQ2.out, ← hR])
            clear hR HA HQ2 hany
            go_wp2_with fail
            refine (compile_long p _ hlong (by omega)).mono ?_
            rintro e w7 ⟨rfl, hw7⟩
            have HR0Z := Asd.mk (show PRuleAt w7 w.heap.size false false false (.slice none 0 0) by rw [hw7]; exact HR03.out)
            have HR1Z := Asd.mk (show PRuleAt w7 (w.heap.size + 1) bk dr rt (.slice A Y.length c) by rw [hw7]; exact HR13.out)
            have HC7 := Asd.mk (show Chg [] w w7 by rw [hw7]; exact HC3.out)
            clear hw7
            go_wp2_with (first | (refine wpList_load_row (o := ⟨some 54, _, _, _, _, _⟩) rfl 87 (.tmp 4) rfl (w.heap.size + 1) rfl 87 _ (0, 0) _ (HR1Z.out) Tryz.underlying87 rfl (size87 _ _ _ _ _ _) ?_) | (refine wpList_store_row (o := ⟨none, _, _, _, _, _⟩) rfl 87 (.tmp 2) (.tmp 54) rfl w.heap.size _ rfl rfl 87 _ (HR0Z.out) (size87 _ _ _ _ _ _) rfl (one93 _ _ _ _ _ _) ?_))
            refine bodyPost_ret (results_row_tmp rfl _ _ w.heap.size 87 _ (0, 0) _ rfl (setRow_heap _ _ _ _ _ _ (HR0Z.out)) Tryz.underlying87 rfl (size87 _ _ _ _ _ _)) rfl ?_
            rw [HQ3.out]
            exact ⟨HC7.out.setRow (by omega) _, _, _, _, _, _, _, rfl⟩
          · have hcomp := fun W : World => compile_own p W (by omega)
            cases hpar : parts p with
            | none =>
              rw [hpar] at hcomp
              rw [accF_none hany hlong hpar] at hR
              have HComp := Asd.mk hcomp
              have HQ3 := Asd.mk (show ruleF s = .error 40 by rw [HQ2.out, ← hR])
              clear hR HA HQ2 hany hcomp hpar
              go_wp2_with fail
              refine (HComp.out _).mono ?_
              rintro e w7 ⟨rfl, hC7⟩
              have HR0Z := Asd.mk (show PRuleAt w7 w.heap.size false false false (.slice none 0 0) from hC7.heap HR03.out (by simp))
              have HR1Z := Asd.mk (show PRuleAt w7 (w.heap.size + 1) bk dr rt (.slice A Y.length c) from hC7.heap HR13.out (by simp))
              have HC7 := Asd.mk (HC3.out.trans hC7)
              clear hC7
              go_wp2_with (first | (refine wpList_load_row (o := ⟨some 54, _, _, _, _, _⟩) rfl 87 (.tmp 4) rfl (w.heap.size + 1) rfl 87 _ (0, 0) _ (HR1Z.out) Tryz.underlying87 rfl (size87 _ _ _ _ _ _) ?_) | (refine wpList_store_row (o := ⟨none, _, _, _, _, _⟩) rfl 87 (.tmp 2) (.tmp 54) rfl w.heap.size _ rfl rfl 87 _ (HR0Z.out) (size87 _ _ _ _ _ _) rfl (one93 _ _ _ _ _ _) ?_))
              refine bodyPost_ret (results_row_tmp rfl _ _ w.heap.size 87 _ (0, 0) _ rfl (setRow_heap _ _ _ _ _ _ (HR0Z.out)) Tryz.underlying87 rfl (size87 _ _ _ _ _ _)) rfl ?_
              rw [HQ3.out]
              exact ⟨HC7.out.setRow (by omega) _, _, _, _, _, _, _, rfl⟩
            | some L1 =>
              rw [hpar] at hcomp
              rw [accF_some hany hlong hpar] at hR
              have HComp := Asd.mk hcomp
              have HQR := Asd.mk hR
              clear hR HA hany hcomp hpar
              go_wp2_with fail
              refine (HComp.out _).mono ?_
              rintro e w7 ⟨gp, rfl, hC7, hG7⟩
              have HR0Y := Asd.mk (show PRuleAt w7 w.heap.size false false false (.slice none 0 0) from hC7.heap HR03.out (by simp))
              have HR1Y := Asd.mk (show PRuleAt w7 (w.heap.size + 1) bk dr rt (.slice A Y.length c) from hC7.heap HR13.out (by simp))
              have HC7 := Asd.mk (HC3.out.trans hC7)
              have hk7 : Keeps [] wr w7 := Keeps.of_chg hC7
              have HOY := Asd.mk (own_keeps HO.out hk7 (by simp))
              have HSY := Asd.mk (HS7.out.keeps hk7 (by simp))
              have HPY := Asd.mk (show ∀ y ∈ Y, PPieceH w7 y from fun y hy => (HP.out y hy).keeps hk7 (by simp) (by simp))
              have HG7 := Asd.mk hG7
              have hz7 := hC7.size
              have pc3 := cell_of_heap HR1Y.out 3
              clear hC7 hk7 hG7 HComp
              go_wp2_with (at_builtin; refine wpList_append85 rfl (.tmp 57) (.tmp 59) rfl w.heap.size (.slice A Y.length c) Y rfl (HOY.out.alloc _) (some L1) (some ⟨gp, 0, none⟩) w7.heap.size rfl (hp_new _ _) (by omega) (by simp; omega) ?_; intro v2 w9 hown9 hgrow9; obtain ⟨A2, c2, hv2⟩ := own_len hown9; subst hv2; have q1 : PRuleAt w9 (w.heap.size + 1) bk dr rt (.slice A Y.length c) := (hgrow9.block _ (lt_of_heap (hp_alloc HR1Y.out _)) (fun e => own_ne HOY.out HR1Y.out (by decide) e.symm)).trans (hp_alloc HR1Y.out _); have q1c := cell_of_heap q1 3; have q1f := frozen_of_heap q1 3; replace q1 := Asd.mk q1; replace hown9 := Asd.mk hown9; replace hgrow9 := Asd.mk hgrow9; simp only [Act.put, List.setIfInBounds_toArray, List.set_cons_zero, List.set_cons_succ])
              have hk : Keeps [22, 87] w7 (w9.setCell ⟨w.heap.size + 1, 3, none⟩ (.slice A2 (Y.length + 1) c2)) := ((Keeps.alloc _ _).trans (Keeps.grown (HOY.out.alloc _) (by simp) hgrow9.out)).trans (Keeps.setCell q1.out (by simp) _ _)
              have q0 : PRuleAt w9 w.heap.size false false false (.slice none 0 0) := (hgrow9.out.block _ (lt_of_heap (hp_alloc HR0Y.out _)) (fun e => own_ne HOY.out HR0Y.out (by decide) e.symm)).trans (hp_alloc HR0Y.out _)
              have HCN := Asd.mk (show Chg [] w (w9.setCell ⟨w.heap.size + 1, 3, none⟩ (.slice A2 (Y.length + 1) c2)) from (Chg.rgrown (HC7.out.alloc _) hgrow9.out (fun g e hk => by have := (HOY.out.lt g e).1; omega)).setCell (by simp) _)
              have HON := Asd.mk (show ((w9.setCell ⟨w.heap.size + 1, 3, none⟩ (.slice A2 (Y.length + 1) c2))).ownsRow w.heap.size 22 1 (.slice A2 (Y.length + 1) c2) (Y.length + 1) ((Y ++ [((some L1, Value.pointer (some ⟨gp, 0, none⟩)) : PieceV × Value)]).map (·.2)) from own_keeps hown9.out (Keeps.setCell (T := [87]) q1.out (by simp) _ _) (by simp))
              have HPN := Asd.mk (show ∀ y ∈ (Y ++ [((some L1, Value.pointer (some ⟨gp, 0, none⟩)) : PieceV × Value)]), PPieceH (w9.setCell ⟨w.heap.size + 1, 3, none⟩ (.slice A2 (Y.length + 1) c2)) y from fun y hy => by
                rcases List.mem_append.1 hy with hy | hy
                · exact (HPY.out y hy).keeps hk (by simp) (by simp)
                · obtain rfl := List.mem_singleton.1 hy
                  exact ⟨gp, rfl, HG7.out.keeps hk (by simp) (by simp)⟩)
              have HSN := Asd.mk (HSY.out.keeps hk (by simp))
              have HR0N := Asd.mk (hp_set_other q0 (show w.heap.size ≠ w.heap.size + 1 by omega) 3 (.slice A2 (Y.length + 1) c2))
              have HR1N := Asd.mk (hp_set q1.out 3 (.slice A2 (Y.length + 1) c2))
              clear q0 hk
              go_roundg (l.length + 1 - (i + 1))
              case rel => exact ⟨i + 1, (Y ++ [((some L1, Value.pointer (some ⟨gp, 0, none⟩)) : PieceV × Value)]), A2, c2, Y.length + 1, by omega, by simp, by omega, by go_num, by rw [List.length_append]; simp; omega, ⟨by rw [List.map_append]; exact HQR.out⟩, HCN, HR0N, HR1N, HSN, HON, HPN⟩
              case measure => omega
      · obtain rfl : i = l.length := by omega
        have HF := Asd.mk (show RL = .ok (Y.map (·.1)) by rw [← HA.out, List.drop_length, accF_end])
        have HQ3 := Asd.mk (show ruleF s = .ok ⟨bk, dr, rt, Y.map (·.1)⟩ by rw [HQ2.out, HF.out])
        clear HA HF HQ2
        go_wp2_with (first | (refine wpList_load_row (o := ⟨some 63, _, _, _, _, _⟩) rfl 87 (.tmp 4) rfl (w.heap.size + 1) rfl 87 _ (0, 0) _ (HR13.out) Tryz.underlying87 rfl (size87 _ _ _ _ _ _) ?_) | (refine wpList_store_row (o := ⟨none, _, _, _, _, _⟩) rfl 87 (.tmp 2) (.tmp 63) rfl w.heap.size _ rfl rfl 87 _ (HR03.out) (size87 _ _ _ _ _ _) rfl (one93 _ _ _ _ _ _) ?_))
        refine bodyPost_ret (results_row_tmp rfl _ _ w.heap.size 87 _ (0, 0) _ rfl (setRow_heap _ _ _ _ _ _ (HR03.out)) Tryz.underlying87 rfl (size87 _ _ _ _ _ _)) rfl ?_
        have hk : Keeps [87] wr (wr.setRow w.heap.size #[.bool bk, .bool dr, .bool rt, .slice A Y.length c]) := Keeps.setRow HR03.out (by simp) _
        rw [HQ3.out]
        exact ⟨HC3.out.setRow (by omega) _, _, Y, rfl, own_keeps HO.out hk (by simp), fun y hy => (HP.out y hy).keeps hk (by simp) (by simp), rfl⟩
  · have te := isEmpty_yes hz
    have HQ := Asd.mk (show ruleF s = .error 40 by rw [HRF.out, if_pos (by omega)])
    clear HRF
    have HR13 := Asd.mk (show PRuleAt (w2.setCell ⟨w.heap.size + 1, 1, none⟩ (.bool dr)) (w.heap.size + 1) bk dr false (.slice none 0 0) from hp_set HR12.out 1 _)
    have HR03 := Asd.mk (show PRuleAt (w2.setCell ⟨w.heap.size + 1, 1, none⟩ (.bool dr)) w.heap.size false false false (.slice none 0 0) from hp_set_other HR02.out (by omega) _ _)
    have HC3 := Asd.mk (show Chg [] w (w2.setCell ⟨w.heap.size + 1, 1, none⟩ (.bool dr)) from HC2.out.setCell (by simp) _)
    go_wp2_with (first | (refine wpList_load_row (o := ⟨some 23, _, _, _, _, _⟩) rfl 87 (.tmp 4) rfl (w.heap.size + 1) rfl 87 _ (0, 0) _ (HR13.out) Tryz.underlying87 rfl (size87 _ _ _ _ _ _) ?_) | (refine wpList_store_row (o := ⟨none, _, _, _, _, _⟩) rfl 87 (.tmp 2) (.tmp 23) rfl w.heap.size _ rfl rfl 87 _ (HR03.out) (size87 _ _ _ _ _ _) rfl (one93 _ _ _ _ _ _) ?_))
    refine bodyPost_ret (results_row_tmp rfl _ _ w.heap.size 87 _ (0, 0) _ rfl (setRow_heap _ _ _ _ _ _ (HR03.out)) Tryz.underlying87 rfl (size87 _ _ _ _ _ _)) rfl ?_
    rw [HQ.out]
    exact ⟨HC3.out.setRow (by omega) _, _, _, _, _, _, _, rfl⟩
end Go.Proofs.YtgkifphfibcfdaaGreatDoor.G
