/- Merged out of these texts: WorksF, Same, Works, DeepF, Deep. -/
import Derived.Test.YtiijbecklkccfaaDoorDp10
import Derived.Test.YtiijbecklkccfaaDoorDp9
import Derived.Test.YtiijbecklkccfaaDoorDp6
import Derived.Test.YtiijbecklkccfaaDoorDp1
/- What the head of the statements does with a file system: plain. -/
namespace Go.Proofs.YtiijbecklkccfaaDoor.I
open Go.RowKit Go.Proofs.YtiijbecklkccfaaDoor.B Go.Sort
set_option linter.unusedVariables false
def F1 : FS := [([[97]], rootN)]
def F2 : FS := [([[97]], rootN), ([[97], [102]], ⟨1, ⟨#[]⟩⟩)]
def F3 : FS := [([[97]], rootN), ([[97], [102]], ⟨1, ⟨#[104, 105]⟩⟩)]
def F4 : FS := [([[97]], rootN), ([[103]], ⟨1, ⟨#[104, 105]⟩⟩)]
theorem pts_a : partsF ⟨#[97]⟩ = .ok ([] ++ [[97]]) := by kernel_rfl
theorem pts_g : partsF ⟨#[103]⟩ = .ok ([] ++ [[103]]) := by kernel_rfl
theorem pts_af : partsF ⟨#[97, 47, 102]⟩ = .ok ([[97]] ++ [[102]]) := by kernel_rfl
theorem room0 : Room [] 10 3 := ⟨by omega, by omega, by unfold usedF; simp, by simp⟩
theorem wk1 : makeF [] 10 3 ⟨#[97]⟩ = (0, F1) := makeF_new fsOk_nil rfl rfl rfl pts_a (by simp) (by unfold usedF; simp)
theorem g1 : FsOk F1 ∧ Room F1 10 3 := by have := makeF_keep fsOk_nil room0 ⟨#[97]⟩; rw [wk1] at this; exact this
theorem wk2 : createF F1 10 3 ⟨#[97, 47, 102]⟩ = (0, F2) := createF_new g1.1 (y := rootN) rfl rfl rfl pts_af (by decide) (by decide)
theorem g2 : FsOk F2 ∧ Room F2 10 3 := by have := createF_keep g1.1 g1.2 ⟨#[97, 47, 102]⟩; rw [wk2] at this; exact this
theorem wk3 : appendF F2 10 ⟨#[97, 47, 102]⟩ ⟨#[104, 105]⟩ = (0, F3) := by
  rw [appendF_file g2.1 (x := ⟨1, ⟨#[]⟩⟩) (p := [[97], [102]]) rfl rfl pts_af (by decide), if_neg (by decide)]
  kernel_rfl
theorem g3 : FsOk F3 ∧ Room F3 10 3 := by have := appendF_keep g2.1 g2.2 ⟨#[97, 47, 102]⟩ ⟨#[104, 105]⟩; rw [wk3] at this; exact this
theorem mv4 : mvF F3 [[97], [102]] [[103]] = F4 := by
  unfold mvF F3 F4
  simp only [List.map_cons, List.map_nil]
  rw [mvP_out (r := [[97]]) (by decide), show mvP [[97], [102]] [[103]] [[97], [102]] = [[103]] from mvP_in [[97], [102]] [[103]] []]
theorem wk4 : renameF F3 ⟨#[97, 47, 102]⟩ ⟨#[103]⟩ = (0, F4) := by
  have hx : F3.at ([[97]] ++ [[102]]) = some ⟨1, ⟨#[104, 105]⟩⟩ := by kernel_rfl
  rw [renameF_new g3.1 pts_af pts_g (by simp) hx (fun h => by cases h) (qd := []) (y := rootN) rfl rfl rfl, if_pos]
  · exact congrArg (Prod.mk 0) mv4
  · intro r hr
    cases r with
    | nil => exact ⟨_, pts_g⟩
    | cons k r =>
      obtain ⟨y, h1, h2⟩ := g3.1.prefix hr (by simp)
      rw [hx] at h1
      cases h1
      cases h2
theorem g4 : FsOk F4 ∧ Room F4 10 3 := by
  have hx : F3.at ([[97]] ++ [[102]]) = some ⟨1, ⟨#[104, 105]⟩⟩ := by kernel_rfl
  have hh : RenOk F3 ⟨#[97, 47, 102]⟩ ⟨#[103]⟩ [[97], [102]] [[103]] ⟨1, ⟨#[104, 105]⟩⟩ [] [103] rootN := by
    refine ⟨pts_af, pts_g, by simp, by decide, hx, rfl, rfl, rfl, by decide, ?_, ?_⟩
    · rintro ⟨k, hk⟩
      have hn : F3.at [[103]] = none := by kernel_rfl
      exact hk (not_under g3.1 hn [k])
    · intro r hr
      cases r with
      | nil => exact ⟨_, pts_g⟩
      | cons k r =>
        obtain ⟨y, h1, h2⟩ := g3.1.prefix (p := [[97], [102]]) hr (by simp)
        rw [show F3.at [[97], [102]] = some ⟨1, ⟨#[104, 105]⟩⟩ from hx] at h1
        cases h1
        cases h2
  have := hh.sound g3.1 g3.2
  rw [del_none (by decide), mv4] at this
  exact this
theorem wk5 : readF F4 ⟨#[103]⟩ = (0, ⟨#[104, 105]⟩) := readF_file g4.1 (x := ⟨1, ⟨#[104, 105]⟩⟩) (p := [[103]]) rfl rfl pts_g
theorem wk6 : (readF F4 ⟨#[97, 47, 102]⟩).1 = 200 := by
  unfold readF
  rw [thereE_no g4.1 (q := [[97]]) (y := rootN) rfl rfl rfl pts_af]
theorem wk7 : usedF F4 = 2 := by decide
theorem wk8 : appendF F4 10 ⟨#[103]⟩ ⟨#[49, 50, 51, 52, 53, 54, 55, 56, 57]⟩ = (206, F4) := by
  rw [appendF_file g4.1 (x := ⟨1, ⟨#[104, 105]⟩⟩) (p := [[103]]) rfl rfl pts_g (by decide), if_pos (by decide)]
theorem wk9 : listE F4 ⟨#[]⟩ = .ok [] := by
  unfold listE
  rw [thereE_at g4.1 (x := rootN) (p := []) rfl parts_empty]
  rfl
/-- The names that List gives. -/
theorem wk10 {l : List Nm} (hd : l.Nodup) (h : ∀ k, k ∈ l ↔ F4.at ([] ++ [k]) ≠ none) : l.length = 2 ∧ sortN l = [[97], [103]] := by
  have hm : ∀ k, k ∈ l ↔ k ∈ ([[97], [103]] : List Nm) := by
    intro k
    rw [h k, List.nil_append, at_ne _ (by simp)]
    unfold F4
    rw [List.lookup_cons, List.lookup_cons, List.lookup_nil]
    by_cases h1 : k = [97]
    · subst h1; simp
    · have e1 : ([k] == ([[97]] : Pth)) = false := by simpa using h1
      rw [e1]
      by_cases h2 : k = [103]
      · subst h2; simp
      · have e2 : ([k] == ([[103]] : Pth)) = false := by simpa using h2
        rw [e2]
        simp [h1, h2]
  have hp : l.Perm [[97], [103]] := (List.perm_ext_iff_of_nodup hd (by decide)).2 hm
  refine ⟨hp.length_eq, ?_⟩
  have h1 : (sortN l).Perm [[97], [103]] := (List.mergeSort_perm l _).trans hp
  have tr : ∀ a b c : Nm, decide (a ≤ b) = true → decide (b ≤ c) = true → decide (a ≤ c) = true := fun a b c h1 h2 => by
    simp only [decide_eq_true_eq] at h1 h2 ⊢
    exact List.le_trans h1 h2
  have tt : ∀ a b : Nm, (decide (a ≤ b) || decide (b ≤ a)) = true := fun a b => by
    simp only [Bool.or_eq_true, decide_eq_true_eq]
    exact List.le_total a b
  have h2 := List.pairwise_mergeSort (le := fun x y : Nm => decide (x ≤ y)) tr tt l
  refine h1.eq_of_pairwise ?_ h2 ?_
  · intro a b _ _ h1 h2
    simp only [decide_eq_true_eq] at h1 h2
    exact List.le_antisymm h1 h2
  · simp
    decide
end Go.Proofs.YtiijbecklkccfaaDoor.I
/- The law's sameTexts: the walk. -/
namespace Go.Proofs.YtiijbecklkccfaaDoor.I
open Go.RowKit Go.Proofs.YtiijbecklkccfaaDoor.B Go.Sort
set_option linter.unusedVariables false
theorem ba_eq {a b : ByteArray} (h : a.toList = b.toList) : a = b := by
  have h := congrArg nb h
  rwa [ByteArray.toList_eq, ByteArray.toList_eq, nb_list, nb_list] at h
set_option maxRecDepth 100000 in
set_option maxHeartbeats 16000000 in
theorem sameTexts_calls (L1 L2 : List ByteArray) (v1 v2 : Value) (w : World) (h1 : StrL w v1 L1) (h2 : StrL w v2 L2) (hz1 : L1.length ≤ 16777216) (hz2 : L2.length ≤ 16777216) :
    Calls Tryd.prog 25 #[v1, v2] w fun e w' => e = .returned (.bool (decide (L1 = L2))) ∧ Chg [] w w' := by
  obtain ⟨A1, c1, rfl, hc1⟩ := h1
  obtain ⟨A2, c2, rfl, hc2⟩ := h2
  have hC0 := Chg.refl [] w
  obtain ⟨R, hR⟩ : ∃ R, decide (L1 = L2) = R := ⟨_, rfl⟩
  rw [hR]
  have HR := Asd.mk hR
  clear hR
  by_cases hn : L1.length = L2.length
  · have HC1 := Asd.mk hc1
    have HC2 := Asd.mk hc2
    obtain ⟨n, hn1⟩ : ∃ n, L1.length = n := ⟨_, rfl⟩
    have hn2 : L2.length = n := by rw [← hn, hn1]
    have HN1 := Asd.mk hn1
    have HN2 := Asd.mk hn2
    rw [hn1] at hz1 ⊢
    rw [hn2] at hz2 ⊢
    clear hc1 hc2 hn hn1 hn2
    (go_enter Tryd.func25, Tryd.ntmps25)
    go_wp2
    go_loopg [5] (n + 1) (fun gk v5 wx => ∃ i : Nat, i ≤ n ∧ gk = n + 1 - i ∧ v5 = .int .i64 (i : Int) ∧ Asd (Chg [] w wx) ∧ Asd (L1.take i = L2.take i))
    case atStart => exact ⟨0, by omega, rfl, rfl, ⟨Chg.refl _ _⟩, ⟨by simp⟩⟩
    case round =>
      obtain ⟨i, hi, rfl, rfl, HC, HT⟩ := hrel
      by_cases hlt : i < n
      · have k2 : (i : Int) < (n : Int) := by omega
        have hl1 : i < L1.length := by rw [HN1.out]; exact hlt
        have hl2 : i < L2.length := by rw [HN2.out]; exact hlt
        obtain ⟨a1, rfl, d1⟩ := HC1.out i hl1
        obtain ⟨a2, rfl, d2⟩ := HC2.out i hl2
        have e1 := (HC.out.below.cell (World.block_lt_of_cell? w _ d1)).trans d1
        have e2 := (HC.out.below.cell (World.block_lt_of_cell? w _ d2)).trans d2
        obtain ⟨x, hx⟩ : ∃ x, L1[i] = x := ⟨_, rfl⟩
        obtain ⟨y, hy⟩ : ∃ y, L2[i] = y := ⟨_, rfl⟩
        rw [hx] at e1
        rw [hy] at e2
        have HX := Asd.mk hx
        have HY := Asd.mk hy
        clear d1 d2 hx hy
        by_cases hxy : x = y
        · have t1 : (x.toList == y.toList) = true := by rw [hxy]; simp
          have HT2 := Asd.mk (show L1.take (i + 1) = L2.take (i + 1) by rw [List.take_succ_eq_append_getElem hl1, List.take_succ_eq_append_getElem hl2, HT.out, HX.out, HY.out, hxy])
          clear hxy HT
          go_upto_region 6 with fail
          go_quiet (fail)
          go_wp2
          go_roundg (n + 1 - (i + 1))
          case rel => exact ⟨i + 1, by omega, by omega, by go_num, ⟨HC.out.drewN nq⟩, HT2⟩
          case measure => omega
        · have t1 : (x.toList == y.toList) = false := beq_eq_false_iff_ne.2 (fun e => hxy (ba_eq e))
          have HA := Asd.mk (show R = false by
            rw [← HR.out, decide_eq_false_iff_not]
            intro e
            apply hxy
            rw [← HX.out, ← HY.out]
            simp [e])
          clear hxy HT
          go_upto_region 6 with fail
          go_quiet (fail)
          go_wp2
          go_ret
          exact ⟨by rw [HA.out]; rfl, HC.out.drewN nq⟩
      · obtain rfl : i = n := by omega
        have HA := Asd.mk (show R = true by
          rw [← HR.out, decide_eq_true_eq]
          have := HT.out
          rw [List.take_of_length_le (by have := HN1.out; omega), List.take_of_length_le (by have := HN2.out; omega)] at this
          exact this)
        go_wp2
        go_ret
        exact ⟨by rw [HA.out]; rfl, HC.out⟩
  · have HA := Asd.mk (show R = false by
      rw [← HR.out, decide_eq_false_iff_not]
      rintro rfl
      exact hn rfl)
    have k1 : ¬ (L1.length : Int) = (L2.length : Int) := by omega
    clear hc1 hc2 hn
    (go_enter Tryd.func25, Tryd.ntmps25)
    go_wp2
    go_ret
    exact ⟨by rw [HA.out]; rfl, hC0⟩
end Go.Proofs.YtiijbecklkccfaaDoor.I
/- The head of the statements: works. The walk. -/
namespace Go.Proofs.YtiijbecklkccfaaDoor.I
open Go.RowKit Go.Proofs.YtiijbecklkccfaaDoor.B Go.Sort
set_option linter.unusedVariables false
set_option maxRecDepth 100000 in
set_option maxHeartbeats 16000000 in
theorem works_calls (w : World) (hm : MaxLenAt w) (hg : ErrType w) : Calls Tryd.prog 8 #[] w fun e w' => e = .returned (.bool true) ∧ Chg [] w w' := by
  have HM := Asd.mk hm
  have HE := Asd.mk hg
  have H0 := Asd.mk (sys_new 10 3 w w (Chg.refl _ _) (by omega) (by omega))
  clear hm hg
  (go_enter Tryd.func8, Tryd.ntmps8)
  go_wp2_with fail
  refine H0.out.mono ?_
  rintro e w1 ⟨t, rfl, hS⟩
  have h1 := sys_make ⟨#[97]⟩ hS HM.out (by decide)
  rw [wk1] at h1
  have H1 := Asd.mk h1
  clear hS h1 H0
  go_wp2_with fail
  refine H1.out.mono ?_
  rintro e w2 ⟨rfl, hS⟩
  have h1 := sys_create ⟨#[97, 47, 102]⟩ hS HM.out (by decide)
  rw [wk2] at h1
  have H2 := Asd.mk h1
  clear hS h1 H1
  simp only [errV, if_true]
  go_wp2_with fail
  refine H2.out.mono ?_
  rintro e w3 ⟨rfl, hS⟩
  have h1 := sys_append ⟨#[97, 47, 102]⟩ ⟨#[104, 105]⟩ hS HM.out (by decide) (by decide)
  rw [wk3] at h1
  have H3 := Asd.mk h1
  clear hS h1 H2
  simp only [errV, if_true]
  go_wp2_with fail
  refine H3.out.mono ?_
  rintro e w4 ⟨rfl, hS⟩
  have h1 := sys_rename ⟨#[97, 47, 102]⟩ ⟨#[103]⟩ hS HM.out (by decide) (by decide)
  rw [wk4] at h1
  have H4 := Asd.mk h1
  clear hS h1 H3
  simp only [errV, if_true]
  go_wp2_with fail
  refine H4.out.mono ?_
  rintro e w5 ⟨rfl, hS⟩
  have h1 := sys_read ⟨#[103]⟩ hS HM.out (by decide)
  rw [wk5] at h1
  have H5 := Asd.mk h1
  have HS := Asd.mk hS
  clear hS h1 H4
  simp only [errV, if_true]
  go_wp2_with fail
  refine H5.out.mono ?_
  rintro e w6 ⟨rfl, hC⟩
  have hS := HS.out.chg hC
  have h1 := sys_read ⟨#[97, 47, 102]⟩ hS HM.out (by decide)
  rw [wk6] at h1
  have H6 := Asd.mk h1
  have HS2 := Asd.mk hS
  clear hS h1 H5 HS hC
  simp only [errV, if_true]
  go_wp2_with fail
  refine H6.out.mono ?_
  rintro e w7 ⟨rfl, hC⟩
  have hS := HS2.out.chg hC
  have h1 := sys_used hS
  rw [wk7] at h1
  have H7 := Asd.mk h1
  have HS3 := Asd.mk hS
  clear hS h1 H6 HS2 hC
  simp only [errV, if_neg (by decide : ¬ ((200 : Nat) = 0))]
  go_wp2_with fail
  refine H7.out.mono ?_
  rintro e w8 ⟨rfl, hC⟩
  have hS := HS3.out.chg hC
  have h1 := sys_list ⟨#[]⟩ hS HM.out (by decide)
  rw [wk9] at h1
  have H8 := Asd.mk h1
  have HS4 := Asd.mk hS
  clear hS h1 H7 HS3 hC
  go_wp2_with fail
  refine H8.out.mono ?_
  rintro e w9 ⟨⟨v, rfl, l, hl1, hl2, hl3⟩, hC⟩
  obtain ⟨hl4, hl5⟩ := wk10 hl1 hl2
  rw [hl4, hl5] at hl3
  have hS := HS4.out.chg hC
  obtain ⟨_, g1, g2, L, A, M, g3, g4⟩ := HS4.out
  have HLL := Asd.mk g3.bl
  have HT := Asd.mk (g3.keep0 hC)
  have HG := Asd.mk (And.intro g1 g2)
  have HL := Asd.mk hl3
  have H9 := Asd.mk (num_errno 200 w9 (HE.out.chg hS.1))
  have HC9 := Asd.mk hS.1
  have HL4 := Asd.mk g4
  clear hS hl1 hl2 hl3 hl4 hl5 H8 HS4 hC g1 g2 g3 g4
  go_wp2_with fail
  refine H9.out.mono ?_
  rintro e w10 ⟨rfl, hC⟩
  have h1 := append_calls L t F4 10 3 A M ⟨#[103]⟩ ⟨#[49, 50, 51, 52, 53, 54, 55, 56, 57]⟩ w10 (HT.out.keep0 hC) HG.out.1 HG.out.2 (HM.out.chg (HC9.out.trans hC)) (by decide) (by decide)
  rw [wk8] at h1
  have H10 := Asd.mk h1
  have HL2 := Asd.mk (own_chg HL.out hC (by simp))
  have HC10 := Asd.mk (HC9.out.trans hC)
  clear h1 HL H9 hC HT HC9
  go_wp2_with fail
  refine H10.out.mono ?_
  rintro e w11 ⟨rfl, hC, _⟩
  have HC11 := Asd.mk (Chg.fresh ((HC10.out.mono (by simp)).trans hC) HL4.out)
  have HL3 := Asd.mk (own_chg HL2.out hC (fun i hi => .inl (HLL.out i hi)))
  have H11 := Asd.mk (num_errno 206 w11 (HE.out.chg HC11.out))
  clear hC H10 HC10 HL2
  simp only [errV, if_neg (by decide : ¬ ((206 : Nat) = 0))]
  go_wp2_with fail
  refine H11.out.mono ?_
  rintro e w12 ⟨rfl, hC⟩
  have HL4 := Asd.mk (own_chg HL3.out hC (by simp))
  have HC12 := Asd.mk (HC11.out.trans hC)
  clear hC H11 HC11 HL3
  go_wp2_with fail
  refine (sameTexts_calls [⟨#[97]⟩, ⟨#[103]⟩] [⟨#[97]⟩, ⟨#[103]⟩] v (.slice (some ⟨w12.heap.size, 0, none⟩) 2 2) _ ?_ ?_ (by decide) (by decide)).mono ?_
  · exact (strL_of_own HL4.out).chg ((Chg.refl _ _).alloc _)
  · exact ⟨_, 2, rfl, fun i hi => ⟨_, rfl, by
      rcases i with _ | _ | i
      · exact cell_of_heap (hp_new w12 _) 0
      · exact cell_of_heap (hp_new w12 _) 1
      · simp at hi; omega⟩⟩
  rintro e w13 ⟨rfl, hC⟩
  have HC13 := Asd.mk ((HC12.out.alloc _).trans hC)
  clear hC
  rw [show decide (([⟨#[97]⟩, ⟨#[103]⟩] : List ByteArray) = [⟨#[97]⟩, ⟨#[103]⟩]) = true from decide_eq_true rfl]
  go_wp2
  go_ret
  exact ⟨rfl, HC13.out⟩
end Go.Proofs.YtiijbecklkccfaaDoor.I
/- Two chains of directories, made one in the other; one put behind the other. Plain. -/
namespace Go.Proofs.YtiijbecklkccfaaDoor.I
open Go.RowKit Go.Proofs.YtiijbecklkccfaaDoor.B Go.Sort
set_option linter.unusedVariables false
def chA (i : Nat) : Pth := [97] :: List.replicate i [120]
def chB (j : Nat) : Pth := [98] :: List.replicate j [121]
/-- Where the one chain goes to. -/
def chG (j : Nat) : Pth := chB j ++ [[122]]
open Classical in
structure Deep (fs : FS) (i j : Nat) : Prop where
  ok : FsOk fs
  used : usedF fs = 0
  len : fs.length = i + j
  at_ : ∀ r, fs.at r = if r = [] ∨ (∃ k, k < i ∧ r = chA k) ∨ (∃ k, k < j ∧ r = chB k) then some rootN else none
theorem rep_succ (i : Nat) (n : Nm) : List.replicate (i + 1) n = List.replicate i n ++ [n] := List.replicate_succ'
theorem chA_succ (i : Nat) : chA (i + 1) = chA i ++ [[120]] := by unfold chA; rw [rep_succ]; rfl
theorem chB_succ (i : Nat) : chB (i + 1) = chB i ++ [[121]] := by unfold chB; rw [rep_succ]; rfl
theorem chA_len (i : Nat) : (chA i).length = i + 1 := by simp [chA]
theorem chB_len (i : Nat) : (chB i).length = i + 1 := by simp [chB]
theorem chA_inj {i k : Nat} (h : chA i = chA k) : i = k := by have := congrArg List.length h; rw [chA_len, chA_len] at this; omega
theorem chB_inj {i k : Nat} (h : chB i = chB k) : i = k := by have := congrArg List.length h; rw [chB_len, chB_len] at this; omega
theorem chA_ne_chB (i k : Nat) : chA i ≠ chB k := fun h => by unfold chA chB at h; simp at h
theorem chA_ok (i : Nat) : ∀ n ∈ chA i, okNm n = true ∧ n.length ≤ 1 := by
  intro n hn
  unfold chA at hn
  rcases List.mem_cons.1 hn with rfl | h
  · exact ⟨by decide, by decide⟩
  · rw [List.eq_of_mem_replicate h]
    exact ⟨by decide, by decide⟩
theorem chB_ok (i : Nat) : ∀ n ∈ chB i, okNm n = true ∧ n.length ≤ 1 := by
  intro n hn
  unfold chB at hn
  rcases List.mem_cons.1 hn with rfl | h
  · exact ⟨by decide, by decide⟩
  · rw [List.eq_of_mem_replicate h]
    exact ⟨by decide, by decide⟩
theorem chG_ok (i : Nat) : ∀ n ∈ chG i, okNm n = true ∧ n.length ≤ 1 := by
  intro n hn
  unfold chG at hn
  rcases List.mem_append.1 hn with h | h
  · exact chB_ok i n h
  · rw [List.mem_singleton] at h
    rw [h]
    exact ⟨by decide, by decide⟩
theorem chGx_ok (i k : Nat) : ∀ n ∈ chG i ++ List.replicate k [120], okNm n = true ∧ n.length ≤ 1 := by
  intro n hn
  rcases List.mem_append.1 hn with h | h
  · exact chG_ok i n h
  · rw [List.eq_of_mem_replicate h]
    exact ⟨by decide, by decide⟩
theorem chG_len (i : Nat) : (chG i).length = i + 2 := by simp [chG, chB]
theorem deep_nil : Deep [] 0 0 := by
  refine ⟨fsOk_nil, rfl, rfl, fun r => ?_⟩
  by_cases h : r = []
  · rw [if_pos (.inl h), h]; rfl
  · rw [if_neg (by rintro (h1 | ⟨k, hk, _⟩ | ⟨k, hk, _⟩); exact h h1; omega; omega), at_ne _ h]
    rfl
theorem deep_parA {fs : FS} {i j : Nat} (h : Deep fs i j) : ∃ q n, chA i = q ++ [n] ∧ fs.at q = some rootN := by
  cases i with
  | zero => exact ⟨[], [97], rfl, rfl⟩
  | succ i => exact ⟨chA i, [120], chA_succ i, by rw [h.at_, if_pos (.inr (.inl ⟨i, by omega, rfl⟩))]⟩
theorem deep_parB {fs : FS} {i j : Nat} (h : Deep fs i j) : ∃ q n, chB j = q ++ [n] ∧ fs.at q = some rootN := by
  cases j with
  | zero => exact ⟨[], [98], rfl, rfl⟩
  | succ j => exact ⟨chB j, [121], chB_succ j, by rw [h.at_, if_pos (.inr (.inr ⟨j, by omega, rfl⟩))]⟩
theorem deep_noA {fs : FS} {i j : Nat} (h : Deep fs i j) : fs.at (chA i) = none := by
  rw [h.at_, if_neg]
  rintro (h1 | ⟨k, hk, e⟩ | ⟨k, hk, e⟩)
  · simp [chA] at h1
  · have := chA_inj e; omega
  · exact chA_ne_chB _ _ e
theorem deep_noB {fs : FS} {i j : Nat} (h : Deep fs i j) : fs.at (chB j) = none := by
  rw [h.at_, if_neg]
  rintro (h1 | ⟨k, hk, e⟩ | ⟨k, hk, e⟩)
  · simp [chB] at h1
  · exact chA_ne_chB _ _ e.symm
  · have := chB_inj e; omega
theorem deep_makeA {fs : FS} {i j : Nat} (h : Deep fs i j) (hi : i ≤ 63) (hj : j ≤ 63) : makeF fs 100 1000 (tx (chA i)) = (0, fs ++ [(chA i, rootN)]) ∧ Deep (fs ++ [(chA i, rootN)]) (i + 1) j := by
  obtain ⟨q, n, e, hq⟩ := deep_parA h
  have hn := deep_noA h
  have hp := parts_tx (p := chA i) (by simp [chA]) (okP_one (chA_ok i) (by rw [chA_len]; omega))
  rw [e] at hp hn ⊢
  have hok : okP (q ++ [n]) := partsF_ok hp
  refine ⟨makeF_new h.ok hq rfl hn hp (by rw [h.len]; omega) (by rw [h.used]; omega), fsOk_put h.ok hq rfl hn okN_dir hok, ?_, ?_, fun r => ?_⟩
  · unfold usedF
    rw [List.map_append, List.sum_append]
    have := h.used
    unfold usedF at this
    rw [this]; rfl
  · rw [List.length_append, h.len]; simp; omega
  · rw [at_put _ (by simp) hn, h.at_]
    by_cases hr : r = q ++ [n]
    · rw [if_pos hr, if_pos]
      exact .inr (.inl ⟨i, by omega, by rw [hr, e]⟩)
    · rw [if_neg hr]
      congr 1
      apply propext
      constructor
      · rintro (h1 | ⟨k, hk, h1⟩ | h1)
        · exact .inl h1
        · exact .inr (.inl ⟨k, by omega, h1⟩)
        · exact .inr (.inr h1)
      · rintro (h1 | ⟨k, hk, h1⟩ | h1)
        · exact .inl h1
        · refine .inr (.inl ⟨k, ?_, h1⟩)
          rcases Nat.lt_or_ge k i with h2 | h2
          · exact h2
          · obtain rfl : k = i := by omega
            exact absurd (h1.trans e) hr
        · exact .inr (.inr h1)
theorem deep_makeB {fs : FS} {i j : Nat} (h : Deep fs i j) (hi : i ≤ 63) (hj : j ≤ 63) : makeF fs 100 1000 (tx (chB j)) = (0, fs ++ [(chB j, rootN)]) ∧ Deep (fs ++ [(chB j, rootN)]) i (j + 1) := by
  obtain ⟨q, n, e, hq⟩ := deep_parB h
  have hn := deep_noB h
  have hp := parts_tx (p := chB j) (by simp [chB]) (okP_one (chB_ok j) (by rw [chB_len]; omega))
  rw [e] at hp hn ⊢
  have hok : okP (q ++ [n]) := partsF_ok hp
  refine ⟨makeF_new h.ok hq rfl hn hp (by rw [h.len]; omega) (by rw [h.used]; omega), fsOk_put h.ok hq rfl hn okN_dir hok, ?_, ?_, fun r => ?_⟩
  · unfold usedF
    rw [List.map_append, List.sum_append]
    have := h.used
    unfold usedF at this
    rw [this]; rfl
  · rw [List.length_append, h.len]; simp; omega
  · rw [at_put _ (by simp) hn, h.at_]
    by_cases hr : r = q ++ [n]
    · rw [if_pos hr, if_pos]
      exact .inr (.inr ⟨j, by omega, by rw [hr, e]⟩)
    · rw [if_neg hr]
      congr 1
      apply propext
      constructor
      · rintro (h1 | h1 | ⟨k, hk, h1⟩)
        · exact .inl h1
        · exact .inr (.inl h1)
        · exact .inr (.inr ⟨k, by omega, h1⟩)
      · rintro (h1 | h1 | ⟨k, hk, h1⟩)
        · exact .inl h1
        · exact .inr (.inl h1)
        · refine .inr (.inr ⟨k, ?_, h1⟩)
          rcases Nat.lt_or_ge k j with h2 | h2
          · exact h2
          · obtain rfl : k = j := by omega
            exact absurd (h1.trans e) hr
/-- What stands under the one chain's head. -/
theorem deep_under {fs : FS} {n j : Nat} (h : Deep fs n j) (r : Pth) : fs.at ([[97]] ++ r) ≠ none ↔ ∃ k, k < n ∧ r = List.replicate k [120] := by
  rw [h.at_]
  constructor
  · intro h1
    split at h1
    · rename_i h2
      rcases h2 with h2 | ⟨k, hk, e⟩ | ⟨k, hk, e⟩
      · simp at h2
      · unfold chA at e
        simp at e
        exact ⟨k, hk, e⟩
      · unfold chB at e
        simp at e
    · exact absurd rfl h1
  · rintro ⟨k, hk, rfl⟩
    rw [if_pos (.inr (.inl ⟨k, hk, rfl⟩))]
    simp
theorem deep_fits {fs : FS} {n j : Nat} (h : Deep fs n (j + 1)) (hn : 1 ≤ n) : fitsP fs [[97]] (joinL 47 (chG j)) ↔ j + 1 + n ≤ 64 := by
  have hg0 : chG j ≠ [] := by simp [chG]
  constructor
  · intro hf
    obtain ⟨q, hq⟩ := hf (List.replicate (n - 1) [120]) ((deep_under h _).2 ⟨n - 1, by omega, rfl⟩)
    rw [glue_join hg0] at hq
    have hall : (chG j ++ List.replicate (n - 1) [120]).all okNm = true := List.all_eq_true.2 fun x hx => (chGx_ok j (n - 1) x hx).1
    have e := text_parts hq (by simp [hg0]) hall (list_nb _)
    have := (partsF_ok hq).1
    rw [e, List.length_append, chG_len, List.length_replicate] at this
    omega
  · intro hl r hr
    obtain ⟨k, hk, rfl⟩ := (deep_under h r).1 hr
    rw [glue_join hg0]
    exact ⟨_, parts_tx (by simp [hg0]) (okP_one (chGx_ok j k) (by rw [List.length_append, chG_len, List.length_replicate]; omega))⟩
theorem deep_noG {fs : FS} {n j : Nat} (h : Deep fs n (j + 1)) : fs.at (chG j) = none := by
  rw [h.at_, if_neg]
  rintro (h1 | ⟨k, hk, e⟩ | ⟨k, hk, e⟩)
  · simp [chG] at h1
  · unfold chG chA chB at e; simp at e
  · have hl := congrArg List.length e
    rw [chG_len, chB_len] at hl
    obtain rfl : k = j + 1 := by omega
    omega
theorem deep_B {fs : FS} {n j : Nat} (h : Deep fs n (j + 1)) : fs.at (chB j) = some rootN := by
  rw [h.at_, if_pos (.inr (.inr ⟨j, by omega, rfl⟩))]
theorem tx_a : tx [[97]] = ⟨#[97]⟩ := by kernel_rfl
theorem below_ab (j : Nat) : belowB ⟨#[97]⟩ (tx (chG j)) = false := by
  have hl : (tx (chG j)).data.toList = 98 :: (List.replicate j [121] ++ [[122]] : Pth).flatMap fun k => 47 :: k := by
    rw [tx_list, show chG j = [[98]] ++ (List.replicate j [121] ++ [[122]]) by simp [chG, chB], ← glue_join (by simp)]
    rfl
  unfold belowB
  rw [hl, ByteArray.toList_eq, ByteArray.toList_eq, hl]
  simp [Lib.hasPrefix]
  rfl
open Classical in
theorem deep_rename {fs : FS} {n j : Nat} (h : Deep fs n (j + 1)) (hn : 1 ≤ n) (hj : j ≤ 61) : renameF fs ⟨#[97]⟩ (tx (chG j)) = if j + 1 + n ≤ 64 then (0, mvF fs [[97]] (chG j)) else (2, fs) := by
  have ha : partsF ⟨#[97]⟩ = .ok [[97]] := by rw [← tx_a]; exact parts_tx (by simp) (okP_one (chA_ok 0) (by simp))
  have hb : partsF (tx (chG j)) = .ok (chB j ++ [[122]]) := parts_tx (by simp [chG]) (okP_one (chG_ok j) (by rw [chG_len]; omega))
  have hx : fs.at [[97]] = some rootN := by
    rw [h.at_, if_pos (.inr (.inl ⟨0, by omega, rfl⟩))]
  have := renameF_new h.ok ha hb (by simp) hx (fun _ => below_ab j) (deep_B h) rfl (deep_noG h)
  rw [this, tx_list]
  have hf := deep_fits h hn
  by_cases hl : j + 1 + n ≤ 64
  · rw [if_pos hl, if_pos (hf.2 hl)]; rfl
  · rw [if_neg hl, if_neg (fun e => hl (hf.1 e))]
theorem deep_moved {fs : FS} {n j : Nat} (h : Deep fs n (j + 1)) (hn : 1 ≤ n) (hl : j + 1 + n ≤ 64) {by' nd : Nat} (hr : Room fs by' nd) : FsOk (mvF fs [[97]] (chG j)) ∧ Room (mvF fs [[97]] (chG j)) by' nd ∧ (mvF fs [[97]] (chG j)).at (chG j ++ List.replicate (n - 1) [120]) = some rootN := by
  have hnp : ¬ [[97]] <+: chB j := by
    rintro ⟨s, hs⟩
    unfold chB at hs
    simp at hs
  refine ⟨fsOk_mv h.ok (by simp) (deep_B h) rfl hnp (deep_noG h) fun r hr2 => ?_, ⟨hr.b, hr.n, by rw [mv_used]; exact hr.used, by rw [mv_len]; exact hr.count⟩, ?_⟩
  · obtain ⟨k, hk, rfl⟩ := (deep_under h r).1 hr2
    exact okP_one (chGx_ok j k) (by
      have := chG_len j
      rw [List.length_append, List.length_replicate]
      unfold chG at this
      rw [this]
      omega)
  · rw [at_mv h.ok (by simp) (by simp [chG]) (deep_noG h), if_pos (List.prefix_append _ _), List.drop_left, h.at_, if_pos (.inr (.inl ⟨n - 1, by omega, rfl⟩))]
theorem deep_look {fs : FS} {n j : Nat} (h : Deep fs n (j + 1)) (hn : 1 ≤ n) (hl : j + 1 + n ≤ 64) {by' nd : Nat} (hr : Room fs by' nd) : (lookF (mvF fs [[97]] (chG j)) (tx (chG j ++ List.replicate (n - 1) [120]))).1 = 0 := by
  obtain ⟨h1, h2, h3⟩ := deep_moved h hn hl hr
  rw [lookF_at h1 h3 (parts_tx (by simp [chG]) (okP_one (chGx_ok j _) (by rw [List.length_append, chG_len, List.length_replicate]; omega)))]
/-- The texts, as the program makes them. -/
theorem tx_A0 : tx (chA 0) = ⟨#[97]⟩ := tx_a
theorem tx_B0 : tx (chB 0) = ⟨#[98]⟩ := by kernel_rfl
theorem tx_Asucc (i : Nat) : tx (chA (i + 1)) = tx (chA i) ++ ⟨#[47, 120]⟩ := by rw [chA_succ, tx_snoc (by simp [chA])]; rfl
theorem tx_Bsucc (i : Nat) : tx (chB (i + 1)) = tx (chB i) ++ ⟨#[47, 121]⟩ := by rw [chB_succ, tx_snoc (by simp [chB])]; rfl
theorem tx_G (j : Nat) : tx (chG j) = tx (chB j) ++ ⟨#[47, 122]⟩ := by unfold chG; rw [tx_snoc (by simp [chB])]; rfl
theorem tx_A_list (i : Nat) : (tx (chA i)).data.toList = 97 :: (List.replicate i [120]).flatMap fun k => 47 :: k := by
  rw [tx_list, show chA i = [[97]] ++ List.replicate i [120] from rfl, ← glue_join (by simp)]
  rfl
theorem tx_Gx (j i : Nat) : tx (chG j ++ List.replicate i [120]) = tx (chG j) ++ (tx (chA i)).extract 1 (tx (chA i)).size := by
  have e : (tx (chG j) ++ (tx (chA i)).extract 1 (tx (chA i)).size).data.toList = joinL 47 (chG j ++ List.replicate i [120]) := by
    rw [ByteArray.data_append, Array.toList_append, toList_extract, tx_list, ← glue_join (by simp [chG]), tx_A_list]
    unfold glueR
    congr 1
    rw [List.drop_succ_cons, List.drop_zero, List.take_of_length_le]
    have : (tx (chA i)).size = (tx (chA i)).data.toList.length := by show (tx (chA i)).data.size = _; simp
    rw [this, tx_A_list]
    simp
  have := congrArg nb e
  rw [nb_list] at this
  exact this.symm
theorem tx_A_size (i : Nat) : (tx (chA i)).size ≤ 2 * i + 2 := by
  have := join_len1 (p := chA i) (fun n hn => (chA_ok i n hn).2)
  rw [chA_len] at this
  have h2 : (tx (chA i)).size = (joinL 47 (chA i)).length := nb_size _
  omega
theorem tx_B_size (i : Nat) : (tx (chB i)).size ≤ 2 * i + 2 := by
  have := join_len1 (p := chB i) (fun n hn => (chB_ok i n hn).2)
  rw [chB_len] at this
  have h2 : (tx (chB i)).size = (joinL 47 (chB i)).length := nb_size _
  omega
end Go.Proofs.YtiijbecklkccfaaDoor.I
/- The law InodeDeep: the walk. -/
namespace Go.Proofs.YtiijbecklkccfaaDoor.I
open Go.RowKit Go.Proofs.YtiijbecklkccfaaDoor.B Go.Sort
set_option linter.unusedVariables false
theorem errV0 : errV 0 = .nilIface := rfl
set_option maxRecDepth 100000 in
set_option maxHeartbeats 16000000 in
theorem deep_calls (a b : Int) (w : World) (hm : MaxLenAt w) (he : ErrType w) : Calls Tryd.prog 3 #[.int .i64 a, .int .i64 b] w fun e w' => e = .returned (.bool true) ∧ Chg [] w w' := by
  have HM := Asd.mk hm
  have HE := Asd.mk he
  have H0 := Asd.mk (sys_new 100 1000 w w (Chg.refl _ _) (by omega) (by omega))
  obtain ⟨n, hn, hn1, hn2⟩ : ∃ n : Nat, max 1 (min a 62) = (n : Int) ∧ 1 ≤ n ∧ n ≤ 62 := ⟨(max 1 (min a 62)).toNat, by omega, by omega, by omega⟩
  obtain ⟨m, hm1, hm2, hm3⟩ : ∃ m : Nat, max 1 (min b 62) = (m : Int) ∧ 1 ≤ m ∧ m ≤ 62 := ⟨(max 1 (min b 62)).toNat, by omega, by omega, by omega⟩
  clear hm he
  (go_enter Tryd.func3, Tryd.ntmps3)
  go_wp2_with fail
  refine H0.out.mono ?_
  rintro e w1 ⟨t, rfl, hS⟩
  have hd := deep_makeA deep_nil (by omega) (by omega)
  have h1 := sys_make (tx (chA 0)) hS HM.out (by rw [tx_A0]; decide)
  rw [hd.1, tx_A0] at h1
  have H1 := Asd.mk h1
  have HD1 := Asd.mk hd.2
  clear hS h1 H0 hd
  go_wp2_with fail
  refine H1.out.mono ?_
  rintro e w2 ⟨rfl, hS⟩
  have hd := deep_makeB HD1.out (by omega) (by omega)
  have h1 := sys_make (tx (chB 0)) hS HM.out (by rw [tx_B0]; decide)
  rw [hd.1, tx_B0] at h1
  have H2 := Asd.mk h1
  have HD2 := Asd.mk hd.2
  clear hS h1 H1 hd HD1
  simp only [errV, if_true]
  go_wp2_with fail
  refine H2.out.mono ?_
  rintro e w3 ⟨rfl, hS⟩
  have HS := Asd.mk hS
  obtain ⟨fs1, hfs1⟩ : ∃ f, ([] ++ [(chA 0, rootN)] ++ [(chB 0, rootN)] : FS) = f := ⟨_, rfl⟩
  rw [hfs1] at HS HD2
  clear hS H2 hfs1
  simp only [errV, if_true]
  go_wp2_with fail
  go_loopg [7, 9] n (fun gk v7 v9 wx => ∃ k fs, k + 1 ≤ n ∧ gk = n - k ∧ v7 = .string (tx (chA k)) ∧ v9 = .int .i64 ((k : Int) + 1) ∧ Asd (Sys w wx t fs 100 1000) ∧ Asd (Deep fs (k + 1) 1))
  case atStart => exact ⟨0, fs1, by omega, rfl, by rw [tx_A0], rfl, HS, HD2⟩
  case round =>
    obtain ⟨k, fs, hk, rfl, rfl, rfl, HS, HD⟩ := hrel
    by_cases hlt : k + 1 < n
    · have k1 : (k : Int) + 1 < (n : Int) := by omega
      have hsz := tx_A_size k
      obtain ⟨U, hU⟩ : ∃ U, tx (chA k) ++ ⟨#[47, 120]⟩ = U := ⟨_, rfl⟩
      have hU2 : tx (chA (k + 1)) = U := by rw [tx_Asucc, hU]
      have hd := deep_makeA HD.out (by omega) (by omega)
      have h1 := sys_make (tx (chA (k + 1))) HS.out HM.out (by have := tx_A_size (k + 1); omega)
      rw [hd.1, hU2] at h1
      have H1 := Asd.mk h1
      have HD1 := Asd.mk hd.2
      have HU2 := Asd.mk hU2
      clear h1 HS hd HD hU2
      go_wp2_with fail
      refine H1.out.mono ?_
      rintro e w4 ⟨rfl, hS⟩
      have HS := Asd.mk hS
      clear hS H1 hU hsz
      simp only [errV, if_true]
      go_wp2_with fail
      go_roundg (n - (k + 1))
      case rel => exact ⟨k + 1, _, by omega, rfl, by rw [HU2.out], by go_num, HS, HD1⟩
      case measure => omega
    · have k1 : ¬ (k : Int) + 1 < (n : Int) := by omega
      have hkn : k + 1 = n := by omega
      rw [hkn] at HD
      have HKN := Asd.mk hkn
      clear hlt hkn hk
      go_wp2_with fail
      go_loopg [8, 10] m (fun gk v8 v10 wx => ∃ j fs, j + 1 ≤ m ∧ gk = m - j ∧ v8 = .string (tx (chB j)) ∧ v10 = .int .i64 ((j : Int) + 1) ∧ Asd (Sys w wx t fs 100 1000) ∧ Asd (Deep fs n (j + 1)))
      case atStart => exact ⟨0, fs, by omega, rfl, by rw [tx_B0], rfl, HS, HD⟩
      case round =>
        obtain ⟨j, fs, hj, rfl, rfl, rfl, HS, HD⟩ := hrel
        by_cases hlt : j + 1 < m
        · have k1 : (j : Int) + 1 < (m : Int) := by omega
          have hsz := tx_B_size j
          obtain ⟨U, hU⟩ : ∃ U, tx (chB j) ++ ⟨#[47, 121]⟩ = U := ⟨_, rfl⟩
          have hU2 : tx (chB (j + 1)) = U := by rw [tx_Bsucc, hU]
          have hd := deep_makeB HD.out (by omega) (by omega)
          have h1 := sys_make (tx (chB (j + 1))) HS.out HM.out (by have := tx_B_size (j + 1); omega)
          rw [hd.1, hU2] at h1
          have H1 := Asd.mk h1
          have HD1 := Asd.mk hd.2
          have HU2 := Asd.mk hU2
          clear h1 HS hd HD hU2
          go_wp2_with fail
          refine H1.out.mono ?_
          rintro e w4 ⟨rfl, hS⟩
          have HS := Asd.mk hS
          clear hS H1 hU hsz
          simp only [errV, if_true]
          go_wp2_with fail
          go_roundg (m - (j + 1))
          case rel => exact ⟨j + 1, _, by omega, rfl, by rw [HU2.out], by go_num, HS, HD1⟩
          case measure => omega
        · have k1 : ¬ (j : Int) + 1 < (m : Int) := by omega
          have hjm : j + 1 = m := by omega
          have HJM := Asd.mk hjm
          have hsz : (tx (chB j)).size ≤ 200 := by have := tx_B_size j; omega
          have hsa : (tx (chA k)).size ≤ 200 := by have := tx_A_size k; have := HKN.out; omega
          have hln : n ≤ 62 := hn2
          obtain ⟨G, hG⟩ : ∃ G, tx (chB j) ++ ⟨#[47, 122]⟩ = G := ⟨_, rfl⟩
          have hG2 : tx (chG j) = G := by rw [tx_G, hG]
          have HG2 := Asd.mk hG2
          have hr := deep_rename HD.out hn1 (by omega)
          rw [hG2] at hr
          have h1 := sys_rename ⟨#[97]⟩ G HS.out HM.out (by decide) (by rw [← hG2, tx_G, ByteArray.size_append]; have : (⟨#[47, 122]⟩ : ByteArray).size = 2 := rfl; omega)
          by_cases hl : j + 1 + n ≤ 64
          · rw [if_pos hl] at hr
            rw [hr] at h1
            have H1 := Asd.mk h1
            have k2 : ¬ (64 : Int) < (m : Int) + (n : Int) := by omega
            have hGs : G.size ≤ 300 := by rw [← hG2, tx_G, ByteArray.size_append]; have : (⟨#[47, 122]⟩ : ByteArray).size = 2 := rfl; omega
            have hap : 1 ≤ (tx (chA k)).size := by
              have h3 := tx_A_list k
              have h2 : (tx (chA k)).size = (tx (chA k)).data.toList.length := by show (tx (chA k)).data.size = _; simp
              rw [h2, h3]; simp
            have hlk := fun (by' nd : Nat) (hr : Room fs by' nd) => deep_look HD.out hn1 hl hr
            have hnk : n - 1 = k := by have := HKN.out; omega
            obtain ⟨F, hF⟩ : ∃ F, tx (chG j ++ List.replicate k [120]) = F := ⟨_, rfl⟩
            have hF2 : G ++ (tx (chA k)).extract 1 (tx (chA k)).size = F := by rw [← hF, tx_Gx, hG2]
            rw [hnk, hF] at hlk
            have HLK := Asd.mk hlk
            have HF := Asd.mk (show F.size ≤ 4294967280 by
              rw [← hF2, ByteArray.size_append, ByteArray.size_extract]
              omega)
            have HRm := Asd.mk HS.out.2.2.1
            clear h1 hr hl HS HD hlt hjm hj hG2 hnk hlk hF
            go_wp2_with fail
            refine H1.out.mono ?_
            rintro e w4 ⟨rfl, hS⟩
            have h2 := sys_look F hS HM.out HF.out
            rw [HLK.out 100 1000 HRm.out] at h2
            have HS4 := Asd.mk hS.1
            have H2 := Asd.mk h2
            clear hS H1 h2
            simp only [errV, if_true]
            go_wp2_with fail
            refine H2.out.mono ?_
            rintro e w5 ⟨rfl, hC⟩
            have HC5 := Asd.mk (HS4.out.trans hC)
            obtain ⟨s1, hs1⟩ : ∃ s, (lookF (mvF fs [[97]] (chG j)) F).2.1 = s := ⟨_, rfl⟩
            obtain ⟨i1, hi1⟩ : ∃ s, (lookF (mvF fs [[97]] (chG j)) F).2.2.1 = s := ⟨_, rfl⟩
            obtain ⟨s2, hs2⟩ : ∃ s, (lookF (mvF fs [[97]] (chG j)) F).2.2.2 = s := ⟨_, rfl⟩
            rw [show entV (lookF (mvF fs [[97]] (chG j)) F).2 = .agg #[.string s1, .int .i64 (i1 : Int), .string s2] by unfold entV; rw [hs1, hi1, hs2]]
            clear hC H2 HS4 hs1 hi1 hs2 hG hF2 hsz hsa hap hGs
            simp only [errV, if_true]
            go_upto_region 25 with fail
            refine wp_opaque2 (fun W hW => ?_)
            have HCW := Asd.mk (show Chg [] w W by rw [hW]; exact HC5.out.alloc _)
            clear hW HC5
            go_wp2_with fail
            refine (works_calls W (HM.out.chg HCW.out) (HE.out.chg HCW.out)).mono ?_
            rintro e w6 ⟨rfl, hC⟩
            have HC6 := Asd.mk (HCW.out.trans hC)
            clear hC HCW
            go_wp2
            go_ret
            exact ⟨rfl, HC6.out⟩
          · rw [if_neg hl] at hr
            rw [hr] at h1
            have H1 := Asd.mk h1
            have k2 : (64 : Int) < (m : Int) + (n : Int) := by omega
            clear h1 hr hl HS HD hlt hjm hj hG2
            go_wp2_with fail
            refine H1.out.mono ?_
            rintro e w4 ⟨rfl, hS⟩
            have H2 := Asd.mk (num_errno 2 w4 (HE.out.chg hS.1))
            have HC4 := Asd.mk hS.1
            clear hS H1 hG hsz hsa
            simp only [errV, if_neg (by decide : ¬ ((2 : Nat) = 0))]
            go_wp2_with fail
            refine H2.out.mono ?_
            rintro e w5 ⟨rfl, hC⟩
            have HC5 := Asd.mk (HC4.out.trans hC)
            clear hC H2 HC4
            go_wp2_with fail
            refine (works_calls w5 (HM.out.chg HC5.out) (HE.out.chg HC5.out)).mono ?_
            rintro e w6 ⟨rfl, hC⟩
            have HC6 := Asd.mk (HC5.out.trans hC)
            clear hC HC5
            go_wp2
            go_ret
            exact ⟨rfl, HC6.out⟩
end Go.Proofs.YtiijbecklkccfaaDoor.I
