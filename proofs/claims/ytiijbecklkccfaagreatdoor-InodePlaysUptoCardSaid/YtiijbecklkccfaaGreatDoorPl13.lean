/- Merged out of these texts: ITree, WorksF, Works, Sys2, OpsRow, RowTurn. -/
import Derived.Test.YtiijbecklkccfaaGreatDoorPlTreeW
import Derived.Laws.EntriesVeiled
import Derived.Test.YtiijbecklkccfaaGreatDoorPl8
import Derived.Test.YtiijbecklkccfaaGreatDoorPl11
import Derived.Test.YtiijbecklkccfaaGreatDoorPl6
import Derived.Test.YtiijbecklkccfaaGreatDoorPl1
import Derived.Deep.MidRow
import Derived.Deep.Slices
/- The program's Tree: the walk. -/
namespace Go.Proofs.YtiijbecklkccfaaGreatDoor.I
open Go.RowKit Go.Proofs.YtiijbecklkccfaaGreatDoor.B Go.Sort
set_option linter.unusedVariables false
/-- All that stands at and below a path at which something stands. -/
def treeF (fs : FS) (p : Pth) : List Ent := treeL fs (65 - p.length) p
def RowE (w : World) (b : Nat) (v : Value) (E : List Ent) : Prop := w.ownsRow b 41 3 v E.length (flatE E)
def TreePost (fs : FS) (b : Nat) (R : Except Nat Pth) (e : Ending) (w' : World) : Prop := match R with
  | .error n => e = .returned (.tuple #[.slice none 0 0, errV n])
  | .ok p => ∃ v, e = .returned (.tuple #[v, .nilIface]) ∧ RowE w' b v (treeF fs p)
set_option maxRecDepth 100000 in
set_option maxHeartbeats 16000000 in
theorem tree_calls (L : List Nat) (t : Nat) (fs : FS) (by' nd : Nat) (A M : Pth → Nat) (s : ByteArray) (w : World) (hT : TabAt w L t fs by' nd A M) (hg : FsOk fs) (hr : Room fs by' nd) (hm : MaxLenAt w) (hs : s.size ≤ 4294967280) :
    Calls Tryz.prog 11 #[(.pointer (some ⟨t, 0, none⟩)), .string s] w fun e w' => TreePost fs w.heap.size (thereE fs s) e w' ∧ Chg [] w w' := by
  have HP := Asd.mk (there_calls L t fs by' nd A M s w hT hg hm hs)
  have HT := Asd.mk hT
  obtain ⟨R, hR⟩ : ∃ R, thereE fs s = R := ⟨_, rfl⟩
  rw [hR] at HP ⊢
  cases R with
  | error n =>
    have HN := Asd.mk (thereE_pos hR)
    clear hR hT hg hr hm
    (go_enter Tryz.func11, Tryz.ntmps11)
    go_wp2_with fail
    refine HP.out.mono ?_
    rintro e w1 ⟨⟨d, l, k, rfl⟩, hC1⟩
    have HC1 := Asd.mk hC1
    clear hC1
    go_wp2
    go_ret2
    exact ⟨by show _ = Ending.returned (.tuple #[.slice none 0 0, errV n]); simp only [errV]; rw [if_neg HN.out]; rfl, HC1.out.alloc _⟩
  | ok p =>
    obtain ⟨x, hx⟩ := thereE_ok hR
    have hsp : s = tx p := by
      have h1 : partsF s = .ok p := by
        unfold thereE at hR
        split at hR
        · cases hR
        · rename_i q hq
          split at hR
          · cases hR; exact atE_parts hq
          · cases hR
      exact tx_parts h1
    have HG := Asd.mk (And.intro hg hr)
    have HX := Asd.mk hx
    have HSP := Asd.mk hsp
    obtain ⟨dp, hdp⟩ : ∃ d, dirA A p = d := ⟨_, rfl⟩
    obtain ⟨ls, hls⟩ : ∃ d, lastS p = d := ⟨_, rfl⟩
    have HPo := Asd.mk (show ∀ e, TherePost fs A (.ok p) e → e = .returned (.tuple #[.agg #[.pointer dp, .string ls, (.pointer (some ⟨A p, 0, none⟩))], .nilIface]) from fun e h => by rw [← hdp, ← hls]; exact h)
    clear hR hT hg hr hm hx hsp hdp hls
    (go_enter Tryz.func11, Tryz.ntmps11)
    go_wp2_with fail
    refine HP.out.mono ?_
    rintro e w1 ⟨hPo, hC1⟩
    have hPo2 := HPo.out e hPo
    subst hPo2
    have HC1 := Asd.mk hC1
    clear hC1 hPo HP HPo
    go_upto_region 4 with fail
    refine wp_opaque2 (fun W hW => ?_)
    have HCW := Asd.mk (show Chg [] w W by rw [hW]; exact HC1.out.alloc _)
    have HB := Asd.mk (show W.heap[w1.heap.size]? = some (.cells #[.pointer dp, .string ls, (.pointer (some ⟨A p, 0, none⟩))] 79 (0, 0)) by rw [hW]; exact hp_new _ _)
    obtain ⟨B, hB⟩ : ∃ B, w1.heap.size = B := ⟨_, rfl⟩
    rw [hB] at HB ⊢
    clear hW HC1 hB
    obtain ⟨o, ho⟩ : ∃ o, W.heap.size = o := ⟨_, rfl⟩
    go_upto_region 7 with fail
    refine wp_opaque2 (fun V hV => ?_)
    have HO := Asd.mk ho
    have HV1 := Asd.mk (show V.heap[o]? = some (.cells #[.slice none 0 0] 31 (0, 0)) by rw [hV, ← ho]; exact hp_alloc (hp_new W _) _)
    have HV2 := Asd.mk (show V.heap[o + 1]? = some (.cells #[.func (.func 36) #[] #[(.pointer (some ⟨o, 0, none⟩)), (.pointer (some ⟨o + 1, 0, none⟩))]] 82 (0, 0)) by
      have := hp_new (W.alloc (.cells #[.slice none 0 0] 31)) (.cells #[.func (.func 36) #[] #[(.pointer (some ⟨o, 0, none⟩)), (.pointer (some ⟨o + 1, 0, none⟩))]] 82)
      rw [World.size_alloc, ho] at this
      rw [hV]
      exact this)
    have HCV := Asd.mk (show Chg [] W V by rw [hV]; exact ((Chg.refl _ _).alloc _).alloc _)
    have HBV := Asd.mk (HCV.out.heap HB.out (by simp))
    have hK : Calls Tryz.prog 36 #[(.pointer (some ⟨A p, 0, none⟩)), .string s, (.pointer (some ⟨o, 0, none⟩)), (.pointer (some ⟨o + 1, 0, none⟩))] V fun e w' => e = .returned (.tuple #[]) ∧ ∃ v', Wk W o (o + 1) o w' ([] ++ treeL fs (65 - p.length) p) v' ∧ Tr o V (.slice none 0 0) w' v' := by
      rw [HSP.out]
      have hpl := (HG.out.1.okp p x HX.out).1
      have hll := treeL_len HG.out.1 (m := 65 - p.length) (p := p) (by rw [HX.out]; simp)
      have := HG.out.2.n
      have := HG.out.2.count
      exact walk_calls W L t fs by' nd A M (HT.out.keep0 HCW.out) HG.out.1 HG.out.2 o (o + 1) o (by omega) (by omega) (by omega) (by omega) (65 - p.length) p x V [] (.slice none 0 0) (by omega) HX.out ⟨HCV.out, HV1.out, HV2.out, rfl, .inl ⟨rfl, rfl⟩⟩ (Nat.le_of_lt (lt_of_heap HV1.out)) (by simp only [List.length_nil]; omega)
    have HK := Asd.mk hK
    have b2 := cell_of_heap HBV.out 2
    have f0 := cell_of_heap HV2.out 0
    clear hV hK ho HV1 HB
    go_wp2_with fail
    refine HK.out.mono ?_
    rintro e w5 ⟨rfl, v5, hW5, hT5⟩
    rw [List.nil_append] at hW5
    have HW5 := Asd.mk hW5
    have o0 := cell_of_heap hW5.out 0
    clear hW5 hT5 HK b2 f0
    go_wp2
    go_ret2
    exact ⟨⟨v5, rfl, own_mono (by exact HW5.out.own) (by rw [← HO.out]; exact HCW.out.size)⟩, HCW.out.trans HW5.out.chg⟩
end Go.Proofs.YtiijbecklkccfaaGreatDoor.I
/- What the head of the statements does with a file system: plain. -/
namespace Go.Proofs.YtiijbecklkccfaaGreatDoor.I
open Go.RowKit Go.Proofs.YtiijbecklkccfaaGreatDoor.B Go.Sort
set_option linter.unusedVariables false
def F1 : FS := [([[97]], rootN)]
def F2 : FS := [([[97]], rootN), ([[97], [102]], ⟨1, ⟨#[]⟩⟩)]
def F3 : FS := [([[97]], rootN), ([[97], [102]], ⟨1, ⟨#[104, 105]⟩⟩)]
def F4 : FS := [([[97]], rootN), ([[103]], ⟨1, ⟨#[104, 105]⟩⟩)]
theorem pts_a : partsF ⟨#[97]⟩ = .ok ([] ++ [[97]]) := by kernel_rfl
theorem pts_g : partsF ⟨#[103]⟩ = .ok ([] ++ [[103]]) := by kernel_rfl
theorem pts_af : partsF ⟨#[97, 47, 102]⟩ = .ok ([[97]] ++ [[102]]) := by kernel_rfl
theorem room0 : Room [] 10 3 := ⟨by omega, by omega, by unfold usedF; simp, by simp⟩
theorem wk1 : makeF [] 10 3 ⟨#[97]⟩ = (0, F1) := makeF_new fsOk_nil rfl rfl rfl pts_a (by simp) (by unfold usedF; simp)
theorem g1 : FsOk F1 ∧ Room F1 10 3 := by have := makeF_keep fsOk_nil room0 ⟨#[97]⟩; rw [wk1] at this; exact this
theorem wk2 : createF F1 10 3 ⟨#[97, 47, 102]⟩ = (0, F2) := createF_new g1.1 (y := rootN) rfl rfl rfl pts_af (by decide) (by decide)
theorem g2 : FsOk F2 ∧ Room F2 10 3 := by have := createF_keep g1.1 g1.2 ⟨#[97, 47, 102]⟩; rw [wk2] at this; exact this
theorem wk3 : appendF F2 10 ⟨#[97, 47, 102]⟩ ⟨#[104, 105]⟩ = (0, F3) := by
  rw [appendF_file g2.1 (x := ⟨1, ⟨#[]⟩⟩) (p := [[97], [102]]) rfl rfl pts_af (by decide), if_neg (by decide)]
  kernel_rfl
theorem g3 : FsOk F3 ∧ Room F3 10 3 := by have := appendF_keep g2.1 g2.2 ⟨#[97, 47, 102]⟩ ⟨#[104, 105]⟩; rw [wk3] at this; exact this
theorem mv4 : mvF F3 [[97], [102]] [[103]] = F4 := by
  unfold mvF F3 F4
  simp only [List.map_cons, List.map_nil]
  rw [mvP_out (r := [[97]]) (by decide), show mvP [[97], [102]] [[103]] [[97], [102]] = [[103]] from mvP_in [[97], [102]] [[103]] []]
theorem wk4 : renameF F3 ⟨#[97, 47, 102]⟩ ⟨#[103]⟩ = (0, F4) := by
  have hx : F3.at ([[97]] ++ [[102]]) = some ⟨1, ⟨#[104, 105]⟩⟩ := by kernel_rfl
  rw [renameF_new g3.1 pts_af pts_g (by simp) hx (fun h => by cases h) (qd := []) (y := rootN) rfl rfl rfl, if_pos]
  · exact congrArg (Prod.mk 0) mv4
  · intro r hr
    cases r with
    | nil => exact ⟨_, pts_g⟩
    | cons k r =>
      obtain ⟨y, h1, h2⟩ := g3.1.prefix hr (by simp)
      rw [hx] at h1
      cases h1
      cases h2
theorem g4 : FsOk F4 ∧ Room F4 10 3 := by
  have hx : F3.at ([[97]] ++ [[102]]) = some ⟨1, ⟨#[104, 105]⟩⟩ := by kernel_rfl
  have hh : RenOk F3 ⟨#[97, 47, 102]⟩ ⟨#[103]⟩ [[97], [102]] [[103]] ⟨1, ⟨#[104, 105]⟩⟩ [] [103] rootN := by
    refine ⟨pts_af, pts_g, by simp, by decide, hx, rfl, rfl, rfl, by decide, ?_, ?_⟩
    · rintro ⟨k, hk⟩
      have hn : F3.at [[103]] = none := by kernel_rfl
      exact hk (not_under g3.1 hn [k])
    · intro r hr
      cases r with
      | nil => exact ⟨_, pts_g⟩
      | cons k r =>
        obtain ⟨y, h1, h2⟩ := g3.1.prefix (p := [[97], [102]]) hr (by simp)
        rw [show F3.at [[97], [102]] = some ⟨1, ⟨#[104, 105]⟩⟩ from hx] at h1
        cases h1
        cases h2
  have := hh.sound g3.1 g3.2
  rw [del_none (by decide), mv4] at this
  exact this
theorem wk5 : readF F4 ⟨#[103]⟩ = (0, ⟨#[104, 105]⟩) := readF_file g4.1 (x := ⟨1, ⟨#[104, 105]⟩⟩) (p := [[103]]) rfl rfl pts_g
theorem wk6 : (readF F4 ⟨#[97, 47, 102]⟩).1 = 200 := by
  unfold readF
  rw [thereE_no g4.1 (q := [[97]]) (y := rootN) rfl rfl rfl pts_af]
theorem wk7 : usedF F4 = 2 := by decide
theorem wk8 : appendF F4 10 ⟨#[103]⟩ ⟨#[49, 50, 51, 52, 53, 54, 55, 56, 57]⟩ = (206, F4) := by
  rw [appendF_file g4.1 (x := ⟨1, ⟨#[104, 105]⟩⟩) (p := [[103]]) rfl rfl pts_g (by decide), if_pos (by decide)]
theorem wk9 : listE F4 ⟨#[]⟩ = .ok [] := by
  unfold listE
  rw [thereE_at g4.1 (x := rootN) (p := []) rfl parts_empty]
  rfl
/-- The names that List gives. -/
theorem wk10 {l : List Nm} (hd : l.Nodup) (h : ∀ k, k ∈ l ↔ F4.at ([] ++ [k]) ≠ none) : l.length = 2 ∧ sortN l = [[97], [103]] := by
  have hm : ∀ k, k ∈ l ↔ k ∈ ([[97], [103]] : List Nm) := by
    intro k
    rw [h k, List.nil_append, at_ne _ (by simp)]
    unfold F4
    rw [List.lookup_cons, List.lookup_cons, List.lookup_nil]
    by_cases h1 : k = [97]
    · subst h1; simp
    · have e1 : ([k] == ([[97]] : Pth)) = false := by simpa using h1
      rw [e1]
      by_cases h2 : k = [103]
      · subst h2; simp
      · have e2 : ([k] == ([[103]] : Pth)) = false := by simpa using h2
        rw [e2]
        simp [h1, h2]
  have hp : l.Perm [[97], [103]] := (List.perm_ext_iff_of_nodup hd (by decide)).2 hm
  refine ⟨hp.length_eq, ?_⟩
  have h1 : (sortN l).Perm [[97], [103]] := (List.mergeSort_perm l _).trans hp
  have tr : ∀ a b c : Nm, decide (a ≤ b) = true → decide (b ≤ c) = true → decide (a ≤ c) = true := fun a b c h1 h2 => by
    simp only [decide_eq_true_eq] at h1 h2 ⊢
    exact List.le_trans h1 h2
  have tt : ∀ a b : Nm, (decide (a ≤ b) || decide (b ≤ a)) = true := fun a b => by
    simp only [Bool.or_eq_true, decide_eq_true_eq]
    exact List.le_total a b
  have h2 := List.pairwise_mergeSort (le := fun x y : Nm => decide (x ≤ y)) tr tt l
  refine h1.eq_of_pairwise ?_ h2 ?_
  · intro a b _ _ h1 h2
    simp only [decide_eq_true_eq] at h1 h2
    exact List.le_antisymm h1 h2
  · simp
    decide
end Go.Proofs.YtiijbecklkccfaaGreatDoor.I
/- The head of the statements: works. The walk. -/
namespace Go.Proofs.YtiijbecklkccfaaGreatDoor.I
open Go.RowKit Go.Proofs.YtiijbecklkccfaaGreatDoor.B Go.Sort
set_option linter.unusedVariables false
set_option maxRecDepth 100000 in
set_option maxHeartbeats 16000000 in
theorem works_calls (w : World) (hm : MaxLenAt w) (hg : ErrType w) : Calls Tryz.prog 10 #[] w fun e w' => e = .returned (.bool true) ∧ Chg [] w w' := by
  have HM := Asd.mk hm
  have HE := Asd.mk hg
  have H0 := Asd.mk (sys_new 10 3 w w (Chg.refl _ _) (by omega) (by omega))
  clear hm hg
  (go_enter Tryz.func10, Tryz.ntmps10)
  go_wp2_with fail
  refine H0.out.mono ?_
  rintro e w1 ⟨t, rfl, hS⟩
  have h1 := sys_make ⟨#[97]⟩ hS HM.out (by decide)
  rw [wk1] at h1
  have H1 := Asd.mk h1
  clear hS h1 H0
  go_wp2_with fail
  refine H1.out.mono ?_
  rintro e w2 ⟨rfl, hS⟩
  have h1 := sys_create ⟨#[97, 47, 102]⟩ hS HM.out (by decide)
  rw [wk2] at h1
  have H2 := Asd.mk h1
  clear hS h1 H1
  simp only [errV, if_true]
  go_wp2_with fail
  refine H2.out.mono ?_
  rintro e w3 ⟨rfl, hS⟩
  have h1 := sys_append ⟨#[97, 47, 102]⟩ ⟨#[104, 105]⟩ hS HM.out (by decide) (by decide)
  rw [wk3] at h1
  have H3 := Asd.mk h1
  clear hS h1 H2
  simp only [errV, if_true]
  go_wp2_with fail
  refine H3.out.mono ?_
  rintro e w4 ⟨rfl, hS⟩
  have h1 := sys_rename ⟨#[97, 47, 102]⟩ ⟨#[103]⟩ hS HM.out (by decide) (by decide)
  rw [wk4] at h1
  have H4 := Asd.mk h1
  clear hS h1 H3
  simp only [errV, if_true]
  go_wp2_with fail
  refine H4.out.mono ?_
  rintro e w5 ⟨rfl, hS⟩
  have h1 := sys_read ⟨#[103]⟩ hS HM.out (by decide)
  rw [wk5] at h1
  have H5 := Asd.mk h1
  have HS := Asd.mk hS
  clear hS h1 H4
  simp only [errV, if_true]
  go_wp2_with fail
  refine H5.out.mono ?_
  rintro e w6 ⟨rfl, hC⟩
  have hS := HS.out.chg hC
  have h1 := sys_read ⟨#[97, 47, 102]⟩ hS HM.out (by decide)
  rw [wk6] at h1
  have H6 := Asd.mk h1
  have HS2 := Asd.mk hS
  clear hS h1 H5 HS hC
  simp only [errV, if_true]
  go_wp2_with fail
  refine H6.out.mono ?_
  rintro e w7 ⟨rfl, hC⟩
  have hS := HS2.out.chg hC
  have h1 := sys_used hS
  rw [wk7] at h1
  have H7 := Asd.mk h1
  have HS3 := Asd.mk hS
  clear hS h1 H6 HS2 hC
  simp only [errV, if_neg (by decide : ¬ ((200 : Nat) = 0))]
  go_wp2_with fail
  refine H7.out.mono ?_
  rintro e w8 ⟨rfl, hC⟩
  have hS := HS3.out.chg hC
  have h1 := sys_list ⟨#[]⟩ hS HM.out (by decide)
  rw [wk9] at h1
  have H8 := Asd.mk h1
  have HS4 := Asd.mk hS
  clear hS h1 H7 HS3 hC
  go_wp2_with fail
  refine H8.out.mono ?_
  rintro e w9 ⟨⟨v, rfl, l, hl1, hl2, hl3⟩, hC⟩
  obtain ⟨hl4, hl5⟩ := wk10 hl1 hl2
  rw [hl4, hl5] at hl3
  have hS := HS4.out.chg hC
  obtain ⟨_, g1, g2, L, A, M, g3, g4⟩ := HS4.out
  have HLL := Asd.mk g3.bl
  have HT := Asd.mk (g3.keep0 hC)
  have HG := Asd.mk (And.intro g1 g2)
  have HL := Asd.mk hl3
  have H9 := Asd.mk (num_errno 200 w9 (HE.out.chg hS.1))
  have HC9 := Asd.mk hS.1
  have HL4 := Asd.mk g4
  clear hS hl1 hl2 hl3 hl4 hl5 H8 HS4 hC g1 g2 g3 g4
  go_wp2_with fail
  refine H9.out.mono ?_
  rintro e w10 ⟨rfl, hC⟩
  have h1 := append_calls L t F4 10 3 A M ⟨#[103]⟩ ⟨#[49, 50, 51, 52, 53, 54, 55, 56, 57]⟩ w10 (HT.out.keep0 hC) HG.out.1 HG.out.2 (HM.out.chg (HC9.out.trans hC)) (by decide) (by decide)
  rw [wk8] at h1
  have H10 := Asd.mk h1
  have HL2 := Asd.mk (own_chg HL.out hC (by simp))
  have HC10 := Asd.mk (HC9.out.trans hC)
  clear h1 HL H9 hC HT HC9
  go_wp2_with fail
  refine H10.out.mono ?_
  rintro e w11 ⟨rfl, hC, _⟩
  have HC11 := Asd.mk (Chg.fresh ((HC10.out.mono (by simp)).trans hC) HL4.out)
  have HL3 := Asd.mk (own_chg HL2.out hC (fun i hi => .inl (HLL.out i hi)))
  have H11 := Asd.mk (num_errno 206 w11 (HE.out.chg HC11.out))
  clear hC H10 HC10 HL2
  simp only [errV, if_neg (by decide : ¬ ((206 : Nat) = 0))]
  go_wp2_with fail
  refine H11.out.mono ?_
  rintro e w12 ⟨rfl, hC⟩
  have HL4 := Asd.mk (own_chg HL3.out hC (by simp))
  have HC12 := Asd.mk (HC11.out.trans hC)
  clear hC H11 HC11 HL3
  go_wp2_with fail
  refine (sameTexts_calls [⟨#[97]⟩, ⟨#[103]⟩] [⟨#[97]⟩, ⟨#[103]⟩] v (.slice (some ⟨w12.heap.size, 0, none⟩) 2 2) _ ?_ ?_ (by decide) (by decide)).mono ?_
  · exact (strL_of_own HL4.out).chg ((Chg.refl _ _).alloc _)
  · exact ⟨_, 2, rfl, fun i hi => ⟨_, rfl, by
      rcases i with _ | _ | i
      · exact cell_of_heap (hp_new w12 _) 0
      · exact cell_of_heap (hp_new w12 _) 1
      · simp at hi; omega⟩⟩
  rintro e w13 ⟨rfl, hC⟩
  have HC13 := Asd.mk ((HC12.out.alloc _).trans hC)
  clear hC
  rw [show decide (([⟨#[97]⟩, ⟨#[103]⟩] : List ByteArray) = [⟨#[97]⟩, ⟨#[103]⟩]) = true from decide_eq_true rfl]
  go_wp2
  go_ret
  exact ⟨rfl, HC13.out⟩
end Go.Proofs.YtiijbecklkccfaaGreatDoor.I
/- A file system made since some world, its blocks named: each call of the laws over it; what a row of entries or of names keeps. -/
namespace Go.Proofs.YtiijbecklkccfaaGreatDoor.I
open Go.RowKit Go.Proofs.YtiijbecklkccfaaGreatDoor.B Go.Sort
set_option linter.unusedVariables false
/-- A row of names. -/
def RowE1 (w : World) (b : Nat) (v : Value) (l : List Nm) : Prop := w.ownsRow b 9 1 v l.length (l.map fun n => Value.string (nb n))
def SysL (w W : World) (L : List Nat) (t : Nat) (fs : FS) (by' nd : Nat) : Prop := Chg [] w W ∧ FsOk fs ∧ Room fs by' nd ∧ (∀ i ∈ L, w.heap.size ≤ i) ∧ ∃ A M, TabAt W L t fs by' nd A M
theorem SysL.lt {w W : World} {L : List Nat} {t : Nat} {fs : FS} {by' nd : Nat} (h : SysL w W L t fs by' nd) : ∀ i ∈ L, i < W.heap.size := by
  obtain ⟨_, _, _, _, A, M, hT⟩ := h
  exact hT.bl
theorem SysL.chg {w W W' : World} {L : List Nat} {t : Nat} {fs : FS} {by' nd : Nat} {K : List Nat} (h : SysL w W L t fs by' nd) (hC : Chg K W W') (h1 : ∀ i ∈ L, i ∉ K) (h2 : ∀ i ∈ K, w.heap.size ≤ i) : SysL w W' L t fs by' nd := by
  obtain ⟨a, b, c, d, A, M, hT⟩ := h
  exact ⟨Chg.fresh ((a.mono (by simp)).trans hC) h2, b, c, d, A, M, hT.keep hC h1⟩
theorem SysL.chg0 {w W W' : World} {L : List Nat} {t : Nat} {fs : FS} {by' nd : Nat} (h : SysL w W L t fs by' nd) (hC : Chg [] W W') : SysL w W' L t fs by' nd := h.chg hC (by simp) (by simp)
theorem sysl_new (b n : Nat) (w W : World) (hC : Chg [] w W) (hb : b ≤ 2147483647) (hn : n ≤ 65536) :
    Calls Tryz.prog 9 #[.int .i64 (b : Int), .int .i64 (n : Int)] W fun e w' => ∃ t L, e = .returned (.tuple #[(.pointer (some ⟨t, 0, none⟩)), .nilIface]) ∧ SysL w w' L t [] b n ∧ Chg [] W w' ∧ ∀ i ∈ L, W.heap.size ≤ i := by
  refine (new_ok b n W hb hn).mono ?_
  rintro e w' ⟨t, L, A, M, rfl, h1, h2, h3⟩
  exact ⟨t, L, rfl, ⟨hC.trans h1, fsOk_nil, ⟨hb, hn, by unfold usedF; simp, by simp⟩, fun i hi => Nat.le_trans hC.size (h3 i hi), A, M, h2⟩, h1, h3⟩
variable {w W : World} {L : List Nat} {t : Nat} {fs : FS} {by' nd : Nat}
theorem sysl_done (k : Int) (a b : ByteArray) (h : SysL w W L t fs by' nd) (hm : MaxLenAt w) (ha : a.size ≤ 4294967280) (hb : b.size ≤ 4294967280) :
    Calls Tryz.prog 12 #[(.pointer (some ⟨t, 0, none⟩)), .agg #[.int .i64 k, .string a, .string b]] W fun e w' => e = .returned (errV (opF fs by' nd ⟨k, a, b⟩).1) ∧ ∃ L', SysL w w' L' t (opF fs by' nd ⟨k, a, b⟩).2 by' nd ∧ Chg L W w' ∧ ∀ i ∈ L', i ∈ L ∨ W.heap.size ≤ i := by
  obtain ⟨h1, h2, h3, h4, A, M, h5⟩ := h
  refine (done_calls L t fs by' nd A M k a b W h5 h2 h3 (hm.chg h1) ha hb).mono ?_
  rintro e w' ⟨he, hC, L', A', M', h6, h7⟩
  obtain ⟨k1, k2⟩ := opF_keep h2 h3 ⟨k, a, b⟩
  exact ⟨he, L', ⟨Chg.fresh ((h1.mono (by simp)).trans hC) h4, k1, k2, fun i hi => by
    rcases h7 i hi with h | h
    · exact h4 i h
    · exact Nat.le_trans h1.size h, A', M', h6⟩, hC, h7⟩
theorem there_root {fs : FS} (hg : FsOk fs) : thereE fs ⟨#[]⟩ = .ok [] := thereE_at hg (at_root fs) parts_empty
theorem list_root {fs : FS} (hg : FsOk fs) : listE fs ⟨#[]⟩ = .ok [] := by
  unfold listE
  rw [there_root hg]
  rfl
/-- The whole tree. -/
theorem sysl_tree (h : SysL w W L t fs by' nd) (hm : MaxLenAt w) :
    Calls Tryz.prog 11 #[(.pointer (some ⟨t, 0, none⟩)), .string ⟨#[]⟩] W fun e w' => (∃ v, e = .returned (.tuple #[v, .nilIface]) ∧ RowE w' W.heap.size v (treeF fs [])) ∧ Chg [] W w' := by
  obtain ⟨h1, h2, h3, h4, A, M, h5⟩ := h
  have := tree_calls L t fs by' nd A M ⟨#[]⟩ W h5 h2 h3 (hm.chg h1) (by decide)
  rw [there_root h2] at this
  exact this
theorem sysl_list (h : SysL w W L t fs by' nd) (hm : MaxLenAt w) :
    Calls Tryz.prog 19 #[(.pointer (some ⟨t, 0, none⟩)), .string ⟨#[]⟩] W fun e w' => (∃ v, e = .returned (.tuple #[v, .nilIface]) ∧ RowE1 w' W.heap.size v (kidsF fs [])) ∧ Chg [] W w' := by
  obtain ⟨h1, h2, h3, h4, A, M, h5⟩ := h
  have := list_calls L t fs by' nd A M ⟨#[]⟩ W h5 h2 h3 (hm.chg h1) (by decide)
  rw [list_root h2] at this
  refine this.mono ?_
  rintro e w' ⟨⟨v, rfl, l, h6, h7, h8⟩, h9⟩
  obtain ⟨k1, k2⟩ := kids_sort h2.nodup h6 h7
  rw [k1, k2] at h8
  exact ⟨⟨v, rfl, h8⟩, h9⟩
/-- A row's own block lies outside L. -/
def Off (v : Value) (L : List Nat) : Prop := ∀ g, v.ownBlock = some g → g ∉ L
theorem own_off {w w' : World} {b z n : Nat} {t : TypeId} {v : Value} {xs : List Value} {K : List Nat} (h : w.ownsRow b t z v n xs) (hC : Chg K w w') (hK : Off v K) : w'.ownsRow b t z v n xs := by
  refine ⟨h.1, ?_⟩
  rcases h.2 with h2 | ⟨g, cap, cur, hv, hb, hg, hr⟩
  · exact .inl h2
  · exact .inr ⟨g, cap, cur, hv, hb, hC.heap hg (hK g (by rw [hv]; rfl)), hr⟩
theorem off_new {w : World} {b z n : Nat} {t : TypeId} {v : Value} {xs : List Value} (h : w.ownsRow b t z v n xs) {L : List Nat} (hL : ∀ i ∈ L, i < b) : Off v L := fun g hg hi => by
  have := (own_block h hg).1
  have := hL g hi
  omega
theorem off_next {w : World} {b z n : Nat} {t : TypeId} {v : Value} {xs : List Value} (h : w.ownsRow b t z v n xs) {L L' : List Nat} (hO : Off v L) (hL : ∀ i ∈ L', i ∈ L ∨ w.heap.size ≤ i) : Off v L' := fun g hg hi => by
  obtain ⟨_, cur, hh⟩ := own_block h hg
  have := lt_of_heap hh
  rcases hL g hi with h1 | h1
  · exact hO g hg h1
  · omega
end Go.Proofs.YtiijbecklkccfaaGreatDoor.I
/- The argument that is a list of calls: what lies in memory; one of them read. -/
namespace Go.Proofs.YtiijbecklkccfaaGreatDoor.I
open Go.RowKit Go.Proofs.YtiijbecklkccfaaGreatDoor.B Go.Sort
set_option linter.unusedVariables false
/-- So many calls lie at sp. -/
def OpsAt (w : World) (sp : Option Addr) (n : Nat) (O : Nat → OpV) : Prop := ∀ i, i < n → ∃ a, sp = some a ∧ w.cell? (a.add (i * 3)) = some (.int .i64 (O i).kind) ∧ w.cell? (a.add (i * 3 + 1)) = some (.string (O i).a) ∧ w.cell? (a.add (i * 3 + 2)) = some (.string (O i).b) ∧ (O i).a.size ≤ 1048576 ∧ (O i).b.size ≤ 1048576
theorem OpsAt.chg {w w' : World} {sp : Option Addr} {n : Nat} {O : Nat → OpV} (h : OpsAt w sp n O) (hC : Chg [] w w') : OpsAt w' sp n O := fun i hi => by
  obtain ⟨a, h0, h1, h2, h3, h4⟩ := h i hi
  have mv : ∀ {p : Addr} {v : Value}, w.cell? p = some v → w'.cell? p = some v := fun h => (hC.below.cell (World.block_lt_of_cell? w _ h)).trans h
  exact ⟨a, h0, mv h1, mv h2, mv h3, h4⟩
theorem size_op (a b c : Value) : (Tryz.prog.info? 36).map (·.size) = some (#[a, b, c]).size := by kernel_rfl
theorem load_op {w : World} {p : Addr} {a b c : Value} (h0 : w.cell? (p.add 0) = some a) (h1 : w.cell? (p.add 1) = some b) (h2 : w.cell? (p.add 2) = some c) : (loadVar 36 p).run Tryz.prog w = .ok (.agg #[a, b, c]) w := by
  have hl : (loadCells p [a, b, c].length).run Tryz.prog w = .ok [a, b, c].toArray w :=
    run_loadCells_list (P := Tryz.prog) w p [a, b, c] (fun j v hv => by
      match j, hv with
      | 0, hv => simp at hv; rw [← hv]; exact h0
      | 1, hv => simp at hv; rw [← hv]; exact h1
      | 2, hv => simp at hv; rw [← hv]; exact h2
      | j + 3, hv => simp at hv)
  have hi := size_op a b c
  cases hq : Tryz.prog.info? 36 with
  | none => simp [hq] at hi
  | some i =>
    have hs : i.size = 3 := by simpa [hq] using hi
    have hagg : (isAgg 36).run Tryz.prog w = .ok true w := by
      unfold isAgg
      rw [Sem.run_bind, run_underlying Tryz.underlying36 w]
      rfl
    simp only [List.length_cons, List.length_nil] at hl
    simp [loadVar, Sem.run_bind, hagg, sizeOf, typeInfo, hq, hs, hl]
theorem wpList_load_op {ops : Array Oper} {rest : List Oper} {o : Oper} {a : Act} {w : World} {Q : Exit → Act → World → Prop} (hgd : o.guard = none) (x : Operand) (ho : o.op = .load 36 x)
    (p : Addr) (hx : a.eval x = .pointer (some p)) (u v z : Value) (h0 : w.cell? (p.add 0) = some u) (h1 : w.cell? (p.add 1) = some v) (h2 : w.cell? (p.add 2) = some z)
    (h : wpList Tryz.prog ops Q rest (a.put o.dst (.agg #[u, v, z])) w) : wpList Tryz.prog ops Q (o :: rest) a w :=
  wpList_plain hgd fun _ hK => by
    have := load_op h0 h1 h2
    unfold Oper.wp execOp
    simp only [ho, hx, Instr.loadAt, Instr.sureAddr, Sem.run_bind, Sem.run_pure, Result.andThen_ok, this]
    exact hK _ _ h
end Go.Proofs.YtiijbecklkccfaaGreatDoor.I
/- Rows that are written into, appended to; a row of entries as sameEntries reads it. -/
namespace Go.Proofs.YtiijbecklkccfaaGreatDoor.I
open Go.RowKit Go.Proofs.YtiijbecklkccfaaGreatDoor.B Go.Sort
set_option linter.unusedVariables false
theorem setCells_heap (g : Nat) (t : TypeId) (fz : Nat × Nat) : ∀ (vs : List Value) (o : Nat) (w : World) (cs : Array Value), w.heap[g]? = some (.cells cs t fz) → ∃ cs', (w.setCells g o vs).heap[g]? = some (.cells cs' t fz) ∧ cs'.size = cs.size
  | [], o, w, cs, h => ⟨cs, h, rfl⟩
  | v :: vs, o, w, cs, h => by
    obtain ⟨cs', h1, h2⟩ := setCells_heap g t fz vs (o + 1) (w.setCell ⟨g, o, none⟩ v) _ (hp_set h o v)
    exact ⟨cs', h1, by rw [h2]; simp⟩
theorem Chg.setCells {L : List Nat} {a : World} {g : Nat} (hp : g < a.heap.size → g ∈ L) : ∀ (vs : List Value) (o : Nat) (b : World), Chg L a b → Chg L a (b.setCells g o vs)
  | [], o, b, h => h
  | v :: vs, o, b, h => Chg.setCells hp vs (o + 1) (b.setCell ⟨g, o, none⟩ v) (h.setCell hp v)
theorem there_row {w : World} {g : Nat} {cs : Array Value} {t : TypeId} (h : w.heap[g]? = some (.cells cs t (0, 0))) {o n : Nat} (hn : o + n ≤ cs.size) : w.there g o n := fun j hj =>
  ⟨by rw [cell_of_heap h, Array.getElem?_eq_getElem (by omega)]; rfl, frozen_of_heap h (o + j)⟩
theorem own_form {w : World} {b z n : Nat} {t : TypeId} {v : Value} {xs : List Value} (h : w.ownsRow b t z v n xs) : ∃ A c, v = .slice A n c ∧ n ≤ c := by
  rcases h.2 with ⟨rfl, rfl⟩ | ⟨g, cap, cur, rfl, _, _, hc, _⟩
  · exact ⟨none, 0, rfl, Nat.le_refl _⟩
  · exact ⟨_, _, rfl, hc⟩
theorem own_cells {w : World} {b z n c : Nat} {t : TypeId} {A : Option Addr} {xs : List Value} (h : w.ownsRow b t z (.slice A n c) n xs) (hn : 0 < n) : ∃ g cur, A = some ⟨g, 0, none⟩ ∧ b ≤ g ∧ w.heap[g]? = some (.cells cur t (0, 0)) ∧ n * z ≤ cur.size := by
  rcases h.2 with ⟨_, h0⟩ | ⟨g, cap, cur, hv, hb, hg, hc, hm, hs, ht⟩
  · omega
  · have e1 : A = some ⟨g, 0, none⟩ := by simp only [Value.slice.injEq] at hv; exact hv.1
    refine ⟨g, cur, e1, hb, hg, ?_⟩
    rw [hs]
    exact Nat.mul_le_mul_right z hc
/-- A row written into is a row still. -/
theorem own_write {w : World} {b z n c : Nat} {t : TypeId} {g : Nat} {xs : List Value} (h : w.ownsRow b t z (.slice (some ⟨g, 0, none⟩) n c) n xs) (o : Nat) (vs : List Value) : ∃ xs', (w.setCells g o vs).ownsRow b t z (.slice (some ⟨g, 0, none⟩) n c) n xs' := by
  rcases h.2 with ⟨h1, _⟩ | ⟨g', cap, cur, hv, hb, hg, hc, hm, hs, ht⟩
  · cases h1
  · have e1 : g = g' ∧ c = cap := by simp only [Value.slice.injEq, Option.some.injEq, Addr.mk.injEq] at hv; exact ⟨hv.1.1, hv.2.2⟩
    obtain ⟨rfl, rfl⟩ := e1
    obtain ⟨cs', k1, k2⟩ := setCells_heap g t (0, 0) vs o w cur hg
    refine ⟨cs'.toList.take (n * z), ?_, .inr ⟨g, c, cs', rfl, hb, k1, hc, hm, by rw [k2, hs], rfl⟩⟩
    rw [List.length_take, Array.length_toList, k2, hs]
    exact Nat.min_eq_left (Nat.mul_le_mul_right z hc)
/-- What a row that grows leaves. -/
theorem chg_grown {w w' : World} {row : Option Nat} (h : w.grownBy w' row) : Chg row.toList w w' :=
  ⟨h.os, h.tape, h.output, h.size, fun i hi hn => h.block i hi (fun e => hn (by rw [← e]; simp))⟩
theorem wpList_build_ent {ops : Array Oper} {rest : List Oper} {o : Oper} {a : Act} {w : World} {Q : Exit → Act → World → Prop} (hgd : o.guard = none) (x : Ent) (y : Operand) (ho : o.op = .buildSlice 31 1 #[(0, y)]) (hy : a.eval y = .agg (entC x)) (n : Nat) (hn : w.heap.size = n)
    (h : wpList Tryz.prog ops Q rest (a.put o.dst (.slice (some ⟨n, 0, none⟩) 1 1)) (w.alloc (.cells (entC x) 41))) : wpList Tryz.prog ops Q (o :: rest) a w :=
  wpList_plain hgd fun _ hK => wp_build_ent x y ho hy (by subst hn; exact hK _ _ h)
set_option maxRecDepth 100000 in
theorem wpList_append_entx {ops : Array Oper} {rest : List Oper} {o : Oper} {a : Act} {w : World} {Q : Exit → Act → World → Prop} (hgd : o.guard = none) (x : Ent) (s y : Operand)
    (ho : o.op = .call { callee := .builtin .append, args := #[s, y], argTypes := #[31, 31] }) (base : Nat) (v : Value) (n : Nat) (xs : List Value) (hs : a.eval s = v) (hown : w.ownsRow base 41 3 v n xs)
    (g : Nat) (hy : a.eval y = .slice (some ⟨g, 0, none⟩) 1 1) (hg : w.heap[g]? = some (.cells (entC x) 41 (0, 0))) (hL : n ≤ 1048576) (hb : base ≤ w.heap.size)
    (h : ∀ g' cap w', w'.ownsRow base 41 3 (.slice (some ⟨g', 0, none⟩) (n + 1) cap) (n + 1) (xs ++ (entC x).toList) → w.grownBy w' v.ownBlock → wpList Tryz.prog ops Q rest (a.put o.dst (.slice (some ⟨g', 0, none⟩) (n + 1) cap)) w') : wpList Tryz.prog ops Q (o :: rest) a w := by
  obtain ⟨ie, z, h1, h2, h3, h4, h5⟩ := info_ent'
  refine wpList_append_lies w hgd s y 31 ho base 41 ie z 3 40 Tryz.underlying31 h1 h2 h3 h4 h5 (by decide) v n xs hs hown ⟨g, 0, none⟩ 1 1 (entC x).toList hy ?_ ?_ ?_ (by decide) ?_ ?_ hb _ rfl ?_
  · rfl
  · intro j u hu
    have e : (⟨g, 0, none⟩ : Addr).add j = ⟨g, j, none⟩ := by
      unfold Addr.add
      split
      · subst_vars; rfl
      · simp
    rw [e, cell_of_heap hg]
    simpa using hu
  · intro u hu
    have h7 : (entC x).all (·.oneCell') = true := one_entry _ _ _
    exact (Array.all_eq_true_iff_forall_mem.1 h7) u (Array.mem_def.2 hu)
  · unfold maxLen; omega
  · omega
  · intro g' cap w' q1 q2 q3 _
    exact h g' cap w' q1 q2
theorem wpList_append_strx {ops : Array Oper} {rest : List Oper} {o : Oper} {a : Act} {w : World} {Q : Exit → Act → World → Prop} (hgd : o.guard = none) (p : ByteArray) (s y : Operand)
    (ho : o.op = .call { callee := .builtin .append, args := #[s, y], argTypes := #[42, 42] }) (base : Nat) (v : Value) (n : Nat) (xs : List Value) (hs : a.eval s = v) (hown : w.ownsRow base 9 1 v n xs)
    (g : Nat) (hy : a.eval y = .slice (some ⟨g, 0, none⟩) 1 1) (hg : w.heap[g]? = some (.cells #[.string p] 9 (0, 0))) (hL : n ≤ 1048576) (hb : base ≤ w.heap.size)
    (h : ∀ g' cap w', w'.ownsRow base 9 1 (.slice (some ⟨g', 0, none⟩) (n + 1) cap) (n + 1) (xs ++ [.string p]) → w.grownBy w' v.ownBlock → wpList Tryz.prog ops Q rest (a.put o.dst (.slice (some ⟨g', 0, none⟩) (n + 1) cap)) w') : wpList Tryz.prog ops Q (o :: rest) a w := by
  obtain ⟨ie, h1, h2, h3, h4⟩ := info9'
  refine wpList_append_lies w hgd s y 42 ho base 9 ie (.string ⟨#[]⟩) 1 16 Tryz.underlying42 h1 h2 h3 h4 rfl (by decide) v n xs hs hown ⟨g, 0, none⟩ 1 1 [.string p] hy ?_ ?_ ?_ (by decide) ?_ ?_ hb _ rfl ?_
  · rfl
  · intro j u hu
    match j, hu with
    | 0, hu =>
      simp at hu
      rw [← hu]
      exact cell_of_heap hg 0
    | j + 1, hu => simp at hu
  · intro u hu
    simp at hu
    subst hu
    rfl
  · unfold maxLen; omega
  · omega
  · intro g' cap w' q1 q2 q3 _
    exact h g' cap w' q1 q2
theorem flatE_get (E : List Ent) : ∀ (i : Nat) (h : i < E.length), (flatE E)[i * 3]? = some (.string (E[i]'h).1) ∧ (flatE E)[i * 3 + 1]? = some (.int .i64 ((E[i]'h).2.1 : Int)) ∧ (flatE E)[i * 3 + 2]? = some (.string (E[i]'h).2.2) := by
  induction E with
  | nil => intro i h; simp at h
  | cons x E ih =>
    intro i h
    have e : flatE (x :: E) = [.string x.1, .int .i64 (x.2.1 : Int), .string x.2.2] ++ flatE E := by simp [flatE, entC]
    cases i with
    | zero => rw [e]; exact ⟨rfl, rfl, rfl⟩
    | succ i =>
      obtain ⟨h1, h2, h3⟩ := ih i (by simpa using h)
      rw [e]
      have e1 : (i + 1) * 3 = i * 3 + 3 := by omega
      refine ⟨?_, ?_, ?_⟩
      · rw [e1, List.getElem?_append_right (by simp)]; exact h1
      · rw [e1, List.getElem?_append_right (by simp)]; simpa using h2
      · rw [e1, List.getElem?_append_right (by simp)]; simpa using h3
theorem entL_of_own {w : World} {b : Nat} {v : Value} {E : List Ent} (h : RowE w b v E) : EntL w v E := by
  obtain ⟨h1, h2⟩ := h
  rcases h2 with ⟨rfl, h0⟩ | ⟨g, cap, cur, rfl, hb, hg, hn, hc, hsz, ht⟩
  · exact ⟨none, 0, by rw [h0], fun i hi => by omega⟩
  · have get : ∀ j, j < E.length * 3 → w.cell? ⟨g, j, none⟩ = (flatE E)[j]? := fun j hj => by
      rw [cell_of_heap hg, ← ht, List.getElem?_take_of_lt hj, Array.getElem?_toList]
    refine ⟨_, cap, rfl, fun i hi => ⟨g, rfl, ?_, ?_, ?_⟩⟩
    · rw [get _ (by omega)]; exact (flatE_get E i hi).1
    · rw [get _ (by omega)]; exact (flatE_get E i hi).2.1
    · rw [get _ (by omega)]; exact (flatE_get E i hi).2.2
end Go.Proofs.YtiijbecklkccfaaGreatDoor.I
