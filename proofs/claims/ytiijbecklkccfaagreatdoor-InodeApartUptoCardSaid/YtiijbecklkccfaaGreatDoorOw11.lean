/- Merged out of these texts: Done, Same, Ent, SameEnt, EntRow, Ways, TreeF. -/
import Derived.Test.YtiijbecklkccfaaGreatDoorOw9
import Derived.Test.YtiijbecklkccfaaGreatDoorOw10
import Derived.Test.YtiijbecklkccfaaGreatDoorOw6
import Derived.Laws.StructEq
import Derived.Deep.AppendLies
import Derived.Test.YtiijbecklkccfaaGreatDoorOw7
/- The law's done: a call on the program's file system, by its kind. The walk. -/
namespace Go.Proofs.YtiijbecklkccfaaGreatDoor.I
open Go.RowKit Go.Proofs.YtiijbecklkccfaaGreatDoor.B Go.Sort
set_option linter.unusedVariables false
structure OpV where
  kind : Int
  a : ByteArray
  b : ByteArray
open Classical in
noncomputable def opF (fs : FS) (by' nd : Nat) (o : OpV) : Nat × FS :=
  if o.kind = 1 then makeF fs by' nd o.a else if o.kind = 2 then createF fs by' nd o.a else if o.kind = 3 then appendF fs by' o.a o.b else if o.kind = 4 then linkF fs by' nd o.a o.b else if o.kind = 5 then renameF fs o.a o.b else removeF fs o.a
theorem opF_keep {fs : FS} (hg : FsOk fs) {by' nd : Nat} (hr : Room fs by' nd) (o : OpV) : FsOk (opF fs by' nd o).2 ∧ Room (opF fs by' nd o).2 by' nd := by
  unfold opF
  split
  · exact makeF_keep hg hr _
  · split
    · exact createF_keep hg hr _
    · split
      · exact appendF_keep hg hr _ _
      · split
        · exact linkF_keep hg hr _ _
        · split
          · exact renameF_keep hg hr _ _
          · exact removeF_keep hg hr _
theorem OpPost.pre {w w1 : World} {L : List Nat} {t by' nd : Nat} {R : Nat × FS} {e : Ending} {w' : World} (hC : Chg [] w w1) (h : OpPost w1 L t by' nd R e w') : OpPost w L t by' nd R e w' := by
  obtain ⟨h1, h2, L', A', M', h3, h4⟩ := h
  exact ⟨h1, (hC.mono (by simp)).trans h2, L', A', M', h3, fun i hi => by
    rcases h4 i hi with h | h
    · exact .inl h
    · exact .inr (Nat.le_trans hC.size h)⟩
set_option maxRecDepth 100000 in
set_option maxHeartbeats 16000000 in
theorem done_calls (L : List Nat) (t : Nat) (fs : FS) (by' nd : Nat) (A M : Pth → Nat) (k : Int) (a b : ByteArray) (w : World) (hT : TabAt w L t fs by' nd A M) (hg : FsOk fs) (hr : Room fs by' nd) (hm : MaxLenAt w) (ha : a.size ≤ 4294967280) (hb : b.size ≤ 4294967280) :
    Calls Tryz.prog 12 #[(.pointer (some ⟨t, 0, none⟩)), .agg #[.int .i64 k, .string a, .string b]] w fun e w' => OpPost w L t by' nd (opF fs by' nd ⟨k, a, b⟩) e w' := by
  have HC := Asd.mk (show Chg [] w (w.alloc (.cells #[.int .i64 k, .string a, .string b] 36)) from (Chg.refl _ _).alloc _)
  have hB := hp_new w (.cells #[.int .i64 k, .string a, .string b] 36)
  have b0 := cell_of_heap hB 0
  have b1 := cell_of_heap hB 1
  have b2 := cell_of_heap hB 2
  have hT1 := hT.keep0 HC.out
  have hm1 := hm.chg HC.out
  have H1 := Asd.mk (make_calls L t fs by' nd A M a (w.alloc (.cells #[.int .i64 k, .string a, .string b] 36)) hT1 hg hr hm1 ha)
  have H2 := Asd.mk (create_calls L t fs by' nd A M a (w.alloc (.cells #[.int .i64 k, .string a, .string b] 36)) hT1 hg hr hm1 ha)
  have H3 := Asd.mk (append_calls L t fs by' nd A M a b (w.alloc (.cells #[.int .i64 k, .string a, .string b] 36)) hT1 hg hr hm1 ha hb)
  have H4 := Asd.mk (link_calls L t fs by' nd A M a b (w.alloc (.cells #[.int .i64 k, .string a, .string b] 36)) hT1 hg hr hm1 hb)
  have H5 := Asd.mk (rename_calls L t fs by' nd A M a b (w.alloc (.cells #[.int .i64 k, .string a, .string b] 36)) hT1 hg hr hm1 ha hb)
  have H6 := Asd.mk (remove_calls L t fs by' nd A M a (w.alloc (.cells #[.int .i64 k, .string a, .string b] 36)) hT1 hg hr hm1 ha)
  clear hB hT1 hm1 hT hg hr hm
  by_cases k1 : k = 1
  · have HA := Asd.mk (show opF fs by' nd ⟨k, a, b⟩ = makeF fs by' nd a by unfold opF; rw [if_pos k1])
    subst k1
    clear H2 H3 H4 H5 H6
    (go_enter Tryz.func12, Tryz.ntmps12)
    go_wp2_with fail
    refine H1.out.mono ?_
    rintro e w1 hP
    have he : e = .returned (errV (makeF fs by' nd a).1) := hP.1
    subst he
    have HP := Asd.mk hP
    clear hP H1
    go_wp2
    go_ret
    exact by rw [HA.out]; exact HP.out.pre HC.out
  · have n1 : ¬ k = 1 := k1
    by_cases k2 : k = 2
    · have HA := Asd.mk (show opF fs by' nd ⟨k, a, b⟩ = createF fs by' nd a by unfold opF; rw [if_neg k1, if_pos k2])
      subst k2
      clear H1 H3 H4 H5 H6
      (go_enter Tryz.func12, Tryz.ntmps12)
      go_wp2_with fail
      refine H2.out.mono ?_
      rintro e w1 hP
      have he : e = .returned (errV (createF fs by' nd a).1) := hP.1
      subst he
      have HP := Asd.mk hP
      clear hP H2
      go_wp2
      go_ret
      exact by rw [HA.out]; exact HP.out.pre HC.out
    · by_cases k3 : k = 3
      · have HA := Asd.mk (show opF fs by' nd ⟨k, a, b⟩ = appendF fs by' a b by unfold opF; rw [if_neg k1, if_neg k2, if_pos k3])
        subst k3
        clear H1 H2 H4 H5 H6
        (go_enter Tryz.func12, Tryz.ntmps12)
        go_wp2_with fail
        refine H3.out.mono ?_
        rintro e w1 hP
        have he : e = .returned (errV (appendF fs by' a b).1) := hP.1
        subst he
        have HP := Asd.mk hP
        clear hP H3
        go_wp2
        go_ret
        exact by rw [HA.out]; exact HP.out.pre HC.out
      · by_cases k4 : k = 4
        · have HA := Asd.mk (show opF fs by' nd ⟨k, a, b⟩ = linkF fs by' nd a b by unfold opF; rw [if_neg k1, if_neg k2, if_neg k3, if_pos k4])
          subst k4
          clear H1 H2 H3 H5 H6
          (go_enter Tryz.func12, Tryz.ntmps12)
          go_wp2_with fail
          refine H4.out.mono ?_
          rintro e w1 hP
          have he : e = .returned (errV (linkF fs by' nd a b).1) := hP.1
          subst he
          have HP := Asd.mk hP
          clear hP H4
          go_wp2
          go_ret
          exact by rw [HA.out]; exact HP.out.pre HC.out
        · by_cases k5 : k = 5
          · have HA := Asd.mk (show opF fs by' nd ⟨k, a, b⟩ = renameF fs a b by unfold opF; rw [if_neg k1, if_neg k2, if_neg k3, if_neg k4, if_pos k5])
            subst k5
            clear H1 H2 H3 H4 H6
            (go_enter Tryz.func12, Tryz.ntmps12)
            go_wp2_with fail
            refine H5.out.mono ?_
            rintro e w1 hP
            have he : e = .returned (errV (renameF fs a b).1) := hP.1
            subst he
            have HP := Asd.mk hP
            clear hP H5
            go_wp2
            go_ret
            exact by rw [HA.out]; exact HP.out.pre HC.out
          · have HA := Asd.mk (show opF fs by' nd ⟨k, a, b⟩ = removeF fs a by unfold opF; rw [if_neg k1, if_neg k2, if_neg k3, if_neg k4, if_neg k5])
            clear H1 H2 H3 H4 H5
            (go_enter Tryz.func12, Tryz.ntmps12)
            go_wp2_with fail
            refine H6.out.mono ?_
            rintro e w1 hP
            have he : e = .returned (errV (removeF fs a).1) := hP.1
            subst he
            have HP := Asd.mk hP
            clear hP H6
            go_wp2
            go_ret
            exact by rw [HA.out]; exact HP.out.pre HC.out
end Go.Proofs.YtiijbecklkccfaaGreatDoor.I
/- The law's sameTexts: the walk. -/
namespace Go.Proofs.YtiijbecklkccfaaGreatDoor.I
open Go.RowKit Go.Proofs.YtiijbecklkccfaaGreatDoor.B Go.Sort
set_option linter.unusedVariables false
theorem ba_eq {a b : ByteArray} (h : a.toList = b.toList) : a = b := by
  have h := congrArg nb h
  rwa [ByteArray.toList_eq, ByteArray.toList_eq, nb_list, nb_list] at h
set_option maxRecDepth 100000 in
set_option maxHeartbeats 16000000 in
theorem sameTexts_calls (L1 L2 : List ByteArray) (v1 v2 : Value) (w : World) (h1 : StrL w v1 L1) (h2 : StrL w v2 L2) (hz1 : L1.length ≤ 16777216) (hz2 : L2.length ≤ 16777216) :
    Calls Tryz.prog 20 #[v1, v2] w fun e w' => e = .returned (.bool (decide (L1 = L2))) ∧ Chg [] w w' := by
  obtain ⟨A1, c1, rfl, hc1⟩ := h1
  obtain ⟨A2, c2, rfl, hc2⟩ := h2
  have hC0 := Chg.refl [] w
  obtain ⟨R, hR⟩ : ∃ R, decide (L1 = L2) = R := ⟨_, rfl⟩
  rw [hR]
  have HR := Asd.mk hR
  clear hR
  by_cases hn : L1.length = L2.length
  · have HC1 := Asd.mk hc1
    have HC2 := Asd.mk hc2
    obtain ⟨n, hn1⟩ : ∃ n, L1.length = n := ⟨_, rfl⟩
    have hn2 : L2.length = n := by rw [← hn, hn1]
    have HN1 := Asd.mk hn1
    have HN2 := Asd.mk hn2
    rw [hn1] at hz1 ⊢
    rw [hn2] at hz2 ⊢
    clear hc1 hc2 hn hn1 hn2
    (go_enter Tryz.func20, Tryz.ntmps20)
    go_wp2
    go_loopg [5] (n + 1) (fun gk v5 wx => ∃ i : Nat, i ≤ n ∧ gk = n + 1 - i ∧ v5 = .int .i64 (i : Int) ∧ Asd (Chg [] w wx) ∧ Asd (L1.take i = L2.take i))
    case atStart => exact ⟨0, by omega, rfl, rfl, ⟨Chg.refl _ _⟩, ⟨by simp⟩⟩
    case round =>
      obtain ⟨i, hi, rfl, rfl, HC, HT⟩ := hrel
      by_cases hlt : i < n
      · have k2 : (i : Int) < (n : Int) := by omega
        have hl1 : i < L1.length := by rw [HN1.out]; exact hlt
        have hl2 : i < L2.length := by rw [HN2.out]; exact hlt
        obtain ⟨a1, rfl, d1⟩ := HC1.out i hl1
        obtain ⟨a2, rfl, d2⟩ := HC2.out i hl2
        have e1 := (HC.out.below.cell (World.block_lt_of_cell? w _ d1)).trans d1
        have e2 := (HC.out.below.cell (World.block_lt_of_cell? w _ d2)).trans d2
        obtain ⟨x, hx⟩ : ∃ x, L1[i] = x := ⟨_, rfl⟩
        obtain ⟨y, hy⟩ : ∃ y, L2[i] = y := ⟨_, rfl⟩
        rw [hx] at e1
        rw [hy] at e2
        have HX := Asd.mk hx
        have HY := Asd.mk hy
        clear d1 d2 hx hy
        by_cases hxy : x = y
        · have t1 : (x.toList == y.toList) = true := by rw [hxy]; simp
          have HT2 := Asd.mk (show L1.take (i + 1) = L2.take (i + 1) by rw [List.take_succ_eq_append_getElem hl1, List.take_succ_eq_append_getElem hl2, HT.out, HX.out, HY.out, hxy])
          clear hxy HT
          go_upto_region 6 with fail
          go_quiet (fail)
          go_wp2
          go_roundg (n + 1 - (i + 1))
          case rel => exact ⟨i + 1, by omega, by omega, by go_num, ⟨HC.out.drewN nq⟩, HT2⟩
          case measure => omega
        · have t1 : (x.toList == y.toList) = false := beq_eq_false_iff_ne.2 (fun e => hxy (ba_eq e))
          have HA := Asd.mk (show R = false by
            rw [← HR.out, decide_eq_false_iff_not]
            intro e
            apply hxy
            rw [← HX.out, ← HY.out]
            simp [e])
          clear hxy HT
          go_upto_region 6 with fail
          go_quiet (fail)
          go_wp2
          go_ret
          exact ⟨by rw [HA.out]; rfl, HC.out.drewN nq⟩
      · obtain rfl : i = n := by omega
        have HA := Asd.mk (show R = true by
          rw [← HR.out, decide_eq_true_eq]
          have := HT.out
          rw [List.take_of_length_le (by have := HN1.out; omega), List.take_of_length_le (by have := HN2.out; omega)] at this
          exact this)
        go_wp2
        go_ret
        exact ⟨by rw [HA.out]; rfl, HC.out⟩
  · have HA := Asd.mk (show R = false by
      rw [← HR.out, decide_eq_false_iff_not]
      rintro rfl
      exact hn rfl)
    have k1 : ¬ (L1.length : Int) = (L2.length : Int) := by omega
    clear hc1 hc2 hn
    (go_enter Tryz.func20, Tryz.ntmps20)
    go_wp2
    go_ret
    exact ⟨by rw [HA.out]; rfl, hC0⟩
end Go.Proofs.YtiijbecklkccfaaGreatDoor.I
/- Two entries: are they the same? The model's '==' of a struct of a text, a number, a text. -/
namespace Go.Proofs.YtiijbecklkccfaaGreatDoor.I
open Go.RowKit Go.Proofs.YtiijbecklkccfaaGreatDoor.B Go.Sort
set_option linter.unusedVariables false
theorem fld_more {P : Program} {d : Nat} {xs ys : Array Value} {f : Field} {fs : List Field} {a b : Value} {r s : Bool} {w : World} (hn : (f.name == "_") = false) (ha : (part f.type xs f.offset).run P w = .ok a w) (hb : (part f.type ys f.offset).run P w = .ok b w) (he : (Op.equalIn d f.type a b).run P w = .ok r w) (hr : (Op.eqFields d xs ys fs).run P w = .ok s w) : (Op.eqFields d xs ys (f :: fs)).run P w = .ok (r && s) w := by
  have hn' : f.name ≠ "_" := by simpa using hn
  rw [Op.eqFields]
  simp only [if_pos hn', Sem.run_bind, ha, hb, he, Result.andThen_ok]
  cases r
  · simp
  · simpa using hr
theorem struct_of {P : Program} {d : Nat} {xs ys : Array Value} {t : TypeId} {fs : Array Field} {r : Bool} {w : World} (hu : P.underlying t = some (.struct fs)) (hp : P.stoodInHeld t = false) (h : (Op.eqFields d xs ys fs.toList).run P w = .ok r w) : (Op.equalIn (d + 1) t (.agg xs) (.agg ys)).run P w = .ok r w := by
  have hf : P.fieldsOf t = fs := by simp [Program.fieldsOf, hu]
  rw [run_equalIn_struct (P := P) w d t xs ys (by rw [hf]; exact hu) hp, hf]
  exact h
theorem eqEnt (d : Nat) (w : World) (a b : ByteArray) (k l : Int) (s t : ByteArray) :
    (Op.equalIn (d + 2) 41 (.agg #[.string a, .int .i64 k, .string s]) (.agg #[.string b, .int .i64 l, .string t])).run Tryz.prog w = .ok ((a.toList == b.toList) && ((k == l) && ((s.toList == t.toList) && true))) w := by
  refine struct_of Tryz.underlying41 (by kernel_rfl) ?_
  refine fld_more (by rfl) (by go_simp; rfl) (by go_simp; rfl) (by go_simp) ?_
  refine fld_more (by rfl) (by go_simp; rfl) (by go_simp; rfl) (by go_simp) ?_
  refine fld_more (by rfl) (by go_simp; rfl) (by go_simp; rfl) (by go_simp) ?_
  simp [Op.eqFields]
end Go.Proofs.YtiijbecklkccfaaGreatDoor.I
/- The law's sameEntries: the walk. -/
namespace Go.Proofs.YtiijbecklkccfaaGreatDoor.I
open Go.RowKit Go.Proofs.YtiijbecklkccfaaGreatDoor.B Go.Sort
set_option linter.unusedVariables false
abbrev Ent := ByteArray × Nat × ByteArray
/-- A row of entries in memory. -/
def EntL (w : World) (v : Value) (E : List Ent) : Prop := ∃ A c, v = .slice A E.length c ∧ ∀ i, (h : i < E.length) → ∃ g, A = some ⟨g, 0, none⟩ ∧
  w.cell? ⟨g, i * 3, none⟩ = some (.string (E[i]'h).1) ∧ w.cell? ⟨g, i * 3 + 1, none⟩ = some (.int .i64 ((E[i]'h).2.1 : Int)) ∧ w.cell? ⟨g, i * 3 + 2, none⟩ = some (.string (E[i]'h).2.2)
theorem load_entry {w : World} {g o : Nat} {a b c : Value} (h0 : w.cell? ⟨g, o, none⟩ = some a) (h1 : w.cell? ⟨g, o + 1, none⟩ = some b) (h2 : w.cell? ⟨g, o + 2, none⟩ = some c) : (loadVar 41 ⟨g, o, none⟩).run Tryz.prog w = .ok (.agg #[a, b, c]) w := by
  have hl : (loadCells ⟨g, o, none⟩ [a, b, c].length).run Tryz.prog w = .ok [a, b, c].toArray w :=
    run_loadCells_list (P := Tryz.prog) w ⟨g, o, none⟩ [a, b, c] (fun j v hv => by
      have hadd : (⟨g, o, none⟩ : Addr).add j = ⟨g, o + j, none⟩ := by unfold Addr.add; split <;> simp_all
      rw [hadd]
      match j, hv with
      | 0, hv => simp at hv; rw [← hv]; exact h0
      | 1, hv => simp at hv; rw [← hv]; exact h1
      | 2, hv => simp at hv; rw [← hv]; exact h2
      | j + 3, hv => simp at hv)
  have hi := size_entry a b c
  cases hq : Tryz.prog.info? 41 with
  | none => simp [hq] at hi
  | some i =>
    have hs : i.size = 3 := by simpa [hq] using hi
    have hagg : (isAgg 41).run Tryz.prog w = .ok true w := by
      unfold isAgg
      rw [Sem.run_bind, run_underlying Tryz.underlying41 w]
      rfl
    simp only [List.length_cons, List.length_nil] at hl
    simp [loadVar, Sem.run_bind, hagg, sizeOf, typeInfo, hq, hs, hl]
theorem neqEnt (w : World) (a b : ByteArray) (k l : Int) (s t : ByteArray) (r : Bool) (hr : ((a.toList == b.toList) && ((k == l) && ((s.toList == t.toList) && true))) = r) :
    (binOp .neq 41 (.agg #[.string a, .int .i64 k, .string s]) (.agg #[.string b, .int .i64 l, .string t])).run Tryz.prog w = .ok (.bool (!r)) w := by
  have h := eqEnt 9998 w a b k l s t
  rw [hr] at h
  simp only [binOp]
  simp [Op.equal, Op.maxDepth, h]
theorem eqEnt2 (d : Nat) (w : World) (a b : ByteArray) (k l : Int) (s t : ByteArray) :
    (Op.equalIn (d + 2) 41 (.agg #[.string a, .int .i64 k, .string s]) (.agg #[.string b, .int .i64 l, .string t])).run Tryz.prog w = .ok (a.toList == b.toList && (k == l && s.toList == t.toList)) w := by
  rw [eqEnt, Bool.and_true]
attribute [local go_sem high] eqEnt2
set_option maxRecDepth 100000 in
set_option maxHeartbeats 16000000 in
theorem sameEntries_calls (E1 E2 : List Ent) (v1 v2 : Value) (w : World) (h1 : EntL w v1 E1) (h2 : EntL w v2 E2) (hz1 : E1.length ≤ 16777216) (hz2 : E2.length ≤ 16777216) :
    Calls Tryz.prog 14 #[v1, v2] w fun e w' => e = .returned (.bool (decide (E1 = E2))) ∧ Chg [] w w' := by
  obtain ⟨A1, c1, rfl, hc1⟩ := h1
  obtain ⟨A2, c2, rfl, hc2⟩ := h2
  have hC0 := Chg.refl [] w
  obtain ⟨R, hR⟩ : ∃ R, decide (E1 = E2) = R := ⟨_, rfl⟩
  rw [hR]
  have HR := Asd.mk hR
  clear hR
  by_cases hn : E1.length = E2.length
  · have HC1 := Asd.mk hc1
    have HC2 := Asd.mk hc2
    obtain ⟨n, hn1⟩ : ∃ n, E1.length = n := ⟨_, rfl⟩
    have hn2 : E2.length = n := by rw [← hn, hn1]
    have HN1 := Asd.mk hn1
    have HN2 := Asd.mk hn2
    rw [hn1] at hz1 ⊢
    rw [hn2] at hz2 ⊢
    clear hc1 hc2 hn hn1 hn2
    (go_enter Tryz.func14, Tryz.ntmps14)
    go_wp2
    go_loopg [5] (n + 1) (fun gk v5 wx => ∃ i : Nat, i ≤ n ∧ gk = n + 1 - i ∧ v5 = .int .i64 (i : Int) ∧ Asd (Chg [] w wx) ∧ Asd (E1.take i = E2.take i))
    case atStart => exact ⟨0, by omega, rfl, rfl, ⟨Chg.refl _ _⟩, ⟨by simp⟩⟩
    case round =>
      obtain ⟨i, hi, rfl, rfl, HC, HT⟩ := hrel
      by_cases hlt : i < n
      · have k2 : (i : Int) < (n : Int) := by omega
        have hl1 : i < E1.length := by rw [HN1.out]; exact hlt
        have hl2 : i < E2.length := by rw [HN2.out]; exact hlt
        obtain ⟨g1, rfl, d1, d2, d3⟩ := HC1.out i hl1
        obtain ⟨g2, rfl, f1, f2, f3⟩ := HC2.out i hl2
        have mv : ∀ {p : Addr} {v : Value}, w.cell? p = some v → wr.cell? p = some v := fun h => (HC.out.below.cell (World.block_lt_of_cell? w _ h)).trans h
        have e1 := fun k => load_entry (w := wr.drewN k) (mv d1) (mv d2) (mv d3)
        have e2 := fun k => load_entry (w := wr.drewN k) (mv f1) (mv f2) (mv f3)
        obtain ⟨x, hx⟩ : ∃ x, E1[i] = x := ⟨_, rfl⟩
        obtain ⟨y, hy⟩ : ∃ y, E2[i] = y := ⟨_, rfl⟩
        have p1 := mv d1
        have p2 := mv d2
        have p3 := mv d3
        have q1 := mv f1
        have q2 := mv f2
        have q3 := mv f3
        clear e1 e2
        rw [hx] at p1 p2 p3
        rw [hy] at q1 q2 q3
        have HX := Asd.mk hx
        have HY := Asd.mk hy
        clear d1 d2 d3 f1 f2 f3 mv hx hy
        by_cases hxy : x = y
        · have t1 : (x.1.toList == y.1.toList && ((x.2.1 : Int) == (y.2.1 : Int) && x.2.2.toList == y.2.2.toList)) = true := by rw [hxy]; simp
          have HT2 := Asd.mk (show E1.take (i + 1) = E2.take (i + 1) by rw [List.take_succ_eq_append_getElem hl1, List.take_succ_eq_append_getElem hl2, HT.out, HX.out, HY.out, hxy])
          clear hxy HT
          go_upto_region 6 with fail
          go_quiet (fail)
          go_wp2
          go_roundg (n + 1 - (i + 1))
          case rel => exact ⟨i + 1, by omega, by omega, by go_num, ⟨HC.out.drewN nq⟩, HT2⟩
          case measure => omega
        · have t1 : (x.1.toList == y.1.toList && ((x.2.1 : Int) == (y.2.1 : Int) && x.2.2.toList == y.2.2.toList)) = false := by
            cases hb : (x.1.toList == y.1.toList && ((x.2.1 : Int) == (y.2.1 : Int) && x.2.2.toList == y.2.2.toList)) with
            | false => rfl
            | true =>
              exfalso
              simp only [Bool.and_eq_true, beq_iff_eq] at hb
              exact hxy (Prod.ext (ba_eq hb.1) (Prod.ext (by have := hb.2.1; omega) (ba_eq hb.2.2)))
          have HA := Asd.mk (show R = false by
            rw [← HR.out, decide_eq_false_iff_not]
            intro e
            apply hxy
            rw [← HX.out, ← HY.out]
            simp [e])
          clear hxy HT
          go_upto_region 6 with fail
          go_quiet (fail)
          go_wp2
          go_ret
          exact ⟨by rw [HA.out]; rfl, HC.out.drewN nq⟩
      · obtain rfl : i = n := by omega
        have HA := Asd.mk (show R = true by
          rw [← HR.out, decide_eq_true_eq]
          have := HT.out
          rw [List.take_of_length_le (by have := HN1.out; omega), List.take_of_length_le (by have := HN2.out; omega)] at this
          exact this)
        go_wp2
        go_ret
        exact ⟨by rw [HA.out]; rfl, HC.out⟩
  · have HA := Asd.mk (show R = false by
      rw [← HR.out, decide_eq_false_iff_not]
      rintro rfl
      exact hn rfl)
    have k1 : ¬ (E1.length : Int) = (E2.length : Int) := by omega
    clear hc1 hc2 hn
    (go_enter Tryz.func14, Tryz.ntmps14)
    go_wp2
    go_ret
    exact ⟨by rw [HA.out]; rfl, hC0⟩
end Go.Proofs.YtiijbecklkccfaaGreatDoor.I
/- Rows of entries: what the operations of a region that appends one run to. -/
namespace Go.Proofs.YtiijbecklkccfaaGreatDoor.I
open Go.RowKit Go.Proofs.YtiijbecklkccfaaGreatDoor.B Go.Sort
set_option linter.unusedVariables false
/-- An entry's cells. -/
def entC (x : Ent) : Array Value := #[.string x.1, .int .i64 (x.2.1 : Int), .string x.2.2]
def flatE (E : List Ent) : List Value := E.flatMap fun x => (entC x).toList
theorem flatE_len (E : List Ent) : (flatE E).length = E.length * 3 := by
  induction E with
  | nil => rfl
  | cons x E ih =>
    have : flatE (x :: E) = (entC x).toList ++ flatE E := by simp [flatE]
    rw [this, List.length_append, ih, List.length_cons]
    simp [entC]
    omega
theorem flatE_snoc (E : List Ent) (x : Ent) : flatE (E ++ [x]) = flatE E ++ (entC x).toList := by simp [flatE]
theorem info_ent : (Tryz.prog.info? 41).map (fun i => (i.zero, i.size, i.bytes)) = some (some (.agg #[.string ⟨#[]⟩, .int .i64 0, .string ⟨#[]⟩]), 3, 40) := by kernel_rfl
theorem info_ent' : ∃ ie z, Tryz.prog.info? 41 = some ie ∧ ie.zero = some z ∧ ie.size = 3 ∧ ie.bytes = 40 ∧ z.cells.size = 3 := by
  cases hie : Tryz.prog.info? 41 with
  | none => have := info_ent; rw [hie] at this; cases this
  | some ie =>
    have h := info_ent
    rw [hie] at h
    simp only [Option.map_some, Option.some.injEq, Prod.mk.injEq] at h
    exact ⟨ie, _, rfl, h.1, h.2.1, h.2.2, rfl⟩
theorem build_ent (x : Ent) (w : World) : (Instr.buildSlice 31 1 #[(0, .agg (entC x))]).run Tryz.prog w = .ok (.slice (some ⟨w.heap.size, 0, none⟩) 1 1) (w.alloc (.cells (entC x) 41)) := by
  obtain ⟨ie, z, h1, h2, h3, h4, h5⟩ := info_ent'
  refine Go.run_buildSlice w 31 41 1 _ _ ie _ Tryz.underlying31 h1 h2 (by rw [h3]; decide) (by rw [h3]; decide) ?_
  rw [h3]
  have := Great.fill_whole (s := 3) (by omega) [.agg (entC x)] ((Array.range (1 * 3)).map (z.cells[· % z.cells.size]!)) (by simp [Value.cells, entC]) (by simp)
  simpa [Value.cells] using this
theorem wp_build_ent (x : Ent) {o : Oper} {a : Act} {w : World} {K : Act → World → Prop} {Q : Exit → Act → World → Prop} (y : Operand) (ho : o.op = .buildSlice 31 1 #[(0, y)]) (hy : a.eval y = .agg (entC x))
    (h : K (a.put o.dst (.slice (some ⟨w.heap.size, 0, none⟩) 1 1)) (w.alloc (.cells (entC x) 41))) : o.wp Tryz.prog a w K Q := by
  unfold Oper.wp execOp
  simp only [ho, List.map_toArray, List.map_cons, List.map_nil, hy, Sem.run_bind, build_ent, Result.andThen_ok]
  exact h
set_option maxRecDepth 100000 in
theorem wp_append_ent (x : Ent) {o : Oper} {a : Act} {w : World} {K : Act → World → Prop} {Q : Exit → Act → World → Prop} (s y : Operand)
    (ho : o.op = .call { callee := .builtin .append, args := #[s, y], argTypes := #[31, 31] }) (base : Nat) (v : Value) (E : List Ent) (hs : a.eval s = v) (hown : w.ownsRow base 41 3 v E.length (flatE E))
    (g : Nat) (hy : a.eval y = .slice (some ⟨g, 0, none⟩) 1 1) (hg : w.heap[g]? = some (.cells (entC x) 41 (0, 0))) (hL : E.length ≤ 1048576) (hb : base ≤ w.heap.size)
    (h : ∀ g' cap w', w'.ownsRow base 41 3 (.slice (some ⟨g', 0, none⟩) (E.length + 1) cap) (E ++ [x]).length (flatE (E ++ [x])) → w.grownBy w' v.ownBlock → (v.ownBlock = some g' ∨ g' = w.heap.size) → K (a.put o.dst (.slice (some ⟨g', 0, none⟩) (E.length + 1) cap)) w') : o.wp Tryz.prog a w K Q := by
  obtain ⟨ie, z, h1, h2, h3, h4, h5⟩ := info_ent'
  refine wp_append_lies w s y 31 ho base 41 ie z 3 40 Tryz.underlying31 h1 h2 h3 h4 h5 (by decide) v E.length (flatE E) hs hown ⟨g, 0, none⟩ 1 1 (entC x).toList hy ?_ ?_ ?_ (by decide) ?_ ?_ hb _ rfl ?_
  · rfl
  · intro j u hu
    have e : (⟨g, 0, none⟩ : Addr).add j = ⟨g, j, none⟩ := by
      unfold Addr.add
      split
      · subst_vars; rfl
      · simp
    rw [e, cell_of_heap hg]
    simpa using hu
  · intro u hu
    have h7 : (entC x).all (·.oneCell') = true := one_entry _ _ _
    exact (Array.all_eq_true_iff_forall_mem.1 h7) u (Array.mem_def.2 hu)
  · unfold maxLen; omega
  · omega
  · intro g' cap w' q1 q2 q3 _
    refine h g' cap w' ?_ q2 q3
    rw [flatE_snoc, List.length_append]
    exact q1
end Go.Proofs.YtiijbecklkccfaaGreatDoor.I
/- What the calls answer where the way is clear; a path's text and its parts. Plain. -/
namespace Go.Proofs.YtiijbecklkccfaaGreatDoor.I
open Go.RowKit Go.Proofs.YtiijbecklkccfaaGreatDoor.B Go.Sort
set_option linter.unusedVariables false
/-- A path's text. -/
def tx (p : Pth) : ByteArray := nb (joinL 47 p)
theorem tx_list (p : Pth) : (tx p).data.toList = joinL 47 p := list_nb _
theorem way_ok {fs : FS} (hg : FsOk fs) {y : Nd} : ∀ {r d : Pth}, r ≠ [] → fs.at (d ++ r.dropLast) = some y → y.kind = 2 → wayFrom fs d r = none
  | [], _, h, _, _ => absurd rfl h
  | [n], d, _, _, _ => rfl
  | n :: m :: r, d, _, hy, hk => by
    have e : d ++ (n :: m :: r).dropLast = (d ++ [n]) ++ (m :: r).dropLast := by
      rw [List.dropLast_cons_of_ne_nil (by simp)]; simp
    rw [e] at hy
    have hx : ∃ x, fs.at (d ++ [n]) = some x ∧ x.kind = 2 := by
      by_cases h0 : (m :: r).dropLast = []
      · rw [h0, List.append_nil] at hy
        exact ⟨y, hy, hk⟩
      · exact hg.prefix (by rw [hy]; simp) h0
    obtain ⟨x, hx1, hx2⟩ := hx
    have ih := way_ok hg (r := m :: r) (d := d ++ [n]) (by simp) hy hk
    simp only [wayFrom]
    rw [hx1]
    simp only
    rw [if_neg (by omega), if_neg (by omega)]
    exact ih
theorem way_snoc {fs : FS} (hg : FsOk fs) {q : Pth} {n : Nm} {y : Nd} (hy : fs.at q = some y) (hk : y.kind = 2) : wayE fs (q ++ [n]) = none :=
  way_ok hg (by simp) (by simpa using hy) hk
theorem way_at {fs : FS} (hg : FsOk fs) {p : Pth} {x : Nd} (hx : fs.at p = some x) : wayE fs p = none := by
  by_cases hp : p = []
  · rw [hp]; rfl
  · obtain ⟨q, n, rfl⟩ : ∃ q n, p = q ++ [n] := ⟨p.dropLast, p.getLast hp, (List.dropLast_concat_getLast hp).symm⟩
    obtain ⟨y, h1, h2⟩ := hg.up q n (by rw [hx]; simp)
    exact way_snoc hg h1 h2
theorem ok_slash {p : Pth} (ho : p.all okNm = true) : ∀ k ∈ p, (47 : UInt8) ∉ k := fun k hk => no_slash (List.all_eq_true.1 ho k hk)
/-- A path that may be is its text's parts. -/
theorem parts_tx {p : Pth} (hp : p ≠ []) (ho : okP p) : partsF (tx p) = .ok p := by
  have hs := spL_join_all 47 hp (ok_slash ho.2.2)
  have hz : (tx p).size = (joinL 47 p).length := nb_size _
  unfold partsF
  rw [if_neg (by rw [hz]; have := ho.2.1; omega), tx_list, hs]
  have h0 : (tx p).size ≠ 0 := by
    rw [hz]
    intro e
    have e2 := List.eq_nil_of_length_eq_zero e
    rw [e2] at hs
    have h2 : p = [[]] := by rw [← hs]; simp [spL]
    have ho2 := ho.2.2
    rw [h2] at ho2
    have h3 := (bad_ok (n := [])).1 (List.all_eq_true.1 ho2 [] (by simp))
    exact h3.1 rfl
  rw [if_neg h0, if_neg (by rw [ho.2.2]; decide), if_neg (by have := ho.1; omega)]
theorem parts_empty : partsF ⟨#[]⟩ = .ok [] := rfl
theorem join_cons (k : Nm) (r : Pth) : (k :: r).flatMap (fun k => 47 :: k) = 47 :: joinL 47 (k :: r) := by
  induction r generalizing k with
  | nil => simp [joinL]
  | cons m r ih =>
    rw [List.flatMap_cons, ih m]
    simp [joinL]
/-- A path's text with names put behind it. -/
theorem glue_join {q : Pth} (hq : q ≠ []) (r : Pth) : glueR (joinL 47 q) r = joinL 47 (q ++ r) := by
  cases r with
  | nil => simp [glueR]
  | cons k r =>
    rw [join_app 47 hq (by simp)]
    unfold glueR
    rw [join_cons]
theorem tx_snoc {p : Pth} (hp : p ≠ []) (n : Nm) : tx (p ++ [n]) = tx p ++ nb (47 :: n) := by
  unfold tx
  rw [join_app 47 hp (by simp)]
  apply ByteArray.ext
  simp [nb, joinL]
theorem join_len1 : ∀ {p : Pth}, (∀ n ∈ p, n.length ≤ 1) → (joinL 47 p).length ≤ 2 * p.length
  | [], _ => by simp [joinL]
  | [x], h => by
    have := h x (by simp)
    simp [joinL]
    omega
  | x :: y :: p, h => by
    have ih := join_len1 (p := y :: p) (fun n hn => h n (List.mem_cons_of_mem _ hn))
    have := h x (by simp)
    simp only [joinL, List.length_append, List.length_cons] at ih ⊢
    omega
/-- A path of names of one byte may be, where it has at most 64 of them. -/
theorem okP_one {p : Pth} (h : ∀ n ∈ p, okNm n = true ∧ n.length ≤ 1) (hl : p.length ≤ 64) : okP p :=
  ⟨hl, by have := join_len1 (p := p) (fun n hn => (h n hn).2); omega, List.all_eq_true.2 fun n hn => (h n hn).1⟩
theorem atE_snoc {fs : FS} (hg : FsOk fs) {q : Pth} {n : Nm} {y : Nd} {s : ByteArray} (hy : fs.at q = some y) (hk : y.kind = 2) (hs : partsF s = .ok (q ++ [n])) : atE fs s = .ok (q ++ [n]) := by
  unfold atE
  rw [hs]
  simp only
  rw [way_snoc hg hy hk]
theorem atE_at {fs : FS} (hg : FsOk fs) {p : Pth} {x : Nd} {s : ByteArray} (hx : fs.at p = some x) (hs : partsF s = .ok p) : atE fs s = .ok p := by
  unfold atE
  rw [hs]
  simp only
  rw [way_at hg hx]
theorem thereE_at {fs : FS} (hg : FsOk fs) {p : Pth} {x : Nd} {s : ByteArray} (hx : fs.at p = some x) (hs : partsF s = .ok p) : thereE fs s = .ok p := by
  unfold thereE
  rw [atE_at hg hx hs]
  simp only
  rw [hx]
  rfl
theorem thereE_no {fs : FS} (hg : FsOk fs) {q : Pth} {n : Nm} {y : Nd} {s : ByteArray} (hy : fs.at q = some y) (hk : y.kind = 2) (hn : fs.at (q ++ [n]) = none) (hs : partsF s = .ok (q ++ [n])) : thereE fs s = .error 200 := by
  unfold thereE
  rw [atE_snoc hg hy hk hs]
  simp only
  rw [hn]
  rfl
theorem putF_free {fs : FS} {by' nd : Nat} {p : Pth} {x : Nd} (h1 : fs.length < nd) (h2 : usedF fs + x.text.size ≤ by') : putF fs by' nd p x = (0, fs ++ [(p, x)]) := by
  unfold putF
  rw [if_neg]
  unfold fullF
  omega
theorem makeF_new {fs : FS} (hg : FsOk fs) {by' nd : Nat} {q : Pth} {n : Nm} {y : Nd} {s : ByteArray} (hy : fs.at q = some y) (hk : y.kind = 2) (hn : fs.at (q ++ [n]) = none) (hs : partsF s = .ok (q ++ [n])) (h1 : fs.length < nd) (h2 : usedF fs ≤ by') : makeF fs by' nd s = (0, fs ++ [(q ++ [n], rootN)]) := by
  unfold makeF
  rw [atE_snoc hg hy hk hs]
  simp only
  rw [hn]
  exact putF_free h1 (show usedF fs + 0 ≤ by' from h2)
theorem createF_new {fs : FS} (hg : FsOk fs) {by' nd : Nat} {q : Pth} {n : Nm} {y : Nd} {s : ByteArray} (hy : fs.at q = some y) (hk : y.kind = 2) (hn : fs.at (q ++ [n]) = none) (hs : partsF s = .ok (q ++ [n])) (h1 : fs.length < nd) (h2 : usedF fs ≤ by') : createF fs by' nd s = (0, fs ++ [(q ++ [n], ⟨1, ⟨#[]⟩⟩)]) := by
  unfold createF
  rw [atE_snoc hg hy hk hs]
  simp only
  rw [hn]
  exact putF_free h1 (show usedF fs + 0 ≤ by' from h2)
theorem appendF_file {fs : FS} (hg : FsOk fs) {by' : Nat} {p : Pth} {x : Nd} {s z : ByteArray} (hx : fs.at p = some x) (hk : x.kind = 1) (hs : partsF s = .ok p) (hz : x.text.size + z.size ≤ 4194304) :
    appendF fs by' s z = if by' < usedF fs + z.size then (206, fs) else (0, setF fs p ⟨1, x.text ++ z⟩) := by
  unfold appendF
  rw [thereE_at hg hx hs]
  simp only
  rw [hx]
  simp only
  rw [if_neg (by omega), if_neg (by omega), if_neg (by omega)]
open Classical in
/-- A rename to where nothing stands. -/
theorem renameF_new {fs : FS} (hg : FsOk fs) {a b : ByteArray} {p qd : Pth} {qn : Nm} {x y : Nd} (ha : partsF a = .ok p) (hb : partsF b = .ok (qd ++ [qn])) (hp : p ≠ []) (hx : fs.at p = some x) (hbl : x.kind = 2 → belowB a b = false) (hy : fs.at qd = some y) (hk : y.kind = 2) (hn : fs.at (qd ++ [qn]) = none) :
    renameF fs a b = if fitsP fs p b.data.toList then (0, mvF fs p (qd ++ [qn])) else (2, fs) := by
  have hab : a ≠ b := by
    rintro rfl
    rw [ha] at hb
    cases hb
    rw [hx] at hn
    cases hn
  have hq0 : qd ++ [qn] ≠ [] := by simp
  unfold renameF
  rw [ha, hb]
  simp only
  rw [if_neg hp, if_neg hq0, way_at hg hx]
  simp only
  rw [hx]
  simp only
  rw [if_neg (fun h => by have := hbl h.1; rw [this] at h; exact absurd h.2.2 (by decide)), way_snoc hg hy hk]
  simp only
  have hgv : givesF fs (qd ++ [qn]) x = 0 := by unfold givesF; rw [hn]
  rw [if_neg hab, hgv, if_neg (by decide : ¬ ((0 : Nat) ≠ 0)), del_none (not_mem hg.nodup hq0 hn)]
  by_cases hf : fitsP fs p b.data.toList
  · rw [if_neg (fun h => h hf), if_pos hf]
  · rw [if_pos hf, if_neg hf]
theorem lookF_at {fs : FS} (hg : FsOk fs) {p : Pth} {x : Nd} {s : ByteArray} (hx : fs.at p = some x) (hs : partsF s = .ok p) : lookF fs s = (0, s, x.kind, x.text) := by
  unfold lookF
  rw [thereE_at hg hx hs]
  simp only
  rw [hx]
theorem readF_file {fs : FS} (hg : FsOk fs) {p : Pth} {x : Nd} {s : ByteArray} (hx : fs.at p = some x) (hk : x.kind = 1) (hs : partsF s = .ok p) : readF fs s = (0, x.text) := by
  unfold readF
  rw [thereE_at hg hx hs]
  simp only
  rw [hx]
  simp only
  rw [if_neg (by omega), if_neg (by omega)]
end Go.Proofs.YtiijbecklkccfaaGreatDoor.I
/- What stands at and below a path, a directory ahead of what is in it, by names: plain. -/
namespace Go.Proofs.YtiijbecklkccfaaGreatDoor.I
open Go.RowKit Go.Proofs.YtiijbecklkccfaaGreatDoor.B Go.Sort
set_option linter.unusedVariables false
theorem sort_perm {l m : List Nm} (h : l.Perm m) : sortN l = sortN m := by
  have h1 : (sortN l).Perm (sortN m) := (List.mergeSort_perm l _).trans (h.trans (List.mergeSort_perm m _).symm)
  have tr : ∀ a b c : Nm, decide (a ≤ b) = true → decide (b ≤ c) = true → decide (a ≤ c) = true := fun a b c h1 h2 => by
    simp only [decide_eq_true_eq] at h1 h2 ⊢
    exact List.le_trans h1 h2
  have tt : ∀ a b : Nm, (decide (a ≤ b) || decide (b ≤ a)) = true := fun a b => by
    simp only [Bool.or_eq_true, decide_eq_true_eq]
    exact List.le_total a b
  refine h1.eq_of_pairwise ?_ (List.pairwise_mergeSort (le := fun x y : Nm => decide (x ≤ y)) tr tt l) (List.pairwise_mergeSort (le := fun x y : Nm => decide (x ≤ y)) tr tt m)
  intro a b _ _ h1 h2
  simp only [decide_eq_true_eq] at h1 h2
  exact List.le_antisymm h1 h2
theorem mem_sortN {l : List Nm} {k : Nm} : k ∈ sortN l ↔ k ∈ l := (List.mergeSort_perm l _).mem_iff
theorem last_snoc {p : Pth} (h : p ≠ []) : p.dropLast ++ [p.getLastD []] = p := by
  obtain ⟨q, n, rfl⟩ : ∃ q n, p = q ++ [n] := ⟨p.dropLast, p.getLast h, (List.dropLast_concat_getLast h).symm⟩
  simp
/-- The names in a directory, in no order. -/
def kidsU (fs : FS) (p : Pth) : List Nm := fs.filterMap fun y => if y.1 ≠ [] ∧ y.1.dropLast = p then some (y.1.getLastD []) else none
theorem mem_kidsU {fs : FS} {p : Pth} {k : Nm} : k ∈ kidsU fs p ↔ p ++ [k] ∈ fs.map (·.1) := by
  unfold kidsU
  rw [List.mem_filterMap, List.mem_map]
  constructor
  · rintro ⟨y, hy, h⟩
    split at h
    · rename_i h2
      obtain ⟨h3, rfl⟩ := h2
      cases h
      refine ⟨y, hy, ?_⟩
      exact (last_snoc h3).symm
    · cases h
  · rintro ⟨y, hy, h⟩
    refine ⟨y, hy, ?_⟩
    rw [if_pos (by rw [h]; simp), h]
    simp
theorem at_mem {fs : FS} {p : Pth} (hp : p ≠ []) : fs.at p ≠ none ↔ p ∈ fs.map (·.1) := by
  rw [at_ne fs hp]
  induction fs with
  | nil => simp
  | cons a fs ih =>
    rw [List.lookup_cons]
    by_cases h : p = a.1
    · subst h; simp
    · have e : (p == a.1) = false := by simpa using h
      rw [e]
      simp only [List.map_cons, List.mem_cons]
      rw [ih]
      simp [h]
theorem nodup_kidsU {fs : FS} (hd : (fs.map (·.1)).Nodup) (p : Pth) : (kidsU fs p).Nodup := by
  unfold kidsU
  induction fs with
  | nil => simp
  | cons a fs ih =>
    simp only [List.map_cons, List.nodup_cons] at hd
    rw [List.filterMap_cons]
    split
    · exact ih hd.2
    · rename_i k hk
      refine List.nodup_cons.2 ⟨fun hm => ?_, ih hd.2⟩
      have h1 := mem_kidsU.1 (show k ∈ kidsU fs p from hm)
      split at hk
      · rename_i h2
        cases hk
        apply hd.1
        have : p ++ [a.1.getLastD []] = a.1 := by
          rw [← h2.2]
          exact last_snoc h2.1
        rw [this] at h1
        exact h1
      · cases hk
/-- The names in a directory, rising. -/
def kidsF (fs : FS) (p : Pth) : List Nm := sortN (kidsU fs p)
theorem mem_kidsF {fs : FS} {p : Pth} {k : Nm} : k ∈ kidsF fs p ↔ fs.at (p ++ [k]) ≠ none := by
  unfold kidsF
  rw [mem_sortN, mem_kidsU, at_mem (by simp)]
theorem nodup_kidsF {fs : FS} (hd : (fs.map (·.1)).Nodup) (p : Pth) : (kidsF fs p).Nodup := (List.mergeSort_perm (kidsU fs p) _).nodup_iff.2 (nodup_kidsU hd p)
theorem kids_sort {fs : FS} (hd : (fs.map (·.1)).Nodup) {p : Pth} {l : List Nm} (h1 : l.Nodup) (h2 : ∀ k, k ∈ l ↔ fs.at (p ++ [k]) ≠ none) : sortN l = kidsF fs p ∧ l.length = (kidsF fs p).length := by
  have hp : l.Perm (kidsU fs p) := (List.perm_ext_iff_of_nodup h1 (nodup_kidsU hd p)).2 fun k => by rw [h2, mem_kidsU, at_mem (by simp)]
  exact ⟨sort_perm hp, by unfold kidsF sortN; rw [List.length_mergeSort]; exact hp.length_eq⟩
/-- The names depend on what stands where alone. -/
theorem kids_congr {f g : FS} (hf : (f.map (·.1)).Nodup) (hg : (g.map (·.1)).Nodup) (h : ∀ r, f.at r = g.at r) (p : Pth) : kidsF f p = kidsF g p :=
  (kids_sort hg (l := kidsU f p) (nodup_kidsU hf p) fun k => by rw [mem_kidsU, ← at_mem (by simp), h]).1
/-- The paths at and below a path, a directory ahead of what is in it. -/
def pathsL (fs : FS) : Nat → Pth → List Pth
  | 0, _ => []
  | m + 1, p => p :: (kidsF fs p).flatMap fun k => pathsL fs m (p ++ [k])
def entF (fs : FS) (p : Pth) : Ent := (tx p, ((fs.at p).getD rootN).kind, ((fs.at p).getD rootN).text)
def treeL (fs : FS) (m : Nat) (p : Pth) : List Ent := (pathsL fs m p).map (entF fs)
theorem treeL_succ (fs : FS) (m : Nat) (p : Pth) : treeL fs (m + 1) p = entF fs p :: (kidsF fs p).flatMap fun k => treeL fs m (p ++ [k]) := by
  unfold treeL
  rw [pathsL, List.map_cons, List.map_flatMap]
theorem paths_pre {fs : FS} : ∀ {m : Nat} {p r : Pth}, r ∈ pathsL fs m p → p <+: r
  | 0, p, r, h => by simp [pathsL] at h
  | m + 1, p, r, h => by
    rw [pathsL] at h
    rcases List.mem_cons.1 h with rfl | h
    · exact List.prefix_refl _
    · obtain ⟨k, _, h2⟩ := List.mem_flatMap.1 h
      exact (List.prefix_append p [k]).trans (paths_pre h2)
theorem paths_at {fs : FS} : ∀ {m : Nat} {p r : Pth}, fs.at p ≠ none → r ∈ pathsL fs m p → fs.at r ≠ none
  | 0, p, r, _, h => by simp [pathsL] at h
  | m + 1, p, r, hp, h => by
    rw [pathsL] at h
    rcases List.mem_cons.1 h with rfl | h
    · exact hp
    · obtain ⟨k, h1, h2⟩ := List.mem_flatMap.1 h
      exact paths_at (mem_kidsF.1 h1) h2
theorem paths_nodup {fs : FS} (hd : (fs.map (·.1)).Nodup) : ∀ (m : Nat) (p : Pth), (pathsL fs m p).Nodup
  | 0, p => by simp [pathsL]
  | m + 1, p => by
    rw [pathsL]
    refine List.nodup_cons.2 ⟨fun h => ?_, ?_⟩
    · obtain ⟨k, _, h2⟩ := List.mem_flatMap.1 h
      have := (paths_pre h2).length_le
      simp at this
      omega
    · unfold List.Nodup
      rw [List.pairwise_flatMap]
      refine ⟨fun k _ => paths_nodup hd m (p ++ [k]), ?_⟩
      refine (nodup_kidsF hd p).imp ?_
      intro a b hab x hx y hy e
      subst e
      have h1 := paths_pre hx
      have h2 := paths_pre hy
      have h3 := List.prefix_of_prefix_length_le h1 h2 (by simp)
      have h4 := h3.eq_of_length (by simp)
      exact hab (snoc_inj h4).2
/-- All that stands below is among them. -/
theorem paths_all {fs : FS} (hg : FsOk fs) : ∀ {m : Nat} {s p : Pth}, fs.at (p ++ s) ≠ none → s.length < m → p ++ s ∈ pathsL fs m p
  | 0, s, p, _, h => by omega
  | m + 1, [], p, h, _ => by rw [pathsL, List.append_nil]; exact List.mem_cons_self
  | m + 1, k :: s, p, h, hl => by
    have e : p ++ k :: s = (p ++ [k]) ++ s := by simp
    rw [e] at h ⊢
    have hk : fs.at (p ++ [k]) ≠ none := by
      cases s with
      | nil => simpa using h
      | cons j s =>
        obtain ⟨y, hy, _⟩ := hg.prefix h (by simp)
        rw [hy]; simp
    rw [pathsL]
    exact List.mem_cons_of_mem _ (List.mem_flatMap.2 ⟨k, mem_kidsF.2 hk, paths_all hg h (by simp at hl; omega)⟩)
theorem paths_len {fs : FS} (hg : FsOk fs) {m : Nat} {p : Pth} (hp : fs.at p ≠ none) : (pathsL fs m p).length ≤ fs.length + 1 := by
  have := nodup_len' (m := [] :: fs.map (·.1)) (paths_nodup hg.nodup m p) fun r hr => by
    by_cases h : r = []
    · rw [h]; exact List.mem_cons_self
    · exact List.mem_cons_of_mem _ ((at_mem h).1 (paths_at hp hr))
  simpa using this
theorem treeL_len {fs : FS} (hg : FsOk fs) {m : Nat} {p : Pth} (hp : fs.at p ≠ none) : (treeL fs m p).length ≤ fs.length + 1 := by
  unfold treeL
  rw [List.length_map]
  exact paths_len hg hp
/-- The whole tree's paths are the file system's. -/
theorem paths_perm {fs : FS} (hg : FsOk fs) : (pathsL fs 65 []).Perm ([] :: fs.map (·.1)) := by
  have hne : [] ∉ fs.map (·.1) := fun h => by
    obtain ⟨y, hy, e⟩ := List.mem_map.1 h
    exact hg.ne y hy e
  refine (List.perm_ext_iff_of_nodup (paths_nodup hg.nodup 65 []) (List.nodup_cons.2 ⟨hne, hg.nodup⟩)).2 fun r => ?_
  constructor
  · intro h
    by_cases hr : r = []
    · rw [hr]; exact List.mem_cons_self
    · exact List.mem_cons_of_mem _ ((at_mem hr).1 (paths_at (by rw [at_root]; simp) h))
  · intro h
    have hr : fs.at r ≠ none := by
      rcases List.mem_cons.1 h with rfl | h
      · rw [at_root]; simp
      · by_cases hr : r = []
        · rw [hr, at_root]; simp
        · exact (at_mem hr).2 h
    have := paths_all hg (m := 65) (s := r) (p := []) (by simpa using hr) (by
      cases hx : fs.at r with
      | none => exact absurd hx hr
      | some x => have := (hg.okp r x hx).1; omega)
    simpa using this
/-- Two file systems at which the same stands have the same tree. -/
theorem paths_congr {f g : FS} (hf : (f.map (·.1)).Nodup) (hg : (g.map (·.1)).Nodup) (h : ∀ r, f.at r = g.at r) : ∀ (m : Nat) (p : Pth), pathsL f m p = pathsL g m p
  | 0, p => rfl
  | m + 1, p => by
    rw [pathsL, pathsL, kids_congr hf hg h p]
    congr 1
    congr 1
    funext k
    exact paths_congr hf hg h m (p ++ [k])
theorem treeL_congr {f g : FS} (hf : (f.map (·.1)).Nodup) (hg : (g.map (·.1)).Nodup) (h : ∀ r, f.at r = g.at r) (m : Nat) (p : Pth) : treeL f m p = treeL g m p := by
  unfold treeL
  rw [paths_congr hf hg h m p]
  have : entF f = entF g := by funext r; unfold entF; rw [h r]
  rw [this]
/-- The text of what stands in a directory. -/
theorem tx_below {p : Pth} (hp : p ≠ []) (k : Nm) : tx (p ++ [k]) = tx p ++ ⟨#[47]⟩ ++ nb k := by
  rw [tx_snoc hp]
  apply ByteArray.ext
  simp [nb]
theorem tx_one (k : Nm) : tx [k] = nb k := rfl
theorem tx_nil : tx [] = ⟨#[]⟩ := rfl
theorem tx_ne {p : Pth} (hp : p ≠ []) (ho : okP p) : tx p ≠ ⟨#[]⟩ := fun e => by
  have h1 := parts_tx hp ho
  rw [e] at h1
  cases h1
  exact hp rfl
theorem tx_size {p : Pth} (ho : okP p) : (tx p).size ≤ 4096 := by
  have : (tx p).size = (joinL 47 p).length := nb_size _
  have := ho.2.1
  omega
/-- A path's text is told by its parts. -/
theorem tx_parts {s : ByteArray} {p : Pth} (h : partsF s = .ok p) : s = tx p := by
  by_cases hp : p = []
  · subst hp
    have hz : s.size = 0 := by
      unfold partsF at h
      split at h
      · cases h
      · split at h
        · assumption
        · split at h
          · cases h
          · split at h
            · cases h
            · exfalso
              have e := Except.ok.inj h
              exact spL_ne _ _ e
    have : s.data = #[] := Array.eq_empty_of_size_eq_zero hz
    apply ByteArray.ext
    rw [this]; rfl
  · have h1 := partsF_text h hp
    have := congrArg nb h1
    rw [nb_list] at this
    exact this
end Go.Proofs.YtiijbecklkccfaaGreatDoor.I
