/- Merged out of these texts: Same, Look, Ent, SameEnt, Rg, IFits. -/
import Derived.Test.YthojofeocjmglaaGreatDoorDk4
import Derived.Test.YthojofeocjmglaaGreatDoorDk6
import Derived.Laws.StructEq
import Derived.Test.YthojofeocjmglaaGreatDoorDk1
import Derived.Maps.RangeRun
/- The law's sameTexts: the walk. -/
namespace Go.Proofs.YthojofeocjmglaaGreatDoor.I
open Go.RowKit Go.Proofs.YthojofeocjmglaaGreatDoor.B Go.Sort
set_option linter.unusedVariables false
theorem ba_eq {a b : ByteArray} (h : a.toList = b.toList) : a = b := by
  have h := congrArg nb h
  rwa [ByteArray.toList_eq, ByteArray.toList_eq, nb_list, nb_list] at h
set_option maxRecDepth 100000 in
set_option maxHeartbeats 16000000 in
theorem sameTexts_calls (L1 L2 : List ByteArray) (v1 v2 : Value) (w : World) (h1 : StrL w v1 L1) (h2 : StrL w v2 L2) (hz1 : L1.length ≤ 16777216) (hz2 : L2.length ≤ 16777216) :
    Calls Tryz.prog 18 #[v1, v2] w fun e w' => e = .returned (.bool (decide (L1 = L2))) ∧ Chg [] w w' := by
  obtain ⟨A1, c1, rfl, hc1⟩ := h1
  obtain ⟨A2, c2, rfl, hc2⟩ := h2
  have hC0 := Chg.refl [] w
  obtain ⟨R, hR⟩ : ∃ R, decide (L1 = L2) = R := ⟨_, rfl⟩
  rw [hR]
  have HR := Asd.mk hR
  clear hR
  by_cases hn : L1.length = L2.length
  · have HC1 := Asd.mk hc1
    have HC2 := Asd.mk hc2
    obtain ⟨n, hn1⟩ : ∃ n, L1.length = n := ⟨_, rfl⟩
    have hn2 : L2.length = n := by rw [← hn, hn1]
    have HN1 := Asd.mk hn1
    have HN2 := Asd.mk hn2
    rw [hn1] at hz1 ⊢
    rw [hn2] at hz2 ⊢
    clear hc1 hc2 hn hn1 hn2
    (go_enter Tryz.func18, Tryz.ntmps18)
    go_wp2
    go_loopg [5] (n + 1) (fun gk v5 wx => ∃ i : Nat, i ≤ n ∧ gk = n + 1 - i ∧ v5 = .int .i64 (i : Int) ∧ Asd (Chg [] w wx) ∧ Asd (L1.take i = L2.take i))
    case atStart => exact ⟨0, by omega, rfl, rfl, ⟨Chg.refl _ _⟩, ⟨by simp⟩⟩
    case round =>
      obtain ⟨i, hi, rfl, rfl, HC, HT⟩ := hrel
      by_cases hlt : i < n
      · have k2 : (i : Int) < (n : Int) := by omega
        have hl1 : i < L1.length := by rw [HN1.out]; exact hlt
        have hl2 : i < L2.length := by rw [HN2.out]; exact hlt
        obtain ⟨a1, rfl, d1⟩ := HC1.out i hl1
        obtain ⟨a2, rfl, d2⟩ := HC2.out i hl2
        have e1 := (HC.out.below.cell (World.block_lt_of_cell? w _ d1)).trans d1
        have e2 := (HC.out.below.cell (World.block_lt_of_cell? w _ d2)).trans d2
        obtain ⟨x, hx⟩ : ∃ x, L1[i] = x := ⟨_, rfl⟩
        obtain ⟨y, hy⟩ : ∃ y, L2[i] = y := ⟨_, rfl⟩
        rw [hx] at e1
        rw [hy] at e2
        have HX := Asd.mk hx
        have HY := Asd.mk hy
        clear d1 d2 hx hy
        by_cases hxy : x = y
        · have t1 : (x.toList == y.toList) = true := by rw [hxy]; simp
          have HT2 := Asd.mk (show L1.take (i + 1) = L2.take (i + 1) by rw [List.take_succ_eq_append_getElem hl1, List.take_succ_eq_append_getElem hl2, HT.out, HX.out, HY.out, hxy])
          clear hxy HT
          go_upto_region 6 with fail
          go_quiet (fail)
          go_wp2
          go_roundg (n + 1 - (i + 1))
          case rel => exact ⟨i + 1, by omega, by omega, by go_num, ⟨HC.out.drewN nq⟩, HT2⟩
          case measure => omega
        · have t1 : (x.toList == y.toList) = false := beq_eq_false_iff_ne.2 (fun e => hxy (ba_eq e))
          have HA := Asd.mk (show R = false by
            rw [← HR.out, decide_eq_false_iff_not]
            intro e
            apply hxy
            rw [← HX.out, ← HY.out]
            simp [e])
          clear hxy HT
          go_upto_region 6 with fail
          go_quiet (fail)
          go_wp2
          go_ret
          exact ⟨by rw [HA.out]; rfl, HC.out.drewN nq⟩
      · obtain rfl : i = n := by omega
        have HA := Asd.mk (show R = true by
          rw [← HR.out, decide_eq_true_eq]
          have := HT.out
          rw [List.take_of_length_le (by have := HN1.out; omega), List.take_of_length_le (by have := HN2.out; omega)] at this
          exact this)
        go_wp2
        go_ret
        exact ⟨by rw [HA.out]; rfl, HC.out⟩
  · have HA := Asd.mk (show R = false by
      rw [← HR.out, decide_eq_false_iff_not]
      rintro rfl
      exact hn rfl)
    have k1 : ¬ (L1.length : Int) = (L2.length : Int) := by omega
    clear hc1 hc2 hn
    (go_enter Tryz.func18, Tryz.ntmps18)
    go_wp2
    go_ret
    exact ⟨by rw [HA.out]; rfl, hC0⟩
end Go.Proofs.YthojofeocjmglaaGreatDoor.I
/- The program's Look: the walk. -/
namespace Go.Proofs.YthojofeocjmglaaGreatDoor.I
open Go.RowKit Go.Proofs.YthojofeocjmglaaGreatDoor.B Go.Sort
set_option linter.unusedVariables false
theorem size_entry (a b c : Value) : (Tryz.prog.info? 64).map (·.size) = some (#[a, b, c]).size := by kernel_rfl
theorem one_entry (a b : ByteArray) (k : Int) : (#[Value.string a, .int .i64 k, .string b]).all (·.oneCell') = true := by kernel_rfl
/-- Look: the error's number; the entry. -/
def lookF (fs : FS) (s : ByteArray) : Nat × ByteArray × Nat × ByteArray := match thereE fs s with
  | .error n => (n, ⟨#[]⟩, 0, ⟨#[]⟩)
  | .ok p => match fs.at p with
    | none => (0, ⟨#[]⟩, 0, ⟨#[]⟩)
    | some x => (0, s, x.kind, x.text)
def entV (x : ByteArray × Nat × ByteArray) : Value := .agg #[.string x.1, .int .i64 (x.2.1 : Int), .string x.2.2]
set_option maxRecDepth 100000 in
set_option maxHeartbeats 16000000 in
theorem look_calls (L : List Nat) (t : Nat) (fs : FS) (by' nd : Nat) (A M : Pth → Nat) (s : ByteArray) (w : World) (hT : TabAt w L t fs by' nd A M) (hg : FsOk fs) (hm : MaxLenAt w) (hs : s.size ≤ 4294967280) :
    Calls Tryz.prog 89 #[(.pointer (some ⟨t, 0, none⟩)), .string s] w fun e w' => e = .returned (.tuple #[entV (lookF fs s).2, errV (lookF fs s).1]) ∧ Chg [] w w' := by
  have HC0 := Asd.mk (show Chg [] w (w.alloc (.cells #[.string ⟨#[]⟩, .int .i64 0, .string ⟨#[]⟩] 64)) from (Chg.refl _ _).alloc _)
  have hT0 := hT.keep0 HC0.out
  have HP := Asd.mk (there_calls L t fs by' nd A M s (w.alloc (.cells #[.string ⟨#[]⟩, .int .i64 0, .string ⟨#[]⟩] 64)) hT0 hg (hm.chg HC0.out) hs)
  have HZ0 := Asd.mk (hp_new w (.cells #[.string ⟨#[]⟩, .int .i64 0, .string ⟨#[]⟩] 64))
  obtain ⟨B, hB⟩ : ∃ B, w.heap.size = B := ⟨_, rfl⟩
  rw [hB] at HZ0
  have hBw : ¬ B < w.heap.size := by omega
  obtain ⟨R, hR⟩ : ∃ R, thereE fs s = R := ⟨_, rfl⟩
  rw [hR] at HP
  cases R with
  | error n =>
    have HA := Asd.mk (show lookF fs s = (n, ⟨#[]⟩, 0, ⟨#[]⟩) by unfold lookF; rw [hR])
    have HN := Asd.mk (thereE_pos hR)
    clear hR hT hg hm hT0
    go_enter Tryz.func89, Tryz.ntmps89
    go_wp2_with fail
    refine HP.out.mono ?_
    rintro e w1 ⟨⟨d, l, k, rfl⟩, hC1⟩
    have HZ1 := Asd.mk (hC1.heap HZ0.out (by simp))
    have HC1 := Asd.mk (HC0.out.trans hC1)
    have HZ := Asd.mk (hp_alloc HZ1.out (.cells #[.pointer d, .string l, .pointer k] 127))
    clear hC1
    go_wp2_with (first | (refine wpList_store_row (o := ⟨none, _, _, _, _, _⟩) rfl 64 (.tmp 4) (.tmp 16) rfl B _ rfl rfl 64 _ HZ.out (size_entry _ _ _) rfl (one_entry _ _ _) ?_))
    refine bodyPost_ret (results_row_tmp rfl _ _ B 64 _ (0, 0) _ rfl (setRow_heap _ _ _ _ _ _ HZ.out) Tryz.underlying64 rfl (size_entry _ _ _)) rfl ?_
    exact ⟨by rw [HA.out]; simp only [errV]; rw [if_neg HN.out]; rfl, (HC1.out.alloc _).setRow (by omega) _⟩
  | ok p =>
    obtain ⟨x, hx⟩ := thereE_ok hR
    have HA := Asd.mk (show lookF fs s = (0, s, x.kind, x.text) by unfold lookF; rw [hR]; simp only; rw [hx])
    clear hR hm hg hT
    go_enter Tryz.func89, Tryz.ntmps89
    go_wp2_with fail
    refine HP.out.mono ?_
    rintro e w1 ⟨hPo, hC1⟩
    have hPo2 : e = .returned (.tuple #[.agg #[.pointer (dirA A p), .string (lastS p), .pointer (some ⟨A p, 0, none⟩)], .nilIface]) := hPo
    subst hPo2
    obtain ⟨dp, hdp⟩ : ∃ d, dirA A p = d := ⟨_, rfl⟩
    obtain ⟨ls, hls⟩ : ∃ d, lastS p = d := ⟨_, rfl⟩
    rw [hdp, hls]
    have HZ1 := Asd.mk (hC1.heap HZ0.out (by simp))
    have HC1 := Asd.mk (HC0.out.trans hC1)
    have HTT := Asd.mk (hT0.keep0 hC1)
    clear hC1 hPo HP hdp hls hT0
    go_upto_region 4 with fail
    refine wp_opaque2 (fun W hW => ?_)
    have HCW := Asd.mk (show Chg [] w W by rw [hW]; exact HC1.out.alloc _)
    have HB := Asd.mk (show W.heap[w1.heap.size]? = some (.cells #[.pointer dp, .string ls, .pointer (some ⟨A p, 0, none⟩)] 127 (0, 0)) by rw [hW]; exact hp_new _ _)
    have HZ := Asd.mk (show W.heap[B]? = some (.cells #[.string ⟨#[]⟩, .int .i64 0, .string ⟨#[]⟩] 64 (0, 0)) by rw [hW]; exact hp_alloc HZ1.out _)
    have hno := hp_alloc (HTT.out.node p x hx) (.cells #[.pointer dp, .string ls, .pointer (some ⟨A p, 0, none⟩)] 127)
    rw [← hW] at hno
    obtain ⟨D, hD⟩ : ∃ D, w1.heap.size = D := ⟨_, rfl⟩
    rw [hD] at HB ⊢
    have b2 := cell_of_heap HB.out 2
    have c0 := cell_of_heap hno 0
    have c1 := cell_of_heap hno 1
    clear hW HC1 hD hno hx HTT
    go_still_tail 12, (by kernel_rfl)
    go_wp2_with (first | (refine wpList_store_row (o := ⟨none, _, _, _, _, _⟩) rfl 64 (.tmp 4) (.tmp 29) rfl B _ rfl rfl 64 _ HZ.out (size_entry _ _ _) rfl (one_entry _ _ _) ?_))
    refine bodyPost_ret (results_row_tmp rfl _ _ B 64 _ (0, 0) _ rfl (hp_drew (setRow_heap _ _ _ _ _ _ HZ.out)) Tryz.underlying64 rfl (size_entry _ _ _)) rfl ?_
    exact ⟨by rw [HA.out]; rfl, (HCW.out.setRow (by omega) _).drew⟩
end Go.Proofs.YthojofeocjmglaaGreatDoor.I
/- Two entries: are they the same? The model's '==' of a struct of a text, a number, a text. -/
namespace Go.Proofs.YthojofeocjmglaaGreatDoor.I
open Go.RowKit Go.Proofs.YthojofeocjmglaaGreatDoor.B Go.Sort
set_option linter.unusedVariables false
theorem fld_more {P : Program} {d : Nat} {xs ys : Array Value} {f : Field} {fs : List Field} {a b : Value} {r s : Bool} {w : World} (hn : (f.name == "_") = false) (ha : (part f.type xs f.offset).run P w = .ok a w) (hb : (part f.type ys f.offset).run P w = .ok b w) (he : (Op.equalIn d f.type a b).run P w = .ok r w) (hr : (Op.eqFields d xs ys fs).run P w = .ok s w) : (Op.eqFields d xs ys (f :: fs)).run P w = .ok (r && s) w := by
  have hn' : f.name ≠ "_" := by simpa using hn
  rw [Op.eqFields]
  simp only [if_pos hn', Sem.run_bind, ha, hb, he, Result.andThen_ok]
  cases r
  · simp
  · simpa using hr
theorem struct_of {P : Program} {d : Nat} {xs ys : Array Value} {t : TypeId} {fs : Array Field} {r : Bool} {w : World} (hu : P.underlying t = some (.struct fs)) (hp : P.stoodInHeld t = false) (h : (Op.eqFields d xs ys fs.toList).run P w = .ok r w) : (Op.equalIn (d + 1) t (.agg xs) (.agg ys)).run P w = .ok r w := by
  have hf : P.fieldsOf t = fs := by simp [Program.fieldsOf, hu]
  rw [run_equalIn_struct (P := P) w d t xs ys (by rw [hf]; exact hu) hp, hf]
  exact h
theorem eqEnt (d : Nat) (w : World) (a b : ByteArray) (k l : Int) (s t : ByteArray) :
    (Op.equalIn (d + 2) 64 (.agg #[.string a, .int .i64 k, .string s]) (.agg #[.string b, .int .i64 l, .string t])).run Tryz.prog w = .ok ((a.toList == b.toList) && ((k == l) && ((s.toList == t.toList) && true))) w := by
  refine struct_of Tryz.underlying64 (by kernel_rfl) ?_
  refine fld_more (by rfl) (by go_simp; rfl) (by go_simp; rfl) (by go_simp) ?_
  refine fld_more (by rfl) (by go_simp; rfl) (by go_simp; rfl) (by go_simp) ?_
  refine fld_more (by rfl) (by go_simp; rfl) (by go_simp; rfl) (by go_simp) ?_
  simp [Op.eqFields]
end Go.Proofs.YthojofeocjmglaaGreatDoor.I
/- The law's sameEntries: the walk. -/
namespace Go.Proofs.YthojofeocjmglaaGreatDoor.I
open Go.RowKit Go.Proofs.YthojofeocjmglaaGreatDoor.B Go.Sort
set_option linter.unusedVariables false
abbrev Ent := ByteArray × Nat × ByteArray
/-- A row of entries in memory. -/
def EntL (w : World) (v : Value) (E : List Ent) : Prop := ∃ A c, v = .slice A E.length c ∧ ∀ i, (h : i < E.length) → ∃ g, A = some ⟨g, 0, none⟩ ∧
  w.cell? ⟨g, i * 3, none⟩ = some (.string (E[i]'h).1) ∧ w.cell? ⟨g, i * 3 + 1, none⟩ = some (.int .i64 ((E[i]'h).2.1 : Int)) ∧ w.cell? ⟨g, i * 3 + 2, none⟩ = some (.string (E[i]'h).2.2)
theorem load_entry {w : World} {g o : Nat} {a b c : Value} (h0 : w.cell? ⟨g, o, none⟩ = some a) (h1 : w.cell? ⟨g, o + 1, none⟩ = some b) (h2 : w.cell? ⟨g, o + 2, none⟩ = some c) : (loadVar 64 ⟨g, o, none⟩).run Tryz.prog w = .ok (.agg #[a, b, c]) w := by
  have hl : (loadCells ⟨g, o, none⟩ [a, b, c].length).run Tryz.prog w = .ok [a, b, c].toArray w :=
    run_loadCells_list (P := Tryz.prog) w ⟨g, o, none⟩ [a, b, c] (fun j v hv => by
      have hadd : (⟨g, o, none⟩ : Addr).add j = ⟨g, o + j, none⟩ := by unfold Addr.add; split <;> simp_all
      rw [hadd]
      match j, hv with
      | 0, hv => simp at hv; rw [← hv]; exact h0
      | 1, hv => simp at hv; rw [← hv]; exact h1
      | 2, hv => simp at hv; rw [← hv]; exact h2
      | j + 3, hv => simp at hv)
  have hi := size_entry a b c
  cases hq : Tryz.prog.info? 64 with
  | none => simp [hq] at hi
  | some i =>
    have hs : i.size = 3 := by simpa [hq] using hi
    have hagg : (isAgg 64).run Tryz.prog w = .ok true w := by
      unfold isAgg
      rw [Sem.run_bind, run_underlying Tryz.underlying64 w]
      rfl
    simp only [List.length_cons, List.length_nil] at hl
    simp [loadVar, Sem.run_bind, hagg, sizeOf, typeInfo, hq, hs, hl]
theorem neqEnt (w : World) (a b : ByteArray) (k l : Int) (s t : ByteArray) (r : Bool) (hr : ((a.toList == b.toList) && ((k == l) && ((s.toList == t.toList) && true))) = r) :
    (binOp .neq 64 (.agg #[.string a, .int .i64 k, .string s]) (.agg #[.string b, .int .i64 l, .string t])).run Tryz.prog w = .ok (.bool (!r)) w := by
  have h := eqEnt 9998 w a b k l s t
  rw [hr] at h
  simp only [binOp]
  simp [Op.equal, Op.maxDepth, h]
theorem eqEnt2 (d : Nat) (w : World) (a b : ByteArray) (k l : Int) (s t : ByteArray) :
    (Op.equalIn (d + 2) 64 (.agg #[.string a, .int .i64 k, .string s]) (.agg #[.string b, .int .i64 l, .string t])).run Tryz.prog w = .ok (a.toList == b.toList && (k == l && s.toList == t.toList)) w := by
  rw [eqEnt, Bool.and_true]
attribute [local go_sem high] eqEnt2
set_option maxRecDepth 100000 in
set_option maxHeartbeats 16000000 in
theorem sameEntries_calls (E1 E2 : List Ent) (v1 v2 : Value) (w : World) (h1 : EntL w v1 E1) (h2 : EntL w v2 E2) (hz1 : E1.length ≤ 16777216) (hz2 : E2.length ≤ 16777216) :
    Calls Tryz.prog 17 #[v1, v2] w fun e w' => e = .returned (.bool (decide (E1 = E2))) ∧ Chg [] w w' := by
  obtain ⟨A1, c1, rfl, hc1⟩ := h1
  obtain ⟨A2, c2, rfl, hc2⟩ := h2
  have hC0 := Chg.refl [] w
  obtain ⟨R, hR⟩ : ∃ R, decide (E1 = E2) = R := ⟨_, rfl⟩
  rw [hR]
  have HR := Asd.mk hR
  clear hR
  by_cases hn : E1.length = E2.length
  · have HC1 := Asd.mk hc1
    have HC2 := Asd.mk hc2
    obtain ⟨n, hn1⟩ : ∃ n, E1.length = n := ⟨_, rfl⟩
    have hn2 : E2.length = n := by rw [← hn, hn1]
    have HN1 := Asd.mk hn1
    have HN2 := Asd.mk hn2
    rw [hn1] at hz1 ⊢
    rw [hn2] at hz2 ⊢
    clear hc1 hc2 hn hn1 hn2
    (go_enter Tryz.func17, Tryz.ntmps17)
    go_wp2
    go_loopg [5] (n + 1) (fun gk v5 wx => ∃ i : Nat, i ≤ n ∧ gk = n + 1 - i ∧ v5 = .int .i64 (i : Int) ∧ Asd (Chg [] w wx) ∧ Asd (E1.take i = E2.take i))
    case atStart => exact ⟨0, by omega, rfl, rfl, ⟨Chg.refl _ _⟩, ⟨by simp⟩⟩
    case round =>
      obtain ⟨i, hi, rfl, rfl, HC, HT⟩ := hrel
      by_cases hlt : i < n
      · have k2 : (i : Int) < (n : Int) := by omega
        have hl1 : i < E1.length := by rw [HN1.out]; exact hlt
        have hl2 : i < E2.length := by rw [HN2.out]; exact hlt
        obtain ⟨g1, rfl, d1, d2, d3⟩ := HC1.out i hl1
        obtain ⟨g2, rfl, f1, f2, f3⟩ := HC2.out i hl2
        have mv : ∀ {p : Addr} {v : Value}, w.cell? p = some v → wr.cell? p = some v := fun h => (HC.out.below.cell (World.block_lt_of_cell? w _ h)).trans h
        have e1 := fun k => load_entry (w := wr.drewN k) (mv d1) (mv d2) (mv d3)
        have e2 := fun k => load_entry (w := wr.drewN k) (mv f1) (mv f2) (mv f3)
        obtain ⟨x, hx⟩ : ∃ x, E1[i] = x := ⟨_, rfl⟩
        obtain ⟨y, hy⟩ : ∃ y, E2[i] = y := ⟨_, rfl⟩
        have p1 := mv d1
        have p2 := mv d2
        have p3 := mv d3
        have q1 := mv f1
        have q2 := mv f2
        have q3 := mv f3
        clear e1 e2
        rw [hx] at p1 p2 p3
        rw [hy] at q1 q2 q3
        have HX := Asd.mk hx
        have HY := Asd.mk hy
        clear d1 d2 d3 f1 f2 f3 mv hx hy
        by_cases hxy : x = y
        · have t1 : (x.1.toList == y.1.toList && ((x.2.1 : Int) == (y.2.1 : Int) && x.2.2.toList == y.2.2.toList)) = true := by rw [hxy]; simp
          have HT2 := Asd.mk (show E1.take (i + 1) = E2.take (i + 1) by rw [List.take_succ_eq_append_getElem hl1, List.take_succ_eq_append_getElem hl2, HT.out, HX.out, HY.out, hxy])
          clear hxy HT
          go_upto_region 6 with fail
          go_quiet (fail)
          go_wp2
          go_roundg (n + 1 - (i + 1))
          case rel => exact ⟨i + 1, by omega, by omega, by go_num, ⟨HC.out.drewN nq⟩, HT2⟩
          case measure => omega
        · have t1 : (x.1.toList == y.1.toList && ((x.2.1 : Int) == (y.2.1 : Int) && x.2.2.toList == y.2.2.toList)) = false := by
            cases hb : (x.1.toList == y.1.toList && ((x.2.1 : Int) == (y.2.1 : Int) && x.2.2.toList == y.2.2.toList)) with
            | false => rfl
            | true =>
              exfalso
              simp only [Bool.and_eq_true, beq_iff_eq] at hb
              exact hxy (Prod.ext (ba_eq hb.1) (Prod.ext (by have := hb.2.1; omega) (ba_eq hb.2.2)))
          have HA := Asd.mk (show R = false by
            rw [← HR.out, decide_eq_false_iff_not]
            intro e
            apply hxy
            rw [← HX.out, ← HY.out]
            simp [e])
          clear hxy HT
          go_upto_region 6 with fail
          go_quiet (fail)
          go_wp2
          go_ret
          exact ⟨by rw [HA.out]; rfl, HC.out.drewN nq⟩
      · obtain rfl : i = n := by omega
        have HA := Asd.mk (show R = true by
          rw [← HR.out, decide_eq_true_eq]
          have := HT.out
          rw [List.take_of_length_le (by have := HN1.out; omega), List.take_of_length_le (by have := HN2.out; omega)] at this
          exact this)
        go_wp2
        go_ret
        exact ⟨by rw [HA.out]; rfl, HC.out⟩
  · have HA := Asd.mk (show R = false by
      rw [← HR.out, decide_eq_false_iff_not]
      rintro rfl
      exact hn rfl)
    have k1 : ¬ (E1.length : Int) = (E2.length : Int) := by omega
    clear hc1 hc2 hn
    (go_enter Tryz.func17, Tryz.ntmps17)
    go_wp2
    go_ret
    exact ⟨by rw [HA.out]; rfl, hC0⟩
end Go.Proofs.YthojofeocjmglaaGreatDoor.I
/- A loop over a map of pointers: which entries have come; what is left. -/
namespace Go.Proofs.YthojofeocjmglaaGreatDoor.B
open Go.RowKit
set_option linter.unusedVariables false
theorem nodup_of_map {α β : Type} {f : α → β} {l : List α} (h : (l.map f).Nodup) : l.Nodup := (List.pairwise_map.1 h).imp fun h e => h (congrArg f e)
theorem map_inj_on {α : Type} {f : α → Nat} : ∀ {l : List α}, (l.map f).Nodup → ∀ {a b : α}, a ∈ l → b ∈ l → f a = f b → a = b
  | [], _, _, _, h, _, _ => by cases h
  | x :: l, hd, a, b, ha, hb, e => by
    simp only [List.map_cons, List.nodup_cons] at hd
    rcases List.mem_cons.1 ha with h1 | h1 <;> rcases List.mem_cons.1 hb with h2 | h2
    · rw [h1, h2]
    · exact absurd (List.mem_map.2 ⟨b, h2, by rw [← e, h1]⟩) hd.1
    · exact absurd (List.mem_map.2 ⟨a, h1, by rw [e, h2]⟩) hd.1
    · exact map_inj_on hd.2 h1 h2 e
/-- What has come so far. -/
def Rg (es : Array MapEntry) (seen : Array Nat) (Z : List (Nm × Value)) : Prop :=
  ∃ S : List MapEntry, (S.map (·.born)).Nodup ∧ seen.toList = S.map (·.born) ∧ (∀ e ∈ S, e ∈ es.toList) ∧ S.map (fun e => (e.key, e.val)) = Z.map fun x => (Value.string (nb x.1), x.2)
theorem rg_nil (es : Array MapEntry) : Rg es #[] [] := ⟨[], by simp, rfl, by simp, rfl⟩
def unN (x : Value × Value) : Nm × Value := match x.1 with | .string s => (s.data.toList, x.2) | _ => ([], x.2)
theorem unN_map (Z : List (Nm × Value)) : (Z.map fun x => (Value.string (nb x.1), x.2)).map unN = Z := by
  rw [List.map_map]
  refine (List.map_congr_left fun x _ => ?_).trans (List.map_id Z)
  simp [unN, list_nb]
theorem rg_end {es : Array MapEntry} {clock : Nat} {K Z : List (Nm × Value)} {seen : Array Nat} (hK : MKids es clock K) (hZ : Rg es seen Z) (h0 : (leftOf es seen).size = 0) : Z.Perm K := by
  obtain ⟨S, h1, h2, h3, h4⟩ := hZ
  have hp : S.Perm es.toList := by
    refine (List.perm_ext_iff_of_nodup (nodup_of_map h1) (nodup_of_map hK.born)).2 fun e => ⟨h3 e, fun he => ?_⟩
    have hc : e.born ∈ seen.toList := by
      have hno : e ∉ (leftOf es seen).toList := by
        have : (leftOf es seen).toList = [] := by
          apply List.eq_nil_of_length_eq_zero
          simpa using h0
        rw [this]; simp
      unfold leftOf at hno
      simp only [Array.toList_filter, List.mem_filter, not_and, Bool.not_eq_true, Bool.not_eq_false'] at hno
      have := hno he
      simpa using this
    rw [h2] at hc
    obtain ⟨e2, he2, hb⟩ := List.mem_map.1 hc
    rw [map_inj_on hK.born he (h3 _ he2) hb.symm]
    exact he2
  have := (hp.map fun e => (e.key, e.val)).map unN
  rw [h4, hK.ents, unN_map, unN_map] at this
  exact this
theorem rg_push {es : Array MapEntry} {clock : Nat} {K Z : List (Nm × Value)} {seen : Array Nat} {e : MapEntry} {n : Nm} {v : Value} (hK : MKids es clock K) (hZ : Rg es seen Z) (he : e ∈ (leftOf es seen).toList) (hkey : e.key = .string (nb n)) (hval : e.val = v) : Rg es (seen.push e.born) (Z ++ [(n, v)]) := by
  obtain ⟨S, h1, h2, h3, h4⟩ := hZ
  unfold leftOf at he
  simp only [Array.toList_filter, List.mem_filter] at he
  obtain ⟨he1, he2⟩ := he
  have hn : e.born ∉ S.map (·.born) := by
    rw [← h2]
    intro hm
    simp at he2
    exact he2 (by simpa using hm)
  refine ⟨S ++ [e], ?_, ?_, ?_, ?_⟩
  · rw [List.map_append, List.nodup_append]
    refine ⟨h1, by simp, fun a ha b hb => ?_⟩
    simp only [List.map_cons, List.map_nil, List.mem_singleton] at hb
    rw [hb]
    rintro rfl
    exact hn ha
  · simp [h2]
  · intro x hx
    rcases List.mem_append.1 hx with h | h
    · exact h3 x h
    · simp only [List.mem_singleton] at h
      rw [h]; exact he1
  · rw [List.map_append, List.map_append, h4]
    simp [hkey, hval]
/-- One round's 'next': the end, all have come; or one more comes. -/
theorem rg_next {P : Program} {w : World} (ty : TypeId) {r bm clock : Nat} {seen : Array Nat} {es : Array MapEntry} {K Z : List (Nm × Value)} (hr : w.heap[r]? = some (.mapIter (some bm) clock seen clock)) (hb : w.heap[bm]? = some (.map es clock)) (hK : MKids es clock K) (hZ : Rg es seen Z) :
    (Z.Perm K ∧ (Instr.next (.pointer (some ⟨r, 0, none⟩)) false ty).run P w = .ok (.tuple #[.bool false]) w) ∨
    ∃ (n : Nm) (v : Value) (b : Nat) (w1 : World), (w1 = w ∨ w1 = w.drew) ∧ (n, v) ∈ K ∧ (Instr.next (.pointer (some ⟨r, 0, none⟩)) false ty).run P w = .ok (.tuple #[.bool true, .string (nb n), v]) (Go.ChangeMaps.setBlock w1 r (.mapIter (some bm) clock (seen.push b) clock)) ∧ Rg es (seen.push b) (Z ++ [(n, v)]) ∧ (leftOf es (seen.push b)).size < (leftOf es seen).size ∧
      ∀ W : World, W.heap[r]? = some (.mapIter (some bm) clock (seen.push b) clock) → W.heap[bm]? = some (.map es clock) → (Instr.entry (.pointer (some ⟨r, 0, none⟩))).run P W = .ok (.tuple #[.string (nb n), v]) W := by
  rcases Go.run_next_at w ty r bm clock clock seen es clock hr hb hK.older (Nat.le_refl _) with ⟨h0, h1⟩ | ⟨e, he, w1, hw, h1⟩
  · exact .inl ⟨rg_end hK hZ h0, h1⟩
  · have hm : e ∈ es.toList := by
      unfold leftOf at he
      simp only [Array.toList_filter, List.mem_filter] at he
      exact he.1
    have hx : (e.key, e.val) ∈ K.map fun x => (Value.string (nb x.1), x.2) := by rw [← hK.ents]; exact List.mem_map.2 ⟨e, hm, rfl⟩
    obtain ⟨⟨n, v⟩, hin, hx⟩ := List.mem_map.1 hx
    simp only [Prod.mk.injEq] at hx
    refine .inr ⟨n, v, e.born, w1, hw, hin, by rw [h1, ← hx.1, ← hx.2], rg_push hK hZ he hx.1.symm hx.2.symm, left_shrinks es seen e he, fun W hr2 hb2 => ?_⟩
    rw [Go.run_entry_at W r bm clock seen es clock e hr2 hb2 hm hK.born, ← hx.1, ← hx.2]
end Go.Proofs.YthojofeocjmglaaGreatDoor.B
/- The program's fits: may all paths below a node be, when it stands at a path? The walk: a recursion over maps. -/
namespace Go.Proofs.YthojofeocjmglaaGreatDoor.I
open Go.RowKit Go.Proofs.YthojofeocjmglaaGreatDoor.B Go.Sort
set_option linter.unusedVariables false
def glueR (s : Nm) (r : Pth) : Nm := s ++ r.flatMap fun k => 47 :: k
def fitsP (fs : FS) (p : Pth) (s : Nm) : Prop := ∀ r, fs.at (p ++ r) ≠ none → ∃ q, partsF (nb (glueR s r)) = .ok q
theorem fits_root {fs : FS} {p : Pth} {s : Nm} {x : Nd} (hx : fs.at p = some x) (h : fitsP fs p s) : ∃ q, partsF (nb s) = .ok q := by
  have := h [] (by rw [List.append_nil, hx]; simp)
  simpa [glueR] using this
theorem glue_cons (s : Nm) (k : Nm) (r : Pth) : glueR s (k :: r) = glueR (s ++ 47 :: k) r := by simp [glueR]
theorem fits_kid {fs : FS} {p : Pth} {s : Nm} (h : fitsP fs p s) (k : Nm) : fitsP fs (p ++ [k]) (s ++ 47 :: k) := fun r hr => by
  rw [← glue_cons]
  exact h (k :: r) (by simpa using hr)
theorem fits_of {fs : FS} (hg : FsOk fs) {p : Pth} {s : Nm} (h0 : ∃ q, partsF (nb s) = .ok q) (h : ∀ k, fs.at (p ++ [k]) ≠ none → fitsP fs (p ++ [k]) (s ++ 47 :: k)) : fitsP fs p s := by
  intro r hr
  cases r with
  | nil => simpa [glueR] using h0
  | cons k r =>
    rw [glue_cons]
    have hr2 : fs.at ((p ++ [k]) ++ r) ≠ none := by simpa using hr
    refine h k ?_ r hr2
    cases r with
    | nil => simpa using hr2
    | cons m r =>
      obtain ⟨x, hx, _⟩ := hg.prefix hr2 (by simp)
      rw [hx]; simp
theorem parts_size {s : ByteArray} {q : Pth} (h : partsF s = .ok q) : s.size ≤ 4096 := by
  unfold partsF at h
  split at h
  · cases h
  · omega
theorem mem_lookup_kid {K : List (Nm × Value)} (hd : (K.map (·.1)).Nodup) {n : Nm} {v : Value} (h : (n, v) ∈ K) : K.lookup n = some v := by
  induction K with
  | nil => cases h
  | cons a K ih =>
    simp only [List.map_cons, List.nodup_cons] at hd
    rw [List.lookup_cons]
    rcases List.mem_cons.1 h with h1 | h1
    · rw [← h1]; simp
    · have : (n == a.1) = false := by
        simp only [beq_eq_false_iff_ne]
        rintro rfl
        exact hd.1 (List.mem_map.2 ⟨(a.1, v), h1, rfl⟩)
      rw [this]
      exact ih hd.2 h1
theorem lookup_mem_kid {K : List (Nm × Value)} {n : Nm} {v : Value} (h : K.lookup n = some v) : (n, v) ∈ K := by
  induction K with
  | nil => simp at h
  | cons a K ih =>
    rw [List.lookup_cons] at h
    by_cases e : n = a.1
    · subst e
      simp at h
      rw [← h]; simp
    · have : (n == a.1) = false := by simpa using e
      rw [this] at h
      exact List.mem_cons_of_mem _ (ih h)
theorem heap_size_lt {w : World} {i : Nat} {o : Obj} (h : w.heap[i]? = some o) : i < w.heap.size := by
  rcases Nat.lt_or_ge i w.heap.size with h1 | h1
  · exact h1
  · rw [Array.getElem?_eq_none h1] at h; cases h
set_option maxRecDepth 100000 in
set_option maxHeartbeats 16000000 in
theorem fits_calls (L : List Nat) (t : Nat) (fs : FS) (by' nd : Nat) (A M : Pth → Nat) (hg : FsOk fs) : ∀ (m : Nat) (p : Pth) (x : Nd) (s : Nm) (w : World), p.length + m = 65 → fs.at p = some x → s.length ≤ 10000 → TabAt w L t fs by' nd A M → MaxLenAt w →
    Calls Tryz.prog 109 #[(.pointer (some ⟨A p, 0, none⟩)), .string (nb s)] w fun e w' => ∃ b, e = .returned (.bool b) ∧ (b = true ↔ fitsP fs p s) ∧ Chg [] w w'
  | 0, p, x, s, w, hl, hx, _, _, _ => by
    have := (hg.okp p x hx).1
    omega
  | m + 1, p, x, s, w, hl, hx, hs, hT, hm => by
    have IH := Asd.mk (fits_calls L t fs by' nd A M hg m)
    have HP := Asd.mk (parts_calls (nb s) w hm (by rw [nb_size]; omega))
    have HT := Asd.mk hT
    have HG := Asd.mk hg
    obtain ⟨R, hR⟩ : ∃ R, partsF (nb s) = R := ⟨_, rfl⟩
    rw [hR] at HP
    cases R with
    | error n =>
      have HA := Asd.mk (show ¬ fitsP fs p s from fun h => by
        obtain ⟨q, hq⟩ := fits_root hx h
        rw [hR] at hq; cases hq)
      clear hR hT hm hg hx IH
      go_enter Tryz.func109, Tryz.ntmps109
      go_wp2_with fail
      refine HP.out.mono ?_
      rintro e w1 ⟨hP, hC1⟩
      have hP2 : e = .returned (.tuple #[.slice none 0 0, .iface 88 (.int .i64 (n : Int))]) := hP
      subst hP2
      have HC1 := Asd.mk hC1
      clear hC1 hP
      go_wp2
      go_ret
      exact ⟨false, rfl, ⟨fun h => absurd h (by simp), fun h => absurd h HA.out⟩, HC1.out⟩
    | ok q =>
      have hsz := parts_size hR
      have hsl : s.length ≤ 4096 := by rw [nb_size] at hsz; exact hsz
      have HR := Asd.mk (show ∃ q, partsF (nb s) = .ok q from ⟨q, hR⟩)
      obtain ⟨S, hS⟩ : ∃ S, nb s = S := ⟨_, rfl⟩
      have HS := Asd.mk hS
      have HX := Asd.mk hx
      rw [hS] at HP hsz ⊢
      clear hR hT hg hS
      go_enter Tryz.func109, Tryz.ntmps109
      go_wp2_with fail
      refine HP.out.mono ?_
      rintro e w1 ⟨hP, hC1⟩
      have hPV : ∃ A1 n1, e = .returned (.tuple #[.slice A1 n1 n1, .nilIface]) := by
        rcases hP with ⟨h1, h2⟩ | ⟨h1, g, h2, h3⟩
        · exact ⟨none, 0, h2⟩
        · exact ⟨_, _, h2⟩
      obtain ⟨A1, n1, rfl⟩ := hPV
      have HC1 := Asd.mk hC1
      have hT1 := HT.out.keep0 hC1
      have c2 := cell_of_heap (hT1.node p x hx) 2
      have HM1 := Asd.mk (hm.chg hC1)
      have HT1 := Asd.mk hT1
      clear hC1 hP HP hm
      by_cases hk : x.kind = 2
      · rw [if_pos hk] at c2
        obtain ⟨es, clock, K, hK1, hK2, hK3⟩ := hT1.kids p x hx hk
        have hrg := run_range_map (P := Tryz.prog) w1 131 _ _ (M p) es clock Tryz.underlying131 hK1
        have HK1 := Asd.mk hK1
        have HK2 := Asd.mk hK2
        have HK3 := Asd.mk hK3
        clear hT1 hx hK1 hK2 hK3 hk
        go_wp2
        go_loopg [7, 8] ((leftOf es #[]).size + 1) (fun gk _ _ wx => ∃ (seen : Array Nat) (Z : List (Nm × Value)), gk = (leftOf es seen).size + 1 ∧ Asd (Rg es seen Z) ∧ Asd (wx.heap[w1.heap.size]? = some (.mapIter (some (M p)) clock seen clock)) ∧ Asd (Chg [] w1 wx) ∧ Asd (∀ z ∈ Z, fitsP fs (p ++ [z.1]) (s ++ 47 :: z.1)))
        case atStart => exact ⟨#[], [], rfl, ⟨rg_nil es⟩, ⟨hp_new _ _⟩, ⟨(Chg.refl _ _).alloc _⟩, ⟨by simp⟩⟩
        case round =>
          obtain ⟨seen, Z, rfl, HZ, HI, HC, HF⟩ := hrel
          rcases rg_next (P := Tryz.prog) (w := wr) 0 HI.out (HC.out.heap HK1.out (by simp)) HK2.out HZ.out with ⟨hper, hrun⟩ | ⟨n, v, b, w2, hw2, hin, hrun, hZ2, hlt, hent⟩
          · have HA := Asd.mk (show fitsP fs p s from fits_of HG.out HR.out fun k hk => by
              cases hz : fs.at (p ++ [k]) with
              | none => exact absurd hz hk
              | some z =>
                have h1 := HK3.out k
                rw [hz] at h1
                exact HF.out (k, (.pointer (some ⟨A (p ++ [k]), 0, none⟩))) (hper.mem_iff.2 (lookup_mem_kid h1)))
            have HCC := Asd.mk (HC1.out.trans HC.out)
            clear hper HI HZ HF HC HK1 HK2 HK3
            go_wp2
            go_ret
            exact ⟨true, rfl, ⟨fun _ => HA.out, fun _ => rfl⟩, HCC.out⟩
          · obtain ⟨W, hW⟩ : ∃ W, Go.ChangeMaps.setBlock w2 w1.heap.size (.mapIter (some (M p)) clock (seen.push b) clock) = W := ⟨_, rfl⟩
            rw [hW] at hrun
            have hMr : M p ≠ w1.heap.size := fun e => by
              have h1 := (heap_size_lt HK1.out)
              omega
            have hI2 : w2.heap[w1.heap.size]? = some (.mapIter (some (M p)) clock seen clock) := by
              rcases hw2 with rfl | rfl
              · exact HI.out
              · exact hp_drew HI.out
            have hC2 : Chg [] w1 w2 := by
              rcases hw2 with rfl | rfl
              · exact HC.out
              · exact HC.out.drew
            have hIW : W.heap[w1.heap.size]? = some (.mapIter (some (M p)) clock (seen.push b) clock) := by rw [← hW]; exact hp_setBlock hI2
            have hbW : W.heap[M p]? = some (.map es clock) := by rw [← hW, hp_setBlock_other _ hMr]; exact hC2.heap HK1.out (by simp)
            have hCW : Chg [] w1 W := by rw [← hW]; exact hC2.setBlock (fun h => absurd h (Nat.lt_irrefl _)) _
            have hen := hent W hIW hbW
            have hlk := mem_lookup_kid HK2.out.keys hin
            rw [HK3.out n] at hlk
            obtain ⟨x2, hx2⟩ : ∃ x2, fs.at (p ++ [n]) = some x2 := by
              cases hz : fs.at (p ++ [n]) with
              | none => rw [hz] at hlk; cases hlk
              | some z => exact ⟨z, rfl⟩
            rw [hx2] at hlk
            simp only [Option.map_some, Option.some.injEq] at hlk
            subst hlk
            have hok := HG.out.okp _ x2 hx2
            have hnl : n.length ≤ 255 := by
              have h1 := (bad_ok (n := n)).1 (List.all_eq_true.1 hok.2.2 n (by simp))
              exact h1.2.1
            have HI3 := Asd.mk (IH.out (p ++ [n]) x2 (s ++ 47 :: n) W (by simp; omega) hx2 (by simp; omega) (HT1.out.keep0 hCW) (HM1.out.chg hCW))
            have hU : S ++ ⟨#[47]⟩ = nb (s ++ [47]) := by rw [← HS.out]; apply ByteArray.ext; simp [nb]
            have hV : nb (s ++ [47]) ++ nb n = nb (s ++ 47 :: n) := by apply ByteArray.ext; simp [nb]
            have hu : (nb (s ++ [47])).size ≤ 4097 := by rw [nb_size]; simp; omega
            have hn : (nb n).size ≤ 255 := by rw [nb_size]; exact hnl
            obtain ⟨U, hU'⟩ : ∃ U, nb (s ++ [47]) = U := ⟨_, rfl⟩
            obtain ⟨V, hV'⟩ : ∃ V, nb (s ++ 47 :: n) = V := ⟨_, rfl⟩
            rw [hU'] at hU hV hu
            rw [hV'] at hV HI3
            have HZ2 := Asd.mk hZ2
            have HIW := Asd.mk hIW
            have HCW := Asd.mk hCW
            clear hW hw2 hin hent hIW hbW hCW hI2 hC2 hMr hx2 hok hnl hU' hV' hZ2 HI HZ
            go_wp2_with fail
            refine HI3.out.mono ?_
            rintro e w3 ⟨r, rfl, hr3, hC3⟩
            have HC3 := Asd.mk (HCW.out.trans hC3)
            have HI4 := Asd.mk (hC3.heap HIW.out (by simp))
            have HR3 := Asd.mk hr3
            clear hr3 hC3
            cases r with
            | true =>
              have HF2 := Asd.mk (show ∀ z ∈ Z ++ [(n, (.pointer (some ⟨A (p ++ [n]), 0, none⟩)))], fitsP fs (p ++ [z.1]) (s ++ 47 :: z.1) from fun z hz => by
                rcases List.mem_append.1 hz with h | h
                · exact HF.out z h
                · simp only [List.mem_singleton] at h
                  rw [h]; exact HR3.out.1 rfl)
              go_wp2
              go_roundg ((leftOf es (seen.push b)).size + 1)
              case rel => exact ⟨seen.push b, _, rfl, HZ2, HI4, HC3, HF2⟩
              case measure => omega
            | false =>
              have HA := Asd.mk (show ¬ fitsP fs p s from fun h => absurd (HR3.out.2 (fits_kid h n)) (by simp))
              have HCC := Asd.mk (HC1.out.trans HC3.out)
              go_wp2
              go_ret
              exact ⟨false, rfl, ⟨fun h => absurd h (by simp), fun h => absurd h HA.out⟩, HCC.out⟩
      · rw [if_neg hk] at c2
        have HA := Asd.mk (show fitsP fs p s from fits_of HG.out HR.out fun k hk2 => by
          obtain ⟨z, hz, hz2⟩ := HG.out.up p k hk2
          rw [hx] at hz
          cases hz
          exact absurd hz2 hk)
        have hrg := run_range_nilMap (P := Tryz.prog) w1 131 _ _ Tryz.underlying131
        have hnx := run_next_nilMap (P := Tryz.prog) w1 0 0 0 #[]
        clear hT1 hx hk
        go_wp2
        refine wp_loop_rounds 1 ?_
        rw [rounds_succ]
        go_wp2
        go_ret
        exact ⟨true, rfl, ⟨fun _ => HA.out, fun _ => rfl⟩, HC1.out.alloc _⟩
end Go.Proofs.YthojofeocjmglaaGreatDoor.I
