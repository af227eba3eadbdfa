/- Merged out of these texts: RBegun, Back, RAsked. -/
import Derived.Test.YtiijbecklkccfaaGreatDoorPl24
import Derived.Deep.RegionHeld3
import Derived.Test.YtiijbecklkccfaaGreatDoorPl22
import Derived.Test.YtiijbecklkccfaaGreatDoorPl23
import Derived.Test.YtiijbecklkccfaaGreatDoorPl14
/- The law's begun. -/
namespace Go.Proofs.YtiijbecklkccfaaGreatDoor.I
open Go.RowKit Go.Proofs.YtiijbecklkccfaaGreatDoor.B Go.Sort
set_option linter.unusedVariables false
theorem results_mid {P : Program} {fn : Func} {q p u : Tmp} {ty : TypeId} (h : fn.results = #[.tmp q, .cell p ty, .tmp u]) (tmps : Array Value) (w : World) (g : Nat) (t : TypeId) (cs : Array Value) (fr : Nat × Nat) (d : TypeDesc)
    (hp : tmps.getD p undef = .pointer (some ⟨g, 0, none⟩)) (hg : w.heap[g]? = some (.cells cs t fr))
    (hu : P.underlying ty = some d) (hd : (match d with | .struct _ | .array _ _ => true | _ => false) = true) (hi : (P.info? ty).map (·.size) = some cs.size) :
    (results fn tmps).run P w = .ok (.tuple #[tmps.getD q undef, .agg cs, tmps.getD u undef]) w := by
  have hp' : tmps[p]?.getD undef = .pointer (some ⟨g, 0, none⟩) := by simpa using hp
  simp [results, h, hp', asAddr, run_loadVar_row w g t ty cs fr d hg hu hd hi]
set_option maxRecDepth 100000 in
set_option maxHeartbeats 16000000 in
theorem begun_ok (bb nn : Nat) (w : World) (hb : bb ≤ 2147483647) (hn : nn ≤ 65536) :
    Calls Tryz.prog 21 #[.agg #[.int .i64 (bb : Int), .int .i64 (nn : Int)]] w fun e w' => ∃ t L, e = .returned (.tuple #[(.pointer (some ⟨t, 0, none⟩)), .agg #[.slice none 0 0, .int .i64 (bb : Int), .int .i64 (nn : Int)], .bool true]) ∧ SysL w w' L t [] bb nn := by
  obtain ⟨wa, hwa, hCa, hA1⟩ := start1 w #[.int .i64 (bb : Int), .int .i64 (nn : Int)] 23
  obtain ⟨w0, hw0, hCb, hA2⟩ := start1 wa #[.slice none 0 0, .int .i64 0, .int .i64 0] 56
  have HC := Asd.mk (hCa.trans hCb)
  have HB := Asd.mk (And.intro (hCb.heap hA1 (by simp)) hA2)
  have HLw := Asd.mk (lt_of_heap hA2)
  have HDw := Asd.mk (show w.heap.size ≤ wa.heap.size from hCa.size)
  have b0 := cell_of_heap HB.out.1 0
  have b1 := cell_of_heap HB.out.1 1
  have H1 := Asd.mk (sysl_new bb nn w w0 HC.out hb hn)
  have H2 := Asd.mk (fun W => new20_ok bb nn W hb hn)
  clear hCa hCb hA1 hA2
  (go_enter Tryz.func21, Tryz.ntmps21)
  go_wp2_with fail
  refine H1.out.mono ?_
  rintro e w1 ⟨t, L, rfl, hS, hC, hLo⟩
  have HLo := Asd.mk hLo
  have HS1 := Asd.mk hS
  have HB1 := Asd.mk (And.intro (hC.heap HB.out.1 (by simp)) (hC.heap HB.out.2 (by simp)))
  have b0 := cell_of_heap HB1.out.1 0
  have b1 := cell_of_heap HB1.out.1 1
  clear hC H1 HB hS hwa hw0 hLo
  go_wp2_with fail
  refine (H2.out _).mono ?_
  rintro e w2 ⟨rfl, hC⟩
  have HS2 := Asd.mk (HS1.out.chg0 hC)
  have HB2 := Asd.mk (hC.heap HB1.out.2 (by simp))
  clear hC H2 HB1 HS1 b0 b1
  go_upto_region 3 with (first | (refine wpList_store_row (o := ⟨none, _, _, _, _, _⟩) rfl 56 (.tmp 7) (.tmp 23) rfl w2.heap.size _ rfl rfl 56 _ (hp_new _ _) (size_tab _ _ _) rfl (one_tab _ _ _ _ _) ?_))
  refine wp_opaque2 (fun W hW => ?_)
  have hCW : Chg [w2.heap.size] w2 W := by rw [hW]; exact ((Chg.refl _ _).alloc _).setRow (fun _ => by simp) _
  have hbD : W.heap[w2.heap.size]? = some (.cells #[.slice none 0 0, .int .i64 (bb : Int), .int .i64 (nn : Int)] 56 (0, 0)) := by rw [hW]; exact setRow_heap _ _ _ _ _ _ (hp_new _ _)
  have HS3 := Asd.mk (HS2.out.chg hCW (fun i hi h => by have := HS2.out.lt i hi; rw [List.mem_singleton] at h; omega) (fun i hi => by have := HS2.out.1.size; rw [List.mem_singleton] at hi; omega))
  have HB3 := Asd.mk (hCW.heap HB2.out (by have := lt_of_heap HB2.out; simp; omega))
  have HLt := Asd.mk (show wa.heap.size < w0.heap.size ∧ wa.heap.size < w2.heap.size from ⟨HLw.out, lt_of_heap HB2.out⟩)
  obtain ⟨D, hD⟩ : ∃ D, w2.heap.size = D := ⟨_, rfl⟩
  rw [hD] at hbD HLt ⊢
  have HbD := Asd.mk hbD
  have d0 := cell_of_heap hbD 0
  have d1 := cell_of_heap hbD 1
  have d2 := cell_of_heap hbD 2
  clear hW hCW HS2 HB2 hD hbD
  have hdc : ∀ X : World, X.heap[D]? = some (.cells #[.slice none 0 0, .int .i64 (bb : Int), .int .i64 (nn : Int)] 56 (0, 0)) → X.cell? ⟨D, 0, none⟩ = some (.slice none 0 0) ∧ X.cell? ⟨D, 1, none⟩ = some (.int .i64 (bb : Int)) ∧ X.cell? ⟨D, 2, none⟩ = some (.int .i64 (nn : Int)) := fun X h => ⟨cell_of_heap h 0, cell_of_heap h 1, cell_of_heap h 2⟩
  have hk1 := hdc _ (hp_drew HbD.out)
  have hk2 := hdc (W.drew.setRow wa.heap.size #[.slice none 0 0, .int .i64 (bb : Int), .int .i64 (nn : Int)]) ((hp_setRow_other (by have := HLt.out; omega)).trans (hp_drew HbD.out))
  clear d0 d1 d2
  have z0 := cell_of_heap HB3.out 0
  have z1 := cell_of_heap HB3.out 1
  have z2 := cell_of_heap HB3.out 2
  have f0 := frozen_of_heap HB3.out 0
  have f1 := frozen_of_heap HB3.out 1
  have f2 := frozen_of_heap HB3.out 2
  have hk3 := hdc (((W.setCell ⟨wa.heap.size, 0, none⟩ (.slice none 0 0)).setCell ⟨wa.heap.size, 1, none⟩ (.int .i64 (bb : Int))).setCell ⟨wa.heap.size, 2, none⟩ (.int .i64 (nn : Int))).drew (hp_drew (hp_set_other (hp_set_other (hp_set_other HbD.out (by have := HLt.out; omega) 0 _) (by have := HLt.out; omega) 1 _) (by have := HLt.out; omega) 2 _))
  go_region_held3 (fun (w' : World) => w'.cell? ⟨D, 0, none⟩ = some (.slice none 0 0) ∧ w'.cell? ⟨D, 1, none⟩ = some (.int .i64 (bb : Int)) ∧ w'.cell? ⟨D, 2, none⟩ = some (.int .i64 (nn : Int))) (first | exact hk1 | exact hk3) (first | (go_at_call 18; refine (num_nil _).mono ?_; rintro e w5 ⟨rfl, rfl⟩))
  all_goals
    clear hk1 hk2 hk3
    go_wp2
    refine bodyPost_ret (results_mid rfl _ _ wa.heap.size 56 _ (0, 0) _ rfl (hp_drew (hp_set (hp_set (hp_set HB3.out 0 _) 1 _) 2 _)) Tryz.underlying56 rfl (size_tab _ _ _)) rfl ?_
    refine ⟨t, L, rfl, ?_⟩
    exact HS3.out.chg (((((Chg.refl [wa.heap.size] W).setCell (fun _ => by simp) _).setCell (fun _ => by simp) _).setCell (fun _ => by simp) _).drew) (fun i hi h => by
      rw [List.mem_singleton] at h
      have h1 := HLo.out i hi
      have h2 := HLt.out.1
      omega) (fun i hi => by rw [List.mem_singleton] at hi; have := HDw.out; omega)
set_option maxRecDepth 100000 in
set_option maxHeartbeats 16000000 in
theorem begun_bad (bb nn : Int) (w : World) (he : ErrType w) (hb : bb < 0 ∨ 2147483647 < bb ∨ nn < 0 ∨ 65536 < nn) :
    Calls Tryz.prog 21 #[.agg #[.int .i64 bb, .int .i64 nn]] w fun e w' => e = .returned (.tuple #[.pointer none, .agg #[.slice none 0 0, .int .i64 0, .int .i64 0], .bool true]) ∧ Chg [] w w' := by
  obtain ⟨wa, hwa, hCa, hA1⟩ := start1 w #[.int .i64 bb, .int .i64 nn] 23
  obtain ⟨w0, hw0, hCb, hA2⟩ := start1 wa #[.slice none 0 0, .int .i64 0, .int .i64 0] 56
  have HC := Asd.mk (hCa.trans hCb)
  have HB := Asd.mk (And.intro (hCb.heap hA1 (by simp)) hA2)
  have HDw := Asd.mk (show w.heap.size ≤ wa.heap.size from hCa.size)
  have HE := Asd.mk he
  have b0 := cell_of_heap HB.out.1 0
  have b1 := cell_of_heap HB.out.1 1
  have H1 := Asd.mk (new_bad bb nn w0 hb)
  have H2 := Asd.mk (fun W => new20_bad bb nn W hb)
  clear hCa hCb hA1 hA2 he hb
  (go_enter Tryz.func21, Tryz.ntmps21)
  go_wp2_with fail
  refine H1.out.mono ?_
  rintro e w1 ⟨rfl, hC⟩
  have HC1 := Asd.mk (HC.out.trans hC)
  have HB1 := Asd.mk (And.intro (hC.heap HB.out.1 (by simp)) (hC.heap HB.out.2 (by simp)))
  have b0 := cell_of_heap HB1.out.1 0
  have b1 := cell_of_heap HB1.out.1 1
  clear hC H1 HB hwa hw0 HC
  go_wp2_with fail
  refine (H2.out _).mono ?_
  rintro e w2 ⟨rfl, hC⟩
  have HC2 := Asd.mk (HC1.out.trans hC)
  have HB2 := Asd.mk (hC.heap HB1.out.2 (by simp))
  clear hC H2 HB1 HC1 b0 b1
  go_upto_region 3 with (first | (refine wpList_store_row (o := ⟨none, _, _, _, _, _⟩) rfl 56 (.tmp 7) (.tmp 23) rfl w2.heap.size _ rfl rfl 56 _ (hp_new _ _) (size_tab _ _ _) rfl (one_tab _ _ _ _ _) ?_))
  refine wp_opaque2 (fun W hW => ?_)
  have hCW : Chg [w2.heap.size] w2 W := by rw [hW]; exact ((Chg.refl _ _).alloc _).setRow (fun _ => by simp) _
  have hbD : W.heap[w2.heap.size]? = some (.cells #[.slice none 0 0, .int .i64 0, .int .i64 0] 56 (0, 0)) := by rw [hW]; exact setRow_heap _ _ _ _ _ _ (hp_new _ _)
  have HC3 := Asd.mk (show Chg [] w W by rw [hW]; exact (HC2.out.alloc _).setRow (fun h => absurd h (by have := HC2.out.size; omega)) _)
  have HB3 := Asd.mk (hCW.heap HB2.out (by have := lt_of_heap HB2.out; simp; omega))
  have HLt := Asd.mk (lt_of_heap HB2.out)
  obtain ⟨D, hD⟩ : ∃ D, w2.heap.size = D := ⟨_, rfl⟩
  rw [hD] at hbD HLt ⊢
  have HbD := Asd.mk hbD
  have HN := Asd.mk (num_errno 1 W.drew (HE.out.chg (HC3.out.trans (Chg.refl _ _).drew)))
  clear hW hCW HC2 HB2 hD hbD
  have hdc : ∀ X : World, X.heap[D]? = some (.cells #[.slice none 0 0, .int .i64 0, .int .i64 0] 56 (0, 0)) → X.cell? ⟨D, 0, none⟩ = some (.slice none 0 0) ∧ X.cell? ⟨D, 1, none⟩ = some (.int .i64 0) ∧ X.cell? ⟨D, 2, none⟩ = some (.int .i64 0) := fun X h => ⟨cell_of_heap h 0, cell_of_heap h 1, cell_of_heap h 2⟩
  have hk1 := hdc _ (hp_drew HbD.out)
  go_region_held3 (fun (w' : World) => w'.cell? ⟨D, 0, none⟩ = some (.slice none 0 0) ∧ w'.cell? ⟨D, 1, none⟩ = some (.int .i64 0) ∧ w'.cell? ⟨D, 2, none⟩ = some (.int .i64 0)) (first | exact hk1 | exact hk2 | exact hk3) (first | (go_at_call 18; refine HN.out.mono ?_; rintro e w5 ⟨rfl, hC⟩; have hb5 := hC.heap (hp_drew HB3.out) (by simp); have hd5 := hC.heap (hp_drew HbD.out) (by simp); have hk2 := hdc _ hd5; have z0 := cell_of_heap hb5 0; have z1 := cell_of_heap hb5 1; have z2 := cell_of_heap hb5 2; have f0 := frozen_of_heap hb5 0; have f1 := frozen_of_heap hb5 1; have f2 := frozen_of_heap hb5 2; have hk3 := hdc (((w5.setCell ⟨wa.heap.size, 0, none⟩ (.slice none 0 0)).setCell ⟨wa.heap.size, 1, none⟩ (.int .i64 0)).setCell ⟨wa.heap.size, 2, none⟩ (.int .i64 0)) (hp_set_other (hp_set_other (hp_set_other hd5 (by have := HLt.out; omega) 0 _) (by have := HLt.out; omega) 1 _) (by have := HLt.out; omega) 2 _); have HB5 := Asd.mk hb5; have HC5 := Asd.mk (HC3.out.drew.trans hC); clear hb5 hd5 hC))
  all_goals
    clear hk1 hk2 hk3 hdc
    go_wp2
    refine bodyPost_ret (results_mid rfl _ _ wa.heap.size 56 _ (0, 0) _ rfl (hp_set (hp_set (hp_set HB5.out 0 _) 1 _) 2 _) Tryz.underlying56 rfl (size_tab _ _ _)) rfl ?_
    refine ⟨rfl, ?_⟩
    exact ((HC5.out.setCell (fun h => absurd (show wa.heap.size < w.heap.size from h) (by have := HDw.out; omega)) _).setCell (fun h => absurd (show wa.heap.size < w.heap.size from h) (by have := HDw.out; omega)) _).setCell (fun h => absurd (show wa.heap.size < w.heap.size from h) (by have := HDw.out; omega)) _
end Go.Proofs.YtiijbecklkccfaaGreatDoor.I
/- The law InodeBack: the walk. -/
namespace Go.Proofs.YtiijbecklkccfaaGreatDoor.I
open Go.RowKit Go.Proofs.YtiijbecklkccfaaGreatDoor.B Go.Sort
set_option linter.unusedVariables false
/-- A file system, its clone that goes on, and a row of the first's entries. -/
def Two (w W : World) (L Lc : List Nat) (t c : Nat) (fs g : FS) (v : Value) : Prop := SysL w W L t fs 2147483647 1000 ∧ SysL w W Lc c g 2147483647 1000 ∧ (∀ i ∈ L, i ∉ Lc) ∧ ∃ b, RowE W b v (treeF fs []) ∧ Off v L ∧ Off v Lc
theorem Two.chg0 {w W W' : World} {L Lc : List Nat} {t c : Nat} {fs g : FS} {v : Value} (h : Two w W L Lc t c fs g v) (hC : Chg [] W W') : Two w W' L Lc t c fs g v := by
  obtain ⟨h1, h2, h3, b, h4, h5, h6⟩ := h
  exact ⟨h1.chg0 hC, h2.chg0 hC, h3, b, own_off h4 hC (fun _ _ => by simp), h5, h6⟩
theorem Two.op {w W W' : World} {L Lc L' : List Nat} {t c : Nat} {fs g g' : FS} {v : Value} (h : Two w W L Lc t c fs g v) (hC : Chg Lc W W') (hS : SysL w W' L' c g' 2147483647 1000) (hL : ∀ i ∈ L', i ∈ Lc ∨ W.heap.size ≤ i) : Two w W' L L' t c fs g' v := by
  obtain ⟨h1, h2, h3, b, h4, h5, h6⟩ := h
  refine ⟨h1.chg hC h3 h2.2.2.2.1, hS, fun i hi hi' => ?_, b, own_off h4 hC h6, h5, off_next h4 h6 hL⟩
  rcases hL i hi' with h | h
  · exact h3 i hi h
  · have := h1.lt i hi; omega
section
variable {w W : World} {L : List Nat} {t : Nat} {fs : FS} {b n : Nat}
theorem sysl_rename (x y : ByteArray) (h : SysL w W L t fs b n) (hm : MaxLenAt w) (hx : x.size ≤ 4294967280) (hy : y.size ≤ 4294967280) : Calls Tryz.prog 28 #[(.pointer (some ⟨t, 0, none⟩)), .string x, .string y] W fun e w' => e = .returned (errV (renameF fs x y).1) ∧ ∃ L', SysL w w' L' t (renameF fs x y).2 b n ∧ Chg L W w' ∧ ∀ i ∈ L', i ∈ L ∨ W.heap.size ≤ i := by
  obtain ⟨h1, h2, h3, h4, A, M, h5⟩ := id h
  exact (rename_calls L t fs b n A M x y W h5 h2 h3 (hm.chg h1) hx hy).mono fun e w' hp => sysl_op h hp (renameF_keep h2 h3 x y)
theorem sysl_remove (s : ByteArray) (h : SysL w W L t fs b n) (hm : MaxLenAt w) (hs : s.size ≤ 4294967280) : Calls Tryz.prog 29 #[(.pointer (some ⟨t, 0, none⟩)), .string s] W fun e w' => e = .returned (errV (removeF fs s).1) ∧ ∃ L', SysL w w' L' t (removeF fs s).2 b n ∧ Chg L W w' ∧ ∀ i ∈ L', i ∈ L ∨ W.heap.size ≤ i := by
  obtain ⟨h1, h2, h3, h4, A, M, h5⟩ := id h
  exact (remove_calls L t fs b n A M s W h5 h2 h3 (hm.chg h1) hs).mono fun e w' hp => sysl_op h hp (removeF_keep h2 h3 s)
theorem sysl_look (s : ByteArray) (h : SysL w W L t fs b n) (hm : MaxLenAt w) (hs : s.size ≤ 4294967280) : Calls Tryz.prog 27 #[(.pointer (some ⟨t, 0, none⟩)), .string s] W fun e w' => e = .returned (.tuple #[entV (lookF fs s).2, errV (lookF fs s).1]) ∧ Chg [] W w' := by
  obtain ⟨h1, h2, h3, h4, A, M, h5⟩ := h
  exact look_calls L t fs b n A M s W h5 h2 (hm.chg h1) hs
end
set_option maxRecDepth 100000 in
set_option maxHeartbeats 32000000 in
theorem inodeback_calls (sp : Option Addr) (n cap : Nat) (O : Nat → OpV) (x y : ByteArray) (w : World) (hO : OpsAt w sp n O) (hn : n ≤ 1048576) (hx : x.size ≤ 4294967280) (hy : y.size ≤ 4294967280) (hm : MaxLenAt w) (he : ErrType w) :
    Calls Tryz.prog 8 #[.slice sp n cap, .string x, .string y] w fun e w' => e = .returned (.bool true) ∧ Chg [] w w' := by
  have HM := Asd.mk hm
  have HE := Asd.mk he
  have HO := Asd.mk hO
  have HXY := Asd.mk (And.intro hx hy)
  have H0 := Asd.mk (sysl_new 2147483647 1000 w w (Chg.refl _ _) (by omega) (by omega))
  clear hm he hO hx hy
  (go_enter Tryz.func8, Tryz.ntmps8)
  go_wp2_with fail
  refine H0.out.mono ?_
  rintro e w1 ⟨t, L1, rfl, hS, _, _⟩
  have HS := Asd.mk hS
  clear hS H0
  go_wp2_with fail
  go_loopg [9] 41 (fun gk v9 wx => ∃ (i : Nat) (L : List Nat) (fs : FS), i ≤ 40 ∧ gk = 41 - i ∧ v9 = .int .i64 (i : Int) ∧ Asd (SysL w wx L t fs 2147483647 1000))
  case atStart => exact ⟨0, L1, [], by omega, rfl, rfl, HS⟩
  case round =>
    obtain ⟨i, L, fs, hi, rfl, rfl, HS⟩ := hrel
    go_upto_region 5 with fail
    go_cut [38] from 31 to 38 (fun v38 wx => wr = wx ∧ ∃ c : Bool, v38 = .bool c ∧ Asd (c = true → i < n ∧ i < 40))
    case first =>
      by_cases h1 : i < n
      · have k1 : (i : Int) < (n : Int) := by omega
        by_cases h2 : i < 40
        · have k2 : (i : Int) < 40 := by omega
          go_wp2
          go_meet
          case rel => exact ⟨rfl, true, rfl, ⟨fun _ => ⟨h1, h2⟩⟩⟩
        · have k2 : ¬ (i : Int) < 40 := by omega
          go_wp2
          go_meet
          case rel => exact ⟨rfl, false, rfl, ⟨fun h => by cases h⟩⟩
      · have k1 : ¬ (i : Int) < (n : Int) := by omega
        go_wp2
        go_meet
        case rel => exact ⟨rfl, false, rfl, ⟨fun h => by cases h⟩⟩
    case rest =>
      obtain ⟨rfl, c, rfl, HRc⟩ := hcut
      cases c with
      | true =>
        obtain ⟨hin, hi40⟩ := HRc.out rfl
        obtain ⟨a, rfl, o0, o1, o2, z1, z2⟩ := (HO.out.chg HS.out.1) i hin
        have HD := Asd.mk (sysl_done (O i).kind (O i).a (O i).b HS.out HM.out (by omega) (by omega))
        have k1 : (i : Int) < (n : Int) := by omega
        have P012 := Asd.mk (show wr.cell? ((a.add (i * 3)).add 0) = some (.int .i64 (O i).kind) ∧ wr.cell? ((a.add (i * 3)).add 1) = some (.string (O i).a) ∧ wr.cell? ((a.add (i * 3)).add 2) = some (.string (O i).b) from ⟨by rw [Go.Deep.add_add]; exact o0, by rw [Go.Deep.add_add]; exact o1, by rw [Go.Deep.add_add]; exact o2⟩)
        clear o0 o1 o2 z1 z2 HRc
        go_wp2_with (refine wpList_load_op rfl (.tmp 44) rfl (a.add (i * 3)) rfl _ _ _ P012.out.1 P012.out.2.1 P012.out.2.2 ?_)
        refine HD.out.mono ?_
        rintro e w4 ⟨rfl, L', hS, _, _⟩
        have HS4 := Asd.mk hS
        clear hS HD HS P012
        go_wp2_with fail
        go_roundg (41 - (i + 1))
        case rel => exact ⟨i + 1, L', _, by omega, rfl, by go_num, HS4⟩
        case measure => omega
      | false =>
        clear HRc HO
        have HT1 := Asd.mk (sysl_tree HS.out HM.out)
        go_wp2_with fail
        refine HT1.out.mono ?_
        rintro e w4 ⟨⟨v, rfl, hR⟩, hC⟩
        have HS4 := Asd.mk (HS.out.chg0 hC)
        have hOf := off_new hR HS.out.lt
        obtain ⟨A, cp, hv, hc⟩ := own_form hR
        obtain ⟨N, hN⟩ : ∃ N, (treeF fs []).length = N := ⟨_, rfl⟩
        have hNc : N = fs.length + 1 := by rw [← hN]; exact tree_count HS.out.2.1
        have hNz : fs.length ≤ 1000 := HS.out.2.2.1.count
        rw [hN] at hv
        subst hv
        have HR4 := Asd.mk (And.intro hR hOf)
        have HNN := Asd.mk (And.intro hN (And.intro hNc hNz))
        have HCl := Asd.mk (sysl_clone HS4.out)
        clear hR hC hc hOf hN hNc hNz HT1
        go_wp2_with fail
        refine HCl.out.mono ?_
        rintro e w5 ⟨c, Lc, rfl, hU, hC, hLc⟩
        have HT5 := Asd.mk (show Two w w5 L Lc t c fs fs (.slice A N cp) from ⟨HS4.out.chg0 hC, hU, fun i hi h => by have := HS4.out.lt i hi; have := hLc i h; omega, _, own_off HR4.out.1 hC (fun _ _ => by simp), HR4.out.2, fun q hq hm => by
          obtain ⟨_, cur, hh⟩ := own_block HR4.out.1 hq
          have := lt_of_heap hh
          have := hLc q hm
          omega⟩)
        have HLk := Asd.mk (sysl_look y HT5.out.1 HM.out HXY.out.2)
        clear hU hC hLc HCl HS4 HR4 HS
        go_wp2_with fail
        refine HLk.out.mono ?_
        rintro e w6 ⟨rfl, hC⟩
        obtain ⟨R, hR⟩ : ∃ R, (lookF fs y).1 = R := ⟨_, rfl⟩
        obtain ⟨s1, hs1⟩ : ∃ s, (lookF fs y).2.1 = s := ⟨_, rfl⟩
        obtain ⟨i1, hi1⟩ : ∃ s, (lookF fs y).2.2.1 = s := ⟨_, rfl⟩
        obtain ⟨s2, hs2⟩ : ∃ s, (lookF fs y).2.2.2 = s := ⟨_, rfl⟩
        rw [show entV (lookF fs y).2 = .agg #[.string s1, .int .i64 (i1 : Int), .string s2] by unfold entV; rw [hs1, hi1, hs2], hR]
        obtain ⟨ev, hev⟩ : ∃ ev, errV R = ev := ⟨_, rfl⟩
        rw [hev]
        have HEv := Asd.mk (show (R = 0 ∧ ev = .nilIface) ∨ (R ≠ 0 ∧ ev = .iface 71 (.int .i64 (R : Int))) by
          by_cases hz : R = 0
          · exact .inl ⟨hz, by rw [← hev, hz]; rfl⟩
          · exact .inr ⟨hz, by rw [← hev]; unfold errV; rw [if_neg hz]⟩)
        have HRq := Asd.mk hR
        have HT6 := Asd.mk (HT5.out.chg0 hC)
        clear hC HLk HT5 hs1 hi1 hs2 hR hev
        go_upto_region 13 with fail
        refine wp_opaque2 (fun V hV => ?_)
        have HTV := Asd.mk (HT6.out.chg0 (show Chg [] w6 V by rw [hV]; exact (Chg.refl _ _).alloc _))
        clear hV HT6
        go_cut [71] from 62 to 71 (fun v71 wx => ∃ (k : Bool) (g : FS) (Lc : List Nat), v71 = .bool k ∧ Asd (Two w wx L Lc t c fs g (.slice A N cp)) ∧ Asd (k = true → (renameF fs x y).1 = 0 ∧ g = (renameF fs x y).2 ∧ (lookF fs y).1 = 200))
        case first =>
          have h1 := sysl_rename x y HTV.out.2.1 HM.out HXY.out.1 HXY.out.2
          obtain ⟨Q, hQ⟩ : ∃ Q, renameF fs x y = Q := ⟨_, rfl⟩
          rw [hQ] at h1
          have H1 := Asd.mk h1
          have HQ := Asd.mk hQ
          clear h1 hQ
          go_wp2_with fail
          refine H1.out.mono ?_
          rintro e w7 ⟨rfl, L', hS, hCL, hL'⟩
          have HT7 := Asd.mk (HTV.out.op hCL hS hL')
          clear H1 hS hCL hL' HTV
          by_cases hz : Q.1 = 0
          · rw [show errV Q.1 = .nilIface by rw [hz]; rfl]
            have HZ0 := Asd.mk hz
            clear hz
            rcases HEv.out with ⟨hz, rfl⟩ | ⟨hz, rfl⟩
            · clear HEv
              have HN1 := Asd.mk (fun W => num_nil W)
              go_wp2_with fail
              refine (HN1.out _).mono ?_
              rintro e w8 ⟨rfl, hw⟩
              have hw' := hw.symm
              subst hw'
              clear hw
              go_wp2
              go_meet
              case rel => exact ⟨false, _, _, rfl, HT7, ⟨fun h => by cases h⟩⟩
            · clear HEv hz
              have HN1 := Asd.mk (num_errno (R : Int) w7 (HE.out.chg HT7.out.1.1))
              go_wp2_with fail
              refine HN1.out.mono ?_
              rintro e w8 ⟨rfl, hC⟩
              have HT8 := Asd.mk (HT7.out.chg0 hC)
              clear hC HN1 HT7
              by_cases h2 : R = 200
              · have k2 : (R : Int) = 200 := by omega
                have k3 : decide ((R : Int) = 200) = true := decide_eq_true k2
                have k4 : ((R : Int) == 200) = true := by simp [k2]
                have HR2 := Asd.mk (show (lookF fs y).1 = 200 by rw [HRq.out]; exact h2)
                clear h2 k2
                go_wp2
                go_meet
                case rel => exact ⟨true, _, _, rfl, HT8, ⟨fun _ => by rw [HQ.out]; exact ⟨HZ0.out, rfl, HR2.out⟩⟩⟩
              · have k2 : ¬ (R : Int) = 200 := by omega
                have k3 : decide ((R : Int) = 200) = false := decide_eq_false k2
                have k4 : ((R : Int) == 200) = false := by simp [k2]
                clear h2
                go_wp2
                go_meet
                case rel => exact ⟨false, _, _, rfl, HT8, ⟨fun h => by cases h⟩⟩
          · rw [show errV Q.1 = .iface 71 (.int .i64 (Q.1 : Int)) by unfold errV; rw [if_neg hz]]
            clear HEv hz
            go_wp2_with fail
            go_meet
            case rel => exact ⟨false, _, _, rfl, HT7, ⟨fun h => by cases h⟩⟩
        case rest =>
          obtain ⟨k, g, Lc, rfl, HT, HK⟩ := hcut
          go_upto_if 71 with fail
          go_cut [15, 16, 17, 18] from 72 to 97 (fun v15 v16 v17 v18 wx => ∃ (g : FS) (Lc : List Nat), Asd (Two w wx L Lc t c fs g (.slice A N cp)))
          case first =>
            cases k with
            | false =>
              go_wp2_with fail
              go_meet
              case rel => exact ⟨g, Lc, HT⟩
            | true =>
              obtain ⟨hz, rfl, hlk⟩ := HK.out rfl
              have HBk := Asd.mk (back_ok HT.out.1.2.1 HT.out.1.2.2.1 hz hlk)
              have HT1 := Asd.mk (sysl_tree HT.out.2.1 HM.out)
              clear HK hz hlk
              obtain ⟨G, hG⟩ : ∃ G, (renameF fs x y).2 = G := ⟨_, rfl⟩
              rw [hG] at HT HBk HT1
              clear hG
              go_wp2_with fail
              refine HT1.out.mono ?_
              rintro e w7 ⟨⟨v, rfl, hR⟩, hC⟩
              have HT7 := Asd.mk (HT.out.chg0 hC)
              obtain ⟨A2, cp2, hv, _⟩ := own_form hR
              have hl : (treeF G []).length = N := by rw [show treeF G [] = treeF0 G from rfl, tree_count HT.out.2.1.2.1, HBk.out.1, HNN.out.2.1]
              rw [hl] at hv
              subst hv
              have h1 := sysl_rename y x HT7.out.2.1 HM.out HXY.out.2 HXY.out.1
              rw [HBk.out.2.1] at h1
              have H1 := Asd.mk h1
              clear hR hC hl HT HT1 h1
              go_wp2_with fail
              refine H1.out.mono ?_
              rintro e w8 ⟨rfl, L', hS, hCL, hL'⟩
              have HT8 := Asd.mk (HT7.out.op hCL hS hL')
              have HT2 := Asd.mk (sysl_tree HT8.out.2.1 HM.out)
              clear H1 hS hCL hL' HT7
              simp only [errV, if_true]
              go_wp2_with fail
              refine HT2.out.mono ?_
              rintro e w9 ⟨⟨v, rfl, hR⟩, hC⟩
              have HT9 := Asd.mk (HT8.out.chg0 hC)
              have hq : treeF (renameF G y x).2 [] = treeF fs [] := HBk.out.2.2.tree
              rw [hq] at hR
              obtain ⟨_, _, _, b, hb, _, _⟩ := HT9.out
              have HSm := Asd.mk (same_ents (entL_of_own hR) (entL_of_own hb) (by have := HNN.out; omega))
              clear hR hC hq hb HT2 HT8
              go_wp2_with fail
              refine HSm.out.mono ?_
              rintro e w10 ⟨rfl, hC⟩
              have HT10 := Asd.mk (HT9.out.chg0 hC)
              clear hC HSm HT9
              go_wp2
              go_meet
              case rel => exact ⟨_, _, HT10⟩
          case rest =>
            obtain ⟨g, Lc, HT⟩ := hcut
            have H1 := Asd.mk (sysl_remove x HT.out.2.1 HM.out HXY.out.1)
            clear HK
            go_wp2_with fail
            refine H1.out.mono ?_
            rintro e w7 ⟨rfl, L', hS, hCL, hL'⟩
            have HT7 := Asd.mk (HT.out.op hCL hS hL')
            have H2 := Asd.mk (sysl_create y HT7.out.2.1 HM.out HXY.out.2)
            clear H1 hS hCL hL' HT
            go_wp2_with fail
            refine H2.out.mono ?_
            rintro e w8 ⟨rfl, L', hS, hCL, hL'⟩
            have HT8 := Asd.mk (HT7.out.op hCL hS hL')
            have H3 := Asd.mk (sysl_append y ⟨#[109, 111, 114, 101]⟩ HT8.out.2.1 HM.out HXY.out.2 (by decide))
            clear H2 hS hCL hL' HT7
            go_wp2_with fail
            refine H3.out.mono ?_
            rintro e w9 ⟨rfl, L', hS, hCL, hL'⟩
            have HT9 := Asd.mk (HT8.out.op hCL hS hL')
            have H4 := Asd.mk (sysl_tree HT9.out.1 HM.out)
            clear H3 hS hCL hL' HT8
            go_wp2_with fail
            refine H4.out.mono ?_
            rintro e w10 ⟨⟨v, rfl, hR⟩, hC⟩
            have HT10 := Asd.mk (HT9.out.chg0 hC)
            obtain ⟨_, _, _, b, hb, _, _⟩ := HT10.out
            have HSm := Asd.mk (same_ents (entL_of_own hR) (entL_of_own hb) (by have := HNN.out; omega))
            clear hR hC hb H4 HT9
            go_wp2_with fail
            refine HSm.out.mono ?_
            rintro e w11 ⟨rfl, hC⟩
            have HC11 := Asd.mk (HT10.out.1.1.trans hC)
            clear hC HSm HT10
            go_wp2_with fail
            refine (works_calls _ (HM.out.chg HC11.out) (HE.out.chg HC11.out)).mono ?_
            rintro e w3 ⟨rfl, hC⟩
            have HC3 := Asd.mk (HC11.out.trans hC)
            clear hC HC11
            go_wp2
            go_ret
            exact ⟨rfl, HC3.out⟩
end Go.Proofs.YtiijbecklkccfaaGreatDoor.I
/- The law's asked: do both say the same of a path? -/
namespace Go.Proofs.YtiijbecklkccfaaGreatDoor.I
open Go.RowKit Go.Proofs.YtiijbecklkccfaaGreatDoor.B Go.Sort
set_option linter.unusedVariables false
attribute [local go_sem high] eqEnt2
variable {w W : World} {L : List Nat} {t : Nat} {fs G : FS} {bb nn K : Nat} {v : Value}
theorem look_congr {f g : FS} (h : ∀ r, f.at r = g.at r) (s : ByteArray) : lookF f s = lookF g s := by
  unfold lookF
  rw [thereE_congr h s]
  cases thereE g s with
  | error n => rfl
  | ok p => simp only; rw [h]
theorem read_congr {f g : FS} (h : ∀ r, f.at r = g.at r) (s : ByteArray) : readF f s = readF g s := by
  unfold readF
  rw [thereE_congr h s]
  cases thereE g s with
  | error n => rfl
  | ok p => simp only; rw [h]
theorem list_congr {f g : FS} (h : ∀ r, f.at r = g.at r) (s : ByteArray) : listE f s = listE g s := by
  unfold listE
  rw [thereE_congr h s]
  cases thereE g s with
  | error n => rfl
  | ok p => simp only; rw [h]
/-- An error's number, of a path or none. -/
def exN (R : Except Nat Pth) : Nat := match R with
  | .error n => n
  | .ok _ => 0
def exL (G : FS) (R : Except Nat Pth) : List ByteArray := match R with
  | .error _ => []
  | .ok p => (kidsF G p).map nb
def exT (G : FS) (R : Except Nat Pth) : List Ent := match R with
  | .error _ => []
  | .ok p => treeL G 65 p
theorem strL_nil (w : World) : StrL w (.slice none 0 0) [] := ⟨none, 0, rfl, fun i h => absurd h (Nat.not_lt_zero i)⟩
theorem entL_nil (w : World) : EntL w (.slice none 0 0) [] := ⟨none, 0, rfl, fun i h => absurd h (Nat.not_lt_zero i)⟩
theorem list_pos {G : FS} {s : ByteArray} {n : Nat} (h : listE G s = .error n) : n ≠ 0 := by
  unfold listE at h
  cases ht : thereE G s with
  | error m => rw [ht] at h; cases h; exact thereE_pos ht
  | ok p =>
    rw [ht] at h
    simp only at h
    split at h
    · cases h
    · split at h
      · cases h; omega
      · split at h
        · cases h; omega
        · cases h
theorem tree_fuel {G : FS} (hg : FsOk G) : ∀ (d m : Nat) (p : Pth), G.at p ≠ none → p.length + d = 65 → d ≤ m → treeL G m p = treeL G d p
  | 0, m, p, hp, hl, _ => by
    obtain ⟨x, hx⟩ := Option.ne_none_iff_exists'.1 hp
    have := (hg.okp p x hx).1
    omega
  | d + 1, m, p, hp, hl, hm => by
    obtain ⟨m, rfl⟩ : ∃ k, m = k + 1 := ⟨m - 1, by omega⟩
    rw [treeL_succ, treeL_succ]
    congr 1
    have : ∀ l : List Nm, (∀ k ∈ l, G.at (p ++ [k]) ≠ none) → (l.flatMap fun k => treeL G m (p ++ [k])) = l.flatMap fun k => treeL G d (p ++ [k]) := by
      intro l
      induction l with
      | nil => intro _; rfl
      | cons k l ih =>
        intro h
        rw [List.flatMap_cons, List.flatMap_cons, ih (fun j hj => h j (List.mem_cons_of_mem _ hj)), tree_fuel hg d m (p ++ [k]) (h k List.mem_cons_self) (by rw [List.length_append, List.length_singleton]; omega) (by omega)]
    exact this _ (fun k hk => mem_kidsF.1 hk)
theorem listP (hS : SysL w W L t fs bb nn) (hQ : Eqv fs G) (hm : MaxLenAt w) (s : ByteArray) (hs : s.size ≤ 1048576) : Calls Tryz.prog 19 #[(.pointer (some ⟨t, 0, none⟩)), .string s] W fun e w' => (∃ v, e = .returned (.tuple #[v, errV (exN (listE G s))]) ∧ StrL w' v (exL G (listE G s))) ∧ Chg [] W w' := by
  obtain ⟨h1, h2, h3, _, A, M, h5⟩ := hS
  refine (list_calls L t fs bb nn A M s W h5 h2 h3 (hm.chg h1) (by omega)).mono ?_
  rintro e w' ⟨hp, hC⟩
  refine ⟨?_, hC⟩
  rw [list_congr hQ.at_ s] at hp
  cases hl : listE G s with
  | error n => rw [hl] at hp; exact ⟨_, hp, strL_nil _⟩
  | ok p =>
    rw [hl] at hp
    obtain ⟨u, rfl, l, h6, h7, h8⟩ := hp
    obtain ⟨k1, k2⟩ := kids_sort h2.nodup h6 h7
    rw [k1, k2, kids_congr h2.nodup hQ.g_ok.nodup hQ.at_ p] at h8
    refine ⟨u, rfl, strL_of_own (base := W.heap.size) ?_⟩
    unfold exL
    simp only
    rw [List.length_map, List.map_map]
    exact h8
theorem treeP (hS : SysL w W L t fs bb nn) (hQ : Eqv fs G) (hm : MaxLenAt w) (s : ByteArray) (hs : s.size ≤ 1048576) : Calls Tryz.prog 11 #[(.pointer (some ⟨t, 0, none⟩)), .string s] W fun e w' => (∃ v, e = .returned (.tuple #[v, errV (exN (thereE G s))]) ∧ EntL w' v (exT G (thereE G s))) ∧ Chg [] W w' := by
  obtain ⟨h1, h2, h3, _, A, M, h5⟩ := hS
  refine (tree_calls L t fs bb nn A M s W h5 h2 h3 (hm.chg h1) (by omega)).mono ?_
  rintro e w' ⟨hp, hC⟩
  refine ⟨?_, hC⟩
  rw [thereE_congr hQ.at_ s] at hp
  cases hl : thereE G s with
  | error n => rw [hl] at hp; exact ⟨_, hp, entL_nil _⟩
  | ok p =>
    rw [hl] at hp
    obtain ⟨u, rfl, h8⟩ := hp
    have e : treeF fs p = treeL G 65 p := by
      obtain ⟨x, hx⟩ := thereE_ok hl
      rw [← hQ.at_] at hx
      have hlen := (h2.okp p x hx).1
      rw [← treeL_congr h2.nodup hQ.g_ok.nodup hQ.at_ 65 p]
      exact (tree_fuel h2 (65 - p.length) 65 p (by rw [hx]; simp) (by omega) (by omega)).symm
    rw [e] at h8
    exact ⟨u, rfl, entL_of_own h8⟩
theorem lookP (hS : SysL w W L t fs bb nn) (hQ : Eqv fs G) (hm : MaxLenAt w) (s : ByteArray) (hs : s.size ≤ 1048576) : Calls Tryz.prog 27 #[(.pointer (some ⟨t, 0, none⟩)), .string s] W fun e w' => e = .returned (.tuple #[entV (lookF G s).2, errV (lookF G s).1]) ∧ Chg [] W w' := by
  have h := sysl_look s hS hm (by omega)
  rw [look_congr hQ.at_ s] at h
  exact h
theorem readP (hS : SysL w W L t fs bb nn) (hQ : Eqv fs G) (hm : MaxLenAt w) (s : ByteArray) (hs : s.size ≤ 1048576) : Calls Tryz.prog 34 #[(.pointer (some ⟨t, 0, none⟩)), .string s] W fun e w' => e = .returned (.tuple #[.string (readF G s).2, errV (readF G s).1]) ∧ Chg [] W w' := by
  obtain ⟨h1, h2, h3, _, A, M, h5⟩ := hS
  have h := read_calls L t fs bb nn A M s W h5 h2 (hm.chg h1) (by omega)
  rw [read_congr hQ.at_ s] at h
  exact h
theorem listQ (h : RAt W K v G bb nn) (s : ByteArray) (hs : s.size ≤ 1048576) : Calls Tryz.prog 53 #[.agg #[v, .int .i64 (bb : Int), .int .i64 (nn : Int)], .string s] W fun e w' => (∃ v, e = .returned (.tuple #[v, .int .i64 (exN (listE G s) : Int)]) ∧ StrL w' v (exL G (listE G s))) ∧ Chg [] W w' := by
  refine (list20_calls h s hs).mono ?_
  rintro e w' ⟨hp, hC⟩
  refine ⟨?_, hC⟩
  cases hl : listE G s with
  | error n => rw [hl] at hp; exact ⟨_, hp, strL_nil _⟩
  | ok p =>
    rw [hl] at hp
    obtain ⟨u, h1, h2⟩ := hp
    exact ⟨u, h1, strL_of_own h2⟩
theorem treeQ (h : RAt W K v G bb nn) (s : ByteArray) (hs : s.size ≤ 1048576) : Calls Tryz.prog 49 #[.agg #[v, .int .i64 (bb : Int), .int .i64 (nn : Int)], .string s] W fun e w' => (∃ v, e = .returned (.tuple #[v, .int .i64 (exN (thereE G s) : Int)]) ∧ EntL w' v (exT G (thereE G s))) ∧ Chg [] W w' := by
  refine (treetop20_calls h s hs).mono ?_
  rintro e w' ⟨hp, hC⟩
  refine ⟨?_, hC⟩
  cases hl : thereE G s with
  | error n => rw [hl] at hp; exact ⟨_, hp, entL_nil _⟩
  | ok p =>
    rw [hl] at hp
    obtain ⟨u, h1, h2⟩ := hp
    exact ⟨u, h1, entL_of_own h2⟩
theorem exL_len {G : FS} (R : Except Nat Pth) : (exL G R).length ≤ G.length := by
  unfold exL
  cases R with
  | error n => simp
  | ok p =>
    simp only
    rw [List.length_map]
    have h1 := kidsU_len G p
    have h3 : (kidsF G p).length = (kidsU G p).length := by unfold kidsF sortN; rw [List.length_mergeSort]
    omega
theorem exT_len {G : FS} (hg : FsOk G) (s : ByteArray) : (exT G (thereE G s)).length ≤ G.length + 1 := by
  unfold exT
  cases h : thereE G s with
  | error n => simp
  | ok p =>
    simp only
    obtain ⟨x, hx⟩ := thereE_ok h
    exact treeL_len hg (by rw [hx]; simp)
theorem same_textsQ {E : List ByteArray} {v1 v2 : Value} {w : World} (h1 : StrL w v1 E) (h2 : StrL w v2 E) (hz : E.length ≤ 16777216) : Calls Tryz.prog 20 #[v1, v2] w fun e w' => e = .returned (.bool true) ∧ Chg [] w w' := by
  have h := sameTexts_calls E E v1 v2 w h1 h2 hz hz
  have e : decide (E = E) = true := decide_eq_true rfl
  rw [e] at h
  exact h
set_option maxRecDepth 100000 in
set_option maxHeartbeats 32000000 in
theorem asked20_calls (hS : SysL w W L t fs bb nn) (hR : RAt W K v G bb nn) (hQ : Eqv fs G) (hm : MaxLenAt w) (he : ErrType w) (s : ByteArray) (hs : s.size ≤ 1048576) :
    Calls Tryz.prog 24 #[(.pointer (some ⟨t, 0, none⟩)), .agg #[v, .int .i64 (bb : Int), .int .i64 (nn : Int)], .string s] W fun e w' => e = .returned (.bool true) ∧ Chg [] W w' := by
  obtain ⟨w1, hw1, hC, hB⟩ := start1 W #[v, .int .i64 (bb : Int), .int .i64 (nn : Int)] 56
  have HC1 := Asd.mk hC
  have HB1 := Asd.mk hB
  have H1 := Asd.mk (lookP (hS.chg0 hC) hQ hm s hs)
  have H2 := Asd.mk (fun W' (hW : Chg [] W W') => look20_calls (hR.chg hW) s hs)
  have H3 := Asd.mk (fun W' (hW : Chg [] W W') => readP (hS.chg0 hW) hQ hm s hs)
  have H4 := Asd.mk (fun W' (hW : Chg [] W W') => read20_calls (hR.chg hW) s hs)
  have H5 := Asd.mk (fun W' (hW : Chg [] W W') => listP (hS.chg0 hW) hQ hm s hs)
  have H6 := Asd.mk (fun W' (hW : Chg [] W W') => listQ (hR.chg hW) s hs)
  have H7 := Asd.mk (fun W' (hW : Chg [] W W') => treeP (hS.chg0 hW) hQ hm s hs)
  have H8 := Asd.mk (fun W' (hW : Chg [] W W') => treeQ (hR.chg hW) s hs)
  have hll := exL_len (G := G) (listE G s)
  have hlt := exT_len hR.ok s
  have hnm := hR.num
  obtain ⟨LL, hLL⟩ : ∃ x, exL G (listE G s) = x := ⟨_, rfl⟩
  obtain ⟨TT, hTT⟩ : ∃ x, exT G (thereE G s) = x := ⟨_, rfl⟩
  obtain ⟨nL, hnL⟩ : ∃ x, exN (listE G s) = x := ⟨_, rfl⟩
  obtain ⟨nT, hnT⟩ : ∃ x, exN (thereE G s) = x := ⟨_, rfl⟩
  obtain ⟨Q, hQe⟩ : ∃ x, lookF G s = x := ⟨_, rfl⟩
  obtain ⟨Rd, hRd⟩ : ∃ x, readF G s = x := ⟨_, rfl⟩
  obtain ⟨nK, s', kd, Z⟩ := Q
  obtain ⟨nR, Sr⟩ := Rd
  rw [hLL] at H5 H6 hll
  rw [hTT] at H7 H8 hlt
  rw [hnL] at H5 H6
  rw [hnT] at H7 H8
  rw [hQe] at H1 H2
  rw [hRd] at H3 H4
  simp only [entV] at H1 H2
  simp only at H3 H4
  have HLz := Asd.mk (show LL.length ≤ 16777216 by omega)
  have HTz := Asd.mk (show TT.length ≤ 16777216 by omega)
  have HN := Asd.mk (fun (R : Nat) W' (hW : Chg [] W W') => num_ev R W' (he.chg (hS.1.trans hW)))
  obtain ⟨e1, he1⟩ : ∃ ev, errV nK = ev := ⟨_, rfl⟩
  obtain ⟨e2, he2⟩ : ∃ ev, errV nR = ev := ⟨_, rfl⟩
  obtain ⟨e3, he3⟩ : ∃ ev, errV nL = ev := ⟨_, rfl⟩
  obtain ⟨e4, he4⟩ : ∃ ev, errV nT = ev := ⟨_, rfl⟩
  have HN1 := Asd.mk (HN.out nK)
  have HN2 := Asd.mk (HN.out nR)
  have HN3 := Asd.mk (HN.out nL)
  have HN4 := Asd.mk (HN.out nT)
  rw [he1] at H1 HN1
  rw [he2] at H3 HN2
  rw [he3] at H5 HN3
  rw [he4] at H7 HN4
  clear hC hB hS hR hQ hm he hs hll hlt hnm hLL hTT hnL hnT hQe hRd HN he1 he2 he3 he4
  (go_enter Tryz.func24, Tryz.ntmps24)
  go_wp2_with fail
  refine H1.out.mono ?_
  rintro e w2 ⟨rfl, hC⟩
  have HC2 := Asd.mk (HC1.out.trans hC)
  have HB2 := Asd.mk (hC.heap HB1.out (by simp))
  clear hC H1 HC1 HB1 hw1
  go_upto_region 2 with (first | (refine wpList_store_row (o := ⟨none, _, _, _, _, _⟩) rfl 41 (.tmp 7) (.tmp 27) rfl w2.heap.size _ rfl rfl 41 _ (hp_new _ _) (size_entry _ _ _) rfl (one_entry _ _ _) ?_)); refine wp_opaque2 (fun V2 hW => ?_); have hCW : Chg [w2.heap.size] w2 V2 := (by rw [hW]; exact ((Chg.refl _ _).alloc _).setRow (fun _ => by simp) _); have HD1 := Asd.mk (show V2.heap[w2.heap.size]? = some (.cells #[.string s', .int .i64 (kd : Int), .string Z] 41 (0, 0)) by rw [hW]; exact setRow_heap _ _ _ _ _ _ (hp_new _ _))
  have HC3 := Asd.mk (show Chg [] W V2 by rw [hW]; exact (HC2.out.alloc _).setRow (fun h => absurd h (by have := HC2.out.size; omega)) _)
  have HB3 := Asd.mk (hCW.heap HB2.out (by have := lt_of_heap HB2.out; simp; omega))
  obtain ⟨D1, hD1⟩ : ∃ D, w2.heap.size = D := ⟨_, rfl⟩
  rw [hD1] at HD1 ⊢
  have b0 := cell_of_heap HB3.out 0
  have b1 := cell_of_heap HB3.out 1
  have b2 := cell_of_heap HB3.out 2
  clear hW hCW HC2 HB2 hD1
  go_wp2_with fail
  refine (H2.out _ HC3.out).mono ?_
  rintro e w3 ⟨rfl, hC⟩
  have HC4 := Asd.mk (HC3.out.trans hC)
  have HB4 := Asd.mk (hC.heap HB3.out (by simp))
  have HD14 := Asd.mk (hC.heap HD1.out (by simp))
  clear hC H2 HC3 HB3 HD1 b0 b1 b2
  go_upto_region 3 with (first | (refine wpList_store_row (o := ⟨none, _, _, _, _, _⟩) rfl 41 (.tmp 9) (.tmp 33) rfl w3.heap.size _ rfl rfl 41 _ (hp_new _ _) (size_entry _ _ _) rfl (one_entry _ _ _) ?_)); refine wp_opaque2 (fun V3 hW => ?_); have hCW : Chg [w3.heap.size] w3 V3 := (by rw [hW]; exact ((Chg.refl _ _).alloc _).setRow (fun _ => by simp) _); have HD2 := Asd.mk (show V3.heap[w3.heap.size]? = some (.cells #[.string s', .int .i64 (kd : Int), .string Z] 41 (0, 0)) by rw [hW]; exact setRow_heap _ _ _ _ _ _ (hp_new _ _))
  have HC5 := Asd.mk (show Chg [] W V3 by rw [hW]; exact (HC4.out.alloc _).setRow (fun h => absurd h (by have := HC4.out.size; omega)) _)
  have HB5 := Asd.mk (hCW.heap HB4.out (by have := lt_of_heap HB4.out; simp; omega))
  have HD15 := Asd.mk (hCW.heap HD14.out (by have := lt_of_heap HD14.out; simp; omega))
  obtain ⟨D2, hD2⟩ : ∃ D, w3.heap.size = D := ⟨_, rfl⟩
  rw [hD2] at HD2 ⊢
  clear hW hCW HC4 HB4 HD14 hD2
  go_wp2_with fail
  refine (H3.out _ HC5.out).mono ?_
  rintro e w4 ⟨rfl, hC⟩
  have HC6 := Asd.mk (HC5.out.trans hC)
  have HF6 := Asd.mk (And.intro (hC.heap HB5.out (by simp)) (And.intro (hC.heap HD15.out (by simp)) (hC.heap HD2.out (by simp))))
  have b0 := cell_of_heap HF6.out.1 0
  have b1 := cell_of_heap HF6.out.1 1
  have b2 := cell_of_heap HF6.out.1 2
  clear hC H3 HC5 HB5 HD15 HD2
  go_wp2_with fail
  refine (H4.out _ HC6.out).mono ?_
  rintro e w5 ⟨rfl, hC⟩
  have HC7 := Asd.mk (HC6.out.trans hC)
  have HF7 := Asd.mk (And.intro (hC.heap HF6.out.1 (by simp)) (And.intro (hC.heap HF6.out.2.1 (by simp)) (hC.heap HF6.out.2.2 (by simp))))
  clear hC H4 HC6 HF6 b0 b1 b2
  go_wp2_with fail
  refine (H5.out _ HC7.out).mono ?_
  rintro e w6 ⟨⟨v1, rfl, hL1⟩, hC⟩
  have HC8 := Asd.mk (HC7.out.trans hC)
  have HF8 := Asd.mk (And.intro (hC.heap HF7.out.1 (by simp)) (And.intro (hC.heap HF7.out.2.1 (by simp)) (hC.heap HF7.out.2.2 (by simp))))
  have HL1 := Asd.mk hL1
  have b0 := cell_of_heap HF8.out.1 0
  have b1 := cell_of_heap HF8.out.1 1
  have b2 := cell_of_heap HF8.out.1 2
  clear hC H5 HC7 HF7 hL1
  go_wp2_with fail
  refine (H6.out _ HC8.out).mono ?_
  rintro e w7 ⟨⟨v2, rfl, hL2⟩, hC⟩
  have HC9 := Asd.mk (HC8.out.trans hC)
  have HF9 := Asd.mk (And.intro (hC.heap HF8.out.1 (by simp)) (And.intro (hC.heap HF8.out.2.1 (by simp)) (hC.heap HF8.out.2.2 (by simp))))
  have HL9 := Asd.mk (And.intro (HL1.out.chg hC) hL2)
  clear hC H6 HC8 HF8 hL2 HL1 b0 b1 b2
  go_wp2_with fail
  refine (H7.out _ HC9.out).mono ?_
  rintro e w8 ⟨⟨v3, rfl, hT1⟩, hC⟩
  have HC10 := Asd.mk (HC9.out.trans hC)
  have HF10 := Asd.mk (And.intro (hC.heap HF9.out.1 (by simp)) (And.intro (hC.heap HF9.out.2.1 (by simp)) (hC.heap HF9.out.2.2 (by simp))))
  have HL10 := Asd.mk (And.intro (HL9.out.1.chg hC) (HL9.out.2.chg hC))
  have HT1 := Asd.mk hT1
  have b0 := cell_of_heap HF10.out.1 0
  have b1 := cell_of_heap HF10.out.1 1
  have b2 := cell_of_heap HF10.out.1 2
  clear hC H7 HC9 HF9 HL9 hT1
  go_wp2_with fail
  refine (H8.out _ HC10.out).mono ?_
  rintro e w9 ⟨⟨v4, rfl, hT2⟩, hC⟩
  have HC11 := Asd.mk (HC10.out.trans hC)
  have HL11 := Asd.mk (And.intro (HL10.out.1.chg hC) (HL10.out.2.chg hC))
  have HT11 := Asd.mk (And.intro (HT1.out.chg hC) hT2)
  have d0 := cell_of_heap (hC.heap HF10.out.2.1 (by simp)) 0
  have d1 := cell_of_heap (hC.heap HF10.out.2.1 (by simp)) 1
  have d2 := cell_of_heap (hC.heap HF10.out.2.1 (by simp)) 2
  have c0 := cell_of_heap (hC.heap HF10.out.2.2 (by simp)) 0
  have c1 := cell_of_heap (hC.heap HF10.out.2.2 (by simp)) 1
  have c2 := cell_of_heap (hC.heap HF10.out.2.2 (by simp)) 2
  clear hC H8 HC10 HF10 HL10 HT1 hT2 b0 b1 b2
  go_wp2_with fail; refine (HN1.out _ HC11.out).mono ?_; rintro e w10 ⟨rfl, hC⟩; have HC12 := Asd.mk (HC11.out.trans hC)
  have HL12 := Asd.mk (And.intro (HL11.out.1.chg hC) (HL11.out.2.chg hC))
  have HT12 := Asd.mk (And.intro (HT11.out.1.chg hC) (HT11.out.2.chg hC))
  clear hC HC11 HL11 HT11 HN1 d0 d1 d2 c0 c1 c2
  go_wp2_with fail; refine (HN2.out _ HC12.out).mono ?_; rintro e w11 ⟨rfl, hC⟩; have HC13 := Asd.mk (HC12.out.trans hC)
  have HSm := Asd.mk (same_textsQ (HL12.out.1.chg hC) (HL12.out.2.chg hC) HLz.out)
  have HT13 := Asd.mk (And.intro (HT12.out.1.chg hC) (HT12.out.2.chg hC))
  clear hC HC12 HL12 HT12 HN2
  go_wp2_with fail
  refine HSm.out.mono ?_
  rintro e w12 ⟨rfl, hC⟩
  have HC14 := Asd.mk (HC13.out.trans hC)
  have HT14 := Asd.mk (And.intro (HT13.out.1.chg hC) (HT13.out.2.chg hC))
  clear hC HC13 HT13 HSm
  go_wp2_with fail; refine (HN3.out _ HC14.out).mono ?_; rintro e w13 ⟨rfl, hC⟩; have HC15 := Asd.mk (HC14.out.trans hC)
  have HSe := Asd.mk (same_ents (HT14.out.1.chg hC) (HT14.out.2.chg hC) HTz.out)
  clear hC HC14 HT14 HN3
  go_wp2_with fail
  refine HSe.out.mono ?_
  rintro e w14 ⟨rfl, hC⟩
  have HC16 := Asd.mk (HC15.out.trans hC)
  clear hC HC15 HSe
  go_wp2_with fail; refine (HN4.out _ HC16.out).mono ?_; rintro e w15 ⟨rfl, hC⟩; have HC17 := Asd.mk (HC16.out.trans hC)
  clear hC HC16 HN4
  go_wp2
  go_ret
  exact ⟨rfl, HC17.out⟩
end Go.Proofs.YtiijbecklkccfaaGreatDoor.I
