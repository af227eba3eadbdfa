/- Merged out of these texts: Put, Make, TabSet, Append. -/
import Derived.Test.YthojofeocjmglaaGreatDoorDk4
import Derived.StillTailTactics
import Derived.RegionTactic
import Derived.Deep.RegionHeld3
/- The program's put: the walk. -/
namespace Go.Proofs.YthojofeocjmglaaGreatDoor.I
open Go.RowKit Go.Proofs.YthojofeocjmglaaGreatDoor.B Go.Sort
set_option linter.unusedVariables false
/-- How much room there is, and that it is enough for what stands there. -/
structure Room (fs : FS) (by' nd : Nat) : Prop where
  b : by' ≤ 2147483647
  n : nd ≤ 65536
  used : usedF fs ≤ by'
  count : fs.length ≤ nd
/-- Is there no room for a node of so many bytes? -/
def fullF (fs : FS) (by' nd z : Nat) : Prop := nd ≤ fs.length ∨ by' < usedF fs + z
theorem kids_of {w : World} {L : List Nat} {t by' nd : Nat} {fs : FS} {A M : Pth → Nat} (h : TabAt w L t fs by' nd A M) {q : Pth} {y : Nd} (hq : fs.at q = some y) (hy : y.kind = 2) {n : Nm} (hn : fs.at (q ++ [n]) = none) : ∃ es clock K, w.heap[M q]? = some (.map es clock) ∧ MKids es clock K ∧ (∀ k, K.lookup k = (fs.at (q ++ [k])).map fun _ => (.pointer (some ⟨A (q ++ [k]), 0, none⟩))) ∧ K.lookup n = none := by
  obtain ⟨es, clock, K, h1, h2, h3⟩ := h.kids q y hq hy
  exact ⟨es, clock, K, h1, h2, h3, by rw [h3, hn]; rfl⟩
theorem look_push {K : List (Nm × Value)} {n : Nm} {v : Value} (hn : K.lookup n = none) (k : Nm) : (K ++ [(n, v)]).lookup k = if k = n then some v else K.lookup k := by
  induction K with
  | nil =>
    simp only [List.nil_append, List.lookup_cons, List.lookup_nil]
    by_cases h : k = n
    · subst h; simp
    · have : (k == n) = false := by simp [h]
      rw [this, if_neg h]
  | cons x K ih =>
    obtain ⟨a, b⟩ := x
    simp only [List.cons_append, List.lookup_cons] at hn ⊢
    by_cases h : n = a
    · subst h; simp at hn
    · have hna : (n == a) = false := by simp [h]
      rw [hna] at hn
      simp only at hn
      rw [ih hn]
      by_cases hk : k = a
      · subst hk
        have : k ≠ n := Ne.symm h
        simp [this]
      · have hka : (k == a) = false := by simp [hk]
        rw [hka]
set_option maxRecDepth 100000 in
set_option maxHeartbeats 16000000 in
theorem put_full (L : List Nat) (t : Nat) (fs : FS) (by' nd : Nat) (A M : Pth → Nat) (q : Pth) (n : Nm) (x : Nd) (c : Nat) (mv : Value) (w : World) (hT : TabAt w L t fs by' nd A M) (hr : Room fs by' nd) (hc : w.heap[c]? = some (.cells #[.int .i64 (x.kind : Int), .string x.text, mv] 133 (0, 0))) (hz : x.text.size ≤ 4194304) (hf : fullF fs by' nd x.text.size) :
    Calls Tryz.prog 101 #[(.pointer (some ⟨t, 0, none⟩)), .agg #[.pointer (some ⟨A q, 0, none⟩), .string (nb n), .pointer none], (.pointer (some ⟨c, 0, none⟩))] w fun e w' => e = .returned (.iface 88 (.int .i64 206)) ∧ Chg [] w w' := by
  have HC0 := Asd.mk (show Chg [] w (w.alloc (.cells #[.pointer (some ⟨A q, 0, none⟩), .string (nb n), .pointer none] 127)) from (Chg.refl _ _).alloc _)
  have hT0 := (hT.keep0 HC0.out).tab
  have hc0 := HC0.out.heap hc (by simp)
  have p1 := cell_of_heap hT0 1
  have p2 := cell_of_heap hT0 2
  have p3 := cell_of_heap hT0 3
  have p4 := cell_of_heap hT0 4
  have c1 := cell_of_heap hc0 1
  obtain ⟨h1, h2, h3, h4⟩ := hr
  unfold fullF at hf
  generalize usedF fs = us at *
  generalize fs.length = ct at *
  clear hT hc hT0 hc0
  by_cases hct : nd ≤ ct
  · have k1 : (nd : Int) ≤ (ct : Int) := by omega
    clear hf
    go_enter Tryz.func101, Tryz.ntmps101
    go_upto_region 1 with fail
    go_quiet (fail)
    go_wp2
    go_ret
    exact ⟨rfl, HC0.out.drewN nq⟩
  · have k1 : ¬ (nd : Int) ≤ (ct : Int) := by omega
    have k2 : (by' : Int) - (us : Int) < (x.text.size : Int) := by omega
    have k3 : (us : Int) ≤ (by' : Int) := by omega
    clear hf
    go_enter Tryz.func101, Tryz.ntmps101
    go_upto_region 1 with fail
    go_quiet (fail)
    go_wp2
    go_ret
    exact ⟨rfl, HC0.out.drewN nq⟩
set_option maxRecDepth 100000 in
set_option maxHeartbeats 16000000 in
theorem put_ok (L : List Nat) (t : Nat) (fs : FS) (by' nd : Nat) (A M : Pth → Nat) (q : Pth) (n : Nm) (x y : Nd) (c m : Nat) (w : World) (hT : TabAt w L t fs by' nd A M) (hg : FsOk fs) (hr : Room fs by' nd) (hq : fs.at q = some y) (hy : y.kind = 2) (hn : fs.at (q ++ [n]) = none)
    (hc : w.heap[c]? = some (.cells #[.int .i64 (x.kind : Int), .string x.text, if x.kind = 2 then .map (some m) else .map none] 133 (0, 0))) (hm : x.kind = 2 → w.heap[m]? = some (.map #[] 0)) (hcL : c ∉ L) (hmL : x.kind = 2 → m ∉ L) (hmw : m < w.heap.size) (hz : x.text.size ≤ 4194304) (hf : ¬ fullF fs by' nd x.text.size) :
    Calls Tryz.prog 101 #[(.pointer (some ⟨t, 0, none⟩)), .agg #[.pointer (some ⟨A q, 0, none⟩), .string (nb n), .pointer none], (.pointer (some ⟨c, 0, none⟩))] w fun e w' => e = .returned .nilIface ∧ Chg L w w' ∧ TabAt w' (c :: m :: L) t (fs ++ [(q ++ [n], x)]) by' nd (updP A (q ++ [n]) c) (updP M (q ++ [n]) m) := by
  obtain ⟨es, clock, K, hK1, hK2, hK3, hK4⟩ := kids_of hT hq hy hn
  have hqn := hT.node q y hq
  rw [if_pos hy] at hqn
  have hMt := hT.tab_ne_map hq hy
  have hAt := hT.ne_tab hq
  have hAM := hT.ne_map hq hq hy
  have htL := hT.tL
  obtain ⟨haL, hML⟩ := hT.aL q y hq
  replace hML := hML hy
  have hct : c ≠ t := fun e => hcL (e ▸ htL)
  have hcM : c ≠ M q := fun e => hcL (e ▸ hML)
  have hmt : x.kind = 2 → m ≠ t := fun hk e => hmL hk (e ▸ htL)
  have hmM : x.kind = 2 → m ≠ M q := fun hk e => hmL hk (e ▸ hML)
  have HC0 := Asd.mk (show Chg [] w (w.alloc (.cells #[.pointer (some ⟨A q, 0, none⟩), .string (nb n), .pointer none] 127)) from (Chg.refl _ _).alloc _)
  have hT0 := (hT.keep0 HC0.out).tab
  have hc0 := HC0.out.heap hc (by simp)
  have HM := Asd.mk hm
  have hq0 := HC0.out.heap hqn (by simp)
  have hK0 := HC0.out.heap hK1 (by simp)
  have hB0 := hp_new w (.cells #[.pointer (some ⟨A q, 0, none⟩), .string (nb n), .pointer none] 127)
  have hBL := hT.bl
  have p1 := cell_of_heap hT0 1
  have p2 := cell_of_heap hT0 2
  have p3 := cell_of_heap hT0 3
  have p4 := cell_of_heap hT0 4
  have c1 := cell_of_heap hc0 1
  obtain ⟨h1, h2, h3, h4⟩ := hr
  unfold fullF at hf
  have HFin := Asd.mk (fun w' => TabAt.put (w' := w') (c := c) (m := m) (x := x) hT hg hq hy hn)
  have HKK := Asd.mk hK2
  have HK3 := Asd.mk hK3
  have HK4 := Asd.mk hK4
  have HT0 := Asd.mk hT0
  have Hc0 := Asd.mk hc0
  have Hq0 := Asd.mk hq0
  have HK0 := Asd.mk hK0
  have HB0 := Asd.mk hB0
  obtain ⟨us, hus⟩ : ∃ k, usedF fs = k := ⟨_, rfl⟩
  obtain ⟨ct, hctn⟩ : ∃ k, fs.length = k := ⟨_, rfl⟩
  rw [hus] at h3 hf p3 HT0 HFin
  rw [hctn] at h4 hf p4 HT0 HFin
  clear hT hc hT0 hc0 hq0 hK0 hB0 hK1 hK2 hK3 hK4 hg hn hm hqn hus hctn
  have k1 : ¬ (nd : Int) ≤ (ct : Int) := by omega
  have k2 : ¬ (by' : Int) - (us : Int) < (x.text.size : Int) := by omega
  have k3 : (us : Int) ≤ (by' : Int) := by omega
  clear hf
  go_enter Tryz.func101, Tryz.ntmps101
  go_upto_region 1 with fail
  go_quiet (fail)
  go_upto_region 3 with fail
  refine wp_opaque2 (fun W hW => ?_)
  have HC1 := Asd.mk (show Chg [] w W by rw [hW]; exact HC0.out.drewN _)
  have mv : ∀ {i : Nat} {o : Obj}, ((w.alloc (.cells #[.pointer (some ⟨A q, 0, none⟩), .string (nb n), .pointer none] 127))).heap[i]? = some o → W.heap[i]? = some o := fun h => by rw [hW]; exact hp_drewN h _
  have HT1 := Asd.mk (mv HT0.out)
  have Hc1 := Asd.mk (mv Hc0.out)
  have Hq1 := Asd.mk (mv Hq0.out)
  have HK1 := Asd.mk (mv HK0.out)
  have HB1 := Asd.mk (mv HB0.out)
  have hBt : w.heap.size ≠ t := fun e => by have := hBL t htL; omega
  have hBM : w.heap.size ≠ M q := fun e => by have := hBL _ hML; omega
  have HBL := Asd.mk hBL
  obtain ⟨B, hB⟩ : ∃ B, w.heap.size = B := ⟨_, rfl⟩
  rw [hB] at HB1 hBt hBM ⊢
  have HBB := Asd.mk hB
  have p4 := cell_of_heap HT1.out 4
  have f4 := frozen_of_heap HT1.out 4
  clear mv hW p1 p2 p3 c1 HT0 Hc0 Hq0 HK0 HB0 HC0 hBL hB
  go_upto_region 4 with fail
  refine wp_opaque2 (fun W2 hW2 => ?_)
  have HC2 := Asd.mk (show Chg L w W2 by rw [hW2]; exact (HC1.out.mono (by simp)).setCell (fun _ => htL) _)
  have HT2 := Asd.mk (show W2.heap[t]? = some (.cells #[(.pointer (some ⟨A [], 0, none⟩)), .int .i64 (by' : Int), .int .i64 (nd : Int), .int .i64 (us : Int), .int .i64 ((ct : Int) + 1)] 118 (0, 0)) by rw [hW2]; exact hp_set HT1.out 4 _)
  have mv2 : ∀ {i : Nat} {o : Obj}, W.heap[i]? = some o → i ≠ t → W2.heap[i]? = some o := fun h hi => by rw [hW2]; exact hp_set_other h hi _ _
  have Hc2 := Asd.mk (mv2 Hc1.out hct)
  have Hq2 := Asd.mk (mv2 Hq1.out hAt)
  have HK2 := Asd.mk (mv2 HK1.out hMt)
  have HB2 := Asd.mk (mv2 HB1.out hBt)
  have HO2 := Asd.mk (show ∀ i, i < w.heap.size → i ≠ t → W2.heap[i]? = w.heap[i]? from fun i hi ht => by
    rw [hW2]
    exact (Below.heap_setCell W ⟨t, 4, none⟩ _ i ht).trans (HC1.out.block i hi (by simp)))
  have p3 := cell_of_heap HT2.out 3
  have f3 := frozen_of_heap HT2.out 3
  have c1 := cell_of_heap Hc2.out 1
  clear mv2 hW2 HC1 HT1 Hc1 Hq1 HK1 HB1 p4 f4
  go_still_tail 12, (by kernel_rfl)
  go_upto_region 5 with fail
  refine wp_opaque2 (fun W3 hW3 => ?_)
  have mv3 : ∀ {i : Nat} {o : Obj}, W2.heap[i]? = some o → i ≠ t → W3.heap[i]? = some o := fun h hi => by rw [hW3]; exact hp_drew (hp_set_other h hi _ _)
  have HC3 := Asd.mk (show Chg L w W3 by rw [hW3]; exact (HC2.out.setCell (fun _ => htL) _).drew)
  have HT3 := Asd.mk (show W3.heap[t]? = some (.cells #[(.pointer (some ⟨A [], 0, none⟩)), .int .i64 (by' : Int), .int .i64 (nd : Int), .int .i64 ((us : Int) + (x.text.size : Int)), .int .i64 ((ct : Int) + 1)] 118 (0, 0)) by rw [hW3]; exact hp_drew (hp_set HT2.out 3 _))
  have Hc3 := Asd.mk (mv3 Hc2.out hct)
  have Hq3 := Asd.mk (mv3 Hq2.out hAt)
  have HK3' := Asd.mk (mv3 HK2.out hMt)
  have HB3 := Asd.mk (mv3 HB2.out hBt)
  have HO3 := Asd.mk (show ∀ i, i < w.heap.size → i ≠ t → W3.heap[i]? = w.heap[i]? from fun i hi ht => by
    rw [hW3]
    exact (Below.heap_setCell W2 ⟨t, 3, none⟩ _ i ht).trans (HO2.out i hi ht))
  have b0 := cell_of_heap HB3.out 0
  have b1 := cell_of_heap HB3.out 1
  have q2 := cell_of_heap Hq3.out 2
  obtain ⟨hup, hMK⟩ := run_upd (P := Tryz.prog) Tryz.underlying131 Tryz.underlying9 (hp_drew HK3'.out) HKK.out (nb n) (.pointer (some ⟨c, 0, none⟩)) (by rw [list_nb]; exact HK4.out)
  rw [list_nb] at hMK
  have HMK := Asd.mk hMK
  clear mv3 hW3 HC2 HT2 Hc2 Hq2 HK2 HB2 HO2 p3 f3 c1 hMK
  go_still_tail 8, (by kernel_rfl)
  go_wp2
  go_ret
  have hCf : Chg L w (Go.ChangeMaps.setBlock W3.drew (M q) (.map (es.push ⟨.string (nb n), (.pointer (some ⟨c, 0, none⟩)), clock⟩) (clock + 1))) := (HC3.out.drew).setBlock (fun _ => hML) _
  have mv4 : ∀ {i : Nat} {o : Obj}, W3.heap[i]? = some o → i ≠ M q → (Go.ChangeMaps.setBlock W3.drew (M q) (.map (es.push ⟨.string (nb n), (.pointer (some ⟨c, 0, none⟩)), clock⟩) (clock + 1))).heap[i]? = some o := fun h hi => hp_setBlock_other (hp_drew h) hi
  refine ⟨rfl, hCf, HFin.out _ (by have := mv4 HT3.out (Ne.symm hMt); simpa using this) ⟨_, _, _, hp_setBlock (hp_drew HK3'.out), HMK.out, fun k => ?_⟩ (mv4 Hc3.out hcM) (fun hk => ?_) (fun i hi h1 h2 => ?_) hcL hmL (Nat.lt_of_lt_of_le hmw hCf.size) hCf.size⟩
  · rw [look_push HK4.out, HK3.out]
  · exact mv4 ((HO3.out m hmw (hmt hk)).trans (HM.out hk)) (hmM hk)
  · have hlt := HBL.out i hi
    show (W3.heap.setIfInBounds (M q) _)[i]? = _
    rw [Array.getElem?_setIfInBounds_ne (Ne.symm h2)]
    exact HO3.out i hlt h1
end Go.Proofs.YthojofeocjmglaaGreatDoor.I
/- The program's Make: the walk. -/
namespace Go.Proofs.YthojofeocjmglaaGreatDoor.I
open Go.RowKit Go.Proofs.YthojofeocjmglaaGreatDoor.B Go.Sort
set_option linter.unusedVariables false
def errV (n : Nat) : Value := if n = 0 then .nilIface else .iface 88 (.int .i64 (n : Int))
/-- What a call that changes a file system leaves. -/
def OpPost (w : World) (L : List Nat) (t by' nd : Nat) (R : Nat × FS) (e : Ending) (w' : World) : Prop :=
  e = .returned (errV R.1) ∧ Chg L w w' ∧ ∃ L' A' M', TabAt w' L' t R.2 by' nd A' M' ∧ ∀ i ∈ L', i ∈ L ∨ w.heap.size ≤ i
open Classical in
/-- Something new at a path. -/
noncomputable def putF (fs : FS) (by' nd : Nat) (p : Pth) (x : Nd) : Nat × FS := if fullF fs by' nd x.text.size then (206, fs) else (0, fs ++ [(p, x)])
/-- Make. -/
noncomputable def makeF (fs : FS) (by' nd : Nat) (s : ByteArray) : Nat × FS := match atE fs s with
  | .error n => (n, fs)
  | .ok p => if (fs.at p).isSome = true then (201, fs) else putF fs by' nd p ⟨2, ⟨#[]⟩⟩
theorem atE_pos {fs : FS} {s : ByteArray} {n : Nat} (h : atE fs s = .error n) : n ≠ 0 := by
  unfold atE at h
  split at h
  · rename_i m hm
    cases h
    unfold partsF at hm
    split at hm
    · cases hm; decide
    · split at hm
      · cases hm
      · split at hm
        · cases hm; decide
        · split at hm
          · cases hm; decide
          · cases hm
  · split at h
    · rename_i p hp m hm
      cases h
      have : ∀ (r d : Pth), wayFrom fs d r = some n → n ≠ 0 := by
        intro r
        induction r with
        | nil => intro d h; simp [wayFrom] at h
        | cons a r ih =>
          intro d h
          cases r with
          | nil => simp [wayFrom] at h
          | cons b r =>
            simp only [wayFrom] at h
            split at h
            · cases h; decide
            · split at h
              · cases h; decide
              · split at h
                · cases h; decide
                · exact ih _ h
      exact this _ _ hm
    · cases h
/-- A path to which the way is clear, at which nothing stands: its directory. -/
theorem at_parent {fs : FS} (hg : FsOk fs) {s : ByteArray} {p : Pth} (h : atE fs s = .ok p) (hn : fs.at p = none) : ∃ q n y, p = q ++ [n] ∧ fs.at q = some y ∧ y.kind = 2 := by
  unfold atE at h
  split at h
  · cases h
  · rename_i p2 hp
    split at h
    · cases h
    · rename_i hw
      cases h
      have hne : p ≠ [] := fun e => by rw [e, at_root] at hn; cases hn
      obtain ⟨y, hy, hk⟩ := way_dir hg hw ⟨_, at_root fs, rfl⟩ hne
      exact ⟨p.dropLast, p.getLast hne, y, (List.dropLast_concat_getLast hne).symm, by simpa using hy, hk⟩
theorem put_dir (L : List Nat) (t : Nat) (fs : FS) (by' nd : Nat) (A M : Pth → Nat) (q : Pth) (n : Nm) (y : Nd) (X : World) (hT : TabAt X L t fs by' nd A M) (hg : FsOk fs) (hr : Room fs by' nd) (hq : fs.at q = some y) (hy : y.kind = 2) (hn : fs.at (q ++ [n]) = none) :
    Calls Tryz.prog 101 #[(.pointer (some ⟨t, 0, none⟩)), .agg #[.pointer (some ⟨A q, 0, none⟩), .string (nb n), .pointer none], (.pointer (some ⟨X.heap.size + 1, 0, none⟩))] ((X.alloc (.map #[] 0)).alloc (.cells #[.int .i64 2, .string ⟨#[]⟩, .map (some X.heap.size)] 133)) fun e w' => OpPost X L t by' nd (putF fs by' nd (q ++ [n]) ⟨2, ⟨#[]⟩⟩) e w' := by
  have hC : Chg [] X ((X.alloc (.map #[] 0)).alloc (.cells #[.int .i64 2, .string ⟨#[]⟩, .map (some X.heap.size)] 133)) := ((Chg.refl _ _).alloc _).alloc _
  have hnew : ((X.alloc (.map #[] 0)).alloc (.cells #[.int .i64 2, .string ⟨#[]⟩, .map (some X.heap.size)] 133)).heap[X.heap.size + 1]? = some (.cells #[.int .i64 2, .string ⟨#[]⟩, .map (some X.heap.size)] 133 (0, 0)) := by
    have := hp_new (X.alloc (.map #[] 0)) (.cells #[.int .i64 2, .string ⟨#[]⟩, .map (some X.heap.size)] 133)
    rw [World.size_alloc] at this
    exact this
  have hmap := hp_alloc (hp_new X (.map #[] 0)) (.cells #[.int .i64 2, .string ⟨#[]⟩, .map (some X.heap.size)] 133)
  have hbl := hT.bl
  by_cases hf : fullF fs by' nd (⟨2, ⟨#[]⟩⟩ : Nd).text.size
  · refine (put_full L t fs by' nd A M q n ⟨2, ⟨#[]⟩⟩ (X.heap.size + 1) _ _ (hT.keep0 hC) hr hnew (by show 0 ≤ 4194304; omega) hf).mono ?_
    rintro e w' ⟨rfl, hC2⟩
    have hR : putF fs by' nd (q ++ [n]) ⟨2, ⟨#[]⟩⟩ = (206, fs) := by unfold putF; rw [if_pos hf]
    rw [hR]
    exact ⟨rfl, (hC.trans hC2).mono (by simp), L, A, M, hT.keep0 (hC.trans hC2), fun i hi => .inl hi⟩
  · refine (put_ok L t fs by' nd A M q n ⟨2, ⟨#[]⟩⟩ y (X.heap.size + 1) X.heap.size _ (hT.keep0 hC) hg hr hq hy hn hnew (fun _ => hmap) (fun h => by have := hbl _ h; omega) (fun _ h => by have := hbl _ h; omega) (by simp; omega) (by show 0 ≤ 4194304; omega) hf).mono ?_
    rintro e w' ⟨rfl, hC2, hT2⟩
    have hR : putF fs by' nd (q ++ [n]) ⟨2, ⟨#[]⟩⟩ = (0, fs ++ [(q ++ [n], ⟨2, ⟨#[]⟩⟩)]) := by unfold putF; rw [if_neg hf]
    rw [hR]
    exact ⟨rfl, (hC.mono (by simp)).trans hC2, _, _, _, hT2, fun i hi => by
      simp only [List.mem_cons] at hi
      rcases hi with rfl | rfl | hi
      · exact .inr (by omega)
      · exact .inr (Nat.le_refl _)
      · exact .inl hi⟩
set_option maxRecDepth 100000 in
set_option maxHeartbeats 16000000 in
theorem make_calls (L : List Nat) (t : Nat) (fs : FS) (by' nd : Nat) (A M : Pth → Nat) (s : ByteArray) (w : World) (hT : TabAt w L t fs by' nd A M) (hg : FsOk fs) (hr : Room fs by' nd) (hm : MaxLenAt w) (hs : s.size ≤ 4294967280) :
    Calls Tryz.prog 70 #[(.pointer (some ⟨t, 0, none⟩)), .string s] w fun e w' => OpPost w L t by' nd (makeF fs by' nd s) e w' := by
  have HP := Asd.mk (at_calls L t fs by' nd A M s w hT hg hm hs)
  have HT := Asd.mk hT
  have hid : ∀ i ∈ L, i ∈ L ∨ w.heap.size ≤ i := fun i hi => .inl hi
  obtain ⟨R, hR⟩ : ∃ R, atE fs s = R := ⟨_, rfl⟩
  rw [hR] at HP
  cases R with
  | error n =>
    have HA := Asd.mk (show makeF fs by' nd s = (n, fs) by unfold makeF; rw [hR])
    have HN := Asd.mk (atE_pos hR)
    clear hR hT hg hr hm
    go_enter Tryz.func70, Tryz.ntmps70
    go_wp2_with fail
    refine HP.out.mono ?_
    rintro e w1 ⟨rfl, hC1⟩
    have HC1 := Asd.mk hC1
    clear hC1
    go_wp2
    go_ret
    exact ⟨by rw [HA.out]; simp only [errV]; rw [if_neg HN.out]; rfl, (HC1.out.mono (by simp)).alloc _, L, A, M, by rw [HA.out]; exact HT.out.keep0 (HC1.out.alloc _), hid⟩
  | ok p =>
    cases hp : fs.at p with
    | some x =>
      have HA := Asd.mk (show makeF fs by' nd s = (201, fs) by unfold makeF; rw [hR]; simp only; rw [hp]; rfl)
      have HK := Asd.mk (show kidA fs A p = some ⟨A p, 0, none⟩ by unfold kidA; rw [hp]; rfl)
      clear hR hT hg hr hm hp
      go_enter Tryz.func70, Tryz.ntmps70
      go_wp2_with fail
      refine HP.out.mono ?_
      rintro e w1 ⟨hPo, hC1⟩
      have hPo2 : e = .returned (.tuple #[.agg #[.pointer (dirA A p), .string (lastS p), .pointer (some ⟨A p, 0, none⟩)], .nilIface]) := by rw [← HK.out]; exact hPo
      subst hPo2
      have HC1 := Asd.mk hC1
      clear hC1 hPo
      go_wp2
      go_ret
      exact ⟨by rw [HA.out]; rfl, (HC1.out.mono (by simp)).alloc _, L, A, M, by rw [HA.out]; exact HT.out.keep0 (HC1.out.alloc _), hid⟩
    | none =>
      obtain ⟨q, n, y, rfl, hq, hy⟩ := at_parent hg hR hp
      have HA := Asd.mk (show makeF fs by' nd s = putF fs by' nd (q ++ [n]) ⟨2, ⟨#[]⟩⟩ by unfold makeF; rw [hR]; simp only; rw [hp]; rfl)
      have HK := Asd.mk (show dirA A (q ++ [n]) = some ⟨A q, 0, none⟩ ∧ lastS (q ++ [n]) = nb n ∧ kidA fs A (q ++ [n]) = none from ⟨by unfold dirA; rw [if_neg (by simp)]; simp, by unfold lastS; rw [if_neg (by simp)]; simp, by unfold kidA; rw [hp]; rfl⟩)
      have HBL := Asd.mk hT.bl
      have HG := Asd.mk hg
      have HRm := Asd.mk hr
      have HPN := Asd.mk hp
      have HQ := Asd.mk hq
      clear hR hT hg hr hm hp hq
      go_enter Tryz.func70, Tryz.ntmps70
      go_wp2_with fail
      refine HP.out.mono ?_
      rintro e w1 ⟨hPo, hC1⟩
      have hPo2 : e = .returned (.tuple #[.agg #[.pointer (some ⟨A q, 0, none⟩), .string (nb n), .pointer none], .nilIface]) := by rw [← HK.out.1, ← HK.out.2.1, ← HK.out.2.2]; exact hPo
      subst hPo2
      have HC1 := Asd.mk hC1
      clear hC1 hPo
      go_upto_region 6 with fail
      refine wp_opaque2 (fun W hW => ?_)
      have HCW := Asd.mk (show Chg [] w W by rw [hW]; exact HC1.out.alloc _)
      have HB := Asd.mk (show W.heap[w1.heap.size]? = some (.cells #[.pointer (some ⟨A q, 0, none⟩), .string (nb n), .pointer none] 127 (0, 0)) by rw [hW]; exact hp_new _ _)
      have HTW := Asd.mk (HT.out.keep0 HCW.out)
      have HPut := Asd.mk (fun (X : World) (hX : Chg [] W X) => put_dir L t fs by' nd A M q n y X (HTW.out.keep0 hX) HG.out HRm.out HQ.out hy HPN.out)
      obtain ⟨B, hB⟩ : ∃ B, w1.heap.size = B := ⟨_, rfl⟩
      rw [hB] at HB ⊢
      have b0 := cell_of_heap HB.out 0
      have b1 := cell_of_heap HB.out 1
      have b2 := cell_of_heap HB.out 2
      have hBw : w.heap.size ≤ B := by rw [← hB]; exact HC1.out.size
      clear hW HC1 HP hB
      have hS : ∀ w' : World, w'.heap[B]? = some (.cells #[.pointer (some ⟨A q, 0, none⟩), .string (nb n), .pointer none] 127 (0, 0)) → w'.cell? ⟨B, 0, none⟩ = some (.pointer (some ⟨A q, 0, none⟩)) ∧ w'.cell? ⟨B, 1, none⟩ = some (.string (nb n)) ∧ w'.cell? ⟨B, 2, none⟩ = some (.pointer none) := fun w' h => ⟨cell_of_heap h 0, cell_of_heap h 1, cell_of_heap h 2⟩
      have hS0 := hS _ (hp_drew HB.out)
      have hS1 := hS _ (hp_alloc (hp_alloc (hp_drew HB.out) (.map #[] 0)) (.cells #[.int .i64 2, .string ⟨#[]⟩, .map (some W.heap.size)] 133))
      have hBL : B ∉ L := fun h => by have := HBL.out _ h; omega
      have hS2 : ∀ w' : World, Chg L W.drew w' → w'.cell? ⟨B, 0, none⟩ = some (.pointer (some ⟨A q, 0, none⟩)) ∧ w'.cell? ⟨B, 1, none⟩ = some (.string (nb n)) ∧ w'.cell? ⟨B, 2, none⟩ = some (.pointer none) := fun w' hc => hS _ (hc.heap (hp_drew HB.out) hBL)
      have HD := Asd.mk ((Chg.refl [] W).drew)
      clear b0 b1 b2
      go_region_held3 (fun (w' : World) => w'.cell? ⟨B, 0, none⟩ = some (.pointer (some ⟨A q, 0, none⟩)) ∧ w'.cell? ⟨B, 1, none⟩ = some (.string (nb n)) ∧ w'.cell? ⟨B, 2, none⟩ = some (.pointer none)) (first | exact hS0 | exact hS1 | exact hS2 _ (by assumption)) (first | (go_at_call 60; refine (directory_calls _).mono ?_; rintro e w2 ⟨rfl, rfl⟩) | (go_at_call 101; refine (HPut.out _ HD.out).mono ?_; rintro e w3 ⟨rfl, hO1, hO2⟩))
      all_goals
        obtain ⟨L', A', M', hT', hL'⟩ := hO2
        have HTF := Asd.mk hT'
        have HLF := Asd.mk hL'
        have HOF := Asd.mk hO1
        clear hT' hL' hO1
        go_wp2
        go_ret
        exact ⟨by rw [HA.out]; rfl, ((HCW.out.drew).mono (by simp)).trans HOF.out, L', A', M', by rw [HA.out]; exact HTF.out, fun i hi => (HLF.out i hi).imp id (fun h => Nat.le_trans HCW.out.size h)⟩
end Go.Proofs.YthojofeocjmglaaGreatDoor.I
/- A node's bytes turned: what the file system is then, in memory. -/
namespace Go.Proofs.YthojofeocjmglaaGreatDoor.I
open Go.RowKit Go.Proofs.YthojofeocjmglaaGreatDoor.B Go.Sort
set_option linter.unusedVariables false
def setF (fs : FS) (p : Pth) (x : Nd) : FS := fs.map fun y => if y.1 = p then (p, x) else y
theorem lookup_set {p : Pth} {x : Nd} : ∀ {fs : FS} (r : Pth), (setF fs p x).lookup r = if r = p then (fs.lookup p).map (fun _ => x) else fs.lookup r
  | [], r => by simp [setF]
  | (q, y) :: fs, r => by
    have ih := lookup_set (p := p) (x := x) (fs := fs) r
    unfold setF at ih ⊢
    rw [List.map_cons]
    by_cases hq : q = p
    · subst hq
      rw [if_pos rfl, List.lookup_cons]
      by_cases hr : r = q
      · subst hr
        simp
      · have : (r == q) = false := by simp [hr]
        rw [this, if_neg hr]
        simp only
        rw [ih, if_neg hr, List.lookup_cons, this]
    · rw [if_neg hq, List.lookup_cons]
      by_cases hr : r = q
      · subst hr
        rw [if_neg hq]
        simp
      · have : (r == q) = false := by simp [hr]
        rw [this]
        simp only
        rw [ih]
        by_cases hrp : r = p
        · subst hrp
          rw [if_pos rfl, if_pos rfl, List.lookup_cons, this]
        · rw [if_neg hrp, if_neg hrp, List.lookup_cons, this]
theorem at_set {fs : FS} {p : Pth} {y : Nd} (x : Nd) (hp : p ≠ []) (hy : fs.at p = some y) (r : Pth) : (setF fs p x).at r = if r = p then some x else fs.at r := by
  unfold FS.at
  rw [at_ne fs hp] at hy
  by_cases hr : r = []
  · rw [if_pos hr, if_pos hr, if_neg (by rw [hr]; exact Ne.symm hp)]
  · rw [if_neg hr, if_neg hr, lookup_set, hy]
    rfl
theorem len_set (fs : FS) (p : Pth) (x : Nd) : (setF fs p x).length = fs.length := by unfold setF; simp
theorem keys_set (fs : FS) (p : Pth) (x : Nd) : (setF fs p x).map (·.1) = fs.map (·.1) := by
  unfold setF
  rw [List.map_map]
  apply List.map_congr_left
  intro y _
  simp only [Function.comp]
  split
  · rename_i h; exact h.symm
  · rfl
theorem set_none {p : Pth} {x : Nd} : ∀ {fs : FS}, p ∉ fs.map (·.1) → setF fs p x = fs
  | [], _ => rfl
  | (q, y) :: fs, h => by
    simp only [List.map_cons, List.mem_cons, not_or] at h
    unfold setF
    rw [List.map_cons, if_neg (fun e => h.1 e.symm)]
    have := set_none (x := x) h.2
    unfold setF at this
    rw [this]
theorem used_set {p : Pth} {x y : Nd} : ∀ {fs : FS}, (fs.map (·.1)).Nodup → fs.lookup p = some y → usedF (setF fs p x) + y.text.size = usedF fs + x.text.size
  | [], _, h => by simp at h
  | (q, z) :: fs, hd, h => by
    simp only [List.map_cons, List.nodup_cons] at hd
    have e : ∀ (a : Pth × Nd) (l : FS), usedF (a :: l) = a.2.text.size + usedF l := fun a l => by unfold usedF; simp
    rw [List.lookup_cons] at h
    by_cases hq : p = q
    · subst hq
      simp only [beq_self_eq_true, Option.some.injEq] at h
      subst h
      have hs : setF ((p, z) :: fs) p x = (p, x) :: fs := by
        have := set_none (x := x) hd.1
        unfold setF at this ⊢
        rw [List.map_cons, if_pos rfl, this]
      rw [hs, e, e]
      simp only
      omega
    · have hb : (p == q) = false := by simp [hq]
      rw [hb] at h
      have ih := used_set (x := x) hd.2 h
      have hs : setF ((q, z) :: fs) p x = (q, z) :: setF fs p x := by
        unfold setF
        rw [List.map_cons, if_neg (fun e => hq e.symm)]
      rw [hs, e, e]
      omega
theorem TabAt.set {w w' : World} {L : List Nat} {t by' nd : Nat} {fs : FS} {A M : Pth → Nat} (h : TabAt w L t fs by' nd A M) {p : Pth} {x y : Nd} (hp : p ≠ []) (hy : fs.at p = some y) (hyk : y.kind ≠ 2) (hxk : x.kind ≠ 2)
    (ht : w'.heap[t]? = some (.cells #[(.pointer (some ⟨A [], 0, none⟩)), .int .i64 (by' : Int), .int .i64 (nd : Int), .int .i64 (usedF (setF fs p x) : Int), .int .i64 (fs.length : Int)] 118 (0, 0)))
    (hc : w'.heap[A p]? = some (.cells #[.int .i64 (x.kind : Int), .string x.text, .map none] 133 (0, 0)))
    (hoth : ∀ i ∈ L, i ≠ t → i ≠ A p → w'.heap[i]? = w.heap[i]?) (hsz : w.heap.size ≤ w'.heap.size) : TabAt w' L t (setF fs p x) by' nd A M := by
  have hat := at_set x hp hy
  have hold : ∀ r z, r ≠ p → (setF fs p x).at r = some z → fs.at r = some z := fun r z hr hz => by
    rw [hat r, if_neg hr] at hz
    exact hz
  have hsome : ∀ r z, (setF fs p x).at r = some z → ∃ z', fs.at r = some z' := fun r z hz => by
    by_cases hr : r = p
    · subst hr; exact ⟨y, hy⟩
    · exact ⟨z, hold r z hr hz⟩
  have hk2 : ∀ r z, (setF fs p x).at r = some z → z.kind = 2 → r ≠ p ∧ fs.at r = some z := fun r z hz hk => by
    by_cases hr : r = p
    · subst hr
      rw [hat, if_pos rfl] at hz
      cases hz
      exact absurd hk hxk
    · exact ⟨hr, hold r z hr hz⟩
  refine ⟨by rw [len_set]; exact ht, ?_, ?_, h.tL, fun i hi => Nat.lt_of_lt_of_le (h.bl i hi) hsz, ?_, ?_, ?_⟩
  · intro r z hz
    by_cases hr : r = p
    · subst hr
      rw [hat, if_pos rfl] at hz
      cases hz
      rw [if_neg hxk]
      exact hc
    · have hz2 := hold r z hr hz
      rw [hoth _ (h.aL r z hz2).1 (h.ne_tab hz2) (fun e => hr (h.injA r p z y hz2 hy e))]
      exact h.node r z hz2
  · intro r z hz hk
    obtain ⟨hr, hz2⟩ := hk2 r z hz hk
    obtain ⟨es, clock, K, h1, h2, h3⟩ := h.kids r z hz2 hk
    refine ⟨es, clock, K, ?_, h2, fun k => ?_⟩
    · rw [hoth _ ((h.aL r z hz2).2 hk) (h.tab_ne_map hz2 hk) (Ne.symm (h.ne_map hy hz2 hk))]
      exact h1
    · rw [h3 k, hat]
      by_cases e : r ++ [k] = p
      · rw [if_pos e, e, hy]
        rfl
      · rw [if_neg e]
  · intro r z hz
    by_cases hr : r = p
    · subst hr
      rw [hat, if_pos rfl] at hz
      cases hz
      exact ⟨(h.aL r y hy).1, fun hk => absurd hk hxk⟩
    · exact h.aL r z (hold r z hr hz)
  · intro r1 r2 z1 z2 h1 h2 he
    obtain ⟨a, ha⟩ := hsome r1 z1 h1
    obtain ⟨b, hb⟩ := hsome r2 z2 h2
    exact h.injA r1 r2 a b ha hb he
  · intro r1 r2 z1 z2 h1 h2 k1 k2 he
    exact h.injM r1 r2 z1 z2 (hk2 r1 z1 h1 k1).2 (hk2 r2 z2 h2 k2).2 k1 k2 he
end Go.Proofs.YthojofeocjmglaaGreatDoor.I
/- The program's Append: the walk. -/
namespace Go.Proofs.YthojofeocjmglaaGreatDoor.I
open Go.RowKit Go.Proofs.YthojofeocjmglaaGreatDoor.B Go.Sort
set_option linter.unusedVariables false
/-- Append. -/
def appendF (fs : FS) (by' : Nat) (s text : ByteArray) : Nat × FS := match thereE fs s with
  | .error n => (n, fs)
  | .ok p => match fs.at p with
    | none => (0, fs)
    | some x => if x.kind = 2 then (202, fs) else if x.kind = 3 then (204, fs) else if 4194304 < x.text.size + text.size then (2, fs) else if by' < usedF fs + text.size then (206, fs) else (0, setF fs p ⟨1, x.text ++ text⟩)
theorem thereE_pos {fs : FS} {s : ByteArray} {n : Nat} (h : thereE fs s = .error n) : n ≠ 0 := by
  unfold thereE at h
  split at h
  · rename_i m hm
    cases h
    exact atE_pos hm
  · split at h
    · cases h
    · cases h; decide
theorem thereE_ok {fs : FS} {s : ByteArray} {p : Pth} (h : thereE fs s = .ok p) : ∃ x, fs.at p = some x := by
  unfold thereE at h
  split at h
  · cases h
  · split at h
    · rename_i hs
      cases h
      exact Option.isSome_iff_exists.1 hs
    · cases h
set_option maxRecDepth 100000 in
set_option maxHeartbeats 16000000 in
theorem append_calls (L : List Nat) (t : Nat) (fs : FS) (by' nd : Nat) (A M : Pth → Nat) (s text : ByteArray) (w : World) (hT : TabAt w L t fs by' nd A M) (hg : FsOk fs) (hr : Room fs by' nd) (hm : MaxLenAt w) (hs : s.size ≤ 4294967280) (hz : text.size ≤ 4294967280) :
    Calls Tryz.prog 67 #[(.pointer (some ⟨t, 0, none⟩)), .string s, .string text] w fun e w' => OpPost w L t by' nd (appendF fs by' s text) e w' := by
  have HP := Asd.mk (there_calls L t fs by' nd A M s w hT hg hm hs)
  have HT := Asd.mk hT
  have hid : ∀ i ∈ L, i ∈ L ∨ w.heap.size ≤ i := fun i hi => .inl hi
  obtain ⟨R, hR⟩ : ∃ R, thereE fs s = R := ⟨_, rfl⟩
  rw [hR] at HP
  cases R with
  | error n =>
    have HA := Asd.mk (show appendF fs by' s text = (n, fs) by unfold appendF; rw [hR])
    have HN := Asd.mk (thereE_pos hR)
    clear hR hT hg hr hm
    (go_enter Tryz.func67, Tryz.ntmps67)
    go_wp2_with fail
    refine HP.out.mono ?_
    rintro e w1 ⟨⟨d, l, k, rfl⟩, hC1⟩
    have HC1 := Asd.mk hC1
    clear hC1
    go_wp2
    go_ret
    exact ⟨by rw [HA.out]; simp only [errV]; rw [if_neg HN.out]; rfl, (HC1.out.mono (by simp)).alloc _, L, A, M, by rw [HA.out]; exact HT.out.keep0 (HC1.out.alloc _), hid⟩
  | ok p =>
    obtain ⟨x, hx⟩ := thereE_ok hR
    have hAE : appendF fs by' s text = if x.kind = 2 then (202, fs) else if x.kind = 3 then (204, fs) else if 4194304 < x.text.size + text.size then (2, fs) else if by' < usedF fs + text.size then (206, fs) else (0, setF fs p ⟨1, x.text ++ text⟩) := by unfold appendF; rw [hR]; simp only; rw [hx]
    have hkk := hg.kind p x hx
    have hsm := hg.small p x hx
    have hnd := hg.nodup
    have hfile := noFile_calls (A p) x
    clear hR hm hg
    (go_enter Tryz.func67, Tryz.ntmps67)
    go_wp2_with fail
    refine HP.out.mono ?_
    rintro e w1 ⟨hPo, hC1⟩
    have hPo2 : e = .returned (.tuple #[.agg #[.pointer (dirA A p), .string (lastS p), .pointer (some ⟨A p, 0, none⟩)], .nilIface]) := hPo
    subst hPo2
    obtain ⟨dp, hdp⟩ : ∃ d, dirA A p = d := ⟨_, rfl⟩
    obtain ⟨ls, hls⟩ : ∃ d, lastS p = d := ⟨_, rfl⟩
    rw [hdp, hls]
    have HC1 := Asd.mk hC1
    clear hC1 hPo HP hdp hls
    go_upto_region 4 with fail
    refine wp_opaque2 (fun W hW => ?_)
    have HCW := Asd.mk (show Chg [] w W by rw [hW]; exact HC1.out.alloc _)
    have HB := Asd.mk (show W.heap[w1.heap.size]? = some (.cells #[.pointer dp, .string ls, .pointer (some ⟨A p, 0, none⟩)] 127 (0, 0)) by rw [hW]; exact hp_new _ _)
    have hTW := hT.keep0 HCW.out
    obtain ⟨B, hB⟩ : ∃ B, w1.heap.size = B := ⟨_, rfl⟩
    rw [hB] at HB ⊢
    have b2 := cell_of_heap HB.out 2
    clear hW HC1 hB
    have hno := hTW.node p x hx
    have hcl := hfile _ W hno hkk
    have c1 := cell_of_heap hno 1
    have q1 := cell_of_heap hTW.tab 1
    have q3 := cell_of_heap hTW.tab 3
    obtain ⟨r1, r2, r3, r4⟩ := hr
    have HTW := Asd.mk hTW
    have HNo := Asd.mk hno
    clear hfile hno hTW hT
    rcases hkk with hk | hk | hk
    · rw [hk] at hcl
      have HCl := Asd.mk hcl
      rw [if_neg (by omega), if_neg (by omega)] at hAE
      clear hcl
      by_cases hlg : 4194304 < x.text.size + text.size
      · rw [if_pos hlg] at hAE
        have HA := Asd.mk hAE
        have k1 : (4194304 : Int) - (x.text.size : Int) < (text.size : Int) := by omega
        clear hAE hk hlg
        go_wp2_with fail
        refine HCl.out.mono ?_
        rintro e w2 ⟨rfl, rfl⟩
        rw [show noFileV 1 = Value.nilIface from rfl]
        go_wp2
        go_ret
        exact ⟨by rw [HA.out]; rfl, HCW.out.mono (by simp), L, A, M, by rw [HA.out]; exact HTW.out, hid⟩
      · rw [if_neg hlg] at hAE
        have k1 : ¬ (4194304 : Int) - (x.text.size : Int) < (text.size : Int) := by omega
        obtain ⟨us, hus⟩ : ∃ k, usedF fs = k := ⟨_, rfl⟩
        rw [hus] at r3 hAE q3
        have k3 : (us : Int) ≤ (by' : Int) := by omega
        by_cases hqt : by' < us + text.size
        · rw [if_pos hqt] at hAE
          have HA := Asd.mk hAE
          have k2 : (by' : Int) - (us : Int) < (text.size : Int) := by omega
          clear hAE hk hlg hqt
          go_wp2_with fail
          refine HCl.out.mono ?_
          rintro e w2 ⟨rfl, rfl⟩
          rw [show noFileV 1 = Value.nilIface from rfl]
          go_upto_region 9 with fail
          go_quiet (fail)
          go_wp2
          go_ret
          exact ⟨by rw [HA.out]; rfl, (HCW.out.drewN nq).mono (by simp), L, A, M, by rw [HA.out]; exact HTW.out.keep0 ((Chg.refl _ _).drewN nq), hid⟩
        · rw [if_neg hqt] at hAE
          have HA := Asd.mk hAE
          have k2 : ¬ (by' : Int) - (us : Int) < (text.size : Int) := by omega
          have hpne : p ≠ [] := fun e => by rw [e, at_root] at hx; cases hx; cases hk
          have hus2 : usedF (setF fs p ⟨1, x.text ++ text⟩) = us + text.size := by
            have := used_set (x := ⟨1, x.text ++ text⟩) hnd (by rw [← at_ne fs hpne]; exact hx)
            simp only [ByteArray.size_append] at this
            omega
          have HUS := Asd.mk hus2
          have hno := HNo.out
          rw [if_neg (by omega), hk] at hno
          have HNo2 := Asd.mk hno
          have hAt := HTW.out.ne_tab hx
          have htL := HTW.out.tL
          have haL := (HTW.out.aL p x hx).1
          have HXK := Asd.mk (show x.kind ≠ 2 by omega)
          have HX := Asd.mk hx
          have HUs := Asd.mk hus
          clear hAE hk hlg hqt hus2 hno hx hus hnd HNo
          go_wp2_with fail
          refine HCl.out.mono ?_
          rintro e w2 ⟨rfl, hw2⟩
          subst hw2
          rw [show noFileV 1 = Value.nilIface from rfl]
          go_upto_region 9 with fail
          go_quiet (fail)
          go_upto_region 11 with fail
          refine wp_opaque2 (fun W1 hW1 => ?_)
          have HC1 := Asd.mk (show Chg [] w W1 by rw [hW1]; exact HCW.out.drewN _)
          have HT1 := Asd.mk (show TabAt W1 L t fs by' nd A M by rw [hW1]; exact HTW.out.keep0 ((Chg.refl _ _).drewN _))
          have HB1 := Asd.mk (show W1.heap[B]? = some (.cells #[.pointer dp, .string ls, .pointer (some ⟨A p, 0, none⟩)] 127 (0, 0)) by rw [hW1]; exact hp_drewN HB.out _)
          have HN1 := Asd.mk (show W1.heap[A p]? = some (.cells #[.int .i64 ((1 : Nat) : Int), .string x.text, .map none] 133 (0, 0)) by rw [hW1]; exact hp_drewN HNo2.out _)
          have hTt := HT1.out.tab
          rw [HUs.out] at hTt
          have HTt := Asd.mk hTt
          have q3 := cell_of_heap hTt 3
          have f3 := frozen_of_heap hTt 3
          have hBt : B ≠ t := fun e => by
            have h1 := HB1.out
            rw [e, hTt] at h1
            simp only [Option.some.injEq, Obj.cells.injEq] at h1
            exact absurd h1.2.1 (by decide)
          clear hW1 HCW HTW HNo2 HB b2 c1 q1 hTt
          go_upto_region 12 with fail
          refine wp_opaque2 (fun W2 hW2 => ?_)
          have HC2 := Asd.mk (show Chg L w W2 by rw [hW2]; exact (HC1.out.mono (by simp)).setCell (fun _ => htL) _)
          have HT2 := Asd.mk (show W2.heap[t]? = some (.cells #[(.pointer (some ⟨A [], 0, none⟩)), .int .i64 (by' : Int), .int .i64 (nd : Int), .int .i64 ((us : Int) + (text.size : Int)), .int .i64 (fs.length : Int)] 118 (0, 0)) by rw [hW2]; exact hp_set HTt.out 3 _)
          have HN2 := Asd.mk (show W2.heap[A p]? = some (.cells #[.int .i64 ((1 : Nat) : Int), .string x.text, .map none] 133 (0, 0)) by rw [hW2]; exact hp_set_other HN1.out hAt _ _)
          have HB2 := Asd.mk (show W2.heap[B]? = some (.cells #[.pointer dp, .string ls, .pointer (some ⟨A p, 0, none⟩)] 127 (0, 0)) by rw [hW2]; exact hp_set_other HB1.out hBt _ _)
          have HO2 := Asd.mk (show ∀ i, i ≠ t → W2.heap[i]? = W1.heap[i]? from fun i ht => by rw [hW2]; exact Below.heap_setCell W1 ⟨t, 3, none⟩ _ i ht)
          have HZ2 := Asd.mk (show W2.heap.size = W1.heap.size by rw [hW2]; simp [World.setCell])
          have b2 := cell_of_heap HB2.out 2
          have c1 := cell_of_heap HN2.out 1
          have f1 := frozen_of_heap HN2.out 1
          clear hW2 HC1 HTt q3 f3 HB1
          go_wp2
          go_ret
          have hsz : (W2.setCell ⟨A p, 1, none⟩ (.string (x.text ++ text))).heap.size = W2.heap.size := by simp [World.setCell]
          refine ⟨by rw [HA.out]; rfl, HC2.out.setCell (fun _ => haL) _, L, A, M, ?_, hid⟩
          rw [HA.out]
          refine HT1.out.set hpne HX.out HXK.out (by simp) ?_ (hp_set HN2.out 1 _) (fun i hi h1 h2 => ?_) (by rw [hsz, HZ2.out]; exact Nat.le_refl _)
          · rw [HUS.out]
            have := hp_set_other HT2.out (Ne.symm hAt) 1 (.string (x.text ++ text))
            rw [this]
            simp
          · exact (Below.heap_setCell W2 ⟨A p, 1, none⟩ _ i h2).trans (HO2.out i h1)
    · rw [hk] at hcl
      have HCl := Asd.mk hcl
      have HA := Asd.mk (show appendF fs by' s text = (202, fs) by rw [hAE, if_pos hk])
      clear hcl hAE hk
      go_wp2_with fail
      refine HCl.out.mono ?_
      rintro e w2 ⟨rfl, rfl⟩
      rw [show noFileV 2 = Value.iface 88 (.int .i64 202) from rfl]
      go_wp2
      go_ret
      exact ⟨by rw [HA.out]; rfl, HCW.out.mono (by simp), L, A, M, by rw [HA.out]; exact HTW.out, hid⟩
    · rw [hk] at hcl
      have HCl := Asd.mk hcl
      have HA := Asd.mk (show appendF fs by' s text = (204, fs) by rw [hAE, if_neg (by omega), if_pos hk])
      clear hcl hAE hk
      go_wp2_with fail
      refine HCl.out.mono ?_
      rintro e w2 ⟨rfl, rfl⟩
      rw [show noFileV 3 = Value.iface 88 (.int .i64 204) from rfl]
      go_wp2
      go_ret
      exact ⟨by rw [HA.out]; rfl, HCW.out.mono (by simp), L, A, M, by rw [HA.out]; exact HTW.out, hid⟩
end Go.Proofs.YthojofeocjmglaaGreatDoor.I
