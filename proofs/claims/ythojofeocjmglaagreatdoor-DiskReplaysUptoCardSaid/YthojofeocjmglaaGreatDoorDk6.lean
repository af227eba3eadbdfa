/- Merged out of these texts: Create, Small, TabDel, Drop, RemDef, Gives. -/
import Derived.Test.YthojofeocjmglaaGreatDoorDk5
import Derived.Laws.Rows
import Derived.LaidEqlPtr
import Derived.WideLaws
/- The program's Create, Link: the walks. -/
namespace Go.Proofs.YthojofeocjmglaaGreatDoor.I
open Go.RowKit Go.Proofs.YthojofeocjmglaaGreatDoor.B Go.Sort
set_option linter.unusedVariables false
theorem put_leaf (L : List Nat) (t : Nat) (fs : FS) (by' nd : Nat) (A M : Pth → Nat) (q : Pth) (n : Nm) (x y : Nd) (X : World) (hT : TabAt X L t fs by' nd A M) (hg : FsOk fs) (hr : Room fs by' nd) (hq : fs.at q = some y) (hy : y.kind = 2) (hn : fs.at (q ++ [n]) = none) (hx : x.kind ≠ 2) (hz : x.text.size ≤ 4194304) :
    Calls Tryz.prog 101 #[(.pointer (some ⟨t, 0, none⟩)), .agg #[.pointer (some ⟨A q, 0, none⟩), .string (nb n), .pointer none], (.pointer (some ⟨X.heap.size, 0, none⟩))] (X.alloc (.cells #[.int .i64 (x.kind : Int), .string x.text, .map none] 133)) fun e w' => OpPost X L t by' nd (putF fs by' nd (q ++ [n]) x) e w' := by
  have hC : Chg [] X (X.alloc (.cells #[.int .i64 (x.kind : Int), .string x.text, .map none] 133)) := (Chg.refl _ _).alloc _
  have hnew := hp_new X (.cells #[.int .i64 (x.kind : Int), .string x.text, .map none] 133)
  have hbl := hT.bl
  by_cases hf : fullF fs by' nd x.text.size
  · refine (put_full L t fs by' nd A M q n x X.heap.size _ _ (hT.keep0 hC) hr hnew hz hf).mono ?_
    rintro e w' ⟨rfl, hC2⟩
    have hR : putF fs by' nd (q ++ [n]) x = (206, fs) := by unfold putF; rw [if_pos hf]
    rw [hR]
    exact ⟨rfl, (hC.trans hC2).mono (by simp), L, A, M, hT.keep0 (hC.trans hC2), fun i hi => .inl hi⟩
  · refine (put_ok L t fs by' nd A M q n x y X.heap.size X.heap.size _ (hT.keep0 hC) hg hr hq hy hn (by rw [if_neg hx]; exact hnew) (fun h => absurd h hx) (fun h => by have := hbl _ h; omega) (fun h => absurd h hx) (by simp) hz hf).mono ?_
    rintro e w' ⟨rfl, hC2, hT2⟩
    have hR : putF fs by' nd (q ++ [n]) x = (0, fs ++ [(q ++ [n], x)]) := by unfold putF; rw [if_neg hf]
    rw [hR]
    exact ⟨rfl, (hC.mono (by simp)).trans hC2, _, _, _, hT2, fun i hi => by
      simp only [List.mem_cons] at hi
      rcases hi with rfl | rfl | hi
      · exact .inr (Nat.le_refl _)
      · exact .inr (Nat.le_refl _)
      · exact .inl hi⟩
/-- Create. -/
noncomputable def createF (fs : FS) (by' nd : Nat) (s : ByteArray) : Nat × FS := match atE fs s with
  | .error n => (n, fs)
  | .ok p => match fs.at p with
    | none => putF fs by' nd p ⟨1, ⟨#[]⟩⟩
    | some x => if x.kind = 2 then (202, fs) else if x.kind = 3 then (204, fs) else (0, setF fs p ⟨1, ⟨#[]⟩⟩)
set_option maxRecDepth 100000 in
set_option maxHeartbeats 16000000 in
theorem create_calls (L : List Nat) (t : Nat) (fs : FS) (by' nd : Nat) (A M : Pth → Nat) (s : ByteArray) (w : World) (hT : TabAt w L t fs by' nd A M) (hg : FsOk fs) (hr : Room fs by' nd) (hm : MaxLenAt w) (hs : s.size ≤ 4294967280) :
    Calls Tryz.prog 64 #[(.pointer (some ⟨t, 0, none⟩)), .string s] w fun e w' => OpPost w L t by' nd (createF fs by' nd s) e w' := by
  have HP := Asd.mk (at_calls L t fs by' nd A M s w hT hg hm hs)
  have HT := Asd.mk hT
  have hid : ∀ i ∈ L, i ∈ L ∨ w.heap.size ≤ i := fun i hi => .inl hi
  obtain ⟨R, hR⟩ : ∃ R, atE fs s = R := ⟨_, rfl⟩
  rw [hR] at HP
  cases R with
  | error n =>
    have HA := Asd.mk (show createF fs by' nd s = (n, fs) by unfold createF; rw [hR])
    have HN := Asd.mk (atE_pos hR)
    clear hR hT hg hr hm
    (go_enter Tryz.func64, Tryz.ntmps64)
    go_wp2_with fail
    refine HP.out.mono ?_
    rintro e w1 ⟨rfl, hC1⟩
    have HC1 := Asd.mk hC1
    clear hC1
    go_wp2
    go_ret
    exact ⟨by rw [HA.out]; simp only [errV]; rw [if_neg HN.out]; rfl, (HC1.out.mono (by simp)).alloc _, L, A, M, by rw [HA.out]; exact HT.out.keep0 (HC1.out.alloc _), hid⟩
  | ok p =>
    cases hp : fs.at p with
    | none =>
      obtain ⟨q, n, y, rfl, hq, hy⟩ := at_parent hg hR hp
      have HA := Asd.mk (show createF fs by' nd s = putF fs by' nd (q ++ [n]) ⟨1, ⟨#[]⟩⟩ by unfold createF; rw [hR]; simp only; rw [hp])
      have HK := Asd.mk (show dirA A (q ++ [n]) = some ⟨A q, 0, none⟩ ∧ lastS (q ++ [n]) = nb n ∧ kidA fs A (q ++ [n]) = none from ⟨by unfold dirA; rw [if_neg (by simp)]; simp, by unfold lastS; rw [if_neg (by simp)]; simp, by unfold kidA; rw [hp]; rfl⟩)
      have HPut := Asd.mk (fun (X : World) (hX : Chg [] w X) => put_leaf L t fs by' nd A M q n ⟨1, ⟨#[]⟩⟩ y X (HT.out.keep0 hX) hg hr hq hy hp (by simp) (by show 0 ≤ 4194304; omega))
      clear hR hT hg hr hm hp hq
      (go_enter Tryz.func64, Tryz.ntmps64)
      go_wp2_with fail
      refine HP.out.mono ?_
      rintro e w1 ⟨hPo, hC1⟩
      have hPo2 : e = .returned (.tuple #[.agg #[.pointer (some ⟨A q, 0, none⟩), .string (nb n), .pointer none], .nilIface]) := by rw [← HK.out.1, ← HK.out.2.1, ← HK.out.2.2]; exact hPo
      subst hPo2
      have HC1 := Asd.mk hC1
      clear hC1 hPo
      go_upto_region 5 with fail
      refine wp_opaque2 (fun W hW => ?_)
      have HCW := Asd.mk (show Chg [] w W by rw [hW]; exact HC1.out.alloc _)
      have HB := Asd.mk (show W.heap[w1.heap.size]? = some (.cells #[.pointer (some ⟨A q, 0, none⟩), .string (nb n), .pointer none] 127 (0, 0)) by rw [hW]; exact hp_new _ _)
      obtain ⟨B, hB⟩ : ∃ B, w1.heap.size = B := ⟨_, rfl⟩
      rw [hB] at HB ⊢
      clear hW HC1 HP hB
      go_wp2_with (first | (refine wpList_load_row (o := ⟨some 21, _, _, _, _, _⟩) rfl 127 (.tmp 5) rfl B rfl 127 _ (0, 0) _ HB.out Tryz.underlying127 rfl (size_place _ _ _) ?_) | (go_at_call 101; refine (HPut.out W HCW.out).mono ?_; rintro e w3 ⟨rfl, hO1, hO2⟩))
      obtain ⟨L', A', M', hT', hL'⟩ := hO2
      go_ret
      exact ⟨by rw [HA.out]; rfl, (HCW.out.mono (by simp)).trans hO1, L', A', M', by rw [HA.out]; exact hT', fun i hi => (hL' i hi).imp id (fun h => Nat.le_trans HCW.out.size h)⟩
    | some x =>
      have hAE : createF fs by' nd s = if x.kind = 2 then (202, fs) else if x.kind = 3 then (204, fs) else (0, setF fs p ⟨1, ⟨#[]⟩⟩) := by unfold createF; rw [hR]; simp only; rw [hp]
      have HK := Asd.mk (show kidA fs A p = some ⟨A p, 0, none⟩ by unfold kidA; rw [hp]; rfl)
      have hkk := hg.kind p x hp
      have hsm := hg.small p x hp
      have hnd := hg.nodup
      have hfile := noFile_calls (A p) x
      clear hR hm hg
      (go_enter Tryz.func64, Tryz.ntmps64)
      go_wp2_with fail
      refine HP.out.mono ?_
      rintro e w1 ⟨hPo, hC1⟩
      have hPo2 : e = .returned (.tuple #[.agg #[.pointer (dirA A p), .string (lastS p), .pointer (some ⟨A p, 0, none⟩)], .nilIface]) := by rw [← HK.out]; exact hPo
      subst hPo2
      obtain ⟨dp, hdp⟩ : ∃ d, dirA A p = d := ⟨_, rfl⟩
      obtain ⟨ls, hls⟩ : ∃ d, lastS p = d := ⟨_, rfl⟩
      rw [hdp, hls]
      have HC1 := Asd.mk hC1
      clear hC1 hPo HP hdp hls
      go_upto_region 6 with fail
      refine wp_opaque2 (fun W hW => ?_)
      have HCW := Asd.mk (show Chg [] w W by rw [hW]; exact HC1.out.alloc _)
      have HB := Asd.mk (show W.heap[w1.heap.size]? = some (.cells #[.pointer dp, .string ls, .pointer (some ⟨A p, 0, none⟩)] 127 (0, 0)) by rw [hW]; exact hp_new _ _)
      have hTW := hT.keep0 HCW.out
      obtain ⟨B, hB⟩ : ∃ B, w1.heap.size = B := ⟨_, rfl⟩
      rw [hB] at HB ⊢
      have b2 := cell_of_heap HB.out 2
      clear hW HC1 hB
      have hno := hTW.node p x hp
      have hcl := hfile _ W hno hkk
      obtain ⟨r1, r2, r3, r4⟩ := hr
      have HTW := Asd.mk hTW
      have HNo := Asd.mk hno
      clear hfile hno hTW hT
      rcases hkk with hk | hk | hk
      · rw [hk] at hcl
        have HCl := Asd.mk hcl
        rw [if_neg (by omega), if_neg (by omega)] at hAE
        have HA := Asd.mk hAE
        have hpne : p ≠ [] := fun e => by rw [e, at_root] at hp; cases hp; cases hk
        obtain ⟨us, hus⟩ : ∃ k, usedF fs = k := ⟨_, rfl⟩
        rw [hus] at r3
        have hus2 := used_set (x := ⟨1, ⟨#[]⟩⟩) hnd (by rw [← at_ne fs hpne]; exact hp)
        rw [show (⟨1, ⟨#[]⟩⟩ : Nd).text.size = 0 from rfl, hus] at hus2
        have k1 : (x.text.size : Int) ≤ (us : Int) := by omega
        have HUS := Asd.mk hus2
        have hno := HNo.out
        rw [if_neg (by omega), hk] at hno
        have HNo2 := Asd.mk hno
        have hAt := HTW.out.ne_tab hp
        have htL := HTW.out.tL
        have haL := (HTW.out.aL p x hp).1
        have HXK := Asd.mk (show x.kind ≠ 2 by omega)
        have HX := Asd.mk hp
        have HUs := Asd.mk hus
        have hTt := HTW.out.tab
        rw [hus] at hTt
        have HTt := Asd.mk hTt
        have hBt : B ≠ t := fun e => by
          have h1 := HB.out
          rw [e, hTt] at h1
          simp only [Option.some.injEq, Obj.cells.injEq] at h1
          exact absurd h1.2.1 (by decide)
        clear hcl hAE hk hus2 hno hp hus hnd HNo hTt
        go_wp2_with fail
        refine HCl.out.mono ?_
        rintro e w2 ⟨rfl, hw2⟩
        subst hw2
        rw [show noFileV 1 = Value.nilIface from rfl]
        go_upto_region 9 with fail
        have q3 := cell_of_heap HTt.out 3
        have f3 := frozen_of_heap HTt.out 3
        have c1' := cell_of_heap HNo2.out 1
        go_still_tail 13, (by kernel_rfl)
        go_upto_region 10 with fail
        refine wp_opaque2 (fun W2 hW2 => ?_)
        have HC2 := Asd.mk (show Chg L w W2 by rw [hW2]; exact ((HCW.out.mono (by simp)).setCell (fun _ => htL) _).drew)
        have HT2 := Asd.mk (show W2.heap[t]? = some (.cells #[(.pointer (some ⟨A [], 0, none⟩)), .int .i64 (by' : Int), .int .i64 (nd : Int), .int .i64 ((us : Int) - (x.text.size : Int)), .int .i64 (fs.length : Int)] 118 (0, 0)) by rw [hW2]; exact hp_drew (hp_set HTt.out 3 _))
        have HN2 := Asd.mk (show W2.heap[A p]? = some (.cells #[.int .i64 ((1 : Nat) : Int), .string x.text, .map none] 133 (0, 0)) by rw [hW2]; exact hp_drew (hp_set_other HNo2.out hAt _ _))
        have HB2 := Asd.mk (show W2.heap[B]? = some (.cells #[.pointer dp, .string ls, .pointer (some ⟨A p, 0, none⟩)] 127 (0, 0)) by rw [hW2]; exact hp_drew (hp_set_other HB.out hBt _ _))
        have HO2 := Asd.mk (show ∀ i, i ≠ t → W2.heap[i]? = w2.heap[i]? from fun i ht => by rw [hW2]; exact Below.heap_setCell w2 ⟨t, 3, none⟩ _ i ht)
        have HZ2 := Asd.mk (show W2.heap.size = w2.heap.size by rw [hW2]; show (w2.setCell _ _).heap.size = _; simp [World.setCell])
        have b2 := cell_of_heap HB2.out 2
        have f1 := frozen_of_heap HN2.out 1
        have c1 := cell_of_heap HN2.out 1
        clear hW2 q3 f3 c1'
        go_wp2
        go_ret
        have hsz : (W2.setCell ⟨A p, 1, none⟩ (.string ⟨#[]⟩)).heap.size = W2.heap.size := by simp [World.setCell]
        refine ⟨by rw [HA.out]; rfl, HC2.out.setCell (fun _ => haL) _, L, A, M, ?_, hid⟩
        rw [HA.out]
        refine HTW.out.set hpne HX.out HXK.out (by simp) ?_ (hp_set HN2.out 1 _) (fun i hi h1 h2 => ?_) (by rw [hsz, HZ2.out]; exact Nat.le_refl _)
        · have := hp_set_other HT2.out (Ne.symm hAt) 1 (.string ⟨#[]⟩)
          rw [this]
          have he : ((us : Int) - (x.text.size : Int)) = ((usedF (setF fs p ⟨1, ⟨#[]⟩⟩) : Nat) : Int) := by have := HUS.out; omega
          rw [he]
        · exact (Below.heap_setCell W2 ⟨A p, 1, none⟩ _ i h2).trans (HO2.out i h1)
      · rw [hk] at hcl
        have HCl := Asd.mk hcl
        have HA := Asd.mk (show createF fs by' nd s = (202, fs) by rw [hAE, if_pos hk])
        clear hcl hAE hk
        go_wp2_with fail
        refine HCl.out.mono ?_
        rintro e w2 ⟨rfl, rfl⟩
        rw [show noFileV 2 = Value.iface 88 (.int .i64 202) from rfl]
        go_wp2
        go_ret
        exact ⟨by rw [HA.out]; rfl, HCW.out.mono (by simp), L, A, M, by rw [HA.out]; exact HTW.out, hid⟩
      · rw [hk] at hcl
        have HCl := Asd.mk hcl
        have HA := Asd.mk (show createF fs by' nd s = (204, fs) by rw [hAE, if_neg (by omega), if_pos hk])
        clear hcl hAE hk
        go_wp2_with fail
        refine HCl.out.mono ?_
        rintro e w2 ⟨rfl, rfl⟩
        rw [show noFileV 3 = Value.iface 88 (.int .i64 204) from rfl]
        go_wp2
        go_ret
        exact ⟨by rw [HA.out]; rfl, HCW.out.mono (by simp), L, A, M, by rw [HA.out]; exact HTW.out, hid⟩
end Go.Proofs.YthojofeocjmglaaGreatDoor.I
/- The program's Used, New, Read, Look: the walks. -/
namespace Go.Proofs.YthojofeocjmglaaGreatDoor.I
open Go.RowKit Go.Proofs.YthojofeocjmglaaGreatDoor.B Go.Sort
set_option linter.unusedVariables false
set_option maxRecDepth 100000 in
set_option maxHeartbeats 16000000 in
theorem used_calls (L : List Nat) (t : Nat) (fs : FS) (by' nd : Nat) (A M : Pth → Nat) (w : World) (hT : TabAt w L t fs by' nd A M) :
    Calls Tryz.prog 88 #[(.pointer (some ⟨t, 0, none⟩))] w fun e w' => e = .returned (.tuple #[.int .i64 (usedF fs : Int), .int .i64 (fs.length : Int)]) ∧ Chg [] w w' := by
  have q3 := cell_of_heap hT.tab 3
  have q4 := cell_of_heap hT.tab 4
  clear hT
  go_enter Tryz.func88, Tryz.ntmps88
  go_wp2
  go_quiet (fail)
  go_wp2
  go_ret2
  exact ⟨rfl, (Chg.refl _ _).drewN nq⟩
theorem tab_new (w : World) (b n : Nat) : TabAt (((w.alloc (.map #[] 0)).alloc (.cells #[.int .i64 2, .string ⟨#[]⟩, .map (some w.heap.size)] 133)).alloc (.cells #[(.pointer (some ⟨w.heap.size + 1, 0, none⟩)), .int .i64 (b : Int), .int .i64 (n : Int), .int .i64 0, .int .i64 0] 118))
    [w.heap.size + 2, w.heap.size + 1, w.heap.size] (w.heap.size + 2) [] b n (fun _ => w.heap.size + 1) (fun _ => w.heap.size) := by
  have hat : ∀ p x, FS.at [] p = some x → p = [] ∧ x = rootN := fun p x h => by
    unfold FS.at at h
    split at h
    · rename_i hp; cases h; exact ⟨hp, rfl⟩
    · simp at h
  have h1 := hp_new w (.map #[] 0)
  have h2 := hp_new (w.alloc (.map #[] 0)) (.cells #[.int .i64 2, .string ⟨#[]⟩, .map (some w.heap.size)] 133)
  rw [World.size_alloc] at h2
  have h3 := hp_new ((w.alloc (.map #[] 0)).alloc (.cells #[.int .i64 2, .string ⟨#[]⟩, .map (some w.heap.size)] 133)) (.cells #[(.pointer (some ⟨w.heap.size + 1, 0, none⟩)), .int .i64 (b : Int), .int .i64 (n : Int), .int .i64 0, .int .i64 0] 118)
  rw [World.size_alloc, World.size_alloc] at h3
  refine ⟨h3, ?_, ?_, by simp, ?_, ?_, ?_, ?_⟩
  · intro p x hx
    obtain ⟨rfl, rfl⟩ := hat p x hx
    exact hp_alloc h2 _
  · intro p x hx hk
    obtain ⟨rfl, rfl⟩ := hat p x hx
    refine ⟨#[], 0, [], hp_alloc (hp_alloc h1 _) _, kids_nil 0, fun k => ?_⟩
    rw [at_ne _ (by simp)]
    rfl
  · intro i hi
    simp only [List.mem_cons, List.mem_nil_iff, or_false] at hi
    simp only [World.size_alloc]
    omega
  · intro p x hx
    exact ⟨by simp, fun _ => by simp⟩
  · intro p q x y hx hy _
    rw [(hat p x hx).1, (hat q y hy).1]
  · intro p q x y hx hy _ _ _
    rw [(hat p x hx).1, (hat q y hy).1]
set_option maxRecDepth 100000 in
set_option maxHeartbeats 16000000 in
theorem new_ok (b n : Nat) (w : World) (hb : b ≤ 2147483647) (hn : n ≤ 65536) :
    Calls Tryz.prog 32 #[.int .i64 (b : Int), .int .i64 (n : Int)] w fun e w' => ∃ t L A M, e = .returned (.tuple #[(.pointer (some ⟨t, 0, none⟩)), .nilIface]) ∧ Chg [] w w' ∧ TabAt w' L t [] b n A M ∧ ∀ i ∈ L, w.heap.size ≤ i := by
  have k1 : ¬ ((b : Int) < 0) := by omega
  have k2 : ¬ ((2147483647 : Int) < (b : Int)) := by omega
  have k3 : ¬ ((n : Int) < 0) := by omega
  have k4 : ¬ ((65536 : Int) < (n : Int)) := by omega
  have HN := Asd.mk (tab_new w b n)
  have HC := Asd.mk ((((Chg.refl [] w).alloc (.map #[] 0)).alloc (.cells #[.int .i64 2, .string ⟨#[]⟩, .map (some w.heap.size)] 133)).alloc (.cells #[(.pointer (some ⟨w.heap.size + 1, 0, none⟩)), .int .i64 (b : Int), .int .i64 (n : Int), .int .i64 0, .int .i64 0] 118))
  go_enter Tryz.func32, Tryz.ntmps32
  go_wp2_with fail
  refine (directory_calls w).mono ?_
  rintro e w1 ⟨rfl, rfl⟩
  go_wp2
  go_ret2
  exact ⟨_, _, _, _, rfl, HC.out, HN.out, fun i hi => by simp at hi; omega⟩
set_option maxRecDepth 100000 in
set_option maxHeartbeats 16000000 in
theorem new_bad (b n : Int) (w : World) (hb : b < 0 ∨ 2147483647 < b ∨ n < 0 ∨ 65536 < n) :
    Calls Tryz.prog 32 #[.int .i64 b, .int .i64 n] w fun e w' => e = .returned (.tuple #[.pointer none, .iface 88 (.int .i64 1)]) ∧ Chg [] w w' := by
  have hC := Chg.refl [] w
  by_cases h1 : b < 0
  · clear hb
    go_enter Tryz.func32, Tryz.ntmps32
    go_wp2
    go_ret2
    exact ⟨rfl, hC⟩
  · by_cases h2 : 2147483647 < b
    · clear hb
      go_enter Tryz.func32, Tryz.ntmps32
      go_wp2
      go_ret2
      exact ⟨rfl, hC⟩
    · by_cases h3 : n < 0
      · clear hb
        go_enter Tryz.func32, Tryz.ntmps32
        go_wp2
        go_ret2
        exact ⟨rfl, hC⟩
      · have h4 : 65536 < n := by omega
        clear hb
        go_enter Tryz.func32, Tryz.ntmps32
        go_wp2
        go_ret2
        exact ⟨rfl, hC⟩
/-- Read: the error's number, the bytes. -/
def readF (fs : FS) (s : ByteArray) : Nat × ByteArray := match thereE fs s with
  | .error n => (n, ⟨#[]⟩)
  | .ok p => match fs.at p with
    | none => (0, ⟨#[]⟩)
    | some x => if x.kind = 2 then (202, ⟨#[]⟩) else if x.kind = 3 then (204, ⟨#[]⟩) else (0, x.text)
set_option maxRecDepth 100000 in
set_option maxHeartbeats 16000000 in
theorem read_calls (L : List Nat) (t : Nat) (fs : FS) (by' nd : Nat) (A M : Pth → Nat) (s : ByteArray) (w : World) (hT : TabAt w L t fs by' nd A M) (hg : FsOk fs) (hm : MaxLenAt w) (hs : s.size ≤ 4294967280) :
    Calls Tryz.prog 68 #[(.pointer (some ⟨t, 0, none⟩)), .string s] w fun e w' => e = .returned (.tuple #[.string (readF fs s).2, errV (readF fs s).1]) ∧ Chg [] w w' := by
  have HP := Asd.mk (there_calls L t fs by' nd A M s w hT hg hm hs)
  obtain ⟨R, hR⟩ : ∃ R, thereE fs s = R := ⟨_, rfl⟩
  rw [hR] at HP
  cases R with
  | error n =>
    have HA := Asd.mk (show readF fs s = (n, ⟨#[]⟩) by unfold readF; rw [hR])
    have HN := Asd.mk (thereE_pos hR)
    clear hR hT hg hm
    go_enter Tryz.func68, Tryz.ntmps68
    go_wp2_with fail
    refine HP.out.mono ?_
    rintro e w1 ⟨⟨d, l, k, rfl⟩, hC1⟩
    have HC1 := Asd.mk hC1
    clear hC1
    go_wp2
    go_ret2
    exact ⟨by rw [HA.out]; simp only [errV]; rw [if_neg HN.out]; rfl, HC1.out.alloc _⟩
  | ok p =>
    obtain ⟨x, hx⟩ := thereE_ok hR
    have hAE : readF fs s = if x.kind = 2 then (202, ⟨#[]⟩) else if x.kind = 3 then (204, ⟨#[]⟩) else (0, x.text) := by unfold readF; rw [hR]; simp only; rw [hx]
    have hkk := hg.kind p x hx
    have hfile := noFile_calls (A p) x
    clear hR hm hg
    go_enter Tryz.func68, Tryz.ntmps68
    go_wp2_with fail
    refine HP.out.mono ?_
    rintro e w1 ⟨hPo, hC1⟩
    have hPo2 : e = .returned (.tuple #[.agg #[.pointer (dirA A p), .string (lastS p), .pointer (some ⟨A p, 0, none⟩)], .nilIface]) := hPo
    subst hPo2
    obtain ⟨dp, hdp⟩ : ∃ d, dirA A p = d := ⟨_, rfl⟩
    obtain ⟨ls, hls⟩ : ∃ d, lastS p = d := ⟨_, rfl⟩
    rw [hdp, hls]
    have HC1 := Asd.mk hC1
    clear hC1 hPo HP hdp hls
    go_upto_region 4 with fail
    refine wp_opaque2 (fun W hW => ?_)
    have HCW := Asd.mk (show Chg [] w W by rw [hW]; exact HC1.out.alloc _)
    have HB := Asd.mk (show W.heap[w1.heap.size]? = some (.cells #[.pointer dp, .string ls, .pointer (some ⟨A p, 0, none⟩)] 127 (0, 0)) by rw [hW]; exact hp_new _ _)
    have hTW := hT.keep0 HCW.out
    obtain ⟨B, hB⟩ : ∃ B, w1.heap.size = B := ⟨_, rfl⟩
    rw [hB] at HB ⊢
    have b2 := cell_of_heap HB.out 2
    clear hW HC1 hB
    have hno := hTW.node p x hx
    have hcl := hfile _ W hno hkk
    have c1 := cell_of_heap hno 1
    clear hfile hno hTW hT
    rcases hkk with hk | hk | hk
    · rw [hk] at hcl
      have HCl := Asd.mk hcl
      have HA := Asd.mk (show readF fs s = (0, x.text) by rw [hAE, if_neg (by omega), if_neg (by omega)])
      clear hcl hAE hk
      go_wp2_with fail
      refine HCl.out.mono ?_
      rintro e w2 ⟨rfl, rfl⟩
      rw [show noFileV 1 = Value.nilIface from rfl]
      go_wp2
      go_ret2
      exact ⟨by rw [HA.out]; rfl, HCW.out⟩
    · rw [hk] at hcl
      have HCl := Asd.mk hcl
      have HA := Asd.mk (show readF fs s = (202, ⟨#[]⟩) by rw [hAE, if_pos hk])
      clear hcl hAE hk
      go_wp2_with fail
      refine HCl.out.mono ?_
      rintro e w2 ⟨rfl, rfl⟩
      rw [show noFileV 2 = Value.iface 88 (.int .i64 202) from rfl]
      go_wp2
      go_ret2
      exact ⟨by rw [HA.out]; rfl, HCW.out⟩
    · rw [hk] at hcl
      have HCl := Asd.mk hcl
      have HA := Asd.mk (show readF fs s = (204, ⟨#[]⟩) by rw [hAE, if_neg (by omega), if_pos hk])
      clear hcl hAE hk
      go_wp2_with fail
      refine HCl.out.mono ?_
      rintro e w2 ⟨rfl, rfl⟩
      rw [show noFileV 3 = Value.iface 88 (.int .i64 204) from rfl]
      go_wp2
      go_ret2
      exact ⟨by rw [HA.out]; rfl, HCW.out⟩
end Go.Proofs.YthojofeocjmglaaGreatDoor.I
/- A node taken out of its directory: what the file system is then, in memory. -/
namespace Go.Proofs.YthojofeocjmglaaGreatDoor.I
open Go.RowKit Go.Proofs.YthojofeocjmglaaGreatDoor.B Go.Sort
set_option linter.unusedVariables false
def delF (fs : FS) (p : Pth) : FS := fs.filter fun y => decide (y.1 ≠ p)
theorem lookup_del {p : Pth} : ∀ {fs : FS} (r : Pth), (delF fs p).lookup r = if r = p then none else fs.lookup r
  | [], r => by simp [delF]
  | (q, y) :: fs, r => by
    have ih := lookup_del (p := p) (fs := fs) r
    unfold delF at ih ⊢
    by_cases hq : q = p
    · subst hq
      rw [List.filter_cons_of_neg (by simp), ih]
      by_cases hr : r = q
      · rw [if_pos hr, if_pos hr]
      · rw [if_neg hr, if_neg hr, List.lookup_cons]
        have : (r == q) = false := by simp [hr]
        rw [this]
    · rw [List.filter_cons_of_pos (by simp [hq]), List.lookup_cons, List.lookup_cons]
      by_cases hr : r = q
      · subst hr
        rw [if_neg hq]
        simp
      · have : (r == q) = false := by simp [hr]
        rw [this]
        exact ih
theorem at_del {fs : FS} {p : Pth} (hp : p ≠ []) (r : Pth) : (delF fs p).at r = if r = p then none else fs.at r := by
  unfold FS.at
  by_cases hr : r = []
  · rw [if_pos hr, if_pos hr, if_neg (by rw [hr]; exact Ne.symm hp)]
  · rw [if_neg hr, if_neg hr, lookup_del]
theorem del_none {p : Pth} {fs : FS} (h : p ∉ fs.map (·.1)) : delF fs p = fs := by
  unfold delF
  rw [List.filter_eq_self]
  intro y hy
  simp only [decide_eq_true_eq]
  rintro rfl
  exact h (List.mem_map.2 ⟨y, hy, rfl⟩)
theorem count_del {p : Pth} {y : Nd} : ∀ {fs : FS}, (fs.map (·.1)).Nodup → fs.lookup p = some y → (delF fs p).length + 1 = fs.length ∧ usedF (delF fs p) + y.text.size = usedF fs
  | [], _, h => by simp at h
  | (q, z) :: fs, hd, h => by
    simp only [List.map_cons, List.nodup_cons] at hd
    have e : ∀ (a : Pth × Nd) (l : FS), usedF (a :: l) = a.2.text.size + usedF l := fun a l => by unfold usedF; simp
    rw [List.lookup_cons] at h
    by_cases hq : p = q
    · subst hq
      simp only [beq_self_eq_true, Option.some.injEq] at h
      subst h
      have hs : delF ((p, z) :: fs) p = fs := by
        have := del_none hd.1
        unfold delF at this ⊢
        rw [List.filter_cons_of_neg (by simp), this]
      rw [hs, e]
      exact ⟨by simp, Nat.add_comm _ _⟩
    · have hb : (p == q) = false := by simp [hq]
      rw [hb] at h
      obtain ⟨i1, i2⟩ := count_del hd.2 h
      have hs : delF ((q, z) :: fs) p = (q, z) :: delF fs p := by
        unfold delF
        rw [List.filter_cons_of_pos (by simp [Ne.symm hq])]
      rw [hs, e, e, List.length_cons, List.length_cons]
      omega
theorem look_filter {n : Nm} : ∀ {K : List (Nm × Value)} (k : Nm), (K.filter fun x => decide (x.1 ≠ n)).lookup k = if k = n then none else K.lookup k
  | [], k => by simp
  | (a, b) :: K, k => by
    have ih := look_filter (n := n) (K := K) k
    by_cases ha : a = n
    · subst ha
      rw [List.filter_cons_of_neg (by simp), ih]
      by_cases hk : k = a
      · rw [if_pos hk, if_pos hk]
      · rw [if_neg hk, if_neg hk, List.lookup_cons]
        have : (k == a) = false := by simp [hk]
        rw [this]
    · rw [List.filter_cons_of_pos (by simp [ha]), List.lookup_cons, List.lookup_cons]
      by_cases hk : k = a
      · subst hk
        rw [if_neg ha]
        simp
      · have : (k == a) = false := by simp [hk]
        rw [this]
        exact ih
theorem TabAt.del {w w' : World} {L : List Nat} {t by' nd : Nat} {fs : FS} {A M : Pth → Nat} (h : TabAt w L t fs by' nd A M) {q : Pth} {n : Nm} {x y : Nd} (hq : fs.at q = some y) (hy : y.kind = 2)
    (ht : w'.heap[t]? = some (.cells #[(.pointer (some ⟨A [], 0, none⟩)), .int .i64 (by' : Int), .int .i64 (nd : Int), .int .i64 (usedF (delF fs (q ++ [n])) : Int), .int .i64 ((delF fs (q ++ [n])).length : Int)] 118 (0, 0)))
    (hmap : ∃ es clock K, w'.heap[M q]? = some (.map es clock) ∧ MKids es clock K ∧ ∀ k, K.lookup k = if k = n then none else (fs.at (q ++ [k])).map fun _ => (.pointer (some ⟨A (q ++ [k]), 0, none⟩)))
    (hoth : ∀ i ∈ L, i ≠ t → i ≠ M q → w'.heap[i]? = w.heap[i]?) (hsz : w.heap.size ≤ w'.heap.size) :
    TabAt w' L t (delF fs (q ++ [n])) by' nd A M := by
  have hp : q ++ [n] ≠ [] := by simp
  have hat := at_del (fs := fs) hp
  have hold : ∀ r z, (delF fs (q ++ [n])).at r = some z → r ≠ q ++ [n] ∧ fs.at r = some z := fun r z hz => by
    rw [hat r] at hz
    split at hz
    · cases hz
    · rename_i hr; exact ⟨hr, hz⟩
  refine ⟨ht, ?_, ?_, h.tL, fun i hi => Nat.lt_of_lt_of_le (h.bl i hi) hsz, fun r z hz => h.aL r z (hold r z hz).2, ?_, ?_⟩
  · intro r z hz
    obtain ⟨hr, hz2⟩ := hold r z hz
    rw [hoth _ (h.aL r z hz2).1 (h.ne_tab hz2) (h.ne_map hz2 hq hy)]
    exact h.node r z hz2
  · intro r z hz hk
    obtain ⟨hr, hz2⟩ := hold r z hz
    by_cases hrq : r = q
    · subst hrq
      obtain ⟨es, clock, K, h1, h2, h3⟩ := hmap
      refine ⟨es, clock, K, h1, h2, fun k => ?_⟩
      rw [h3 k, hat]
      by_cases hkn : k = n
      · subst hkn
        rw [if_pos rfl, if_pos rfl]
        rfl
      · rw [if_neg hkn, if_neg (fun e => hkn (snoc_inj e).2)]
    · obtain ⟨es, clock, K, h1, h2, h3⟩ := h.kids r z hz2 hk
      refine ⟨es, clock, K, ?_, h2, fun k => ?_⟩
      · rw [hoth _ ((h.aL r z hz2).2 hk) (h.tab_ne_map hz2 hk) (fun e => hrq (h.injM r q z y hz2 hq hk hy e))]
        exact h1
      · rw [h3 k, hat, if_neg (fun e => hrq (snoc_inj e).1)]
  · intro r1 r2 z1 z2 h1 h2 he
    exact h.injA r1 r2 z1 z2 (hold r1 z1 h1).2 (hold r2 z2 h2).2 he
  · intro r1 r2 z1 z2 h1 h2 k1 k2 he
    exact h.injM r1 r2 z1 z2 (hold r1 z1 h1).2 (hold r2 z2 h2).2 k1 k2 he
end Go.Proofs.YthojofeocjmglaaGreatDoor.I
/- The program's drop: the walk. -/
namespace Go.Proofs.YthojofeocjmglaaGreatDoor.I
open Go.RowKit Go.Proofs.YthojofeocjmglaaGreatDoor.B Go.Sort
set_option linter.unusedVariables false
set_option maxRecDepth 100000 in
set_option maxHeartbeats 16000000 in
theorem drop_calls (L : List Nat) (t : Nat) (fs : FS) (by' nd : Nat) (A M : Pth → Nat) (q : Pth) (n : Nm) (x y : Nd) (w : World) (hT : TabAt w L t fs by' nd A M) (hg : FsOk fs) (hr : Room fs by' nd) (hq : fs.at q = some y) (hy : y.kind = 2) (hn : fs.at (q ++ [n]) = some x) :
    Calls Tryz.prog 110 #[(.pointer (some ⟨t, 0, none⟩)), .agg #[.pointer (some ⟨A q, 0, none⟩), .string (nb n), .pointer (some ⟨A (q ++ [n]), 0, none⟩)]] w fun e w' => e = .returned (.tuple #[]) ∧ Chg L w w' ∧ TabAt w' L t (delF fs (q ++ [n])) by' nd A M := by
  obtain ⟨es, clock, K, hK1, hK2, hK3⟩ := hT.kids q y hq hy
  have hK4 : K.lookup n = some (.pointer (some ⟨A (q ++ [n]), 0, none⟩)) := by rw [hK3, hn]; rfl
  have hqn := hT.node q y hq
  rw [if_pos hy] at hqn
  have hxn := hT.node _ x hn
  have hMt := hT.tab_ne_map hq hy
  have hAt := hT.ne_tab hq
  have hxt := hT.ne_tab hn
  have hAM := hT.ne_map hq hq hy
  have htL := hT.tL
  obtain ⟨haL, hML⟩ := hT.aL q y hq
  replace hML := hML hy
  have hpne : q ++ [n] ≠ [] := by simp
  obtain ⟨hcd1, hcd2⟩ := count_del hg.nodup (by rw [← at_ne fs hpne]; exact hn)
  have HC0 := Asd.mk (show Chg [] w (w.alloc (.cells #[.pointer (some ⟨A q, 0, none⟩), .string (nb n), .pointer (some ⟨A (q ++ [n]), 0, none⟩)] 127)) from (Chg.refl _ _).alloc _)
  have hB0 := hp_new w (.cells #[.pointer (some ⟨A q, 0, none⟩), .string (nb n), .pointer (some ⟨A (q ++ [n]), 0, none⟩)] 127)
  have hBL := hT.bl
  obtain ⟨h1, h2, h3, h4⟩ := hr
  have HFin := Asd.mk (fun w' => TabAt.del (w' := w') (n := n) (x := x) hT hq hy)
  have HT0 := Asd.mk (HC0.out.heap hT.tab (by simp))
  have HKK := Asd.mk hK2
  have HK3 := Asd.mk hK3
  have HK4 := Asd.mk hK4
  have Hx0 := Asd.mk (HC0.out.heap hxn (by simp))
  have Hq0 := Asd.mk (HC0.out.heap hqn (by simp))
  have HK0 := Asd.mk (HC0.out.heap hK1 (by simp))
  have HB0 := Asd.mk hB0
  have hBt : w.heap.size ≠ t := fun e => by have := hBL t htL; omega
  have hBM : w.heap.size ≠ M q := fun e => by have := hBL _ hML; omega
  have HBL := Asd.mk hBL
  obtain ⟨us, hus⟩ : ∃ k, usedF fs = k := ⟨_, rfl⟩
  obtain ⟨ct, hctn⟩ : ∃ k, fs.length = k := ⟨_, rfl⟩
  rw [hus] at h3 HT0 hcd2
  rw [hctn] at h4 HT0 hcd1
  have HCD := Asd.mk (And.intro hcd1 hcd2)
  have k1 : (1 : Int) ≤ (ct : Int) := by omega
  have k2 : (x.text.size : Int) ≤ (us : Int) := by omega
  have p4 := cell_of_heap HT0.out 4
  have f4 := frozen_of_heap HT0.out 4
  clear hT hg hq hn hK1 hK2 hK3 hK4 hqn hxn hB0 hBL hus hctn hcd1 hcd2 hpne
  go_enter Tryz.func110, Tryz.ntmps110
  go_upto_region 2 with fail
  refine wp_opaque2 (fun W2 hW2 => ?_)
  obtain ⟨B, hB⟩ : ∃ B, w.heap.size = B := ⟨_, rfl⟩
  have mv2 : ∀ {i : Nat} {o : Obj}, ((w.alloc (.cells #[.pointer (some ⟨A q, 0, none⟩), .string (nb n), .pointer (some ⟨A (q ++ [n]), 0, none⟩)] 127))).heap[i]? = some o → i ≠ t → W2.heap[i]? = some o := fun h hi => by rw [hW2]; exact hp_set_other h hi _ _
  have HC2 := Asd.mk (show Chg L w W2 by rw [hW2]; exact (HC0.out.mono (by simp)).setCell (fun _ => htL) _)
  have HT2 := Asd.mk (show W2.heap[t]? = some (.cells #[(.pointer (some ⟨A [], 0, none⟩)), .int .i64 (by' : Int), .int .i64 (nd : Int), .int .i64 (us : Int), .int .i64 ((ct : Int) - 1)] 118 (0, 0)) by rw [hW2]; exact hp_set HT0.out 4 _)
  have Hx2 := Asd.mk (mv2 Hx0.out hxt)
  have Hq2 := Asd.mk (mv2 Hq0.out hAt)
  have HK2 := Asd.mk (mv2 HK0.out hMt)
  have HB2 := Asd.mk (mv2 HB0.out hBt)
  have HO2 := Asd.mk (show ∀ i, i < w.heap.size → i ≠ t → W2.heap[i]? = w.heap[i]? from fun i hi ht => by
    rw [hW2]
    exact (Below.heap_setCell _ ⟨t, 4, none⟩ _ i ht).trans (HC0.out.block i hi (by simp)))
  rw [hB] at HB2 hBt hBM ⊢
  have p3 := cell_of_heap HT2.out 3
  have f3 := frozen_of_heap HT2.out 3
  have c1 := cell_of_heap Hx2.out 1
  have b2 := cell_of_heap HB2.out 2
  have HBB := Asd.mk hB
  clear mv2 hW2 HC0 HT0 Hx0 Hq0 HK0 HB0 p4 f4 hB
  go_still_tail 13, (by kernel_rfl)
  go_upto_region 3 with fail
  refine wp_opaque2 (fun W3 hW3 => ?_)
  have mv3 : ∀ {i : Nat} {o : Obj}, W2.heap[i]? = some o → i ≠ t → W3.heap[i]? = some o := fun h hi => by rw [hW3]; exact hp_drew (hp_set_other h hi _ _)
  have HC3 := Asd.mk (show Chg L w W3 by rw [hW3]; exact (HC2.out.setCell (fun _ => htL) _).drew)
  have HT3 := Asd.mk (show W3.heap[t]? = some (.cells #[(.pointer (some ⟨A [], 0, none⟩)), .int .i64 (by' : Int), .int .i64 (nd : Int), .int .i64 ((us : Int) - (x.text.size : Int)), .int .i64 ((ct : Int) - 1)] 118 (0, 0)) by rw [hW3]; exact hp_drew (hp_set HT2.out 3 _))
  have Hq3 := Asd.mk (mv3 Hq2.out hAt)
  have HK3' := Asd.mk (mv3 HK2.out hMt)
  have HB3 := Asd.mk (mv3 HB2.out hBt)
  have HO3 := Asd.mk (show ∀ i, i < w.heap.size → i ≠ t → W3.heap[i]? = w.heap[i]? from fun i hi ht => by
    rw [hW3]
    exact (Below.heap_setCell W2 ⟨t, 3, none⟩ _ i ht).trans (HO2.out i hi ht))
  have b0 := cell_of_heap HB3.out 0
  have b1 := cell_of_heap HB3.out 1
  have q2 := cell_of_heap Hq3.out 2
  obtain ⟨es', hdel, hMK⟩ := run_del (P := Tryz.prog) (k2 := 9) (ty := 0) Tryz.underlying131 Tryz.underlying9 (hp_drew HK3'.out) HKK.out (nb n) (.pointer (some ⟨A (q ++ [n]), 0, none⟩)) (by rw [list_nb]; exact HK4.out)
  rw [list_nb] at hMK
  have HMK := Asd.mk hMK
  clear mv3 hW3 HC2 HT2 Hx2 Hq2 HK2 HB2 HO2 p3 f3 c1 b2 hMK
  go_still_tail 7, (by kernel_rfl)
  go_wp2
  refine bodyPost_end (results_none rfl _ _ _) rfl ?_
  have hCf : Chg L w (Go.ChangeMaps.setBlock W3.drew (M q) (.map es' clock)) := (HC3.out.drew).setBlock (fun _ => hML) _
  refine ⟨rfl, hCf, HFin.out _ ?_ ⟨_, _, _, hp_setBlock (hp_drew HK3'.out), HMK.out, fun k => by rw [look_filter, HK3.out]⟩ (fun i hi h1 h2 => ?_) hCf.size⟩
  · rw [hp_setBlock_other (hp_drew HT3.out) (Ne.symm hMt)]
    have e1 : ((us : Int) - (x.text.size : Int)) = ((usedF (delF fs (q ++ [n])) : Nat) : Int) := by have := HCD.out.2; omega
    have e2 : ((ct : Int) - 1) = (((delF fs (q ++ [n])).length : Nat) : Int) := by have := HCD.out.1; omega
    rw [e1, e2]
  · have hlt := HBL.out i hi
    show (W3.heap.setIfInBounds (M q) _)[i]? = _
    rw [Array.getElem?_setIfInBounds_ne (Ne.symm h2)]
    exact HO3.out i hlt h1
end Go.Proofs.YthojofeocjmglaaGreatDoor.I
/- Remove: what it makes of a file system; a directory's map and how much it holds; pointers compared. -/
namespace Go.Proofs.YthojofeocjmglaaGreatDoor.I
open Go.RowKit Go.Proofs.YthojofeocjmglaaGreatDoor.B Go.Sort
set_option linter.unusedVariables false
/-- Does something stand in a directory? -/
def hasKids (fs : FS) (p : Pth) : Prop := ∃ k, fs.at (p ++ [k]) ≠ none
open Classical in
/-- Remove. -/
noncomputable def removeF (fs : FS) (s : ByteArray) : Nat × FS := match atE fs s with
  | .error n => (n, fs)
  | .ok p => if p = [] then (1, fs) else match fs.at p with
    | none => (200, fs)
    | some x => if hasKids fs p then (205, fs) else (0, delF fs p)
theorem info_node : (Tryz.prog.info? 133).map (·.size) = some 3 := by kernel_rfl
theorem info_node' : ∃ j, Tryz.prog.info? 133 = some j ∧ j.size ≠ 0 := by
  cases hj : Tryz.prog.info? 133 with
  | none => have := info_node; rw [hj] at this; cases this
  | some j =>
    have h := info_node
    rw [hj] at h
    simp only [Option.map_some, Option.some.injEq] at h
    exact ⟨j, rfl, by omega⟩
theorem eql_same (a : Addr) (w : World) : (binOp .eql 115 (.pointer (some a)) (.pointer (some a))).run Tryz.prog w = .ok (.bool true) w := by
  obtain ⟨j, h1, _⟩ := info_node'
  exact run_eql_ptr_same w a Tryz.underlying115 h1
theorem eql_other {a b : Nat} {ca cb : Array Value} {ta tb : TypeId} (w : World) (hne : a ≠ b) (ha : w.heap[a]? = some (.cells ca ta (0, 0))) (hb : w.heap[b]? = some (.cells cb tb (0, 0))) : (binOp .eql 115 (.pointer (some ⟨a, 0, none⟩)) (.pointer (some ⟨b, 0, none⟩))).run Tryz.prog w = .ok (.bool false) w := by
  obtain ⟨j, h1, h2⟩ := info_node'
  exact run_eql_ptr_other w Tryz.underlying115 h1 h2 (fun e => hne (by cases e; rfl)) ha hb
theorem eql_none (a : Addr) (w : World) : (binOp .eql 115 (.pointer none) (.pointer (some a))).run Tryz.prog w = .ok (.bool false) w := by
  have h : ∀ d : Nat, (Op.equalIn (d + 1) 115 (.pointer none) (.pointer (some a))).run Tryz.prog w = .ok false w := fun d => by
    simp [Op.equalIn, run_underlying Tryz.underlying115]
  simp only [binOp]
  simp [Op.equal, Op.maxDepth, h 9999]
theorem len_kids {b : Nat} {es : Array MapEntry} {clock : Nat} {w : World} (hb : w.heap[b]? = some (.map es clock)) : (Builtin.len_ #[131] 3 #[.map (some b)]).run Tryz.prog w = .ok (.int .i64 es.size) w := by
  simp [Builtin.len_, run_underlying Tryz.underlying131, MapKept.run_getObj_map hb, goInt]
theorem kids_len {w : World} {L : List Nat} {t by' nd : Nat} {fs : FS} {A M : Pth → Nat} (h : TabAt w L t fs by' nd A M) {p : Pth} {x : Nd} (hx : fs.at p = some x) (hk : x.kind = 2) : ∃ es clock, w.heap[M p]? = some (.map es clock) ∧ (hasKids fs p ↔ 0 < es.size) := by
  obtain ⟨es, clock, K, h1, h2, h3⟩ := h.kids p x hx hk
  refine ⟨es, clock, h1, ?_⟩
  have hl : es.size = K.length := by
    have := congrArg List.length h2.ents
    simpa using this
  rw [hl]
  constructor
  · rintro ⟨k, hk⟩
    cases hK : K with
    | nil =>
      have := h3 k
      rw [hK] at this
      simp only [List.lookup_nil] at this
      cases ha : fs.at (p ++ [k]) with
      | none => exact absurd ha hk
      | some z => rw [ha] at this; cases this
    | cons a b => simp
  · intro hlen
    cases hK : K with
    | nil => rw [hK] at hlen; simp at hlen
    | cons a b =>
      refine ⟨a.1, fun e => ?_⟩
      have := h3 a.1
      rw [hK, e, List.lookup_cons] at this
      simp at this
end Go.Proofs.YthojofeocjmglaaGreatDoor.I
/- The program's gives, path.Below: the walks. -/
namespace Go.Proofs.YthojofeocjmglaaGreatDoor.I
open Go.RowKit Go.Proofs.YthojofeocjmglaaGreatDoor.B Go.Sort
set_option linter.unusedVariables false
open Classical in
/-- What stands at g, does it bar what comes? The error's number. -/
noncomputable def givesF (fs : FS) (g : Pth) (x : Nd) : Nat := match fs.at g with
  | none => 0
  | some y => if y.kind = 2 ∧ x.kind ≠ 2 then 202 else if y.kind = 2 ∧ hasKids fs g then 205 else if y.kind ≠ 2 ∧ x.kind = 2 then 203 else 0
open Classical in
set_option maxRecDepth 100000 in
set_option maxHeartbeats 16000000 in
theorem gives_calls (L : List Nat) (t : Nat) (fs : FS) (by' nd : Nat) (A M : Pth → Nat) (g p : Pth) (x : Nd) (w : World) (hT : TabAt w L t fs by' nd A M) (hg : FsOk fs) (hx : fs.at p = some x) :
    Calls Tryz.prog 108 #[.pointer (kidA fs A g), (.pointer (some ⟨A p, 0, none⟩))] w fun e w' => e = .returned (errV (givesF fs g x)) ∧ w' = w := by
  have d0 := cell_of_heap (hT.node p x hx) 0
  have hxk := hg.kind p x hx
  cases hy : fs.at g with
  | none =>
    rw [show kidA fs A g = none by unfold kidA; rw [hy]; rfl, show givesF fs g x = 0 by unfold givesF; rw [hy]]
    clear hT hg hx hy d0
    (go_enter Tryz.func108, Tryz.ntmps108)
    go_wp2
    go_ret
    exact ⟨rfl, rfl⟩
  | some y =>
    rw [show kidA fs A g = some ⟨A g, 0, none⟩ by unfold kidA; rw [hy]; rfl]
    have c0 := cell_of_heap (hT.node g y hy) 0
    have c2 := cell_of_heap (hT.node g y hy) 2
    have hyk := hg.kind g y hy
    by_cases hy2 : y.kind = 2
    · rw [if_pos hy2] at c2
      rw [hy2] at c0
      obtain ⟨es, clock, hM, hhk⟩ := kids_len hT hy hy2
      have hlen := len_kids hM
      rcases hxk with h | h | h
      · rw [show givesF fs g x = 202 by unfold givesF; rw [hy]; simp [hy2, h]]
        rw [h] at d0
        clear hT hg hx hy hM hhk hyk hy2 h
        (go_enter Tryz.func108, Tryz.ntmps108)
        go_wp2
        go_ret
        exact ⟨rfl, rfl⟩
      · rw [h] at d0
        by_cases hh : hasKids fs g
        · rw [show givesF fs g x = 205 by unfold givesF; rw [hy]; simp [hy2, h, hh]]
          have hpos : (0 : Int) < (es.size : Int) := by have := hhk.1 hh; omega
          clear hT hg hx hy hM hhk hyk hy2 h hh
          (go_enter Tryz.func108, Tryz.ntmps108)
          go_wp2
          go_ret
          exact ⟨rfl, rfl⟩
        · rw [show givesF fs g x = 0 by unfold givesF; rw [hy]; simp [hy2, h, hh]]
          have hz : es = #[] := by
            apply Array.eq_empty_of_size_eq_zero
            have : ¬ 0 < es.size := fun e => hh (hhk.2 e)
            omega
          subst hz
          clear hT hg hx hy hM hhk hyk hy2 h hh
          (go_enter Tryz.func108, Tryz.ntmps108)
          go_wp2
          go_ret
          exact ⟨rfl, rfl⟩
      · rw [show givesF fs g x = 202 by unfold givesF; rw [hy]; simp [hy2, h]]
        rw [h] at d0
        clear hT hg hx hy hM hhk hyk hy2 h
        (go_enter Tryz.func108, Tryz.ntmps108)
        go_wp2
        go_ret
        exact ⟨rfl, rfl⟩
    · have hyk' : y.kind = 1 ∨ y.kind = 3 := by omega
      clear hyk
      rw [show givesF fs g x = if x.kind = 2 then 203 else 0 by unfold givesF; rw [hy]; simp [hy2]]
      rcases hyk' with h | h <;> rw [h] at c0 <;> rcases hxk with h' | h' | h' <;> rw [h'] at d0 ⊢
      all_goals
        clear hT hg hx hy hy2 h h'
        (go_enter Tryz.func108, Tryz.ntmps108)
        go_wp2
        go_ret
        exact ⟨rfl, rfl⟩
/-- Does a path stand below another? -/
def belowB (a b : ByteArray) : Bool := a.toList.isEmpty || (b.toList == a.toList) || Lib.hasPrefix b.data.toList (a ++ ⟨#[47]⟩).data.toList
set_option maxRecDepth 100000 in
set_option maxHeartbeats 16000000 in
theorem below_calls (a b : ByteArray) (w : World) (hs : a.size ≤ 4294967280) : Calls Tryz.prog 107 #[.string a, .string b] w fun e w' => e = .returned (.bool (belowB a b)) ∧ w' = w := by
  have HH := Asd.mk (Tryz.strings_HasPrefix b (a ++ ⟨#[47]⟩) w)
  cases te : a.toList.isEmpty with
  | true =>
    rw [show belowB a b = true by unfold belowB; rw [te]; rfl]
    (go_enter Tryz.func107, Tryz.ntmps107)
    go_wp2
    go_ret
    exact ⟨rfl, rfl⟩
  | false =>
    by_cases hab : b = a
    · rw [show belowB a b = true by unfold belowB; rw [hab]; simp]
      have t1 : (b.toList == a.toList) = true := by rw [hab]; simp
      clear hab
      (go_enter Tryz.func107, Tryz.ntmps107)
      go_wp2
      go_ret
      exact ⟨rfl, rfl⟩
    · have t1 : (b.toList == a.toList) = false := beq_eq_false_iff_ne.2 (fun e => hab (by have h := congrArg nb e; rwa [ByteArray.toList_eq, ByteArray.toList_eq, nb_list, nb_list] at h))
      rw [show belowB a b = Lib.hasPrefix b.data.toList (a ++ ⟨#[47]⟩).data.toList by unfold belowB; rw [te, t1]; rfl]
      obtain ⟨r, hr⟩ : ∃ r, Lib.hasPrefix b.data.toList (a ++ ⟨#[47]⟩).data.toList = r := ⟨_, rfl⟩
      rw [hr] at HH ⊢
      clear hab hr
      (go_enter Tryz.func107, Tryz.ntmps107)
      go_wp2_with fail
      refine HH.out.mono ?_
      rintro e w1 ⟨rfl, hw⟩
      have hw' := hw.symm
      subst hw'
      go_wp2
      go_ret
      exact ⟨rfl, rfl⟩
end Go.Proofs.YthojofeocjmglaaGreatDoor.I
