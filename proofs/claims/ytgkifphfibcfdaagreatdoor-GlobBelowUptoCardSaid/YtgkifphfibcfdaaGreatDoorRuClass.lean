/- A class of a set: [:name:]. -/
import Derived.Test.YtgkifphfibcfdaaGreatDoorRu3
namespace Go.Proofs.YtgkifphfibcfdaaGreatDoor.G
open Go.RowKit Go.Proofs.YtgkifphfibcfdaaGreatDoor.B
set_option linter.unusedVariables false
set_option maxRecDepth 100000 in
set_option maxHeartbeats 4000000 in
theorem class_yes (b c : Nat) (s : ByteArray) (i : Nat) (a : Bool) (T : Nat → Bool) (k : Nat) (w : World) (hb : RdAt w b s i) (hc : PartAt w c a T) (hne : b ≠ c) (hi : i ≤ s.size) (hs : s.size ≤ 1048576)
    (hk : k < 12) (hyes : startsAt s i (cpat k) = true) (hno : ∀ j, j < k → startsAt s i (cpat j) = false) :
    Calls Tryz.prog 65 #[.pointer (some ⟨b, 0, none⟩), .pointer (some ⟨c, 0, none⟩)] w fun e w' =>
      e = .returned (.bool true) ∧ Chg [b, c] w w' ∧ RdAt w' b s (i + (cpat k).size) ∧ PartAt w' c a (fun j => T j || (decide (j < 128) && chas k j)) := by
  have HB := Asd.mk hb
  have HP := Asd.mk hc
  have HY := Asd.mk hyes
  have HN := Asd.mk hno
  clear hb hc hyes hno
  go_enter Tryz.func65, Tryz.ntmps65
  go_wp2_with (go_at_call 80; refine (classes_calls _).mono ?_; rintro e w' ⟨rfl, rfl⟩)
  go_loopw [11] (fun v wr => ∃ j : Nat, j ≤ k ∧ v = .int .i64 j ∧ Asd (Chg [] (w.alloc (.cells clsCells 170)) wr)) (fun v _ => 12 - (intOf v).toNat)
  case atStart => exact ⟨0, Nat.zero_le _, rfl, ⟨Chg.refl _ _⟩⟩
  case round =>
    obtain ⟨j, hj, rfl, HC⟩ := hrel
    have HB1 := Asd.mk (show RdAt wr b s i from HC.out.heap (hp_alloc HB.out _) (by simp))
    have hg : wr.heap[w.heap.size]? = some (.cells clsCells 170 (0, 0)) := HC.out.heap (hp_new _ _) (by simp)
    have n0 : wr.cell? ⟨w.heap.size, j * 2, none⟩ = some (.string (cname j)) := (cell_of_heap hg _).trans (cls_name j (by omega))
    have n1 : wr.cell? ⟨w.heap.size, j * 2 + 1, none⟩ = some (.func (.func (cfid j)) #[] #[]) := (cell_of_heap hg _).trans (cls_func j (by omega))
    have hsz := cname_size j
    clear hg
    by_cases hjk : j < k
    · go_wp2_with fail
      refine (starts_calls b s i (cpat j) _ (hp_alloc HB1.out _) hi hs (by have := cpat_size j; omega)).mono ?_
      rw [HN.out j hjk]
      rintro e w' ⟨rfl, n, rfl⟩
      go_wp2
      exact ⟨⟨j + 1, by omega, by go_num, ⟨(HC.out.alloc _).drewN _⟩⟩, by simp [intOf]; omega⟩
    · obtain rfl : j = k := by omega
      have hcp := cpat_size j
      go_wp2_with fail
      refine (starts_calls b s i (cpat j) _ (hp_alloc HB1.out _) hi hs (by omega)).mono ?_
      rw [HY.out]
      rintro e w' ⟨rfl, n, rfl⟩
      have h1 := HB1.out.c1
      have f1 := HB1.out.f1
      have hlt := lt_of_heap HB1.out
      go_wp2
      obtain ⟨wo, rfl⟩ : ∃ wo : World, wo = wr := ⟨_, rfl⟩
      go_loopw [31] (fun v wx => ∃ x : Nat, x ≤ 128 ∧ v = .int .i64 x ∧ Asd (Chg [b, c] w wx) ∧ Asd (RdAt wx b s (i + (cpat j).size)) ∧ Asd (PartAt wx c a (fun t => T t || (decide (t < x) && chas j t))) ∧ Asd (wx.heap[wo.heap.size]? = some (.cells #[.string (cname j), .func (.func (cfid j)) #[] #[]] 170 (0, 0)))) (fun v _ => 128 - (intOf v).toNat)
      case atStart =>
        have hcl := cpat_len j
        have hlo := lt_of_heap HB.out
        have hlc := lt_of_heap HP.out
        have hwo : w.heap.size ≤ wo.heap.size := by have := HC.out.size; simp at this; omega
        have HC0 : Chg [b, c] w wo := ((Chg.refl _ _).alloc _).step HC.out (by simp)
        have HR : RdAt wo b s i := HB1.out
        have HQ : PartAt wo c a T := HC.out.heap (hp_alloc HP.out _) (by simp)
        refine ⟨0, by omega, rfl, ⟨?_⟩, ⟨?_⟩, ⟨?_⟩, ⟨?_⟩⟩
        · exact ((HC0.alloc _).setCell (by simp) _).drewN _
        · have h := hp_drewN (hp_set (hp_alloc HR (.cells #[.string (cname j), .func (.func (cfid j)) #[] #[]] 170)) 1 (.int .i64 ((i : Int) + (2 + ((cname j).size : Int) + 2)))) n
          have e : ((i : Int) + (2 + ((cname j).size : Int) + 2)) = ((i + (cpat j).size : Nat) : Int) := by omega
          rw [e] at h
          rw [e]
          exact h
        · have h : PartAt ((wo.alloc (.cells #[.string (cname j), .func (.func (cfid j)) #[] #[]] 170)).setCell ⟨b, 1, none⟩ (.int .i64 ((i : Int) + (2 + ((cname j).size : Int) + 2)))) c a T := hp_set_other (hp_alloc HQ _) (fun e => hne e.symm) _ _
          exact (show PartAt (World.drewN _ n) c a T from hp_drewN h n).congr (fun t _ => by simp)
        · exact hp_drewN (hp_set_other (hp_new _ _) (by have := lt_of_heap HR; omega) _ _) _
      case round =>
        obtain ⟨x, hx, rfl, HC2, HB2, HP2, HM2⟩ := hrel
        have m0 : wr.cell? ⟨wo.heap.size, 0, none⟩ = some (.string (cname j)) := cell_of_heap HM2.out 0
        have m1 : wr.cell? ⟨wo.heap.size, 1, none⟩ = some (.func (.func (cfid j)) #[] #[]) := cell_of_heap HM2.out 1
        by_cases hx8 : x < 128
        · have p0 := HP2.out.cell x (by omega)
          have pf := HP2.out.frozen (1 + x)
          have b1 : (x : Int) < 256 := by omega
          have b0 : 0 ≤ (x : Int) := by omega
          have hnew : ∀ v, v = (T x || chas j (x : Int)) → ∀ t, t < 256 → upd (fun t => T t || (decide (t < x) && chas j t)) x v t = (T t || (decide (t < x + 1) && chas j t)) := by
            intro v hv t _
            simp only [upd]
            by_cases ht : t = x
            · subst ht; rw [if_pos rfl, hv]; simp
            · rw [if_neg ht]
              have : decide (t < x) = decide (t < x + 1) := decide_eq_decide.mpr (by omega)
              rw [this]
          have HNW := Asd.mk hnew
          clear hnew
          rw [show (T x || (decide (x < x) && chas j x)) = T x from by simp] at p0
          have hend : ∀ v, v = (T x || chas j (x : Int)) → ∃ x1 : Nat, x1 ≤ 128 ∧ Value.int IntKind.i64 ((x : Int) + 1) = .int .i64 x1 ∧ Asd (Chg [b, c] w (wr.setCell ⟨c, 1 + x, none⟩ (.bool v)).drew) ∧ Asd (RdAt (wr.setCell ⟨c, 1 + x, none⟩ (.bool v)).drew b s (i + (cpat j).size)) ∧
              Asd (PartAt (wr.setCell ⟨c, 1 + x, none⟩ (.bool v)).drew c a (fun t => T t || (decide (t < x1) && chas j t))) ∧ Asd ((wr.setCell ⟨c, 1 + x, none⟩ (.bool v)).drew.heap[wo.heap.size]? = some (.cells #[.string (cname j), .func (.func (cfid j)) #[] #[]] 170 (0, 0))) := by
            intro v hv
            have hlc := lt_of_heap HP.out
            have hwo : w.heap.size ≤ wo.heap.size := by have := HC.out.size; simp at this; omega
            exact ⟨x + 1, by omega, by go_num, ⟨(HC2.out.setCell (by simp) _).drew⟩, ⟨hp_drew (hp_set_other HB2.out hne _ _)⟩,
              ⟨(show PartAt (World.drew _) c a _ from hp_drew (HP2.out.set x v)).congr (HNW.out v hv)⟩, ⟨hp_drew (hp_set_other HM2.out (by have h1 := lt_of_heap HB1.out; have h2 := lt_of_heap (show wo.heap[c]? = _ from HC.out.heap (hp_alloc HP.out _) (by simp)); omega) _ _)⟩⟩
          have HEND := Asd.mk hend
          clear hend
          cases hT : T x with
          | true =>
            rw [hT] at p0
            have HT := Asd.mk hT
            clear hT
            go_wp2
            go_still_tail 18, (by kernel_rfl)
            go_wp2
            exact ⟨HEND.out true (by rw [HT.out]; rfl), by simp [intOf]; omega⟩
          | false =>
            rw [hT] at p0
            have HT := Asd.mk hT
            clear hT
            have hcf := fun (v : Value) (W : World) => call_cfid j (by omega) #[v] W
            have k8 : IntKind.u8.wrap (x : Int) = (x : Int) := IntWalk.u8_in _ ⟨by omega, by omega⟩
            go_wp2
            go_still_tail 18, (by kernel_rfl)
            still_call (chas_calls j (by omega) _ _ (by omega) (by omega))
            repeat still_step
            refine wpStill_nil ?_
            go_wp2
            exact ⟨HEND.out _ (by rw [HT.out]; rfl), by simp [intOf]; omega⟩
        · obtain rfl : x = 128 := by omega
          go_wp2
          go_ret
          exact ⟨rfl, HC2.out, HB2.out, HP2.out⟩
set_option maxRecDepth 100000 in
set_option maxHeartbeats 4000000 in
theorem class_no (b c : Nat) (s : ByteArray) (i : Nat) (w : World) (hb : RdAt w b s i) (hi : i ≤ s.size) (hs : s.size ≤ 1048576)
    (hno : ∀ j, j < 12 → startsAt s i (cpat j) = false) :
    Calls Tryz.prog 65 #[.pointer (some ⟨b, 0, none⟩), .pointer (some ⟨c, 0, none⟩)] w fun e w' => e = .returned (.bool false) ∧ Chg [] w w' := by
  have HB := Asd.mk hb
  have HN := Asd.mk hno
  clear hb hno
  go_enter Tryz.func65, Tryz.ntmps65
  go_wp2_with (go_at_call 80; refine (classes_calls _).mono ?_; rintro e w' ⟨rfl, rfl⟩)
  go_loopw [11] (fun v wr => ∃ j : Nat, j ≤ 12 ∧ v = .int .i64 j ∧ Asd (Chg [] (w.alloc (.cells clsCells 170)) wr)) (fun v _ => 12 - (intOf v).toNat)
  case atStart => exact ⟨0, Nat.zero_le _, rfl, ⟨Chg.refl _ _⟩⟩
  case round =>
    obtain ⟨j, hj, rfl, HC⟩ := hrel
    have HB1 := Asd.mk (show RdAt wr b s i from HC.out.heap (hp_alloc HB.out _) (by simp))
    by_cases hjk : j < 12
    · have hg : wr.heap[w.heap.size]? = some (.cells clsCells 170 (0, 0)) := HC.out.heap (hp_new _ _) (by simp)
      have n0 : wr.cell? ⟨w.heap.size, j * 2, none⟩ = some (.string (cname j)) := (cell_of_heap hg _).trans (cls_name j hjk)
      have n1 : wr.cell? ⟨w.heap.size, j * 2 + 1, none⟩ = some (.func (.func (cfid j)) #[] #[]) := (cell_of_heap hg _).trans (cls_func j hjk)
      have hsz := cname_size j
      clear hg
      go_wp2_with fail
      refine (starts_calls b s i (cpat j) _ (hp_alloc HB1.out _) hi hs (by have := cpat_size j; omega)).mono ?_
      rw [HN.out j hjk]
      rintro e w' ⟨rfl, n, rfl⟩
      go_wp2
      exact ⟨⟨j + 1, by omega, by go_num, ⟨(HC.out.alloc _).drewN _⟩⟩, by simp [intOf]; omega⟩
    · obtain rfl : j = 12 := by omega
      go_wp2
      go_ret
      exact ⟨rfl, ((Chg.refl _ _).alloc _).step HC.out (by simp)⟩
end Go.Proofs.YtgkifphfibcfdaaGreatDoor.G
