/- The reference's fits: the walk. -/
import Derived.Test.YtgkifphfibcfdaaGreatDoorRu7
import Derived.Test.YtgkifphfibcfdaaGreatDoorRuRMatch
import Derived.Lib.QuietBelow
namespace Go.Proofs.YtgkifphfibcfdaaGreatDoor.G
open Go.RowKit Go.Proofs.YtgkifphfibcfdaaGreatDoor.B Go.Sort
set_option linter.unusedVariables false
/-- A part of a row of pieces. -/
def PVR (w : World) (g o : Nat) (Z : List (PieceV × Value)) : Prop := ∃ cs, w.heap[g]? = some (.cells cs 143 (0, 0)) ∧ ∀ i, (h : i < Z.length) → cs[o + 2 * i]? = some (.bool (Z[i]'h).1.isNone) ∧ cs[o + 2 * i + 1]? = some (Z[i]'h).2
theorem PVR.keeps {T : List TypeId} {w w' : World} {g o : Nat} {Z : List (PieceV × Value)} (h : PVR w g o Z) (hk : Keeps T w w') (ht : 143 ∉ T) : PVR w' g o Z := by
  obtain ⟨cs, hg, hc⟩ := h
  exact ⟨cs, hk.2 _ _ _ _ hg ht, hc⟩
theorem PVR.tail {w : World} {g o : Nat} {z : PieceV × Value} {Z : List (PieceV × Value)} (h : PVR w g o (z :: Z)) : PVR w g (o + 2) Z ∧ w.cell? ⟨g, o, none⟩ = some (.bool z.1.isNone) ∧ w.cell? ⟨g, o + 1, none⟩ = some z.2 := by
  obtain ⟨cs, hg, hc⟩ := h
  have h0 := hc 0 (by simp)
  simp only [List.getElem_cons_zero, Nat.mul_zero, Nat.add_zero] at h0
  refine ⟨⟨cs, hg, fun i hi => ?_⟩, (cell_of_heap hg o).trans h0.1, (cell_of_heap hg (o + 1)).trans h0.2⟩
  have := hc (i + 1) (by simp; omega)
  simp only [List.getElem_cons_succ] at this
  rw [show o + 2 * (i + 1) = o + 2 + 2 * i by omega] at this
  exact this
theorem StrR.drop {w : World} {g o : Nat} {l : List ByteArray} (h : StrR w g o l) (i : Nat) : StrR w g (o + i) (l.drop i) := by
  obtain ⟨cs, hg, hcs⟩ := h
  refine ⟨cs, hg, fun j hj => ?_⟩
  rw [List.length_drop] at hj
  have := hcs (i + j) (by omega)
  rw [← Nat.add_assoc] at this
  rw [this]
  simp
theorem PVR.any {w : World} {g o o' : Nat} {Z : List (PieceV × Value)} (h : PVR w g o Z) (he : o' = o ∨ Z = []) : PVR w g o' Z := by
  rcases he with rfl | rfl
  · exact h
  · obtain ⟨cs, hg, _⟩ := h
    exact ⟨cs, hg, fun i hi => by simp at hi⟩
theorem StrR.any {w : World} {g o o' : Nat} {l : List ByteArray} (h : StrR w g o l) (he : o' = o ∨ l = []) : StrR w g o' l := by
  rcases he with rfl | rfl
  · exact h
  · obtain ⟨cs, hg, _⟩ := h
    exact ⟨cs, hg, fun i hi => by simp at hi⟩
theorem chg_regrown (w : World) (d : Nat) (os : Array Obj) : Chg [] w (grow (redrawn w d) os) := Chg.of_below (below_regrown w d os)
/-- A callee of a region that draws: its contract, in every world of the class. -/
theorem quiet_of {f : FuncId} {args : Array Value} {w : World} {v : Value} (h : ∀ W, Chg [] w W → Calls Tryz.prog f args W fun e w' => e = .returned v ∧ Chg [] W w') (d : Nat) (os : Array Obj) :
    Calls Tryz.prog f args (grow (redrawn w d) os) fun e w'' => e = .returned v ∧ ∃ p : Regrown, w'' = grow (redrawn w p.d) p.os :=
  Calls.regrown_of ((h _ (chg_regrown w d os)).mono fun e w' ⟨h1, h2⟩ => ⟨h1, h2.below⟩)
/-- Match at a piece in memory. -/
theorem piece_match {w : World} {L : List PartV} {v : Value} (h : RPartH w v L) (n : ByteArray) (hn : n.size ≤ 16777216) : ∃ A c, v = .slice A L.length c ∧ ∀ W, Chg [] w W → Calls Tryz.prog 16 #[.slice A L.length c, .string n] W fun e w' => e = .returned (.bool (mt L (bl n))) ∧ Chg [] W w' := by
  obtain ⟨⟨b, hb⟩, hL⟩ := h
  obtain ⟨A, c, rfl, hP⟩ := rparts_of_own hb
  exact ⟨A, c, rfl, fun W hc => rmatch_calls A c L n W (hP.chg2 hc) hL hn⟩
set_option maxRecDepth 100000 in
set_option maxHeartbeats 16000000 in
theorem fits_calls (several : Bool) : ∀ (Z : List (PieceV × Value)) (ns : List ByteArray) (g o c g2 o2 c2 : Nat) (w : World), PVR w g o Z → StrR w g2 o2 ns → Z.length ≤ c → ns.length ≤ c2 → (∀ z ∈ Z, RPieceH w z) → Z.length ≤ 16777216 → ns.length ≤ 16777216 → (∀ n ∈ ns, n.size ≤ 16777216) →
    Calls Tryz.prog 63 #[.slice (some ⟨g, o, none⟩) Z.length c, .slice (some ⟨g2, o2, none⟩) ns.length c2, .bool several] w fun e w' => e = .returned (.bool (fitsF several (Z.map (·.1)) ns)) ∧ Chg [] w w'
  | [], ns, g, o, c, g2, o2, c2, w, hp, hn, h1, h2, hz, b1, b2, b3 => by
    cases ns with
    | nil =>
      go_enter Tryz.func63, Tryz.ntmps63
      go_wp2
      go_ret
      exact ⟨rfl, Chg.refl _ _⟩
    | cons n r =>
      have e1 : ((r.length : Int) + 1 == 0) = false := by simp; omega
      have e2 : ¬ ((r.length : Int) + 1 = 0) := by omega
      go_enter Tryz.func63, Tryz.ntmps63
      go_wp2
      go_ret
      exact ⟨rfl, Chg.refl _ _⟩
  | (some L, v) :: Z, [], g, o, c, g2, o2, c2, w, hp, hn, h1, h2, hz, b1, b2, b3 => by
    obtain ⟨hpt, p0, p1⟩ := hp.tail
    have e2 : ¬ ((Z.length : Int) + 1 = 0) := by omega
    have e1 : ((Z.length : Int) + 1 == 0) = false := by simp; omega
    have k1 : (0 : Int) < (Z.length : Int) + 1 := by omega
    replace p0 : w.cell? ⟨g, o, none⟩ = some (.bool false) := p0
    clear p1 hpt hp hn hz
    go_enter Tryz.func63, Tryz.ntmps63
    go_upto_region 4 with fail
    refine wp_region_quiet_below (by kernel_rfl) (by kernel_rfl) ?_
    repeat (quiet_step (fail))
    refine wpQuiet_nil ?_
    rintro w' ⟨q, rfl⟩
    go_wp2
    go_ret
    exact ⟨rfl, chg_regrown _ _ _⟩
  | (some L, v) :: Z, n :: r, g, o, c, g2, o2, c2, w, hp, hn, h1, h2, hz, b1, b2, b3 => by
    obtain ⟨hpt, p0, p1⟩ := hp.tail
    obtain ⟨A3, c3, hv, hM⟩ := piece_match (hz (some L, v) (by simp)) n (b3 n (by simp))
    simp only at p1 hv
    subst hv
    replace p0 : w.cell? ⟨g, o, none⟩ = some (.bool false) := p0
    have e2 : ¬ ((Z.length : Int) + 1 = 0) := by omega
    have e1 : ((Z.length : Int) + 1 == 0) = false := by simp; omega
    have k0 : (0 : Int) < (Z.length : Int) + 1 := by omega
    have k1 : (0 : Int) < (r.length : Int) + 1 := by omega
    have k5 : (1 : Int) ≤ (Z.length : Int) + 1 := by omega
    have k6 : (1 : Int) ≤ (r.length : Int) + 1 := by omega
    have k2 : (1 : Int) ≤ (c : Int) := by simp at h1; omega
    have k3 : (1 : Int) ≤ (c2 : Int) := by simp at h2; omega
    have p1' := fun d os => cell_regrown p1 d os
    have s0' := fun d os => cell_regrown (show w.cell? ⟨g2, o2, none⟩ = some (.string n) from hn.cell (i := 0) (by simp)) d os
    have hR := fun o' (ho : o' = o + 2 ∨ Z = []) o2' (ho2 : o2' = o2 + 1 ∨ r = []) W (hc : Chg [] w W) => fits_calls several Z r g o' (c - 1) g2 o2' (c2 - 1) W ((hpt.any ho).keeps (Keeps.of_chg (T := []) hc) (by simp)) (((hn.drop 1).any ho2).keeps (Keeps.of_chg (T := []) hc) (by simp)) (by simp at h1; omega) (by simp at h2; omega) (fun z h => (hz z (by simp [h])).keeps (Keeps.of_chg (T := []) hc) (by simp)) (by simp at b1; omega) (by simp at b2; omega) (fun m h => b3 m (by simp [h]))
    obtain ⟨q2, hq2⟩ : ∃ q, fitsF several (Z.map (·.1)) r = q := ⟨_, rfl⟩
    rw [hq2] at hR
    have HRR := Asd.mk hR
    have HC1 := Asd.mk (show c = 1 → Z = [] from fun h => by simp at h1; exact List.eq_nil_of_length_eq_zero (by omega))
    have HC2 := Asd.mk (show c2 = 1 → r = [] from fun h => by simp at h2; exact List.eq_nil_of_length_eq_zero (by omega))
    have HV := Asd.mk (show fitsF several (((some L, Value.slice A3 L.length c3) :: Z).map (·.1)) (n :: r) = (mt L (bl n) && q2) by rw [← hq2]; rfl)
    clear hR hq2 hp hn hz p1 hpt h1 h2 b1 b2 b3
    cases hq : mt L (bl n) with
    | false =>
      rw [hq] at hM HV
      have cM := quiet_of hM
      clear hM hq
      go_enter Tryz.func63, Tryz.ntmps63
      go_upto_region 4 with fail
      refine wp_region_quiet_below (by kernel_rfl) (by kernel_rfl) ?_
      repeat (quiet_step (first | (go_at_call 16; exact cM _ _)))
      refine wpQuiet_nil ?_
      rintro w' ⟨q, rfl⟩
      go_wp2
      go_ret
      exact ⟨congrArg (fun x => Ending.returned (Value.bool x)) HV.out.symm, chg_regrown _ _ _⟩
    | true =>
      rw [hq] at hM HV
      have cM := quiet_of hM
      clear hM hq
      by_cases x1 : c = 1
      · have hZ := HC1.out x1
        subst x1
        by_cases x2 : c2 = 1
        · have hr0 := HC2.out x2
          subst x2
          have cF := quiet_of (HRR.out o (.inr hZ) o2 (.inr hr0))
          clear hr0 hZ
          go_enter Tryz.func63, Tryz.ntmps63
          go_upto_region 4 with fail
          refine wp_region_quiet_below (by kernel_rfl) (by kernel_rfl) ?_
          repeat (quiet_step (first | (go_at_call 16; exact cM _ _) | (go_at_call 63; exact cF _ _)))
          refine wpQuiet_nil ?_
          rintro w' ⟨q, rfl⟩
          go_wp2
          go_ret
          exact ⟨congrArg (fun x => Ending.returned (Value.bool x)) HV.out.symm, chg_regrown _ _ _⟩
        · have cF := quiet_of (HRR.out o (.inr hZ) (o2 + 1) (.inl rfl))
          subst hZ
          go_enter Tryz.func63, Tryz.ntmps63
          go_upto_region 4 with fail
          refine wp_region_quiet_below (by kernel_rfl) (by kernel_rfl) ?_
          repeat (quiet_step (first | (go_at_call 16; exact cM _ _) | (go_at_call 63; exact cF _ _)))
          refine wpQuiet_nil ?_
          rintro w' ⟨q, rfl⟩
          go_wp2
          go_ret
          exact ⟨congrArg (fun x => Ending.returned (Value.bool x)) HV.out.symm, chg_regrown _ _ _⟩
      · by_cases x2 : c2 = 1
        · have hr0 := HC2.out x2
          subst x2
          have cF := quiet_of (HRR.out (o + 2) (.inl rfl) o2 (.inr hr0))
          clear hr0
          go_enter Tryz.func63, Tryz.ntmps63
          go_upto_region 4 with fail
          refine wp_region_quiet_below (by kernel_rfl) (by kernel_rfl) ?_
          repeat (quiet_step (first | (go_at_call 16; exact cM _ _) | (go_at_call 63; exact cF _ _)))
          refine wpQuiet_nil ?_
          rintro w' ⟨q, rfl⟩
          go_wp2
          go_ret
          exact ⟨congrArg (fun x => Ending.returned (Value.bool x)) HV.out.symm, chg_regrown _ _ _⟩
        · have cF := quiet_of (HRR.out (o + 2) (.inl rfl) (o2 + 1) (.inl rfl))
          go_enter Tryz.func63, Tryz.ntmps63
          go_upto_region 4 with fail
          refine wp_region_quiet_below (by kernel_rfl) (by kernel_rfl) ?_
          repeat (quiet_step (first | (go_at_call 16; exact cM _ _) | (go_at_call 63; exact cF _ _)))
          refine wpQuiet_nil ?_
          rintro w' ⟨q, rfl⟩
          go_wp2
          go_ret
          exact ⟨congrArg (fun x => Ending.returned (Value.bool x)) HV.out.symm, chg_regrown _ _ _⟩
  | (none, v) :: [], ns, g, o, c, g2, o2, c2, w, hp, hn, h1, h2, hz, b1, b2, b3 => by
    obtain ⟨hpt, p0, p1⟩ := hp.tail
    replace p0 : w.cell? ⟨g, o, none⟩ = some (.bool true) := p0
    clear p1 hpt hp hn hz
    cases ns with
    | nil =>
      cases several with
      | true =>
        go_enter Tryz.func63, Tryz.ntmps63
        go_wp2
        go_ret
        exact ⟨rfl, Chg.refl _ _⟩
      | false =>
        go_enter Tryz.func63, Tryz.ntmps63
        go_wp2
        go_ret
        exact ⟨rfl, Chg.refl _ _⟩
    | cons n r =>
      have k1 : (0 : Int) < (r.length : Int) + 1 := by omega
      go_enter Tryz.func63, Tryz.ntmps63
      go_wp2
      go_ret
      exact ⟨rfl, Chg.refl _ _⟩
  | (none, v) :: y :: Z, ns, g, o, c, g2, o2, c2, w, hp, hn, h1, h2, hz, b1, b2, b3 => by
    obtain ⟨hpt, p0, p1⟩ := hp.tail
    replace p0 : w.cell? ⟨g, o, none⟩ = some (.bool true) := p0
    have e2 : ¬ ((Z.length : Int) + 1 + 1 = 0) := by omega
    have e1 : ((Z.length : Int) + 1 + 1 == 0) = false := by simp; omega
    have e3 : ((Z.length : Int) + 1 + 1 == 1) = false := by simp; omega
    have e4 : ¬ ((Z.length : Int) + 1 + 1 = 1) := by omega
    have k0 : (0 : Int) < (Z.length : Int) + 1 + 1 := by omega
    have k2 : (1 : Int) ≤ (c : Int) := by simp at h1; omega
    have k3 : ¬ (c = 1) := by simp at h1; omega
    have k5 : (1 : Int) ≤ (Z.length : Int) + 1 + 1 := by omega
    have hR := fun (i : Nat) (hi : i ≤ ns.length) o2' (ho2 : o2' = o2 + i ∨ ns.drop i = []) W (hc : Chg [] w W) => fits_calls several (y :: Z) (ns.drop i) g (o + 2) (c - 1) g2 o2' (c2 - i) W (hpt.keeps (Keeps.of_chg (T := []) hc) (by simp)) (((hn.drop i).any ho2).keeps (Keeps.of_chg (T := []) hc) (by simp)) (by simp at h1 ⊢; omega) (by rw [List.length_drop]; omega) (fun z h => (hz z (List.mem_cons_of_mem _ h)).keeps (Keeps.of_chg (T := []) hc) (by simp)) (by simp at b1 ⊢; omega) (by rw [List.length_drop]; omega) (fun m h => b3 m (List.mem_of_mem_drop h))
    obtain ⟨f, hf⟩ : ∃ f, fitsF several ((y :: Z).map (·.1)) = f := ⟨_, rfl⟩
    have HV := Asd.mk (show fitsF several (((none, v) :: y :: Z).map (·.1)) ns = anyDrop f ns by
      rw [← hf]
      simp only [List.map_cons, fitsF]
      rfl)
    rw [hf] at hR
    have HR := Asd.mk hR
    clear hR hp hn hz p1 hpt h1 b1 b3 hf
    go_enter Tryz.func63, Tryz.ntmps63
    go_wp2
    go_loopg [7] (ns.length + 2) (fun gk v7 wx => ∃ i : Nat, i ≤ ns.length + 1 ∧ gk = ns.length + 2 - i ∧ v7 = .int .i64 (i : Int) ∧ Asd (∀ j, j < i → f (ns.drop j) = false) ∧ Asd (Chg [] w wx))
    case atStart => exact ⟨0, by omega, by omega, rfl, ⟨fun j hj => by omega⟩, ⟨Chg.refl _ _⟩⟩
    case round =>
      obtain ⟨i, hi, rfl, rfl, HF, HC⟩ := hrel
      by_cases hle : i ≤ ns.length
      · by_cases x2 : c2 = i
        · have hdn : ns.drop i = [] := List.drop_eq_nil_of_le (by omega)
          subst x2
          have hR := fun W (hc : Chg [] wr W) => HR.out c2 hle o2 (.inr hdn) W (HC.out.trans hc)
          have j1 : (c2 : Int) ≤ (ns.length : Int) := by omega
          have j2 : (c2 : Int) ≤ (c2 : Int) := by omega
          obtain ⟨q, hq⟩ : ∃ q, f (ns.drop c2) = q := ⟨_, rfl⟩
          rw [hq, List.length_drop, show ns.length - c2 = 0 by omega, Nat.sub_self] at hR
          have cF := quiet_of hR
          clear hR
          cases q with
          | true =>
            have HV2 := Asd.mk (show anyDrop f ns = true from (anyDrop_iff _ _).2 ⟨c2, hle, hq⟩)
            clear hq
            go_upto_region 10 with fail
            refine wp_region_quiet_below (by kernel_rfl) (by kernel_rfl) ?_
            iterate 6 (quiet_step (fail))
            quiet_step ((go_at_call 63; exact cF _ _))
            refine wpQuiet_nil ?_
            rintro w' ⟨q, rfl⟩
            go_wp2
            go_ret
            exact ⟨by rw [HV.out, HV2.out]; rfl, HC.out.trans (chg_regrown _ _ _)⟩
          | false =>
            have HF2 := Asd.mk (show ∀ j, j < c2 + 1 → f (ns.drop j) = false from fun j hj => by
              by_cases hji : j = c2
              · rw [hji]; exact hq
              · exact HF.out j (by omega))
            clear hq
            go_upto_region 10 with fail
            refine wp_region_quiet_below (by kernel_rfl) (by kernel_rfl) ?_
            iterate 6 (quiet_step (fail))
            quiet_step ((go_at_call 63; exact cF _ _))
            refine wpQuiet_nil ?_
            rintro w' ⟨q, rfl⟩
            have HC2 := Asd.mk (HC.out.trans (chg_regrown wr q.d q.os))
            go_wp2
            go_roundg (ns.length + 2 - (c2 + 1))
            case rel => exact ⟨c2 + 1, by omega, by omega, by go_num, HF2, HC2⟩
            case measure => omega
        · have hR := fun W (hc : Chg [] wr W) => HR.out i hle (o2 + i) (.inl rfl) W (HC.out.trans hc)
          have j1 : (i : Int) ≤ (ns.length : Int) := by omega
          have j2 : (i : Int) ≤ (c2 : Int) := by omega
          obtain ⟨q, hq⟩ : ∃ q, f (ns.drop i) = q := ⟨_, rfl⟩
          rw [hq, List.length_drop] at hR
          have cF := quiet_of hR
          clear hR
          cases q with
          | true =>
            have HV2 := Asd.mk (show anyDrop f ns = true from (anyDrop_iff _ _).2 ⟨i, hle, hq⟩)
            clear hq
            go_upto_region 10 with fail
            refine wp_region_quiet_below (by kernel_rfl) (by kernel_rfl) ?_
            iterate 6 (quiet_step (fail))
            quiet_step ((go_at_call 63; exact cF _ _))
            refine wpQuiet_nil ?_
            rintro w' ⟨q, rfl⟩
            go_wp2
            go_ret
            exact ⟨by rw [HV.out, HV2.out]; rfl, HC.out.trans (chg_regrown _ _ _)⟩
          | false =>
            have HF2 := Asd.mk (show ∀ j, j < i + 1 → f (ns.drop j) = false from fun j hj => by
              by_cases hji : j = i
              · rw [hji]; exact hq
              · exact HF.out j (by omega))
            clear hq
            go_upto_region 10 with fail
            refine wp_region_quiet_below (by kernel_rfl) (by kernel_rfl) ?_
            iterate 6 (quiet_step (fail))
            quiet_step ((go_at_call 63; exact cF _ _))
            refine wpQuiet_nil ?_
            rintro w' ⟨q, rfl⟩
            have HC2 := Asd.mk (HC.out.trans (chg_regrown wr q.d q.os))
            go_wp2
            go_roundg (ns.length + 2 - (i + 1))
            case rel => exact ⟨i + 1, by omega, by omega, by go_num, HF2, HC2⟩
            case measure => omega
      · obtain rfl : i = ns.length + 1 := by omega
        have HV2 := Asd.mk (show anyDrop f ns = false from Bool.eq_false_iff.2 (fun h => by
          obtain ⟨j, hj, hfj⟩ := (anyDrop_iff _ _).1 h
          rw [HF.out j (by omega)] at hfj
          cases hfj))
        go_wp2
        go_ret
        exact ⟨by rw [HV.out, HV2.out]; rfl, HC.out⟩
end Go.Proofs.YtgkifphfibcfdaaGreatDoor.G
