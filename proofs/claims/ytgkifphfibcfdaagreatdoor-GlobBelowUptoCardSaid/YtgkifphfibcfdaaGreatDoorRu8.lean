/- Merged out of these texts: SetAll, RMeans. -/
import Derived.Test.YtgkifphfibcfdaaGreatDoorRuSetA
import Derived.Test.YtgkifphfibcfdaaGreatDoorRuSetB
import Derived.Test.YtgkifphfibcfdaaGreatDoorRuSetC
import Derived.Test.YtgkifphfibcfdaaGreatDoorRu5
import Derived.Test.YtgkifphfibcfdaaGreatDoorRuFits
/- A set behind its bracket: the contract of (*reader).set over setF. -/
namespace Go.Proofs.YtgkifphfibcfdaaGreatDoor.G
open Go.RowKit Go.Proofs.YtgkifphfibcfdaaGreatDoor.B
set_option linter.unusedVariables false
/-- What set leaves. -/
def SetEnd (b : Nat) (s : ByteArray) (w : World) (r : Option (Nat × (Nat → Bool))) (e : Ending) (w' : World) : Prop :=
  match r with
  | some (j, U) => e = .returned (.tuple #[.agg (cellsOf false U), .bool true]) ∧ Chg [b] w w' ∧ RdAt w' b s j
  | none => ∃ U, e = .returned (.tuple #[.agg (cellsOf false U), .bool false]) ∧ Chg [b] w w'
theorem set_calls (b : Nat) (s : ByteArray) (i : Nat) (w : World) (hb : RdAt w b s i) (hi : i ≤ s.size) (hs : s.size ≤ 1048576) :
    Calls Tryz.prog 27 #[.pointer (some ⟨b, 0, none⟩)] w fun e w' => SetEnd b s w (setF s i) e w' := by
  have conv : ∀ (n : Bool) (r : Option (Nat × (Nat → Bool))) e w', SetPost b s n w r e w' → SetEnd b s w (match r with | some (j, U) => some (j + 1, flipB n U) | none => none) e w' := by
    intro n r e w' h
    cases r with
    | none => exact h
    | some r => exact h
  unfold setF
  cases h1 : startsAt s i ⟨#[33]⟩ with
  | true =>
    have hn : notAt s i = true := by unfold notAt; rw [h1]; rfl
    rw [hn, if_pos rfl]
    exact (set_a b s i w hb hi hs h1 _ rfl).mono (fun e w' h => conv _ _ _ _ h)
  | false =>
    cases h2 : startsAt s i ⟨#[94]⟩ with
    | true =>
      have hn : notAt s i = true := by unfold notAt; rw [h1, h2]; rfl
      rw [hn, if_pos rfl]
      exact (set_b b s i w hb hi hs h1 h2 _ rfl).mono (fun e w' h => conv _ _ _ _ h)
    | false =>
      have hn : notAt s i = false := by unfold notAt; rw [h1, h2]; rfl
      rw [hn, if_neg (by decide)]
      exact (set_c b s i w hb hi hs h1 h2 _ rfl).mono (fun e w' h => conv _ _ _ _ h)
end Go.Proofs.YtgkifphfibcfdaaGreatDoor.G
/- The reference's means: the walk. -/
namespace Go.Proofs.YtgkifphfibcfdaaGreatDoor.G
open Go.RowKit Go.Proofs.YtgkifphfibcfdaaGreatDoor.B Go.Sort
set_option linter.unusedVariables false
/-- Rules as texts make them: they have pieces; one that is not rooted begins with a pattern. -/
def WFR (r : RuleV) : Prop := r.pieces ≠ [] ∧ (r.rooted = false → ∃ L ps, r.pieces = some L :: ps) ∧ r.pieces.length ≤ 16777216
theorem pvr_of_own {w : World} {b : Nat} {v : Value} {Z : List (PieceV × Value)} (h : w.ownsRow b 143 2 v Z.length (rcells Z)) (hZ : Z ≠ []) : ∃ g c, v = .slice (some ⟨g, 0, none⟩) Z.length c ∧ Z.length ≤ c ∧ PVR w g 0 Z := by
  rcases h.2 with ⟨rfl, h0⟩ | ⟨g, cap, cur, rfl, hb, hg, hn, hc, hsz, ht⟩
  · exact absurd (List.eq_nil_of_length_eq_zero h0) hZ
  · refine ⟨g, cap, rfl, hn, cur, hg, fun i hi => ?_⟩
    have key : ∀ (Y : List (PieceV × Value)) (i : Nat) (hi : i < Y.length), (rcells Y)[2 * i]? = some (.bool (Y[i]'hi).1.isNone) ∧ (rcells Y)[2 * i + 1]? = some (Y[i]'hi).2 := by
      intro Y
      induction Y with
      | nil => intro i hi; simp at hi
      | cons z r ih =>
        intro i hi
        have e : rcells (z :: r) = .bool z.1.isNone :: z.2 :: rcells r := by simp [rcells]
        rw [e]
        cases i with
        | zero => exact ⟨rfl, rfl⟩
        | succ i =>
          have := ih i (by simpa using hi)
          rw [show 2 * (i + 1) = 2 * i + 1 + 1 by omega]
          simpa using this
    obtain ⟨k1, k2⟩ := key Z i hi
    have t1 : (cur.toList.take (Z.length * 2))[2 * i]? = (rcells Z)[2 * i]? := by rw [ht]
    have t2 : (cur.toList.take (Z.length * 2))[2 * i + 1]? = (rcells Z)[2 * i + 1]? := by rw [ht]
    rw [List.getElem?_take_of_lt (by omega), k1] at t1
    rw [List.getElem?_take_of_lt (by omega), k2] at t2
    simp only [Nat.zero_add]
    exact ⟨by simpa using t1, by simpa using t2⟩
set_option maxRecDepth 100000 in
set_option maxHeartbeats 16000000 in
theorem rmeans_calls (x : XR) (ns : List ByteArray) (g2 o2 c2 : Nat) (dir : Bool) (w : World) (hx : XRH w x) (hwf : WFR x.r) (hn : StrR w g2 o2 ns) (hn0 : ns ≠ []) (h2 : ns.length ≤ c2) (b2 : ns.length ≤ 16777216) (b3 : ∀ n ∈ ns, n.size ≤ 16777216) :
    Calls Tryz.prog 44 #[.agg #[.bool x.r.back, .bool x.r.dir, .bool x.r.rooted, x.v], .slice (some ⟨g2, o2, none⟩) ns.length c2, .bool dir] w fun e w' => e = .returned (.bool (meansF x.r ns dir)) ∧ Chg [] w w' := by
  obtain ⟨r, v, Z⟩ := x
  obtain ⟨bk, dr, rt, ps⟩ := r
  obtain ⟨⟨b, hown⟩, hpz, hze⟩ := hx
  simp only at hown hpz hze ⊢
  subst hze
  have b1 : Z.length ≤ 16777216 := by have := hwf.2.2; simpa using this
  have hZ0 : Z ≠ [] := fun e => hwf.1 (by simp [e])
  obtain ⟨g, c, rfl, hc, hP⟩ := pvr_of_own hown hZ0
  obtain ⟨B, hB⟩ : ∃ B, B = w.heap.size := ⟨_, rfl⟩
  have HW := Asd.mk (hp_new w (.cells #[.bool bk, .bool dr, .bool rt, .slice (some ⟨g, 0, none⟩) Z.length c] 93))
  have HC := Asd.mk ((Chg.refl [] w).alloc (.cells #[.bool bk, .bool dr, .bool rt, .slice (some ⟨g, 0, none⟩) Z.length c] 93))
  by_cases hd : dr = true ∧ dir = false
  · obtain ⟨rfl, rfl⟩ := hd
    have HV := Asd.mk (show meansF ⟨bk, true, rt, Z.map (·.1)⟩ ns false = false by simp [meansF])
    go_enter Tryz.func44, Tryz.ntmps44
    go_wp2
    go_ret
    exact ⟨by rw [HV.out]; rfl, HC.out⟩
  · have hsel : (dr = true ∧ dir = true) ∨ dr = false := by
      cases dr with
      | false => exact .inr rfl
      | true =>
        cases dir with
        | true => exact .inl ⟨rfl, rfl⟩
        | false => exact absurd ⟨rfl, rfl⟩ hd
    cases rt with
    | false =>
      obtain ⟨L, ps, hps⟩ := hwf.2.1 rfl
      simp only at hps
      cases Z with
      | nil => exact absurd rfl hZ0
      | cons z Z =>
        obtain ⟨zp, zv⟩ := z
        simp only [List.map_cons, List.cons.injEq] at hps
        obtain ⟨rfl, _⟩ := hps
        obtain ⟨n, hln⟩ : ∃ n, ns.getLast? = some n := by
          cases h : ns.getLast? with
          | none => exact absurd (List.getLast?_eq_none_iff.1 h) hn0
          | some n => exact ⟨n, rfl⟩
        have hlen : 0 < ns.length := List.length_pos_iff.2 hn0
        obtain ⟨m, hm⟩ : ∃ m, ns.length = m + 1 := ⟨ns.length - 1, by omega⟩
        have hcell : w.cell? ⟨g2, o2 + m, none⟩ = some (.string n) := by
          rw [hn.cell (i := m) (by omega)]
          rw [List.getLast?_eq_getElem?, hm, Nat.add_sub_cancel, List.getElem?_eq_getElem (by omega)] at hln
          rw [Option.some.inj hln]
        obtain ⟨A3, c3, hv3, hM⟩ := piece_match (hpz (some L, zv) (by simp)) n (b3 n (List.mem_of_getLast? hln))
        obtain ⟨_, p0, p1⟩ := hP.tail
        simp only at p1 hv3
        subst hv3
        have HV := Asd.mk (show meansF ⟨bk, dr, false, ((some L, Value.slice A3 L.length c3) :: Z).map (·.1)⟩ ns dir = mt L (bl n) by
          unfold meansF
          rw [if_neg hd]
          simp [hln])
        have hal : Chg [] w (w.alloc (.cells #[.bool bk, .bool dr, .bool false, .slice (some ⟨g, 0, none⟩) ((some L, Value.slice A3 L.length c3) :: Z).length c] 93)) := (Chg.refl [] w).alloc _
        have cM := quiet_of (fun W (h : Chg [] (w.alloc (.cells #[.bool bk, .bool dr, .bool false, .slice (some ⟨g, 0, none⟩) ((some L, Value.slice A3 L.length c3) :: Z).length c] 93)) W) => hM W (hal.trans h))
        obtain ⟨q, hq⟩ : ∃ q, mt L (bl n) = q := ⟨_, rfl⟩
        rw [hq] at cM HV
        have p1' := fun d os => cell_regrown ((hal.below.cell (p := ⟨g, 0 + 1, none⟩) (World.block_lt_of_cell? w _ p1)).trans p1) d os
        have s1' := fun d os => cell_regrown ((hal.below.cell (p := ⟨g2, o2 + m, none⟩) (World.block_lt_of_cell? w _ hcell)).trans hcell) d os
        have w3' := fun d os => cell_regrown (cell_of_heap HW.out 3) d os
        rw [hm]
        simp only [List.length_cons] at cM p1' s1' w3' hc ⊢
        rw [Nat.zero_add] at p1'
        have k1 : (0 : Int) < (Z.length : Int) + 1 := by omega
        have k2 : (m : Int) < (m : Int) + 1 := by omega
        have k6 : IntKind.i64.wrap (m : Int) = (m : Int) := w64 (by omega) (by omega)
        have HCC := Asd.mk (show Chg [] w (w.alloc (.cells #[.bool bk, .bool dr, .bool false, .slice (some ⟨g, 0, none⟩) (Z.length + 1) c] 93)) from hal)
        clear hq hM hal hP p0 p1 hcell hown hpz hn hwf hd hln HC HW b1 b2 b3 h2
        rcases hsel with ⟨rfl, rfl⟩ | rfl
        · go_enter Tryz.func44, Tryz.ntmps44
          go_upto_region 4 with fail
          refine wp_region_quiet_below (by kernel_rfl) (by kernel_rfl) ?_
          repeat (quiet_step ((go_at_call 16; exact cM _ _)))
          refine wpQuiet_nil ?_
          rintro w' ⟨q, rfl⟩
          go_wp2
          go_ret
          exact ⟨by rw [HV.out]; rfl, HCC.out.trans (chg_regrown _ _ _)⟩
        · go_enter Tryz.func44, Tryz.ntmps44
          go_upto_region 4 with fail
          refine wp_region_quiet_below (by kernel_rfl) (by kernel_rfl) ?_
          repeat (quiet_step ((go_at_call 16; exact cM _ _)))
          refine wpQuiet_nil ?_
          rintro w' ⟨q, rfl⟩
          go_wp2
          go_ret
          exact ⟨by rw [HV.out]; rfl, HCC.out.trans (chg_regrown _ _ _)⟩
    | true =>
      have HV := Asd.mk (show meansF ⟨bk, dr, true, Z.map (·.1)⟩ ns dir = fitsF (decide (1 < Z.length)) (Z.map (·.1)) ns by
        unfold meansF
        rw [if_neg hd]
        simp)
      have hF := fits_calls (decide (1 < Z.length)) Z ns g 0 c g2 o2 c2 (w.alloc (.cells #[.bool bk, .bool dr, .bool true, .slice (some ⟨g, 0, none⟩) Z.length c] 93)) (hP.keeps (Keeps.alloc (T := []) _ _) (by simp)) (hn.keeps (Keeps.alloc (T := []) _ _) (by simp)) hc h2 (fun z h => (hpz z h).keeps (Keeps.alloc (T := []) _ _) (by simp)) b1 b2 b3
      obtain ⟨q, hq⟩ : ∃ q, fitsF (decide (1 < Z.length)) (Z.map (·.1)) ns = q := ⟨_, rfl⟩
      obtain ⟨sv, hsv⟩ : ∃ sv, decide (1 < Z.length) = sv := ⟨_, rfl⟩
      have hsi : decide (1 < (Z.length : Int)) = sv := by rw [← hsv]; exact decide_eq_decide.2 (by omega)
      rw [hsv] at hq
      rw [hsv, hq] at hF
      rw [hsv, hq] at HV
      have HF := Asd.mk hF
      clear hF hsv hq hown hpz hP hn hwf hd
      rcases hsel with ⟨rfl, rfl⟩ | rfl
      · go_enter Tryz.func44, Tryz.ntmps44
        go_wp2_with fail
        refine HF.out.mono ?_
        rintro e w3 ⟨rfl, hC3⟩
        have HC3 := Asd.mk (HC.out.trans hC3)
        clear hC3
        go_wp2
        go_ret
        exact ⟨by rw [HV.out]; rfl, HC3.out⟩
      · go_enter Tryz.func44, Tryz.ntmps44
        go_wp2_with fail
        refine HF.out.mono ?_
        rintro e w3 ⟨rfl, hC3⟩
        have HC3 := Asd.mk (HC.out.trans hC3)
        clear hC3
        go_wp2
        go_ret
        exact ⟨by rw [HV.out]; rfl, HC3.out⟩
end Go.Proofs.YtgkifphfibcfdaaGreatDoor.G
