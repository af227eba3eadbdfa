/- Merged out of these texts: RRead, RuPlain. -/
import Derived.Test.YtgkifphfibcfdaaGreatDoorRu6
import Derived.Test.YtgkifphfibcfdaaGreatDoorRuRRule
import Derived.Test.YtgkifphfibcfdaaGreatDoorRu8
/- The reference's Read: the walk. -/
namespace Go.Proofs.YtgkifphfibcfdaaGreatDoor.G
open Go.RowKit Go.Proofs.YtgkifphfibcfdaaGreatDoor.B
set_option linter.unusedVariables false
theorem lines_size {s p : ByteArray} (h : p ∈ linesS s) : p.size ≤ s.size := by
  unfold linesS at h
  split at h
  · exact spl_size (List.dropLast_subset _ h)
  · exact spl_size h
theorem lines_len (s : ByteArray) : (linesS s).length ≤ s.size + 1 := by
  have := spl_len 10 s
  unfold linesS
  split
  · rw [List.length_dropLast]; omega
  · omega
theorem silent_nil {t : ByteArray} (h : ¬ 0 < t.size) : isSilent t = true := by unfold isSilent; exact decide_eq_true (.inl (by omega))
theorem silent_hash {t : ByteArray} (h : bn t 0 = 35) : isSilent t = true := by unfold isSilent; exact decide_eq_true (.inr h)
theorem silent_no {t : ByteArray} (h0 : 0 < t.size) (h : bn t 0 ≠ 35) : isSilent t = false := by unfold isSilent; exact decide_eq_false (by omega)
set_option maxRecDepth 100000 in
set_option maxHeartbeats 16000000 in
theorem rread_calls (s : ByteArray) (w : World) (hs : s.size ≤ 1048576) :
    Calls Tryz.prog 23 #[.string s] w fun e w' => RReadPost w (readL (linesS s) 0) e w' := by
  go_enter Tryz.func23, Tryz.ntmps23
  go_wp2_with fail
  refine (rlines_calls s w hs).mono ?_
  rintro e w1 ⟨v6, rfl, hC1, hO1⟩
  have hln := lines_len s
  have HLS := Asd.mk (show ∀ p ∈ linesS s, p.size ≤ 1048576 from fun p hp => by have := lines_size hp; omega)
  obtain ⟨l, hl⟩ : ∃ l, linesS s = l := ⟨_, rfl⟩
  rw [hl] at hO1 hln HLS
  obtain ⟨R, hR⟩ : ∃ R, readL l 0 = R := ⟨_, rfl⟩
  have HAcc := Asd.mk (show accR [] l 0 = R by rw [accR_nil]; exact hR)
  have HRR := Asd.mk (show readL (linesS s) 0 = R by rw [hl]; exact hR)
  have HC1 := Asd.mk hC1
  obtain ⟨A6, c6, hv6⟩ := own_len hO1
  subst hv6
  have HO1 := Asd.mk hO1
  have hwz1 := hC1.size
  clear hO1 hR hl hC1
  go_wp2
  go_loopg [5, 7] (l.length + 1) (fun gk v5 v7 wx => ∃ (i : Nat) (X : List XR) (n : Nat), i ≤ l.length ∧ n = X.length ∧ gk = l.length + 1 - i ∧ v7 = .int .i64 (i : Int) ∧ X.length ≤ i ∧ Asd (accR (X.map (·.r)) (l.drop i) i = R) ∧ Asd (Chg [] w wx) ∧ Asd (Keeps [93] w1 wx) ∧ Asd (wx.ownsRow w.heap.size 93 4 v5 n (xcells X)) ∧ Asd (∀ x ∈ X, XRH wx x))
  case atStart => exact ⟨0, [], 0, by omega, rfl, by omega, rfl, by simp, ⟨by rw [List.drop_zero]; exact HAcc.out⟩, HC1, ⟨Keeps.refl _ _⟩, ⟨World.ownsRow_nil _ _ _ _⟩, ⟨fun x hx => by cases hx⟩⟩
  case round =>
    obtain ⟨i, X, n, hi, rfl, rfl, rfl, hX, HA, HC, HK, HO, HXX⟩ := hrel
    have hwz := HC.out.size
    by_cases hlt : i < l.length
    · have hR := HA.out
      obtain ⟨p, hp⟩ : ∃ p, l[i] = p := ⟨_, rfl⟩
      rw [List.drop_eq_getElem_cons hlt, hp] at hR
      have hpsz : p.size ≤ 1048576 := HLS.out p (by rw [← hp]; exact List.getElem_mem hlt)
      obtain ⟨g6, cap6, hv6, hcell⟩ := own_cell (own_keeps HO1.out HK.out (by simp)) (i := i) (by rw [List.length_map]; exact hlt)
      simp only [List.getElem_map, hp, Value.slice.injEq] at hcell hv6
      obtain ⟨rfl, _, rfl⟩ := hv6
      have k1 : (i : Int) < (l.length : Int) := by omega
      go_wp2_with fail
      refine (rtrimmed_calls p wr hpsz).mono ?_
      rintro e w2 ⟨rfl, hw2⟩
      subst hw2
      have htz := trimS_le p
      obtain ⟨t, ht⟩ : ∃ t, trimS p = t := ⟨_, rfl⟩
      rw [ht] at htz ⊢
      have HT := Asd.mk ht
      have hsel : (isSilent t = true ∧ (t.toList.isEmpty = true ∨ (t.toList.isEmpty = false ∧ ∃ h : 0 < t.size, (((t[0].toNat : Nat) : Int) == 35) = true))) ∨ (isSilent t = false ∧ t.toList.isEmpty = false ∧ ∃ h : 0 < t.size, (((t[0].toNat : Nat) : Int) == 35) = false) := by
        by_cases hz : 0 < t.size
        · have b0 : bn t 0 = t[0].toNat := by unfold bn; rw [dif_pos hz]
          by_cases h35 : bn t 0 = 35
          · exact .inl ⟨silent_hash h35, .inr ⟨isEmpty_no hz, hz, by rw [← b0, h35]; rfl⟩⟩
          · exact .inr ⟨silent_no hz h35, isEmpty_no hz, hz, by rw [← b0]; simp; omega⟩
        · exact .inl ⟨silent_nil hz, .inl (isEmpty_yes hz)⟩
      clear ht
      rcases hsel with ⟨hsil, hsel⟩ | ⟨hsil, te, hz, t1⟩
      · rw [accR_skip (by rw [HT.out]; exact hsil)] at hR
        have HQR := Asd.mk hR
        clear hR HA hsil
        rcases hsel with te | ⟨te, hz, t1⟩
        · have he : t = ⟨#[]⟩ := empty_bytes (fun h => by rw [isEmpty_no h] at te; cases te)
          go_wp2
          go_roundg (l.length + 1 - (i + 1))
          case rel => exact ⟨i + 1, X, X.length, by omega, rfl, by omega, by go_num, by omega, HQR, HC, HK, HO, HXX⟩
          case measure => omega
        · go_wp2
          go_roundg (l.length + 1 - (i + 1))
          case rel => exact ⟨i + 1, X, X.length, by omega, rfl, by omega, by go_num, by omega, HQR, HC, HK, HO, HXX⟩
          case measure => omega
      · cases hrf : ruleF t with
        | error n =>
          rw [accR_bad (by rw [HT.out]; exact hsil) (by rw [HT.out]; exact hrf)] at hR
          have HQR := Asd.mk hR
          have hru := rrule_calls t w2 (by omega) hz
          rw [hrf] at hru
          have HRu := Asd.mk hru
          clear hR HA hsil hru hrf
          go_wp2_with fail
          refine HRu.out.mono ?_
          rintro e w3 ⟨hC3, b1, b2, b3, A, k, m, rfl, hn⟩
          have HC3 := Asd.mk (HC.out.trans hC3)
          have t3 : ((n : Int) == 0) = false := by simp; omega
          have HN0 := Asd.mk hn
          clear hC3 HRu hn
          go_wp2
          go_ret3
          rw [HRR.out, ← HQR.out]
          exact ⟨HC3.out.alloc _, by simp, HN0.out⟩
        | ok x =>
          rw [accR_go (by rw [HT.out]; exact hsil) (by rw [HT.out]; exact hrf)] at hR
          have HQR := Asd.mk hR
          have hru := rrule_calls t w2 (by omega) hz
          rw [hrf] at hru
          have HRu := Asd.mk hru
          clear hR HA hsil hru hrf
          go_wp2_with fail
          refine HRu.out.mono ?_
          rintro e w3 ⟨hC3, v, Z, rfl, hOZ, hPZ, hZe⟩
          obtain ⟨A, c, hv⟩ := own_len hOZ
          subst hv
          have hk3 : Keeps [] w2 w3 := Keeps.of_chg hC3
          have HC3 := Asd.mk (HC.out.trans hC3)
          have HO3 := Asd.mk (own_keeps HO.out hk3 (by simp))
          have HX3 := Asd.mk (show ∀ x ∈ X, XRH w3 x from fun x hx => (HXX.out x hx).keeps hk3 (by simp) (by simp))
          have HXN := Asd.mk (show XRH w3 ⟨x, .slice A Z.length c, Z⟩ from ⟨⟨_, hOZ⟩, hPZ, hZe⟩)
          have HK3 := Asd.mk (HK.out.trans (Keeps.of_chg hC3))
          have hz3 := hC3.size
          clear hC3 hk3 HRu hOZ hPZ hZe
          have pc0 := cell_of_heap (hp_new w3 (.cells #[.bool x.back, .bool x.dir, .bool x.rooted, .slice A Z.length c] 93)) 0
          go_wp2_with (first | (refine wpList_build50 rfl x.back x.dir x.rooted A Z.length c (w3.heap.size + 1) (by simp) (.tmp 45) rfl rfl ?_; simp only [Act.put, List.setIfInBounds_toArray, List.set_cons_zero, List.set_cons_succ]) | (at_builtin; refine wpList_append93 rfl (.tmp 44) (.tmp 46) rfl w.heap.size u5 X rfl ((HO3.out.alloc _).alloc _) ⟨x, .slice A Z.length c, Z⟩ A Z.length c rfl (w3.heap.size + 1) rfl (by have h := hp_new (w3.alloc (.cells #[.bool x.back, .bool x.dir, .bool x.rooted, .slice A Z.length c] 93)) (.cells #[.bool x.back, .bool x.dir, .bool x.rooted, .slice A Z.length c] 93); rw [World.size_alloc] at h; exact h) (by omega) (by simp; omega) ?_; intro v2 w9 hown9 hgrow9; rw [List.length_append, List.length_singleton] at hown9; replace hown9 := Asd.mk hown9; replace hgrow9 := Asd.mk hgrow9; simp only [Act.put, List.setIfInBounds_toArray, List.set_cons_zero, List.set_cons_succ]))
          have hk9 : Keeps [93] w3 w9 := ((Keeps.alloc _ _).trans (Keeps.alloc _ _)).trans (Keeps.grown ((HO3.out.alloc _).alloc _) (by simp) hgrow9.out)
          go_roundg (l.length + 1 - (i + 1))
          case rel => exact ⟨i + 1, X ++ [⟨x, .slice A Z.length c, Z⟩], X.length + 1, by omega, by simp, by omega, by go_num, by rw [List.length_append]; simp; omega, ⟨by rw [List.map_append]; exact HQR.out⟩, ⟨Chg.rgrown ((HC3.out.alloc _).alloc _) hgrow9.out (fun g e hk => by have := (HO3.out.lt g e).1; omega)⟩, ⟨HK3.out.trans hk9⟩, hown9, ⟨fun y hy => by
            rcases List.mem_append.1 hy with hy | hy
            · exact (HX3.out y hy).keeps hk9 (by simp) (by simp)
            · obtain rfl := List.mem_singleton.1 hy
              exact HXN.out.keeps hk9 (by simp) (by simp)⟩⟩
          case measure => omega
    · obtain rfl : i = l.length := by omega
      have HF := Asd.mk (show readL (linesS s) 0 = .ok (X.map (·.r)) by rw [HRR.out, ← HA.out, List.drop_length, accR_end])
      clear HA HRR
      go_wp2
      go_ret3
      rw [HF.out]
      exact ⟨HC.out, _, X, rfl, HO.out, HXX.out, rfl⟩
end Go.Proofs.YtgkifphfibcfdaaGreatDoor.G
/- Rules of texts, plainly: an empty last line says nothing; rules as texts make them. -/
namespace Go.Proofs.YtgkifphfibcfdaaGreatDoor.G
open Go.RowKit Go.Proofs.YtgkifphfibcfdaaGreatDoor.B
set_option linter.unusedVariables false
theorem readL_snoc {p : ByteArray} (hp : isSilent (trimS p) = true) : ∀ (L : List ByteArray) (i : Nat), readL (L ++ [p]) i = readL L i
  | [], i => by
    simp only [List.nil_append, readL]
    rw [if_pos hp]
  | l :: r, i => by
    simp only [List.cons_append, readL]
    rw [readL_snoc hp r (i + 1)]
theorem trimS_nil : trimS ⟨#[]⟩ = ⟨#[]⟩ := rfl
theorem readL_lines (s : ByteArray) : readL (spl 10 s) 0 = readL (linesS s) 0 := by
  have hne : spl 10 s ≠ [] := List.length_pos_iff.1 (by have := (spl_len 10 s).1; omega)
  obtain ⟨L, p, hLp⟩ : ∃ L p, L ++ [p] = spl 10 s := ⟨_, _, List.dropLast_concat_getLast hne⟩
  by_cases hp : p.size = 0
  · rw [linesS_nil hLp hp, ← hLp]
    refine readL_snoc ?_ L 0
    rw [empty_bytes (s := p) (by omega), trimS_nil]
    exact silent_nil (by decide)
  · rw [linesS_all hLp hp, ← hLp]
theorem piecesF_len : ∀ {rt : Bool} {l : List ByteArray} {q : List PieceV}, piecesF rt l = .ok q → q.length = l.length
  | _, [], q, h => by
    simp only [piecesF, Except.ok.injEq] at h
    rw [← h]
    rfl
  | rt, p :: r, q, h => by
    simp only [piecesF] at h
    split at h
    · split at h
      · rename_i q' hq
        simp only [Except.ok.injEq] at h
        rw [← h, List.length_cons, List.length_cons, piecesF_len hq]
      · cases h
    · split at h
      · cases h
      · split at h
        · cases h
        · split at h
          · rename_i q' hq
            simp only [Except.ok.injEq] at h
            rw [← h, List.length_cons, List.length_cons, piecesF_len hq]
          · cases h
theorem piecesF_first {p : ByteArray} {r : List ByteArray} {q : List PieceV} (h : piecesF false (p :: r) = .ok q) : ∃ L ps, q = some L :: ps := by
  simp only [piecesF] at h
  rw [if_neg (by simp)] at h
  split at h
  · cases h
  · split at h
    · cases h
    · split at h
      · simp only [Except.ok.injEq] at h
        exact ⟨_, _, h.symm⟩
      · cases h
theorem unroot_ne {l : List ByteArray} (h : l ≠ []) : unroot l ≠ [] := by
  cases l with
  | nil => exact absurd rfl h
  | cons p r =>
    simp only [unroot]
    split
    · rename_i hh; exact hh.2
    · simp
theorem unroot_len (l : List ByteArray) : (unroot l).length ≤ l.length := by
  cases l with
  | nil => exact Nat.le_refl _
  | cons p r =>
    simp only [unroot]
    split <;> simp
theorem ruleF_wf {s : ByteArray} {r : RuleV} (h : ruleF s = .ok r) (hs : s.size ≤ 1048576) : WFR r := by
  have h1 := cutBack_le s
  have h2 := cutDir_le (cutBack s)
  unfold ruleF at h
  split at h
  · cases h
  · split at h
    · rename_i q hq
      simp only [Except.ok.injEq] at h
      subst h
      have hlen := piecesF_len hq
      have hne : unroot (spl 47 (cutDir (cutBack s))) ≠ [] := unroot_ne (List.length_pos_iff.1 (by have := (spl_len 47 (cutDir (cutBack s))).1; omega))
      have hle := unroot_len (spl 47 (cutDir (cutBack s)))
      have hsl := (spl_len 47 (cutDir (cutBack s))).2
      refine ⟨?_, ?_, ?_⟩
      · intro e
        simp only at e
        rw [e] at hlen
        exact hne (List.eq_nil_of_length_eq_zero hlen.symm)
      · intro hrt
        simp only at hrt
        rw [hrt] at hq
        cases hu : unroot (spl 47 (cutDir (cutBack s))) with
        | nil => exact absurd hu hne
        | cons p r =>
          rw [hu] at hq
          exact piecesF_first hq
      · simp only
        omega
    · cases h
theorem readL_wf : ∀ {l : List ByteArray} {i : Nat} {rs : List RuleV}, readL l i = .ok rs → (∀ p ∈ l, p.size ≤ 1048576) → ∀ r ∈ rs, WFR r
  | [], _, rs, h, _, r, hr => by
    simp only [readL, Except.ok.injEq] at h
    rw [← h] at hr
    cases hr
  | p :: l, i, rs, h, hs, r, hr => by
    simp only [readL] at h
    split at h
    · exact readL_wf h (fun q hq => hs q (List.mem_cons_of_mem _ hq)) r hr
    · split at h
      · cases h
      · rename_i x hx
        split at h
        · rename_i q hq
          simp only [Except.ok.injEq] at h
          rw [← h] at hr
          rcases List.mem_cons.1 hr with rfl | hr
          · exact ruleF_wf hx (by have := trimS_le p; have := hs p (by simp); omega)
          · exact readL_wf hq (fun q hq => hs q (List.mem_cons_of_mem _ hq)) r hr
        · cases h
theorem readL_len : ∀ {l : List ByteArray} {i : Nat} {rs : List RuleV}, readL l i = .ok rs → rs.length ≤ l.length
  | [], _, rs, h => by
    simp only [readL, Except.ok.injEq] at h
    rw [← h]
    exact Nat.zero_le _
  | p :: l, i, rs, h => by
    simp only [readL] at h
    split at h
    · have := readL_len h
      rw [List.length_cons]; omega
    · split at h
      · cases h
      · split at h
        · rename_i q hq
          simp only [Except.ok.injEq] at h
          have := readL_len hq
          rw [← h, List.length_cons, List.length_cons]; omega
        · cases h
end Go.Proofs.YtgkifphfibcfdaaGreatDoor.G
