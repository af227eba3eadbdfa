/- Merged out of these texts: RefName, RefParts, RefBelow, KeepsF, OpErr. -/
import Derived.Test.YtiijbecklkccfaaGreatDoorOw3
import Derived.Test.YtiijbecklkccfaaGreatDoorOw12
import Derived.Test.YtiijbecklkccfaaGreatDoorOw6
import Derived.Test.YtiijbecklkccfaaGreatDoorOw11
/- The reference's Name (layer 3): the walk. -/
namespace Go.Proofs.YtiijbecklkccfaaGreatDoor.I
open Go.RowKit Go.Proofs.YtiijbecklkccfaaGreatDoor.B Go.Sort
set_option linter.unusedVariables false
def nameE (s : ByteArray) : Int := if okNm s.data.toList = true then 0 else 30
theorem list_get {s : ByteArray} {i : Nat} (hi : i < s.size) : s.data.toList[i]? = some s[i] := by
  have : i < s.data.toList.length := by simpa using hi
  rw [List.getElem?_eq_getElem this]
  rfl
theorem list_size (s : ByteArray) : s.data.toList.length = s.size := by show _ = s.data.size; simp
theorem ba_tests (s : ByteArray) (l : List UInt8) : (s.toList == l) = decide (s.data.toList = l) := by
  rw [ByteArray.toList_eq]
  by_cases h : s.data.toList = l
  · rw [decide_eq_true h]; simpa using h
  · rw [decide_eq_false h]; simpa using h
set_option maxRecDepth 100000 in
set_option maxHeartbeats 16000000 in
theorem refname_calls (s : ByteArray) (w : World) (hs : s.size ≤ 4294967280) :
    Calls Tryz.prog 40 #[.string s] w fun e w' => e = .returned (.int .i64 (nameE s)) ∧ w' = w := by
  have t1 := ba_tests s []
  have t2 := ba_tests s [46]
  have t3 := ba_tests s [46, 46]
  have hl := list_size s
  by_cases h1 : s.data.toList = []
  · have HA := Asd.mk (show nameE s = 30 by unfold nameE; rw [if_neg (by unfold okNm; rw [decide_eq_true_eq]; exact fun h => h.1 h1)])
    rw [decide_eq_true h1] at t1
    clear t2 t3 h1 hl
    (go_enter Tryz.func40, Tryz.ntmps40)
    go_wp2
    go_ret
    exact ⟨by rw [HA.out]; rfl, rfl⟩
  · rw [decide_eq_false h1] at t1
    by_cases h2 : s.data.toList = [46]
    · have HA := Asd.mk (show nameE s = 30 by unfold nameE; rw [if_neg (by unfold okNm; rw [decide_eq_true_eq]; exact fun h => h.2.2.1 h2)])
      rw [decide_eq_true h2] at t2
      clear t3 h1 h2 hl
      (go_enter Tryz.func40, Tryz.ntmps40)
      go_wp2
      go_ret
      exact ⟨by rw [HA.out]; rfl, rfl⟩
    · rw [decide_eq_false h2] at t2
      by_cases h3 : s.data.toList = [46, 46]
      · have HA := Asd.mk (show nameE s = 30 by unfold nameE; rw [if_neg (by unfold okNm; rw [decide_eq_true_eq]; exact fun h => h.2.2.2.1 h3)])
        rw [decide_eq_true h3] at t3
        clear h1 h2 h3 hl
        (go_enter Tryz.func40, Tryz.ntmps40)
        go_wp2
        go_ret
        exact ⟨by rw [HA.out]; rfl, rfl⟩
      · rw [decide_eq_false h3] at t3
        by_cases h4 : 255 < s.size
        · have HA := Asd.mk (show nameE s = 30 by unfold nameE; rw [if_neg (by unfold okNm; rw [decide_eq_true_eq]; exact fun h => by have := h.2.1; omega)])
          have k1 : (255 : Int) < (s.size : Int) := by omega
          clear h1 h2 h3 hl h4
          (go_enter Tryz.func40, Tryz.ntmps40)
          go_wp2
          go_ret
          exact ⟨by rw [HA.out]; rfl, rfl⟩
        · have k1 : ¬ (255 : Int) < (s.size : Int) := by omega
          have HN := Asd.mk (show ∀ (hz : (47 : UInt8) ∉ s.data.toList ∧ (0 : UInt8) ∉ s.data.toList), nameE s = 0 from fun hz => by unfold nameE; rw [if_pos (by unfold okNm; rw [decide_eq_true_eq]; exact ⟨h1, by omega, h2, h3, hz⟩)])
          have HB := Asd.mk (show (47 : UInt8) ∈ s.data.toList ∨ (0 : UInt8) ∈ s.data.toList → nameE s = 30 from fun hz => by unfold nameE; rw [if_neg (by unfold okNm; rw [decide_eq_true_eq]; exact fun h => hz.elim h.2.2.2.2.1 h.2.2.2.2.2)])
          have HL := Asd.mk hl
          clear h1 h2 h3 hl h4
          (go_enter Tryz.func40, Tryz.ntmps40)
          go_wp2
          go_loopg [3] (s.size + 1) (fun gk v3 wx => wx = w ∧ ∃ i : Nat, i ≤ s.size ∧ gk = s.size + 1 - i ∧ v3 = .int .i64 (i : Int) ∧ Asd (∀ j, j < i → s.data.toList[j]? ≠ some 47 ∧ s.data.toList[j]? ≠ some 0))
          case atStart => exact ⟨rfl, 0, by omega, rfl, rfl, ⟨fun j hj => by omega⟩⟩
          case round =>
            obtain ⟨rfl, i, hi, rfl, rfl, HJ⟩ := hrel
            by_cases hlt : i < s.size
            · have k2 : (i : Int) < (s.size : Int) := by omega
              have hg := list_get hlt
              by_cases e1 : s[i] = 47
              · have HA := Asd.mk (HB.out (.inl (List.mem_of_getElem? (hg.trans (by rw [e1])))))
                have t5 : (((s[i].toNat : Nat) : Int) == 47) = true := by rw [e1]; rfl
                clear hg e1 HB HN HJ
                go_wp2
                go_ret
                exact ⟨by rw [HA.out]; rfl, rfl⟩
              · have t5 : (((s[i].toNat : Nat) : Int) == 47) = false := by
                  refine beq_eq_false_iff_ne.2 fun h => e1 ?_
                  apply UInt8.toNat_inj.1
                  have : s[i].toNat = 47 := by omega
                  rw [this]; rfl
                by_cases e2 : s[i] = 0
                · have HA := Asd.mk (HB.out (.inr (List.mem_of_getElem? (hg.trans (by rw [e2])))))
                  have t6 : (((s[i].toNat : Nat) : Int) == 0) = true := by rw [e2]; rfl
                  clear hg e1 e2 HB HN HJ
                  go_wp2
                  go_ret
                  exact ⟨by rw [HA.out]; rfl, rfl⟩
                · have t6 : (((s[i].toNat : Nat) : Int) == 0) = false := by
                    refine beq_eq_false_iff_ne.2 fun h => e2 ?_
                    apply UInt8.toNat_inj.1
                    have : s[i].toNat = 0 := by omega
                    rw [this]; rfl
                  have HJ2 := Asd.mk (show ∀ j, j < i + 1 → s.data.toList[j]? ≠ some 47 ∧ s.data.toList[j]? ≠ some 0 from fun j hj => by
                    rcases Nat.lt_or_ge j i with h | h
                    · exact HJ.out j h
                    · obtain rfl : j = i := by omega
                      rw [hg]
                      exact ⟨fun h => e1 (Option.some.inj h), fun h => e2 (Option.some.inj h)⟩)
                  clear hg e1 e2 HJ
                  go_wp2
                  go_roundg (s.size + 1 - (i + 1))
                  case rel => exact ⟨rfl, i + 1, by omega, by omega, by go_num, HJ2⟩
                  case measure => omega
            · have k2 : ¬ (i : Int) < (s.size : Int) := by omega
              have HA := Asd.mk (HN.out ⟨fun h => by
                obtain ⟨j, hj⟩ := List.getElem?_of_mem h
                have hjl := (List.getElem?_eq_some_iff.1 hj).1
                exact (HJ.out j (by have := HL.out; omega)).1 hj, fun h => by
                obtain ⟨j, hj⟩ := List.getElem?_of_mem h
                have hjl := (List.getElem?_eq_some_iff.1 hj).1
                exact (HJ.out j (by have := HL.out; omega)).2 hj⟩)
              clear HB HN HJ
              go_wp2
              go_ret
              exact ⟨by rw [HA.out]; rfl, rfl⟩
end Go.Proofs.YtiijbecklkccfaaGreatDoor.I
/- The reference's Pieces, Parts (layer 3): the walks. -/
namespace Go.Proofs.YtiijbecklkccfaaGreatDoor.I
open Go.RowKit Go.Proofs.YtiijbecklkccfaaGreatDoor.B Go.Sort
set_option linter.unusedVariables false
/-- A row of texts. -/
def RowT (w : World) (b : Nat) (v : Value) (L : List ByteArray) : Prop := w.ownsRow b 9 1 v L.length (L.map Value.string)
theorem extract_nb {s : ByteArray} {f i : Nat} (hi : i ≤ s.size) : s.extract f i = nb ((s.data.toList.drop f).take (i - f)) := by
  have := congrArg nb (toList_extract s f i)
  rwa [nb_list] at this
/-- Which pieces there are while one goes on. -/
def PcAt (l : Nm) (i f : Nat) (D : List Nm) : Prop := (i ≤ l.length ∧ f ≤ i ∧ spL 47 l = D ++ spL 47 (l.drop f) ∧ (47 : UInt8) ∉ (l.drop f).take (i - f)) ∨ (i = l.length + 1 ∧ D = spL 47 l)
theorem pc_start (l : Nm) : PcAt l 0 0 [] := .inl ⟨by omega, by omega, rfl, by simp⟩
theorem take_next {l : Nm} {f i : Nat} (hf : f ≤ i) (hi : i < l.length) : (l.drop f).take (i + 1 - f) = (l.drop f).take (i - f) ++ [l[i]'hi] := by
  have e : i + 1 - f = (i - f) + 1 := by omega
  have hlt : i - f < (l.drop f).length := by rw [List.length_drop]; omega
  rw [e, List.take_succ_eq_append_getElem hlt, List.getElem_drop]
  congr 2
  simp [show f + (i - f) = i by omega]
theorem pc_go {l : Nm} {i f : Nat} {D : List Nm} (hi : i < l.length) (h : PcAt l i f D) (hc : l[i]'hi ≠ 47) : PcAt l (i + 1) f D := by
  rcases h with ⟨h1, h2, h3, h4⟩ | ⟨h1, _⟩
  · refine .inl ⟨by omega, by omega, h3, ?_⟩
    rw [take_next h2 hi]
    intro hm
    rcases List.mem_append.1 hm with h | h
    · exact h4 h
    · rw [List.mem_singleton] at h; exact hc h.symm
  · omega
theorem pc_cut {l : Nm} {i f : Nat} {D : List Nm} (hi : i < l.length) (h : PcAt l i f D) (hc : l[i]'hi = 47) : PcAt l (i + 1) (i + 1) (D ++ [(l.drop f).take (i - f)]) := by
  rcases h with ⟨h1, h2, h3, h4⟩ | ⟨h1, _⟩
  · refine .inl ⟨by omega, by omega, ?_, by simp⟩
    have e : l.drop f = (l.drop f).take (i - f) ++ 47 :: l.drop (i + 1) := by
      have e1 : (l.drop f).drop (i - f) = l.drop i := by rw [List.drop_drop]; congr 1; omega
      have e2 : l.drop i = 47 :: l.drop (i + 1) := by rw [List.drop_eq_getElem_cons hi, hc]
      calc l.drop f = (l.drop f).take (i - f) ++ (l.drop f).drop (i - f) := (List.take_append_drop _ _).symm
        _ = _ := by rw [e1, e2]
    have e3 : spL 47 (l.drop f) = (l.drop f).take (i - f) :: spL 47 (l.drop (i + 1)) := by
      conv => lhs; rw [e]
      exact spL_cut h4
    rw [h3, e3, List.append_assoc]
    rfl
  · omega
theorem pc_end {l : Nm} {f : Nat} {D : List Nm} (h : PcAt l l.length f D) : PcAt l (l.length + 1) (l.length + 1) (D ++ [(l.drop f).take (l.length - f)]) := by
  rcases h with ⟨h1, h2, h3, h4⟩ | ⟨h1, _⟩
  · refine .inr ⟨rfl, ?_⟩
    rw [List.take_of_length_le (by rw [List.length_drop]; exact Nat.le_refl _)] at h4 ⊢
    rw [h3, spL_no h4]
  · omega
theorem pc_len {l : Nm} {i f : Nat} {D : List Nm} (h : PcAt l i f D) : D.length ≤ l.length + 1 := by
  have hl := spL_count 47 l
  rcases h with ⟨_, _, h3, _⟩ | ⟨_, h2⟩
  · rw [h3, List.length_append] at hl; omega
  · rw [h2]; exact hl
set_option maxRecDepth 100000 in
set_option maxHeartbeats 16000000 in
theorem refpieces_calls (s : ByteArray) (w : World) (hs : s.size ≤ 1048576) :
    Calls Tryz.prog 39 #[.string s] w fun e w' => ∃ v, e = .returned v ∧ RowT w' w.heap.size v ((spL 47 s.data.toList).map nb) ∧ Chg [] w w' := by
  have hl := list_size s
  obtain ⟨l, hll⟩ : ∃ l, s.data.toList = l := ⟨_, rfl⟩
  rw [hll] at hl ⊢
  have HLL := Asd.mk hll
  have HL := Asd.mk hl
  clear hl hll
  (go_enter Tryz.func39, Tryz.ntmps39)
  go_wp2
  go_loopg [3, 4, 5] (s.size + 2) (fun gk v3 v4 v5 wx => ∃ (i f : Nat) (D : List Nm), i ≤ s.size + 1 ∧ f ≤ i ∧ gk = s.size + 2 - i ∧ v4 = .int .i64 (f : Int) ∧ v5 = .int .i64 (i : Int) ∧ Asd (PcAt l i f D) ∧ Asd (RowT wx w.heap.size v3 (D.map nb)) ∧ Asd (Chg [] w wx))
  case atStart => exact ⟨0, 0, [], by omega, by omega, rfl, rfl, rfl, ⟨pc_start l⟩, ⟨⟨rfl, .inl ⟨rfl, rfl⟩⟩⟩, ⟨Chg.refl _ _⟩⟩
  case round =>
    obtain ⟨i, f, D, hi, hfi, rfl, rfl, rfl, HP, HR, HC⟩ := hrel
    by_cases hlt : i ≤ s.size
    · have k1 : (i : Int) ≤ (s.size : Int) := by omega
      have k2 : (f : Int) ≤ (i : Int) := by omega
      have HX := Asd.mk (show s.extract f i = nb ((l.drop f).take (i - f)) by rw [extract_nb hlt, HLL.out])
      have hDl : D.length ≤ s.size + 1 := by have := pc_len HP.out; have := HL.out; omega
      have HBs := Asd.mk (show w.heap.size ≤ wr.heap.size from HC.out.size)
      by_cases he : i = s.size
      · subst he
        have HP2 := Asd.mk (show PcAt l (s.size + 1) (s.size + 1) (D ++ [(l.drop f).take (s.size - f)]) by have := HL.out; rw [← this] at HP ⊢; exact pc_end HP.out)
        clear HP
        go_wp2_with (first | (refine wpList_buildStr rfl (s.extract f s.size) wr.heap.size rfl (.tmp 26) rfl rfl ?_; simp only [Act.put, List.setIfInBounds_toArray, List.set_cons_zero, List.set_cons_succ]) | (at_builtin; refine wpList_append9 rfl (.tmp 22) (.tmp 27) rfl w.heap.size _ (D.map nb) rfl (HR.out.alloc _) (s.extract f s.size) wr.heap.size rfl (hp_new _ _) (by rw [List.length_map]; omega) (Nat.le_trans HBs.out ((Chg.refl [] wr).alloc _).size) ?_; intro v2 w9 hown9 hgrow9; replace hown9 := Asd.mk hown9; replace hgrow9 := Asd.mk (Chg.grown (HC.out.alloc _) hgrow9 (fun g e hg => by have := (own_block HR.out e).1; omega)); simp only [Act.put, List.setIfInBounds_toArray, List.set_cons_zero, List.set_cons_succ]))
        go_roundg (s.size + 2 - (s.size + 1))
        case rel => exact ⟨s.size + 1, s.size + 1, _, by omega, by omega, rfl, by go_num, by go_num, HP2, ⟨by rw [List.map_append, List.map_singleton, ← HX.out]; exact hown9.out⟩, hgrow9⟩
        case measure => omega
      · have hil : i < s.size := by omega
        have k3 : ¬ (i : Int) = (s.size : Int) := by omega
        have hll : i < l.length := by have := HL.out; omega
        have hg : s[i] = l[i] := by
          have h1 := list_get hil
          rw [HLL.out, List.getElem?_eq_getElem hll] at h1
          exact (Option.some.inj h1).symm
        by_cases e1 : s[i] = 47
        · have t5 : (((s[i].toNat : Nat) : Int) == 47) = true := by rw [e1]; rfl
          have HP2 := Asd.mk (pc_cut hll HP.out (by rw [← hg, e1]))
          clear HP hg hll e1
          go_wp2_with (first | (refine wpList_buildStr rfl (s.extract f i) wr.heap.size rfl (.tmp 26) rfl rfl ?_; simp only [Act.put, List.setIfInBounds_toArray, List.set_cons_zero, List.set_cons_succ]) | (at_builtin; refine wpList_append9 rfl (.tmp 22) (.tmp 27) rfl w.heap.size _ (D.map nb) rfl (HR.out.alloc _) (s.extract f i) wr.heap.size rfl (hp_new _ _) (by rw [List.length_map]; omega) (Nat.le_trans HBs.out ((Chg.refl [] wr).alloc _).size) ?_; intro v2 w9 hown9 hgrow9; replace hown9 := Asd.mk hown9; replace hgrow9 := Asd.mk (Chg.grown (HC.out.alloc _) hgrow9 (fun g e hg => by have := (own_block HR.out e).1; omega)); simp only [Act.put, List.setIfInBounds_toArray, List.set_cons_zero, List.set_cons_succ]))
          go_roundg (s.size + 2 - (i + 1))
          case rel => exact ⟨i + 1, i + 1, _, by omega, by omega, rfl, by go_num, by go_num, HP2, ⟨by rw [List.map_append, List.map_singleton, ← HX.out]; exact hown9.out⟩, hgrow9⟩
          case measure => omega
        · have t5 : (((s[i].toNat : Nat) : Int) == 47) = false := by
            refine beq_eq_false_iff_ne.2 fun h => e1 ?_
            apply UInt8.toNat_inj.1
            have : s[i].toNat = 47 := by omega
            rw [this]; rfl
          have HP2 := Asd.mk (pc_go hll HP.out (by rw [← hg]; exact e1))
          clear HP hg hll e1 HX
          go_wp2
          go_roundg (s.size + 2 - (i + 1))
          case rel => exact ⟨i + 1, f, D, by omega, by omega, rfl, rfl, by go_num, HP2, HR, HC⟩
          case measure => omega
    · have k1 : ¬ (i : Int) ≤ (s.size : Int) := by omega
      have hD : D = spL 47 l := by
        rcases HP.out with ⟨h1, _⟩ | ⟨_, h2⟩
        · have := HL.out; omega
        · exact h2
      subst hD
      clear HP
      go_wp2
      go_ret
      exact ⟨_, rfl, HR.out, HC.out⟩
/-- What the reference's Parts answers. -/
def refPartsN (s : ByteArray) : Nat := match partsF s with
  | .error n => n
  | .ok _ => 0
def RefPost (b : Nat) (R : Except Nat Pth) (e : Ending) (w' : World) : Prop := match R with
  | .error n => e = .returned (.tuple #[.slice none 0 0, .int .i64 (n : Int)])
  | .ok p => ∃ v, e = .returned (.tuple #[v, .int .i64 0]) ∧ RowT w' b v (p.map nb)
set_option maxRecDepth 100000 in
set_option maxHeartbeats 16000000 in
theorem refparts_calls (s : ByteArray) (w : World) (hs : s.size ≤ 1048576) :
    Calls Tryz.prog 15 #[.string s] w fun e w' => Chg [] w w' ∧ RefPost w.heap.size (partsF s) e w' := by
  have hl := list_size s
  have t1 := ba_tests s []
  by_cases h1 : 4096 < s.size
  · have k1 : (4096 : Int) < (s.size : Int) := by omega
    rw [show partsF s = .error 2 by unfold partsF; rw [if_pos h1]]
    clear t1 hl h1
    (go_enter Tryz.func15, Tryz.ntmps15)
    go_wp2
    go_ret2
    exact ⟨Chg.refl _ _, rfl⟩
  · have k1 : ¬ (4096 : Int) < (s.size : Int) := by omega
    by_cases h2 : s.size = 0
    · rw [show partsF s = .ok [] by unfold partsF; rw [if_neg h1, if_pos h2]]
      have h3 : s.data.toList = [] := List.eq_nil_of_length_eq_zero (by omega)
      rw [decide_eq_true h3] at t1
      clear hl h1 h2 h3
      (go_enter Tryz.func15, Tryz.ntmps15)
      go_wp2
      go_ret2
      exact ⟨Chg.refl _ _, _, rfl, rfl, .inl ⟨rfl, rfl⟩⟩
    · have h3 : s.data.toList ≠ [] := fun e => by rw [e] at hl; exact h2 hl.symm
      rw [decide_eq_false h3] at t1
      have HPc := Asd.mk (refpieces_calls s w hs)
      obtain ⟨l, hll⟩ : ∃ l, spL 47 s.data.toList = l := ⟨_, rfl⟩
      have HPF := Asd.mk (show partsF s = if l.all okNm = false then .error 30 else if 64 < l.length then .error 2 else .ok l by unfold partsF; rw [if_neg h1, if_neg h2, hll])
      have hln : l.length ≤ s.size + 1 := by rw [← hll, ← hl]; exact spL_count 47 _
      have HSz := Asd.mk (show ∀ k ∈ l, k.length ≤ s.size from fun k hk => by rw [← hll] at hk; rw [← hl]; exact spL_size 47 _ k hk)
      rw [hll] at HPc
      clear hl h1 h2 h3 hll
      (go_enter Tryz.func15, Tryz.ntmps15)
      go_wp2_with fail
      refine HPc.out.mono ?_
      rintro e w1 ⟨v, rfl, hR, hC⟩
      obtain ⟨A, c, hv, hc⟩ := own_form hR
      rw [List.length_map] at hv hc
      obtain ⟨n, hn⟩ : ∃ n, l.length = n := ⟨_, rfl⟩
      have HR := Asd.mk hR
      have HC := Asd.mk hC
      have HN := Asd.mk hn
      rw [hn] at hv hln hc
      subst hv
      clear hR hC HPc hn
      go_wp2
      go_loopg [5] (n + 1) (fun gk v5 wx => wx = w1 ∧ ∃ i : Nat, i ≤ n ∧ gk = n + 1 - i ∧ v5 = .int .i64 (i : Int) ∧ Asd ((l.take i).all okNm = true))
      case atStart => exact ⟨rfl, 0, by omega, rfl, rfl, ⟨rfl⟩⟩
      case round =>
        obtain ⟨rfl, i, hi, rfl, rfl, HA⟩ := hrel
        by_cases hlt : i < n
        · have k2 : (i : Int) < (n : Int) := by omega
          have hil : i < l.length := by rw [HN.out]; exact hlt
          obtain ⟨kk, hkk⟩ : ∃ kk, l[i] = kk := ⟨_, rfl⟩
          have hSt := strL_of_own HR.out
          obtain ⟨a, hA1, hcell⟩ := strL_cell hSt (i := i) (by rw [List.length_map]; exact hil)
          rw [List.getElem_map, hkk] at hcell
          subst hA1
          have HNm := Asd.mk (fun W => refname_calls (nb kk) W (by rw [nb_size]; have := HSz.out kk (by rw [← hkk]; exact List.getElem_mem hil); omega))
          by_cases ho : okNm kk = true
          · have HNm2 := Asd.mk (show Calls Tryz.prog 40 #[.string (nb kk)] wr fun e w' => e = .returned (.int .i64 0) ∧ w' = wr from by
              have := HNm.out wr
              rw [show nameE (nb kk) = 0 by unfold nameE; rw [list_nb, if_pos ho]] at this
              exact this)
            have HA2 := Asd.mk (show (l.take (i + 1)).all okNm = true by
              rw [List.take_succ_eq_append_getElem hil, List.all_append, HA.out, hkk]
              simpa using ho)
            obtain ⟨N, hN⟩ : ∃ N, nb kk = N := ⟨_, rfl⟩
            rw [hN] at HNm2 hcell
            clear HNm hSt hkk ho hN hil HA
            go_wp2_with fail
            refine HNm2.out.mono ?_
            rintro e w2 ⟨rfl, hw2⟩
            have hw3 := hw2.symm
            subst hw3
            clear hw2
            go_wp2
            go_roundg (n + 1 - (i + 1))
            case rel => exact ⟨rfl, i + 1, by omega, by omega, by go_num, HA2⟩
            case measure => omega
          · have HNm2 := Asd.mk (show Calls Tryz.prog 40 #[.string (nb kk)] wr fun e w' => e = .returned (.int .i64 30) ∧ w' = wr from by
              have := HNm.out wr
              rw [show nameE (nb kk) = 30 by unfold nameE; rw [list_nb, if_neg ho]] at this
              exact this)
            have HF := Asd.mk (show partsF s = .error 30 by
              rw [HPF.out, if_pos]
              apply Bool.eq_false_iff.2
              intro h
              exact ho (List.all_eq_true.1 h kk (by rw [← hkk]; exact List.getElem_mem hil)))
            obtain ⟨N, hN⟩ : ∃ N, nb kk = N := ⟨_, rfl⟩
            rw [hN] at HNm2 hcell
            clear HNm hSt hkk ho hN hil HA
            go_wp2_with fail
            refine HNm2.out.mono ?_
            rintro e w2 ⟨rfl, hw2⟩
            have hw3 := hw2.symm
            subst hw3
            clear hw2
            go_wp2
            go_ret2
            exact ⟨HC.out, by rw [HF.out]; rfl⟩
        · have k2 : ¬ (i : Int) < (n : Int) := by omega
          have hall : l.all okNm = true := by
            have := HA.out
            rwa [List.take_of_length_le (by have := HN.out; omega)] at this
          have HF := Asd.mk (show partsF s = if 64 < n then .error 2 else .ok l by
            rw [HPF.out, if_neg (by rw [hall]; decide), HN.out])
          clear hall HA HPF
          by_cases h64 : 64 < n
          · have k3 : (64 : Int) < (n : Int) := by omega
            have HF2 := Asd.mk (show partsF s = .error 2 by rw [HF.out, if_pos h64])
            clear HF h64
            go_wp2
            go_ret2
            exact ⟨HC.out, by rw [HF2.out]; rfl⟩
          · have k3 : ¬ (64 : Int) < (n : Int) := by omega
            have HF2 := Asd.mk (show partsF s = .ok l by rw [HF.out, if_neg h64])
            clear HF h64
            go_wp2
            go_ret2
            exact ⟨HC.out, by rw [HF2.out]; exact ⟨_, rfl, HR.out⟩⟩
end Go.Proofs.YtiijbecklkccfaaGreatDoor.I
/- The reference's Below (layer 3): the walk. -/
namespace Go.Proofs.YtiijbecklkccfaaGreatDoor.I
open Go.RowKit Go.Proofs.YtiijbecklkccfaaGreatDoor.B Go.Sort
set_option linter.unusedVariables false
theorem pre_slash {a b : ByteArray} : Lib.hasPrefix b.data.toList (a ++ ⟨#[47]⟩).data.toList = true ↔ ∃ h : a.size < b.size, (b.extract 0 a.size).data.toList = a.data.toList ∧ b[a.size] = 47 := by
  have ha := list_size a
  have hb := list_size b
  unfold Lib.hasPrefix
  rw [ByteArray.data_append, Array.toList_append, List.isPrefixOf_iff_prefix]
  constructor
  · rintro ⟨t, ht⟩
    have hlen := congrArg List.length ht
    simp only [List.length_append, List.length_cons, List.length_nil] at hlen
    have hlt : a.size < b.size := by omega
    refine ⟨hlt, ?_, ?_⟩
    · rw [toList_extract, List.drop_zero, Nat.sub_zero, ← ht, List.append_assoc, ← ha, List.take_left]
    · have h1 := list_get hlt
      rw [← ht, List.append_assoc, List.getElem?_append_right (by omega), ha, Nat.sub_self] at h1
      simp at h1
      exact h1.symm
  · rintro ⟨hlt, h1, h2⟩
    rw [toList_extract, List.drop_zero, Nat.sub_zero] at h1
    refine ⟨b.data.toList.drop (a.size + 1), ?_⟩
    have hl : a.size < b.data.toList.length := by omega
    have h3 : b.data.toList.drop a.size = 47 :: b.data.toList.drop (a.size + 1) := by
      rw [List.drop_eq_getElem_cons hl]
      congr 1
    calc a.data.toList ++ [47] ++ b.data.toList.drop (a.size + 1) = a.data.toList ++ b.data.toList.drop a.size := by rw [h3]; simp
      _ = b.data.toList.take a.size ++ b.data.toList.drop a.size := by rw [h1]
      _ = _ := List.take_append_drop _ _
set_option maxRecDepth 100000 in
set_option maxHeartbeats 16000000 in
theorem refbelow_calls (a b : ByteArray) (w : World) (ha : a.size ≤ 4294967280) (hb : b.size ≤ 4294967280) : Calls Tryz.prog 16 #[.string a, .string b] w fun e w' => e = .returned (.bool (belowB a b)) ∧ w' = w := by
  have t1 := ba_tests a []
  by_cases h1 : a.data.toList = []
  · rw [show belowB a b = true by unfold belowB; rw [ByteArray.toList_eq, h1]; rfl]
    rw [decide_eq_true h1] at t1
    clear h1
    (go_enter Tryz.func16, Tryz.ntmps16)
    go_wp2
    go_ret
    exact ⟨rfl, rfl⟩
  · rw [decide_eq_false h1] at t1
    have te : a.toList.isEmpty = false := by rw [ByteArray.toList_eq]; exact Bool.eq_false_iff.2 fun h => h1 (List.isEmpty_iff.1 h)
    cases t2 : (b.toList == a.toList) with
    | true =>
      rw [show belowB a b = true by unfold belowB; rw [t2]; simp]
      clear h1 te
      (go_enter Tryz.func16, Tryz.ntmps16)
      go_wp2
      go_ret
      exact ⟨rfl, rfl⟩
    | false =>
      rw [show belowB a b = Lib.hasPrefix b.data.toList (a ++ ⟨#[47]⟩).data.toList by unfold belowB; rw [te, t2]; rfl]
      by_cases h3 : a.size < b.size
      · have k1 : (a.size : Int) < (b.size : Int) := by omega
        have hx : ((b.extract 0 a.size).toList == a.toList) = decide ((b.extract 0 a.size).data.toList = a.data.toList) := by
          rw [ByteArray.toList_eq a]; exact ba_tests _ _
        by_cases h4 : (b.extract 0 a.size).data.toList = a.data.toList
        · rw [decide_eq_true h4] at hx
          by_cases h5 : b[a.size] = 47
          · rw [pre_slash.2 ⟨h3, h4, h5⟩]
            have t5 : (((b[a.size].toNat : Nat) : Int) == 47) = true := by rw [h5]; rfl
            clear h1 te h4 h5
            (go_enter Tryz.func16, Tryz.ntmps16)
            go_wp2
            go_ret
            exact ⟨rfl, rfl⟩
          · rw [show Lib.hasPrefix b.data.toList (a ++ ⟨#[47]⟩).data.toList = false from Bool.eq_false_iff.2 fun h => h5 (pre_slash.1 h).2.2]
            have t5 : (((b[a.size].toNat : Nat) : Int) == 47) = false := by
              refine beq_eq_false_iff_ne.2 fun h => h5 ?_
              apply UInt8.toNat_inj.1
              have : b[a.size].toNat = 47 := by omega
              rw [this]; rfl
            clear h1 te h4 h5
            (go_enter Tryz.func16, Tryz.ntmps16)
            go_wp2
            go_ret
            exact ⟨rfl, rfl⟩
        · rw [show Lib.hasPrefix b.data.toList (a ++ ⟨#[47]⟩).data.toList = false from Bool.eq_false_iff.2 fun h => h4 (pre_slash.1 h).2.1]
          rw [decide_eq_false h4] at hx
          clear h1 te h4
          (go_enter Tryz.func16, Tryz.ntmps16)
          go_wp2
          go_ret
          exact ⟨rfl, rfl⟩
      · have k1 : ¬ (a.size : Int) < (b.size : Int) := by omega
        rw [show Lib.hasPrefix b.data.toList (a ++ ⟨#[47]⟩).data.toList = false from Bool.eq_false_iff.2 fun h => h3 (pre_slash.1 h).1]
        clear h1 te h3
        (go_enter Tryz.func16, Tryz.ntmps16)
        go_wp2
        go_ret
        exact ⟨rfl, rfl⟩
end Go.Proofs.YtiijbecklkccfaaGreatDoor.I
/- What InodeKeeps asks of a tree: plain. -/
namespace Go.Proofs.YtiijbecklkccfaaGreatDoor.I
open Go.RowKit Go.Proofs.YtiijbecklkccfaaGreatDoor.B Go.Sort
set_option linter.unusedVariables false
/-- The whole tree. -/
def treeF0 (fs : FS) : List Ent := treeL fs 65 []
theorem below_prefix {p q : Pth} (hp : p ≠ []) (hop : okP p) (hoq : okP q) (h : belowB (tx p) (tx q) = true) : p <+: q := by
  have hpt := parts_tx hp hop
  by_cases hq : q = []
  · subst hq
    exfalso
    unfold belowB at h
    rw [Bool.or_eq_true, Bool.or_eq_true] at h
    rcases h with (h | h) | h
    · rw [ByteArray.toList_eq, List.isEmpty_iff] at h
      have : tx p = ⟨#[]⟩ := by have := congrArg nb h; rw [nb_list] at this; exact this
      exact tx_ne hp hop this
    · have := ba_eq (beq_iff_eq.1 h)
      exact tx_ne hp hop this.symm
    · obtain ⟨h1, _⟩ := pre_slash.1 h
      have : (tx []).size = 0 := rfl
      omega
  · unfold belowB at h
    rw [Bool.or_eq_true, Bool.or_eq_true] at h
    rcases h with (h | h) | h
    · rw [ByteArray.toList_eq, List.isEmpty_iff] at h
      have : tx p = ⟨#[]⟩ := by have := congrArg nb h; rw [nb_list] at this; exact this
      exact absurd this (tx_ne hp hop)
    · have e := ba_eq (beq_iff_eq.1 h)
      have hqt := parts_tx hq hoq
      rw [e, hpt] at hqt
      cases hqt
      exact List.prefix_refl _
    · unfold Lib.hasPrefix at h
      rw [List.isPrefixOf_iff_prefix] at h
      obtain ⟨t, ht⟩ := h
      rw [ByteArray.data_append, Array.toList_append, tx_list, tx_list] at ht
      have hs := spL_join_all 47 hq (ok_slash hoq.2.2)
      rw [← ht, List.append_assoc] at hs
      have e : spL 47 (joinL 47 p ++ ([47] ++ t)) = spL 47 (joinL 47 p) ++ spL 47 t := spL_join 47 (joinL 47 p) t
      have hs2 : spL 47 (joinL 47 p) ++ spL 47 t = q := by rw [← e]; exact hs
      rw [spL_join_all 47 hp (ok_slash hop.2.2)] at hs2
      exact ⟨_, hs2⟩
theorem ok_at {fs : FS} (hg : FsOk fs) {p : Pth} (h : fs.at p ≠ none) : okP p := by
  cases hx : fs.at p with
  | none => exact absurd hx h
  | some x => exact hg.okp p x hx
/-- What stands behind what is no directory is not below it. -/
theorem tree_next {fs : FS} (hg : FsOk fs) {k : Nat} (hk : k + 1 < (pathsL fs 65 []).length) (hn : (entF fs ((pathsL fs 65 [])[k]'(by omega))).2.1 ≠ 2) : belowB (tx ((pathsL fs 65 [])[k]'(by omega))) (tx ((pathsL fs 65 [])[k + 1]'hk)) = false := by
  obtain ⟨a, ha⟩ : ∃ a, (pathsL fs 65 [])[k]'(by omega) = a := ⟨_, rfl⟩
  obtain ⟨b, hb⟩ : ∃ b, (pathsL fs 65 [])[k + 1]'hk = b := ⟨_, rfl⟩
  have ma : a ∈ pathsL fs 65 [] := by rw [← ha]; exact List.getElem_mem _
  have mb : b ∈ pathsL fs 65 [] := by rw [← hb]; exact List.getElem_mem _
  have hne : a ≠ b := by
    rw [← ha, ← hb]
    exact List.pairwise_iff_getElem.1 (paths_nodup hg.nodup 65 []) k (k + 1) (by omega) hk (by omega)
  have hr : fs.at [] ≠ none := by rw [at_root]; simp
  have aa := paths_at hr ma
  have ab := paths_at hr mb
  rw [ha] at hn
  rw [ha, hb]
  apply Bool.eq_false_iff.2
  intro h
  have ha0 : a ≠ [] := by
    rintro rfl
    apply hn
    unfold entF
    rw [at_root]; rfl
  obtain ⟨s, hs⟩ := below_prefix ha0 (ok_at hg aa) (ok_at hg ab) h
  have hs0 : s ≠ [] := by
    rintro rfl
    rw [List.append_nil] at hs
    exact hne hs
  rw [← hs] at ab
  obtain ⟨y, hy1, hy2⟩ := hg.prefix ab hs0
  apply hn
  unfold entF
  rw [hy1]
  exact hy2
theorem sum_perm {l m : List Nat} (h : l.Perm m) : l.sum = m.sum := by
  induction h with
  | nil => rfl
  | cons x _ ih => simp [ih]
  | swap x y l => simp; omega
  | trans _ _ h1 h2 => exact h1.trans h2
/-- The bytes of all texts are what is taken. -/
theorem tree_sum {fs : FS} (hg : FsOk fs) : ((treeF0 fs).map fun x => x.2.2.size).sum = usedF fs := by
  unfold treeF0 treeL
  rw [List.map_map]
  have h1 := sum_perm ((paths_perm hg).map ((fun x : Ent => x.2.2.size) ∘ entF fs))
  rw [h1, List.map_cons, List.sum_cons, List.map_map]
  have h0 : ((fun x : Ent => x.2.2.size) ∘ entF fs) [] = 0 := by
    show ((fs.at []).getD rootN).text.size = 0
    rw [at_root]; rfl
  rw [h0, Nat.zero_add]
  unfold usedF
  congr 1
  refine List.map_congr_left fun y hy => ?_
  show ((fs.at y.1).getD rootN).text.size = y.2.text.size
  rw [at_ne fs (hg.ne y hy), mem_lookup hg.nodup hy]
  rfl
theorem tree_count {fs : FS} (hg : FsOk fs) : (treeF0 fs).length = fs.length + 1 := by
  unfold treeF0 treeL
  rw [List.length_map, (paths_perm hg).length_eq]
  simp
end Go.Proofs.YtiijbecklkccfaaGreatDoor.I
/- A call that answers an error leaves the file system. Plain. -/
namespace Go.Proofs.YtiijbecklkccfaaGreatDoor.I
open Go.RowKit Go.Proofs.YtiijbecklkccfaaGreatDoor.B Go.Sort
set_option linter.unusedVariables false
theorem putF_err {fs : FS} {by' nd : Nat} {p : Pth} {x : Nd} (h : (putF fs by' nd p x).1 ≠ 0) : (putF fs by' nd p x).2 = fs := by
  unfold putF at h ⊢
  split
  · rfl
  · rename_i h1; rw [if_neg h1] at h; exact absurd rfl h
theorem opF_err {fs : FS} {by' nd : Nat} {o : OpV} (h : (opF fs by' nd o).1 ≠ 0) : (opF fs by' nd o).2 = fs := by
  unfold opF at h ⊢
  by_cases h1 : o.kind = 1
  · rw [if_pos h1] at h ⊢
    unfold makeF at h ⊢
    split at h
    · rfl
    · split at h
      · rename_i h2; rw [if_pos h2]
      · rename_i h2; rw [if_neg h2]; exact putF_err h
  · rw [if_neg h1] at h ⊢
    by_cases h2 : o.kind = 2
    · rw [if_pos h2] at h ⊢
      unfold createF at h ⊢
      split at h
      · rfl
      · split at h
        · exact putF_err h
        · split at h
          · rename_i h3; rw [if_pos h3]
          · rename_i h3
            split at h
            · rename_i h4; rw [if_neg h3, if_pos h4]
            · exact absurd rfl h
    · rw [if_neg h2] at h ⊢
      by_cases h3 : o.kind = 3
      · rw [if_pos h3] at h ⊢
        unfold appendF at h ⊢
        split at h
        · rfl
        · split at h
          · rfl
          · split at h
            · rename_i k1; rw [if_pos k1]
            · rename_i k1
              split at h
              · rename_i k2; rw [if_neg k1, if_pos k2]
              · rename_i k2
                split at h
                · rename_i k3; rw [if_neg k1, if_neg k2, if_pos k3]
                · rename_i k3
                  split at h
                  · rename_i k4; rw [if_neg k1, if_neg k2, if_neg k3, if_pos k4]
                  · exact absurd rfl h
      · rw [if_neg h3] at h ⊢
        by_cases h4 : o.kind = 4
        · rw [if_pos h4] at h ⊢
          unfold linkF at h ⊢
          split at h
          · rename_i k1; rw [if_pos k1]
          · rename_i k1
            rw [if_neg k1]
            split at h
            · rfl
            · split at h
              · rename_i k2; rw [if_pos k2]
              · rename_i k2; rw [if_neg k2]; exact putF_err h
        · rw [if_neg h4] at h ⊢
          by_cases h5 : o.kind = 5
          · rw [if_pos h5] at h ⊢
            unfold renameF at h ⊢
            split at h
            · rfl
            · split at h
              · rfl
              · split at h
                · rename_i k1; rw [if_pos k1]
                · rename_i k1
                  split at h
                  · rename_i k2; rw [if_neg k1, if_pos k2]
                  · rename_i k2
                    rw [if_neg k1, if_neg k2]
                    split at h
                    · rfl
                    · split at h
                      · rfl
                      · split at h
                        · rename_i k3; rw [if_pos k3]
                        · rename_i k3
                          rw [if_neg k3]
                          split at h
                          · rfl
                          · split at h
                            · exact absurd rfl h
                            · rename_i k4
                              rw [if_neg k4]
                              split at h
                              · rename_i k5; rw [if_pos k5]
                              · rename_i k5
                                split at h
                                · rename_i k6; rw [if_neg k5, if_pos k6]
                                · exact absurd rfl h
          · rw [if_neg h5] at h ⊢
            unfold removeF at h ⊢
            split at h
            · rfl
            · split at h
              · rename_i k1; rw [if_pos k1]
              · rename_i k1
                rw [if_neg k1]
                split at h
                · rfl
                · split at h
                  · rename_i k2; rw [if_pos k2]
                  · exact absurd rfl h
end Go.Proofs.YtiijbecklkccfaaGreatDoor.I
