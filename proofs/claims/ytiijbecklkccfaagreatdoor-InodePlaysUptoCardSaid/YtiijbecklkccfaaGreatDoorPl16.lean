/- Merged out of these texts: RefParts, RWay, RWith. -/
import Derived.Test.YtiijbecklkccfaaGreatDoorPl14
import Derived.Test.YtiijbecklkccfaaGreatDoorPl13
import Derived.Test.YtiijbecklkccfaaGreatDoorPl15
/- The reference's Pieces, Parts (layer 3): the walks. -/
namespace Go.Proofs.YtiijbecklkccfaaGreatDoor.I
open Go.RowKit Go.Proofs.YtiijbecklkccfaaGreatDoor.B Go.Sort
set_option linter.unusedVariables false
/-- A row of texts. -/
def RowT (w : World) (b : Nat) (v : Value) (L : List ByteArray) : Prop := w.ownsRow b 9 1 v L.length (L.map Value.string)
theorem extract_nb {s : ByteArray} {f i : Nat} (hi : i ≤ s.size) : s.extract f i = nb ((s.data.toList.drop f).take (i - f)) := by
  have := congrArg nb (toList_extract s f i)
  rwa [nb_list] at this
/-- Which pieces there are while one goes on. -/
def PcAt (l : Nm) (i f : Nat) (D : List Nm) : Prop := (i ≤ l.length ∧ f ≤ i ∧ spL 47 l = D ++ spL 47 (l.drop f) ∧ (47 : UInt8) ∉ (l.drop f).take (i - f)) ∨ (i = l.length + 1 ∧ D = spL 47 l)
theorem pc_start (l : Nm) : PcAt l 0 0 [] := .inl ⟨by omega, by omega, rfl, by simp⟩
theorem take_next {l : Nm} {f i : Nat} (hf : f ≤ i) (hi : i < l.length) : (l.drop f).take (i + 1 - f) = (l.drop f).take (i - f) ++ [l[i]'hi] := by
  have e : i + 1 - f = (i - f) + 1 := by omega
  have hlt : i - f < (l.drop f).length := by rw [List.length_drop]; omega
  rw [e, List.take_succ_eq_append_getElem hlt, List.getElem_drop]
  congr 2
  simp [show f + (i - f) = i by omega]
theorem pc_go {l : Nm} {i f : Nat} {D : List Nm} (hi : i < l.length) (h : PcAt l i f D) (hc : l[i]'hi ≠ 47) : PcAt l (i + 1) f D := by
  rcases h with ⟨h1, h2, h3, h4⟩ | ⟨h1, _⟩
  · refine .inl ⟨by omega, by omega, h3, ?_⟩
    rw [take_next h2 hi]
    intro hm
    rcases List.mem_append.1 hm with h | h
    · exact h4 h
    · rw [List.mem_singleton] at h; exact hc h.symm
  · omega
theorem pc_cut {l : Nm} {i f : Nat} {D : List Nm} (hi : i < l.length) (h : PcAt l i f D) (hc : l[i]'hi = 47) : PcAt l (i + 1) (i + 1) (D ++ [(l.drop f).take (i - f)]) := by
  rcases h with ⟨h1, h2, h3, h4⟩ | ⟨h1, _⟩
  · refine .inl ⟨by omega, by omega, ?_, by simp⟩
    have e : l.drop f = (l.drop f).take (i - f) ++ 47 :: l.drop (i + 1) := by
      have e1 : (l.drop f).drop (i - f) = l.drop i := by rw [List.drop_drop]; congr 1; omega
      have e2 : l.drop i = 47 :: l.drop (i + 1) := by rw [List.drop_eq_getElem_cons hi, hc]
      calc l.drop f = (l.drop f).take (i - f) ++ (l.drop f).drop (i - f) := (List.take_append_drop _ _).symm
        _ = _ := by rw [e1, e2]
    have e3 : spL 47 (l.drop f) = (l.drop f).take (i - f) :: spL 47 (l.drop (i + 1)) := by
      conv => lhs; rw [e]
      exact spL_cut h4
    rw [h3, e3, List.append_assoc]
    rfl
  · omega
theorem pc_end {l : Nm} {f : Nat} {D : List Nm} (h : PcAt l l.length f D) : PcAt l (l.length + 1) (l.length + 1) (D ++ [(l.drop f).take (l.length - f)]) := by
  rcases h with ⟨h1, h2, h3, h4⟩ | ⟨h1, _⟩
  · refine .inr ⟨rfl, ?_⟩
    rw [List.take_of_length_le (by rw [List.length_drop]; exact Nat.le_refl _)] at h4 ⊢
    rw [h3, spL_no h4]
  · omega
theorem pc_len {l : Nm} {i f : Nat} {D : List Nm} (h : PcAt l i f D) : D.length ≤ l.length + 1 := by
  have hl := spL_count 47 l
  rcases h with ⟨_, _, h3, _⟩ | ⟨_, h2⟩
  · rw [h3, List.length_append] at hl; omega
  · rw [h2]; exact hl
set_option maxRecDepth 100000 in
set_option maxHeartbeats 16000000 in
theorem refpieces_calls (s : ByteArray) (w : World) (hs : s.size ≤ 1048576) :
    Calls Tryz.prog 39 #[.string s] w fun e w' => ∃ v, e = .returned v ∧ RowT w' w.heap.size v ((spL 47 s.data.toList).map nb) ∧ Chg [] w w' := by
  have hl := list_size s
  obtain ⟨l, hll⟩ : ∃ l, s.data.toList = l := ⟨_, rfl⟩
  rw [hll] at hl ⊢
  have HLL := Asd.mk hll
  have HL := Asd.mk hl
  clear hl hll
  (go_enter Tryz.func39, Tryz.ntmps39)
  go_wp2
  go_loopg [3, 4, 5] (s.size + 2) (fun gk v3 v4 v5 wx => ∃ (i f : Nat) (D : List Nm), i ≤ s.size + 1 ∧ f ≤ i ∧ gk = s.size + 2 - i ∧ v4 = .int .i64 (f : Int) ∧ v5 = .int .i64 (i : Int) ∧ Asd (PcAt l i f D) ∧ Asd (RowT wx w.heap.size v3 (D.map nb)) ∧ Asd (Chg [] w wx))
  case atStart => exact ⟨0, 0, [], by omega, by omega, rfl, rfl, rfl, ⟨pc_start l⟩, ⟨⟨rfl, .inl ⟨rfl, rfl⟩⟩⟩, ⟨Chg.refl _ _⟩⟩
  case round =>
    obtain ⟨i, f, D, hi, hfi, rfl, rfl, rfl, HP, HR, HC⟩ := hrel
    by_cases hlt : i ≤ s.size
    · have k1 : (i : Int) ≤ (s.size : Int) := by omega
      have k2 : (f : Int) ≤ (i : Int) := by omega
      have HX := Asd.mk (show s.extract f i = nb ((l.drop f).take (i - f)) by rw [extract_nb hlt, HLL.out])
      have hDl : D.length ≤ s.size + 1 := by have := pc_len HP.out; have := HL.out; omega
      have HBs := Asd.mk (show w.heap.size ≤ wr.heap.size from HC.out.size)
      by_cases he : i = s.size
      · subst he
        have HP2 := Asd.mk (show PcAt l (s.size + 1) (s.size + 1) (D ++ [(l.drop f).take (s.size - f)]) by have := HL.out; rw [← this] at HP ⊢; exact pc_end HP.out)
        clear HP
        go_wp2_with (first | (refine wpList_buildStr rfl (s.extract f s.size) wr.heap.size rfl (.tmp 26) rfl rfl ?_; simp only [Act.put, List.setIfInBounds_toArray, List.set_cons_zero, List.set_cons_succ]) | (at_builtin; refine wpList_append9 rfl (.tmp 22) (.tmp 27) rfl w.heap.size _ (D.map nb) rfl (HR.out.alloc _) (s.extract f s.size) wr.heap.size rfl (hp_new _ _) (by rw [List.length_map]; omega) (Nat.le_trans HBs.out ((Chg.refl [] wr).alloc _).size) ?_; intro v2 w9 hown9 hgrow9; replace hown9 := Asd.mk hown9; replace hgrow9 := Asd.mk (Chg.grown (HC.out.alloc _) hgrow9 (fun g e hg => by have := (own_block HR.out e).1; omega)); simp only [Act.put, List.setIfInBounds_toArray, List.set_cons_zero, List.set_cons_succ]))
        go_roundg (s.size + 2 - (s.size + 1))
        case rel => exact ⟨s.size + 1, s.size + 1, _, by omega, by omega, rfl, by go_num, by go_num, HP2, ⟨by rw [List.map_append, List.map_singleton, ← HX.out]; exact hown9.out⟩, hgrow9⟩
        case measure => omega
      · have hil : i < s.size := by omega
        have k3 : ¬ (i : Int) = (s.size : Int) := by omega
        have hll : i < l.length := by have := HL.out; omega
        have hg : s[i] = l[i] := by
          have h1 := list_get hil
          rw [HLL.out, List.getElem?_eq_getElem hll] at h1
          exact (Option.some.inj h1).symm
        by_cases e1 : s[i] = 47
        · have t5 : (((s[i].toNat : Nat) : Int) == 47) = true := by rw [e1]; rfl
          have HP2 := Asd.mk (pc_cut hll HP.out (by rw [← hg, e1]))
          clear HP hg hll e1
          go_wp2_with (first | (refine wpList_buildStr rfl (s.extract f i) wr.heap.size rfl (.tmp 26) rfl rfl ?_; simp only [Act.put, List.setIfInBounds_toArray, List.set_cons_zero, List.set_cons_succ]) | (at_builtin; refine wpList_append9 rfl (.tmp 22) (.tmp 27) rfl w.heap.size _ (D.map nb) rfl (HR.out.alloc _) (s.extract f i) wr.heap.size rfl (hp_new _ _) (by rw [List.length_map]; omega) (Nat.le_trans HBs.out ((Chg.refl [] wr).alloc _).size) ?_; intro v2 w9 hown9 hgrow9; replace hown9 := Asd.mk hown9; replace hgrow9 := Asd.mk (Chg.grown (HC.out.alloc _) hgrow9 (fun g e hg => by have := (own_block HR.out e).1; omega)); simp only [Act.put, List.setIfInBounds_toArray, List.set_cons_zero, List.set_cons_succ]))
          go_roundg (s.size + 2 - (i + 1))
          case rel => exact ⟨i + 1, i + 1, _, by omega, by omega, rfl, by go_num, by go_num, HP2, ⟨by rw [List.map_append, List.map_singleton, ← HX.out]; exact hown9.out⟩, hgrow9⟩
          case measure => omega
        · have t5 : (((s[i].toNat : Nat) : Int) == 47) = false := by
            refine beq_eq_false_iff_ne.2 fun h => e1 ?_
            apply UInt8.toNat_inj.1
            have : s[i].toNat = 47 := by omega
            rw [this]; rfl
          have HP2 := Asd.mk (pc_go hll HP.out (by rw [← hg]; exact e1))
          clear HP hg hll e1 HX
          go_wp2
          go_roundg (s.size + 2 - (i + 1))
          case rel => exact ⟨i + 1, f, D, by omega, by omega, rfl, rfl, by go_num, HP2, HR, HC⟩
          case measure => omega
    · have k1 : ¬ (i : Int) ≤ (s.size : Int) := by omega
      have hD : D = spL 47 l := by
        rcases HP.out with ⟨h1, _⟩ | ⟨_, h2⟩
        · have := HL.out; omega
        · exact h2
      subst hD
      clear HP
      go_wp2
      go_ret
      exact ⟨_, rfl, HR.out, HC.out⟩
/-- What the reference's Parts answers. -/
def refPartsN (s : ByteArray) : Nat := match partsF s with
  | .error n => n
  | .ok _ => 0
def RefPost (b : Nat) (R : Except Nat Pth) (e : Ending) (w' : World) : Prop := match R with
  | .error n => e = .returned (.tuple #[.slice none 0 0, .int .i64 (n : Int)])
  | .ok p => ∃ v, e = .returned (.tuple #[v, .int .i64 0]) ∧ RowT w' b v (p.map nb)
set_option maxRecDepth 100000 in
set_option maxHeartbeats 16000000 in
theorem refparts_calls (s : ByteArray) (w : World) (hs : s.size ≤ 1048576) :
    Calls Tryz.prog 15 #[.string s] w fun e w' => Chg [] w w' ∧ RefPost w.heap.size (partsF s) e w' := by
  have hl := list_size s
  have t1 := ba_tests s []
  by_cases h1 : 4096 < s.size
  · have k1 : (4096 : Int) < (s.size : Int) := by omega
    rw [show partsF s = .error 2 by unfold partsF; rw [if_pos h1]]
    clear t1 hl h1
    (go_enter Tryz.func15, Tryz.ntmps15)
    go_wp2
    go_ret2
    exact ⟨Chg.refl _ _, rfl⟩
  · have k1 : ¬ (4096 : Int) < (s.size : Int) := by omega
    by_cases h2 : s.size = 0
    · rw [show partsF s = .ok [] by unfold partsF; rw [if_neg h1, if_pos h2]]
      have h3 : s.data.toList = [] := List.eq_nil_of_length_eq_zero (by omega)
      rw [decide_eq_true h3] at t1
      clear hl h1 h2 h3
      (go_enter Tryz.func15, Tryz.ntmps15)
      go_wp2
      go_ret2
      exact ⟨Chg.refl _ _, _, rfl, rfl, .inl ⟨rfl, rfl⟩⟩
    · have h3 : s.data.toList ≠ [] := fun e => by rw [e] at hl; exact h2 hl.symm
      rw [decide_eq_false h3] at t1
      have HPc := Asd.mk (refpieces_calls s w hs)
      obtain ⟨l, hll⟩ : ∃ l, spL 47 s.data.toList = l := ⟨_, rfl⟩
      have HPF := Asd.mk (show partsF s = if l.all okNm = false then .error 30 else if 64 < l.length then .error 2 else .ok l by unfold partsF; rw [if_neg h1, if_neg h2, hll])
      have hln : l.length ≤ s.size + 1 := by rw [← hll, ← hl]; exact spL_count 47 _
      have HSz := Asd.mk (show ∀ k ∈ l, k.length ≤ s.size from fun k hk => by rw [← hll] at hk; rw [← hl]; exact spL_size 47 _ k hk)
      rw [hll] at HPc
      clear hl h1 h2 h3 hll
      (go_enter Tryz.func15, Tryz.ntmps15)
      go_wp2_with fail
      refine HPc.out.mono ?_
      rintro e w1 ⟨v, rfl, hR, hC⟩
      obtain ⟨A, c, hv, hc⟩ := own_form hR
      rw [List.length_map] at hv hc
      obtain ⟨n, hn⟩ : ∃ n, l.length = n := ⟨_, rfl⟩
      have HR := Asd.mk hR
      have HC := Asd.mk hC
      have HN := Asd.mk hn
      rw [hn] at hv hln hc
      subst hv
      clear hR hC HPc hn
      go_wp2
      go_loopg [5] (n + 1) (fun gk v5 wx => wx = w1 ∧ ∃ i : Nat, i ≤ n ∧ gk = n + 1 - i ∧ v5 = .int .i64 (i : Int) ∧ Asd ((l.take i).all okNm = true))
      case atStart => exact ⟨rfl, 0, by omega, rfl, rfl, ⟨rfl⟩⟩
      case round =>
        obtain ⟨rfl, i, hi, rfl, rfl, HA⟩ := hrel
        by_cases hlt : i < n
        · have k2 : (i : Int) < (n : Int) := by omega
          have hil : i < l.length := by rw [HN.out]; exact hlt
          obtain ⟨kk, hkk⟩ : ∃ kk, l[i] = kk := ⟨_, rfl⟩
          have hSt := strL_of_own HR.out
          obtain ⟨a, hA1, hcell⟩ := strL_cell hSt (i := i) (by rw [List.length_map]; exact hil)
          rw [List.getElem_map, hkk] at hcell
          subst hA1
          have HNm := Asd.mk (fun W => refname_calls (nb kk) W (by rw [nb_size]; have := HSz.out kk (by rw [← hkk]; exact List.getElem_mem hil); omega))
          by_cases ho : okNm kk = true
          · have HNm2 := Asd.mk (show Calls Tryz.prog 40 #[.string (nb kk)] wr fun e w' => e = .returned (.int .i64 0) ∧ w' = wr from by
              have := HNm.out wr
              rw [show nameE (nb kk) = 0 by unfold nameE; rw [list_nb, if_pos ho]] at this
              exact this)
            have HA2 := Asd.mk (show (l.take (i + 1)).all okNm = true by
              rw [List.take_succ_eq_append_getElem hil, List.all_append, HA.out, hkk]
              simpa using ho)
            obtain ⟨N, hN⟩ : ∃ N, nb kk = N := ⟨_, rfl⟩
            rw [hN] at HNm2 hcell
            clear HNm hSt hkk ho hN hil HA
            go_wp2_with fail
            refine HNm2.out.mono ?_
            rintro e w2 ⟨rfl, hw2⟩
            have hw3 := hw2.symm
            subst hw3
            clear hw2
            go_wp2
            go_roundg (n + 1 - (i + 1))
            case rel => exact ⟨rfl, i + 1, by omega, by omega, by go_num, HA2⟩
            case measure => omega
          · have HNm2 := Asd.mk (show Calls Tryz.prog 40 #[.string (nb kk)] wr fun e w' => e = .returned (.int .i64 30) ∧ w' = wr from by
              have := HNm.out wr
              rw [show nameE (nb kk) = 30 by unfold nameE; rw [list_nb, if_neg ho]] at this
              exact this)
            have HF := Asd.mk (show partsF s = .error 30 by
              rw [HPF.out, if_pos]
              apply Bool.eq_false_iff.2
              intro h
              exact ho (List.all_eq_true.1 h kk (by rw [← hkk]; exact List.getElem_mem hil)))
            obtain ⟨N, hN⟩ : ∃ N, nb kk = N := ⟨_, rfl⟩
            rw [hN] at HNm2 hcell
            clear HNm hSt hkk ho hN hil HA
            go_wp2_with fail
            refine HNm2.out.mono ?_
            rintro e w2 ⟨rfl, hw2⟩
            have hw3 := hw2.symm
            subst hw3
            clear hw2
            go_wp2
            go_ret2
            exact ⟨HC.out, by rw [HF.out]; rfl⟩
        · have k2 : ¬ (i : Int) < (n : Int) := by omega
          have hall : l.all okNm = true := by
            have := HA.out
            rwa [List.take_of_length_le (by have := HN.out; omega)] at this
          have HF := Asd.mk (show partsF s = if 64 < n then .error 2 else .ok l by
            rw [HPF.out, if_neg (by rw [hall]; decide), HN.out])
          clear hall HA HPF
          by_cases h64 : 64 < n
          · have k3 : (64 : Int) < (n : Int) := by omega
            have HF2 := Asd.mk (show partsF s = .error 2 by rw [HF.out, if_pos h64])
            clear HF h64
            go_wp2
            go_ret2
            exact ⟨HC.out, by rw [HF2.out]; rfl⟩
          · have k3 : ¬ (64 : Int) < (n : Int) := by omega
            have HF2 := Asd.mk (show partsF s = .ok l by rw [HF.out, if_neg h64])
            clear HF h64
            go_wp2
            go_ret2
            exact ⟨HC.out, by rw [HF2.out]; exact ⟨_, rfl, HR.out⟩⟩
end Go.Proofs.YtiijbecklkccfaaGreatDoor.I
/- The reference's Way and within. -/
namespace Go.Proofs.YtiijbecklkccfaaGreatDoor.I
open Go.RowKit Go.Proofs.YtiijbecklkccfaaGreatDoor.B Go.Sort
set_option linter.unusedVariables false
theorem field_kind (a b : ByteArray) (k : Int) (w : World) : (Instr.field 41 (.agg #[.string a, .int .i64 k, .string b]) 1).run Tryz.prog w = .ok (.int .i64 k) w := by
  unfold Instr.field
  go_simp
  rfl
attribute [local go_sem high] field_kind
theorem way_ok2 {G : FS} {s : ByteArray} {p : Pth} (h : partsF s = .ok p) : wayN G s = (wayE G p).getD 0 := by
  unfold wayN atE
  rw [h]
  simp only
  cases wayE G p <;> rfl
theorem way_err {G : FS} {s : ByteArray} {n : Nat} (h : partsF s = .error n) : wayN G s = n := by
  unfold wayN atE
  rw [h]
theorem parts_num {s : ByteArray} {n : Nat} (h : partsF s = .error n) : n = 2 ∨ n = 30 := by
  unfold partsF at h
  split at h
  · cases h; simp
  · split at h
    · cases h
    · split at h
      · cases h; simp
      · split at h
        · cases h; simp
        · cases h
theorem take_snoc {p : Pth} {i : Nat} (hi : i < p.length) : p.take (i + 1) = p.take i ++ [p[i]'hi] := List.take_succ_eq_append_getElem hi
/-- The text of one name more. -/
theorem tx_take {p : Pth} {i : Nat} (hi : i < p.length) : (if i = 0 then (⟨#[]⟩ : ByteArray) else tx (p.take i) ++ ⟨#[47]⟩) ++ nb (p[i]'hi) = tx (p.take (i + 1)) := by
  rw [take_snoc hi]
  by_cases h : i = 0
  · subst h
    rw [if_pos rfl]
    apply ByteArray.ext
    simp [tx, joinL, nb]
  · rw [if_neg h, tx_below (by intro e; have := congrArg List.length e; simp at this; rcases this with h2 | h2; exact h h2; rw [h2] at hi; simp at hi)]
/-- One step of a way. -/
theorem way_step {G : FS} {p : Pth} {i : Nat} (hi : i + 1 < p.length) : wayFrom G (p.take i) (p.drop i) = match G.at (p.take (i + 1)) with
    | none => some 200
    | some x => if x.kind = 1 then some 203 else if x.kind = 3 then some 204 else wayFrom G (p.take (i + 1)) (p.drop (i + 1)) := by
  rw [List.drop_eq_getElem_cons (show i < p.length by omega), List.drop_eq_getElem_cons hi, take_snoc (show i < p.length by omega)]
  simp only [wayFrom]
  cases G.at (p.take i ++ [p[i]]) <;> rfl
set_option maxRecDepth 100000 in
set_option maxHeartbeats 16000000 in
theorem way20_calls (A : Option Addr) (N c : Nat) (bb nn : Int) (G : FS) (s : ByteArray) (w : World) (hE : EntL w (.slice A N c) (rowE G)) (hN : G.length = N) (hNz : N ≤ 1048576) (hG : OkRow G) (hs : s.size ≤ 1048576) :
    Calls Tryz.prog 71 #[.agg #[.slice A N c, .int .i64 bb, .int .i64 nn], .string s] w fun e w' => e = .returned (.int .i64 (wayN G s : Int)) ∧ Chg [] w w' := by
  obtain ⟨w0, hw0, hC, hB⟩ := start1 w #[.slice A N c, .int .i64 bb, .int .i64 nn] 56
  have HC := Asd.mk hC
  have HE := Asd.mk (hE.chg HC.out)
  have HN := Asd.mk (show (rowE G).length = N by rw [row_len]; exact hN)
  have HB := Asd.mk hB
  have HG := Asd.mk hG
  have HP := Asd.mk (refparts_calls s w0 hs)
  clear hE hB hN hC hG
  cases hp : partsF s with
  | error n =>
    have hn := parts_num hp
    have HW := Asd.mk (way_err (G := G) hp)
    rw [hp] at HP
    rw [HW.out]
    have k1 : ¬ (n : Int) = 0 := by omega
    clear hp hn HW
    (go_enter Tryz.func71, Tryz.ntmps71)
    go_wp2_with fail
    refine HP.out.mono ?_
    rintro e w1 ⟨hC, he⟩
    have HC1 := Asd.mk (HC.out.trans hC)
    simp only [RefPost] at he
    subst he
    clear hC HP HC
    go_wp2
    go_ret
    exact ⟨rfl, HC1.out⟩
  | ok p =>
    have HW := Asd.mk (way_ok2 (G := G) hp)
    have HOk := Asd.mk (partsF_ok hp)
    rw [hp] at HP
    rw [HW.out]
    clear hp HW
    (go_enter Tryz.func71, Tryz.ntmps71)
    go_wp2_with fail
    refine HP.out.mono ?_
    rintro e w1 ⟨hC, v, rfl, hR⟩
    obtain ⟨A5, c5, hv, hc5⟩ := strL_of_own hR
    rw [List.length_map] at hv
    obtain ⟨n5, hn5⟩ : ∃ n, p.length = n := ⟨_, rfl⟩
    have hn5b : n5 ≤ 64 := by rw [← hn5]; exact HOk.out.1
    rw [hn5] at hv
    subst hv
    have HN5 := Asd.mk hn5
    have HS := Asd.mk hc5
    have HE1 := Asd.mk (HE.out.chg hC)
    have HC1 := Asd.mk (HC.out.trans hC)
    have HB1 := Asd.mk (hC.heap HB.out (by simp))
    clear hC HP HC hR hc5 hn5 HE HB
    go_wp2
    obtain ⟨B, hBq⟩ : ∃ B, w.heap.size = B := ⟨_, rfl⟩
    rw [hBq] at HB1 ⊢
    clear hBq hw0
    go_loopg [7, 8] (n5 + 1) (fun gk v7 v8 wx => ∃ i : Nat, i ≤ n5 ∧ gk = n5 + 1 - i ∧ v7 = .string (tx (p.take i)) ∧ v8 = .int .i64 (i : Int) ∧ Asd (Chg [] w1 wx) ∧ Asd (wayFrom G (p.take i) (p.drop i) = wayE G p))
    case atStart => exact ⟨0, by omega, rfl, rfl, rfl, ⟨Chg.refl _ _⟩, ⟨rfl⟩⟩
    case round =>
      obtain ⟨i, hi, rfl, rfl, rfl, HC, HF⟩ := hrel
      by_cases hlt : i + 1 < n5
      · have k1 : (i : Int) + 1 < (n5 : Int) := by omega
        have k2 : (i : Int) < (n5 : Int) := by omega
        have hil : i < p.length := by rw [HN5.out]; omega
        obtain ⟨U, hU⟩ : ∃ U, (if i = 0 then (⟨#[]⟩ : ByteArray) else tx (p.take i) ++ ⟨#[47]⟩) = U := ⟨_, rfl⟩
        have HU := Asd.mk hU
        obtain ⟨D, hD⟩ : ∃ D, tx (p.take i) = D := ⟨_, rfl⟩
        have HD := Asd.mk hD
        rw [hD]
        have hx := tx_take hil
        rw [hU] at hx
        have HX := Asd.mk hx
        have hOk1 : okP (p.take (i + 1)) := okP_pre (q := p.drop (i + 1)) (by rw [List.take_append_drop]; exact HOk.out)
        have hOk0 : okP (p.take i) := okP_pre (q := p.drop i) (by rw [List.take_append_drop]; exact HOk.out)
        have hDz : D.size ≤ 4096 := by rw [← hD]; exact tx_size hOk0
        have hUZ : U.size + (nb (p[i]'hil)).size ≤ 4096 := by
          have h1 := tx_size hOk1
          rw [← hx, ByteArray.size_append] at h1
          exact h1
        have hUz : U.size ≤ 4096 := by omega
        have HUZ := Asd.mk hUZ
        have HO1 := Asd.mk hOk1
        clear hU hD hx hUZ hOk0 hOk1
        go_upto_if 25 with fail
        go_cut [7] from 25 to 27 (fun v7 wx => wr = wx ∧ v7 = .string U)
        case first =>
          by_cases h0 : i = 0
          · have HU2 := Asd.mk (show U = D by rw [← HU.out, if_pos h0, ← HD.out, h0]; rfl)
            have k3 : ¬ (0 : Int) < (i : Int) := by omega
            clear h0
            go_wp2
            go_meet
            case rel => exact ⟨rfl, by rw [HU2.out]⟩
          · have hU2 : D ++ ⟨#[47]⟩ = U := by rw [← HU.out, if_neg h0, HD.out]
            have k3 : (0 : Int) < (i : Int) := by omega
            clear h0
            go_wp2
            go_meet
            case rel => exact ⟨rfl, by first | rfl | rw [← hU2]⟩
        case rest =>
          obtain ⟨rfl, rfl⟩ := hcut
          obtain ⟨a, rfl, d⟩ := HS.out i (by rw [List.length_map]; exact hil)
          rw [List.getElem_map] at d
          have d1 := (HC.out.below.cell (World.block_lt_of_cell? _ _ d)).trans d
          obtain ⟨Z, hZ⟩ : ∃ Z, nb (p[i]'hil) = Z := ⟨_, rfl⟩
          obtain ⟨T, hT⟩ : ∃ T, tx (p.take (i + 1)) = T := ⟨_, rfl⟩
          have hX := HX.out
          have hZz : Z.size ≤ 4096 := by rw [← hZ]; have := HUZ.out; omega
          rw [hZ] at d1 hX
          rw [hT] at hX
          have HT := Asd.mk hT
          have HF2 := HF.out
          rw [way_step (by rw [HN5.out]; exact hlt)] at HF2
          have HF3 := Asd.mk HF2
          have HCx := Asd.mk (HC1.out.trans HC.out)
          have HA := Asd.mk (at20_calls A N c bb nn (rowE G) T wr (HE1.out.chg HC.out) HN.out hNz)
          have hR := at_row HG.out (p := p.take (i + 1)) HO1.out
          rw [hT] at hR
          have HB2 := HC.out.heap HB1.out (by simp)
          have e0 := cell_of_heap HB2 0
          have e1 := cell_of_heap HB2 1
          have e2 := cell_of_heap HB2 2
          cases hx : G.at (p.take (i + 1)) with
          | none =>
            rw [hx] at HF3 hR
            simp only at HF3 hR
            rw [hR] at HA
            clear d hZ hT HUZ HO1 HF HF2 hR HX HU HD hx hil HB2
            go_wp2_with fail
            refine HA.out.mono ?_
            rintro e w2 ⟨rfl, hC⟩
            have HC2 := Asd.mk (HCx.out.trans hC)
            simp only [entC]
            clear hC HA
            go_wp2
            go_ret
            exact ⟨by rw [← HF3.out]; rfl, HC2.out⟩
          | some x =>
            rw [hx] at HF3 hR
            simp only at HF3 hR
            rw [hR] at HA
            have hk : x.kind = 1 ∨ x.kind = 2 ∨ x.kind = 3 := by
              by_cases h0 : p.take (i + 1) = []
              · rw [h0, at_root] at hx; cases hx; exact Or.inr (Or.inl rfl)
              · rw [at_ne _ h0] at hx; exact HG.out.kind _ (lookup_mem hx)
            obtain ⟨kd, Zt⟩ := x
            simp only at HF3 HA hk
            clear d hZ hT HUZ HO1 HF HF2 hR HX HU HD hx hil HB2
            rcases hk with rfl | rfl | rfl
            · rw [if_pos rfl] at HF3
              go_wp2_with fail
              refine HA.out.mono ?_
              rintro e w2 ⟨rfl, hC⟩
              have HC2 := Asd.mk (HCx.out.trans hC)
              simp only [entC]
              clear hC HA
              go_wp2
              go_ret
              exact ⟨by rw [← HF3.out]; rfl, HC2.out⟩
            · rw [if_neg (by omega), if_neg (by omega)] at HF3
              go_wp2_with fail
              refine HA.out.mono ?_
              rintro e w2 ⟨rfl, hC⟩
              have HC2 := Asd.mk (HC.out.trans hC)
              simp only [entC]
              clear hC HA
              go_wp2
              go_roundg (n5 + 1 - (i + 1))
              case rel => exact ⟨i + 1, by omega, by omega, by rw [HT.out], by go_num, HC2, HF3⟩
              case measure => omega
            · rw [if_neg (by omega), if_pos rfl] at HF3
              go_wp2_with fail
              refine HA.out.mono ?_
              rintro e w2 ⟨rfl, hC⟩
              have HC2 := Asd.mk (HCx.out.trans hC)
              simp only [entC]
              clear hC HA
              go_wp2
              go_ret
              exact ⟨by rw [← HF3.out]; rfl, HC2.out⟩
      · have k1 : ¬ (i : Int) + 1 < (n5 : Int) := by omega
        have HR := Asd.mk (show wayE G p = none by
          rw [← HF.out]
          rcases Nat.lt_or_ge i p.length with h | h
          · rw [List.drop_eq_getElem_cons h, List.drop_eq_nil_of_le (by have := HN5.out; omega)]
            rfl
          · rw [List.drop_eq_nil_of_le h]
            rfl)
        have HC2 := Asd.mk (HC1.out.trans HC.out)
        clear HF HC
        go_wp2
        go_ret
        exact ⟨by rw [HR.out]; rfl, HC2.out⟩
set_option maxRecDepth 100000 in
set_option maxHeartbeats 16000000 in
theorem within_calls (p : Pth) (k : Nm) (w : World) (hp : okP p) (hk : k.length ≤ 255) : Calls Tryz.prog 90 #[.string (tx p), .string (nb k)] w fun e w' => e = .returned (.string (tx (p ++ [k]))) ∧ w' = w := by
  have t1 := ba_tests (tx p) []
  by_cases h0 : p = []
  · subst h0
    rw [decide_eq_true (by rfl)] at t1
    have HX := Asd.mk (show tx ([] ++ [k]) = nb k from rfl)
    rw [HX.out]
    obtain ⟨D, hD⟩ : ∃ D, tx ([] : Pth) = D := ⟨_, rfl⟩
    rw [hD] at t1 ⊢
    clear hD
    (go_enter Tryz.func90, Tryz.ntmps90)
    go_wp2
    go_ret
    exact ⟨rfl, rfl⟩
  · rw [decide_eq_false (fun e => h0 ((tx_eqP hp).1 (ByteArray.ext (Array.toList_inj.1 e))))] at t1
    have hX := tx_below h0 k
    obtain ⟨D, hD⟩ : ∃ D, tx p = D := ⟨_, rfl⟩
    obtain ⟨Z, hZ⟩ : ∃ D, nb k = D := ⟨_, rfl⟩
    obtain ⟨T, hT⟩ : ∃ D, tx (p ++ [k]) = D := ⟨_, rfl⟩
    rw [hD] at t1 hX ⊢
    rw [hT, hZ] at hX
    rw [hZ, hT]
    have hX2 := hX.symm
    have hDz : D.size ≤ 4096 := by rw [← hD]; exact tx_size hp
    have hZz : Z.size ≤ 4096 := by rw [← hZ, nb_size]; omega
    clear hX hD hZ hT h0
    (go_enter Tryz.func90, Tryz.ntmps90)
    go_wp2
    go_ret
    exact ⟨by first | rfl | rw [hX2], rfl⟩
end Go.Proofs.YtiijbecklkccfaaGreatDoor.I
/- The reference's with: a table with another entry at a path. -/
namespace Go.Proofs.YtiijbecklkccfaaGreatDoor.I
open Go.RowKit Go.Proofs.YtiijbecklkccfaaGreatDoor.B Go.Sort
set_option linter.unusedVariables false
theorem one_tab (A : Option Addr) (n c : Nat) (b m : Int) : (#[Value.slice A n c, .int .i64 b, .int .i64 m]).all (·.oneCell') = true := by kernel_rfl
set_option maxRecDepth 100000 in
set_option maxHeartbeats 16000000 in
theorem with_calls (A : Option Addr) (N c : Nat) (bb nn : Int) (E : List Ent) (s px tx' : ByteArray) (kd : Nat) (w : World) (hE : EntL w (.slice A N c) E) (hN : E.length = N) (hNz : N ≤ 1000000) (hkd : kd ≤ 9) :
    Calls Tryz.prog 74 #[.agg #[.slice A N c, .int .i64 bb, .int .i64 nn], .string s, .agg #[.string px, .int .i64 (kd : Int), .string tx']] w fun e w' => ∃ v', e = .returned (.agg #[v', .int .i64 bb, .int .i64 nn]) ∧ RowE w' w.heap.size v' (withE E s (px, kd, tx')) ∧ Chg [] w w' := by
  obtain ⟨wa, hwa, hCa, hA1⟩ := start1 w #[.slice A N c, .int .i64 bb, .int .i64 nn] 56
  obtain ⟨wb, hwb, hCb, hA2⟩ := start1 wa #[.string px, .int .i64 (kd : Int), .string tx'] 41
  obtain ⟨w0, hw0, hCc, hA3⟩ := start1 wb #[.slice none 0 0, .int .i64 0, .int .i64 0] 56
  have HC := Asd.mk ((hCa.trans hCb).trans hCc)
  have hB1 := hCc.heap (hCb.heap hA1 (by simp)) (by simp)
  have hB2 := hCc.heap hA2 (by simp)
  have HE := Asd.mk (hE.chg HC.out)
  have HN := Asd.mk hN
  have HB := Asd.mk (And.intro hB1 (And.intro hB2 hA3))
  have HDw := Asd.mk (show w.heap.size < wa.heap.size ∧ wa.heap.size < wb.heap.size ∧ wb.heap.size < w0.heap.size from ⟨lt_of_heap hA1, lt_of_heap hA2, lt_of_heap hA3⟩)
  clear hE hB1 hB2 hN hA1 hA2 hA3 hCa hCb hCc
  (go_enter Tryz.func74, Tryz.ntmps74)
  go_wp2
  obtain ⟨B1, hB1⟩ : ∃ B, w.heap.size = B := ⟨_, rfl⟩
  obtain ⟨B2, hB2⟩ : ∃ B, wa.heap.size = B := ⟨_, rfl⟩
  obtain ⟨B3, hB3⟩ : ∃ B, wb.heap.size = B := ⟨_, rfl⟩
  rw [hB1, hB2, hB3] at HB HDw ⊢
  have HB1 := Asd.mk hB1
  clear hB1 hB2 hB3 hwa hwb hw0
  go_loopg [7, 8] (N + 1) (fun gk v7 v8 wx => ∃ i : Nat, i ≤ N ∧ gk = N + 1 - i ∧ v8 = .int .i64 (i : Int) ∧ Asd (Chg [] w0 wx) ∧ Asd (RowE wx w0.heap.size v7 (keepE (E.take i) s)))
  case atStart => exact ⟨0, by omega, rfl, rfl, ⟨Chg.refl _ _⟩, ⟨⟨rfl, .inl ⟨rfl, rfl⟩⟩⟩⟩
  case round =>
    obtain ⟨i, hi, rfl, rfl, HC2, HR⟩ := hrel
    have b0 := cell_of_heap (HC2.out.heap HB.out.1 (by simp)) 0
    by_cases hlt : i < N
    · have k1 : (i : Int) < (N : Int) := by omega
      have hil : i < E.length := by rw [HN.out]; exact hlt
      obtain ⟨g, rfl, c0, c1, c2⟩ := ent_cells (HE.out.chg HC2.out) hil
      obtain ⟨P, kd2, Z, hx⟩ : ∃ P kd Z, E[i]'hil = (P, kd, Z) := ⟨_, _, _, rfl⟩
      have hk := keep_take E s hil
      rw [hx] at c0 c1 c2 hk
      simp only at hk
      have t1 := ba_eqs P s
      by_cases hs : P = s
      · rw [if_neg (fun h => h hs), List.append_nil] at hk
        have HR2 := Asd.mk (show RowE wr w0.heap.size u7 (keepE (E.take (i + 1)) s) by rw [hk]; exact HR.out)
        rw [decide_eq_true hs] at t1
        clear hs hx hil hk c1 c2
        go_wp2
        go_roundg (N + 1 - (i + 1))
        case rel => exact ⟨i + 1, by omega, by omega, by go_num, HC2, HR2⟩
        case measure => omega
      · rw [if_pos hs] at hk
        have HK := Asd.mk hk
        rw [decide_eq_false hs] at t1
        obtain ⟨A7, c7, hv7, _⟩ := own_form HR.out
        obtain ⟨n7, hn7⟩ : ∃ n, (keepE (E.take i) s).length = n := ⟨_, rfl⟩
        have hn7b : n7 ≤ 1000000 := by
          rw [← hn7]
          have h1 := keep_len (E.take i) s
          have h2 : (E.take i).length ≤ E.length := List.length_take_le' i E
          have := HN.out
          omega
        have HRo := Asd.mk (show wr.ownsRow w0.heap.size 41 3 (.slice A7 n7 c7) n7 (flatE (keepE (E.take i) s)) by rw [← hn7, ← hv7]; exact HR.out)
        rw [hn7] at hv7
        subst hv7
        have HN7 := Asd.mk hn7
        have HBs := Asd.mk (show w0.heap.size ≤ wr.heap.size from HC2.out.size)
        clear hs hx hil hk HR hn7
        go_wp2_with (first
          | (refine wpList_build_ent rfl (P, kd2, Z) (.tmp 29) rfl rfl wr.heap.size rfl ?_; simp only [Act.put, List.setIfInBounds_toArray, List.set_cons_zero, List.set_cons_succ])
          | (at_builtin; refine wpList_append_entx rfl (P, kd2, Z) (.tmp 24) (.tmp 30) rfl w0.heap.size (.slice A7 n7 c7) n7 _ rfl (HRo.out.alloc _) wr.heap.size rfl (hp_new _ _) (by omega) (Nat.le_trans HBs.out ((Chg.refl [] wr).alloc _).size) ?_; intro g9 c9 w9 hown9 hgrow9; replace hown9 := Asd.mk hown9; replace hgrow9 := Asd.mk (Chg.grown (HC2.out.alloc _) hgrow9 (fun g e hg => by have := (own_block HRo.out e).1; omega)); simp only [Act.put, List.setIfInBounds_toArray, List.set_cons_zero, List.set_cons_succ]))
        have HR2 := Asd.mk (show RowE w9 w0.heap.size (.slice (some ⟨g9, 0, none⟩) (n7 + 1) c9) (keepE (E.take (i + 1)) s) by
          unfold RowE
          rw [HK.out, List.length_append, flatE_snoc, HN7.out]
          exact hown9.out)
        go_roundg (N + 1 - (i + 1))
        case rel => exact ⟨i + 1, by omega, by omega, by go_num, hgrow9, HR2⟩
        case measure => omega
    · have k1 : ¬ (i : Int) < (N : Int) := by omega
      have hf : E.take i = E := List.take_of_length_le (by have := HN.out; omega)
      rw [hf] at HR
      obtain ⟨A7, c7, hv7, _⟩ := own_form HR.out
      obtain ⟨n7, hn7⟩ : ∃ n, (keepE E s).length = n := ⟨_, rfl⟩
      have hn7b : n7 ≤ 1000000 := by
        rw [← hn7]
        have h1 := keep_len E s
        have := HN.out
        omega
      have HRo := Asd.mk (show wr.ownsRow w0.heap.size 41 3 (.slice A7 n7 c7) n7 (flatE (keepE E s)) by rw [← hn7, ← hv7]; exact HR.out)
      rw [hn7] at hv7
      subst hv7
      have HN7 := Asd.mk hn7
      have HBs := Asd.mk (show w0.heap.size ≤ wr.heap.size from HC2.out.size)
      have e1 := cell_of_heap (HC2.out.heap HB.out.2.1 (by simp)) 1
      have HBw := Asd.mk (show wr.heap[B1]? = some (.cells #[.slice A N c, .int .i64 bb, .int .i64 nn] 56 (0, 0)) ∧ wr.heap[B3]? = some (.cells #[.slice none 0 0, .int .i64 0, .int .i64 0] 56 (0, 0)) from ⟨HC2.out.heap HB.out.1 (by simp), HC2.out.heap HB.out.2.2 (by simp)⟩)
      have b1 := cell_of_heap HBw.out.1 1
      have b2 := cell_of_heap HBw.out.1 2
      have f0 := frozen_of_heap HBw.out.1 0
      clear hf hn7 HR HE
      by_cases hk : kd = 0
      · subst hk
        have HD1 := Asd.mk (show (wr.setCell ⟨B1, 0, none⟩ (.slice A7 n7 c7)).heap[B3]? = some (.cells #[.slice none 0 0, .int .i64 0, .int .i64 0] 56 (0, 0)) from (heap_setCell_other wr ⟨B1, 0, none⟩ B3 _ (by show B3 ≠ B1; have := HDw.out; omega)).trans HBw.out.2)
        go_wp2_with (first | (refine wpList_store_row (o := ⟨none, _, _, _, _, _⟩) rfl 56 (.tmp 6) (.tmp 43) rfl B3 _ rfl rfl 56 _ HD1.out (size_tab _ _ _) rfl (one_tab _ _ _ _ _) ?_))
        refine bodyPost_ret (results_cell_row rfl _ _ B3 56 _ (0, 0) _ rfl (setRow_heap _ _ _ _ _ _ HD1.out) Tryz.underlying56 rfl (size_tab _ _ _)) rfl ?_
        refine ⟨.slice A7 n7 c7, rfl, ?_, ?_⟩
        · have hC3 : Chg [B1, B3] wr ((wr.setCell ⟨B1, 0, none⟩ (.slice A7 n7 c7)).setRow B3 #[.slice A7 n7 c7, .int .i64 bb, .int .i64 nn]) := ((Chg.refl _ _).setCell (fun _ => by simp) _).setRow (fun _ => by simp) _
          have h := own_mono (own_chg HRo.out hC3 (fun i hi => .inl (by have := HDw.out; simp at hi; omega))) (show w.heap.size ≤ w0.heap.size from HC.out.size)
          unfold RowE withE
          rw [if_pos rfl, List.append_nil, HN7.out]
          exact h
        · exact (Chg.setCell (HC.out.trans HC2.out) (fun h => absurd (show B1 < w.heap.size from h) (by have := HB1.out; omega)) _).setRow (fun h => absurd h (by have := HB1.out; have := HDw.out; omega)) _
      · have k2 : ¬ (kd : Int) = 0 := by omega
        have g0 := frozen_of_heap (HC2.out.heap HB.out.2.1 (by simp)) 0
        have e0 := cell_of_heap (HC2.out.heap HB.out.2.1 (by simp)) 0
        have HOB := Asd.mk (show ∀ i, i < w0.heap.size → i ∉ (Value.slice A7 n7 c7).ownBlock.toList from fun i hi hm => by
          cases hb : (Value.slice A7 n7 c7).ownBlock with
          | none => rw [hb] at hm; simp at hm
          | some g =>
            rw [hb] at hm
            simp at hm
            subst hm
            have := (own_block HRo.out hb).1
            omega)
        have HKd := Asd.mk hk
        clear b1 b2 f0 hk
        obtain ⟨W, hW⟩ : ∃ W, wr.setCell ⟨B2, 0, none⟩ (.string s) = W := ⟨_, rfl⟩
        have hp2 : W.heap[B2]? = some (.cells #[.string s, .int .i64 (kd : Int), .string tx'] 41 (0, 0)) := by
          rw [← hW]
          exact hp_set (HC2.out.heap HB.out.2.1 (by simp)) 0 (.string s)
        have HBW := Asd.mk (show W.heap[B1]? = some (.cells #[.slice A N c, .int .i64 bb, .int .i64 nn] 56 (0, 0)) ∧ W.heap[B3]? = some (.cells #[.slice none 0 0, .int .i64 0, .int .i64 0] 56 (0, 0)) by
          rw [← hW]
          exact ⟨(heap_setCell_other wr ⟨B2, 0, none⟩ B1 _ (by show B1 ≠ B2; have := HDw.out; omega)).trans HBw.out.1, (heap_setCell_other wr ⟨B2, 0, none⟩ B3 _ (by show B3 ≠ B2; have := HDw.out; omega)).trans HBw.out.2⟩)
        have hC3 : Chg [B2] wr W := by rw [← hW]; exact (Chg.refl _ _).setCell (fun _ => by simp) _
        have HRw := Asd.mk (own_chg HRo.out hC3 (fun i hi => .inl (by have := HDw.out; simp at hi; omega)))
        have HCW := Asd.mk (show Chg [] w W by rw [← hW]; exact Chg.setCell (HC.out.trans HC2.out) (fun h => absurd (show B2 < w.heap.size from h) (by have := HB1.out; have := HDw.out; omega)) _)
        have HBs2 := Asd.mk (Nat.le_trans HBs.out hC3.size)
        have x0 := cell_of_heap hp2 0
        have x1 := cell_of_heap hp2 1
        have x2 := cell_of_heap hp2 2
        clear hC3 HRo hp2
        go_wp2_with (first
          | (refine wpList_build_ent rfl (s, kd, tx') (.tmp 38) rfl rfl W.heap.size rfl ?_; simp only [Act.put, List.setIfInBounds_toArray, List.set_cons_zero, List.set_cons_succ])
          | (at_builtin; refine wpList_append_entx rfl (s, kd, tx') (.tmp 37) (.tmp 39) rfl w0.heap.size (.slice A7 n7 c7) n7 _ rfl (HRw.out.alloc _) W.heap.size rfl (hp_new _ _) (by omega) (Nat.le_trans HBs2.out ((Chg.refl [] W).alloc _).size) ?_
             intro g9 c9 w9 hown9 hgrow9
             have hg2 := chg_app hgrow9
             have hb9 := hg2.heap HBW.out.1 (HOB.out _ (by have := HDw.out; omega))
             have HB9 := Asd.mk (hg2.heap HBW.out.2 (HOB.out _ (by have := HDw.out; omega)))
             have b0' := cell_of_heap hb9 0
             have b1 := cell_of_heap hb9 1
             have b2 := cell_of_heap hb9 2
             have f0 := frozen_of_heap hb9 0
             have HD1 := Asd.mk (show (w9.setCell ⟨B1, 0, none⟩ (.slice (some ⟨g9, 0, none⟩) (n7 + 1) c9)).heap[B3]? = some (.cells #[.slice none 0 0, .int .i64 0, .int .i64 0] 56 (0, 0)) from (heap_setCell_other w9 ⟨B1, 0, none⟩ B3 _ (by show B3 ≠ B1; have := HDw.out; omega)).trans HB9.out)
             clear hg2 hb9
             replace hown9 := Asd.mk hown9
             replace hgrow9 := Asd.mk (Chg.grown (HCW.out.alloc _) hgrow9 (fun g e hg => by have := (own_block HRw.out e).1; have := HC.out.size; omega))
             simp only [Act.put, List.setIfInBounds_toArray, List.set_cons_zero, List.set_cons_succ])
          | (refine wpList_store_row (o := ⟨none, _, _, _, _, _⟩) rfl 56 (.tmp 6) (.tmp 43) rfl B3 _ rfl rfl 56 _ HD1.out (size_tab _ _ _) rfl (one_tab _ _ _ _ _) ?_))
        refine bodyPost_ret (results_cell_row rfl _ _ B3 56 _ (0, 0) _ rfl (setRow_heap _ _ _ _ _ _ HD1.out) Tryz.underlying56 rfl (size_tab _ _ _)) rfl ?_
        refine ⟨.slice (some ⟨g9, 0, none⟩) (n7 + 1) c9, rfl, ?_, ?_⟩
        · have hC3 : Chg [B1, B3] w9 ((w9.setCell ⟨B1, 0, none⟩ (.slice (some ⟨g9, 0, none⟩) (n7 + 1) c9)).setRow B3 #[.slice (some ⟨g9, 0, none⟩) (n7 + 1) c9, .int .i64 bb, .int .i64 nn]) := ((Chg.refl _ _).setCell (fun _ => by simp) _).setRow (fun _ => by simp) _
          have h := own_mono (own_chg hown9.out hC3 (fun i hi => .inl (by have := HDw.out; simp at hi; omega))) (show w.heap.size ≤ w0.heap.size from HC.out.size)
          unfold RowE withE
          rw [if_neg HKd.out, List.length_append, flatE_snoc, HN7.out]
          exact h
        · exact (hgrow9.out.setCell (fun h => absurd (show B1 < w.heap.size from h) (by have := HB1.out; omega)) _).setRow (fun h => absurd h (by have := HB1.out; have := HDw.out; omega)) _
end Go.Proofs.YtiijbecklkccfaaGreatDoor.I
