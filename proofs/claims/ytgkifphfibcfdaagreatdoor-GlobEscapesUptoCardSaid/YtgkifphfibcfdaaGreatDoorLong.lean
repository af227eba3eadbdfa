/- GlobLong: the walk, and what patterns of many stars mean. -/
import Derived.Test.YtgkifphfibcfdaaGreatDoorWorks
import Derived.Test.YtgkifphfibcfdaaGreatDoorJoin
import Derived.Lib.AppendStr
import Derived.Lib.BufferRead
import Derived.Lib.MinMax
import Derived.Deep.CutRange
namespace Go.Proofs.YtgkifphfibcfdaaGreatDoor.G
open Go.RowKit Go.Proofs.YtgkifphfibcfdaaGreatDoor.B
set_option linter.unusedVariables false
set_option linter.unusedSimpArgs false
def cellsU (l : List UInt8) : List Value := l.map fun b => Value.int .u8 b.toNat
theorem cellsU_append (a b : List UInt8) : cellsU a ++ cellsU b = cellsU (a ++ b) := by simp [cellsU]
theorem strCells_cellsU (l : List UInt8) : Lib.strCells ⟨l.toArray⟩ = cellsU l := by simp [Lib.strCells, cellsU]
theorem cellsU_length (l : List UInt8) : (cellsU l).length = l.length := by simp [cellsU]
/-- A row of bytes that one owns, as a text. -/
theorem conv_own {w : World} {base : Nat} {v : Value} {n : Nat} {l : List UInt8} (h : w.ownsRow base 5 1 v n (cellsU l)) : (convert 35 9 v).run Tryz.prog w = .ok (.string ⟨l.toArray⟩) w := by
  have hl : l.length = n := by have := h.1; rw [cellsU_length] at this; omega
  rcases h.2 with ⟨rfl, h0⟩ | ⟨g, cap, cur, rfl, hb, hg, _, _, hsz, ht⟩
  · subst h0
    have : l = [] := List.eq_nil_of_length_eq_zero hl
    subst this
    exact Lib.run_convert_nil_bytes w 35 9 5 0 Tryz.underlying35 Tryz.underlying5 Tryz.underlying9
  · have h2 := run_convert_bytes_back (P := Tryz.prog) w 35 9 5 ⟨g, 0, none⟩ cap l Tryz.underlying35 Tryz.underlying5 Tryz.underlying9 (fun j hj => by
      rw [addr_add, cell_of_heap hg]
      have h3 : (cur.toList.take (n * 1))[j]? = (cellsU l)[j]? := by rw [ht]
      rw [List.getElem?_take_of_lt (by omega)] at h3
      simp only [cellsU, List.getElem?_map, List.getElem?_eq_getElem hj, Option.map_some] at h3
      simpa using h3)
    rw [hl] at h2
    exact h2
theorem bytes_append (a b : List UInt8) : (⟨a.toArray⟩ : ByteArray) ++ ⟨b.toArray⟩ = ⟨(a ++ b).toArray⟩ := by
  apply ByteArray.ext
  simp
/-- So many times '*a'. -/
def pl : Nat → List UInt8
  | 0 => []
  | k + 1 => pl k ++ [42, 97]
theorem pl_length : ∀ k, (pl k).length = 2 * k
  | 0 => rfl
  | k + 1 => by simp [pl, pl_length k]; omega
def pa : PartV := (false, upd noneT 97 true)
def pb : PartV := (false, upd noneT 98 true)
def ps : PartV := (true, noneT)
def Lp : Nat → List PartV
  | 0 => []
  | k + 1 => Lp k ++ [ps, pa]
theorem parts_a : parts ⟨#[42, 97]⟩ = some [ps, pa] := by kernel_rfl
theorem parts_b : parts ⟨#[42, 98]⟩ = some [ps, pb] := by kernel_rfl
theorem parts_pl : ∀ k, parts ⟨(pl k).toArray⟩ = some (Lp k)
  | 0 => parts_of (k := 1) rfl
  | k + 1 => by
    have h := parts_append (parts_pl k) parts_a
    rw [bytes_append] at h
    exact h
theorem Lp_front : ∀ k, Lp (k + 1) = [ps, pa] ++ Lp k
  | 0 => rfl
  | k + 1 => by
    show Lp (k + 1) ++ [ps, pa] = [ps, pa] ++ (Lp k ++ [ps, pa])
    rw [← List.append_assoc, ← Lp_front k]
theorem mt_pa (L : List PartV) (m : Nat) : mt (pa :: L) (List.replicate m 97) = true ↔ ∃ r, m = r + 1 ∧ mt L (List.replicate r 97) = true := by
  cases m with
  | zero =>
    rw [List.replicate_zero, mt_one_nil _ rfl]
    constructor
    · intro h; cases h
    · rintro ⟨r, h, _⟩; omega
  | succ m =>
    rw [List.replicate_succ, mt_one _ _ _ rfl]
    constructor
    · intro h
      rw [Bool.and_eq_true] at h
      exact ⟨m, rfl, h.2⟩
    · rintro ⟨r, h, h2⟩
      obtain rfl : m = r := by omega
      rw [h2]; rfl
theorem mt_step (L : List PartV) (N : Nat) : mt ([ps, pa] ++ L) (List.replicate N 97) = true ↔ ∃ r, r < N ∧ mt L (List.replicate r 97) = true := by
  show mt (ps :: (pa :: L)) _ = true ↔ _
  rw [mt_star _ _ rfl, List.length_replicate]
  constructor
  · rintro ⟨j, h1, h2⟩
    rw [List.drop_replicate, mt_pa] at h2
    obtain ⟨r, h3, h4⟩ := h2
    exact ⟨r, by omega, h4⟩
  · rintro ⟨r, h1, h2⟩
    refine ⟨N - (r + 1), by omega, ?_⟩
    rw [List.drop_replicate, mt_pa]
    exact ⟨r, by omega, h2⟩
theorem mt_Lp : ∀ (S N : Nat), mt (Lp S) (List.replicate N 97) = true ↔ S ≤ N ∧ (N = 0 ∨ 0 < S)
  | 0, N => by
    show mt [] _ = true ↔ _
    cases N with
    | zero => simp [mt]
    | succ N => simp [mt, List.replicate_succ]
  | S + 1, N => by
    rw [Lp_front, mt_step]
    constructor
    · rintro ⟨r, h1, h2⟩
      have := (mt_Lp S r).1 h2
      omega
    · rintro ⟨h1, h2⟩
      by_cases hS : S = 0
      · exact ⟨0, by omega, (mt_Lp S 0).2 (by omega)⟩
      · exact ⟨N - 1, by omega, (mt_Lp S (N - 1)).2 (by omega)⟩
theorem mt_last (S N : Nat) : mt (Lp S ++ [ps, pb]) (List.replicate N 97) = false := by
  apply Bool.eq_false_iff.2
  intro h
  obtain ⟨j, h1, h2, h3⟩ := (mt_append _ _ _).1 h
  obtain ⟨j2, h4, h5⟩ := (mt_star _ _ (rfl : ps.1 = true)).1 h3
  rw [List.drop_replicate, List.drop_replicate] at h5
  cases hm : N - j - j2 with
  | zero => rw [hm, List.replicate_zero, mt_one_nil _ rfl] at h5; cases h5
  | succ m =>
    rw [hm, List.replicate_succ, mt_one _ _ _ rfl] at h5
    rw [Bool.and_eq_true] at h5
    exact absurd h5.1 (by decide)
theorem bl_as (N : Nat) : bl ⟨(List.replicate N (97 : UInt8)).toArray⟩ = List.replicate N 97 := by
  apply List.ext_getElem
  · rw [bl_length, List.length_replicate]
    show (List.replicate N (97 : UInt8)).toArray.size = N
    simp
  · intro i h1 h2
    rw [List.length_replicate] at h2
    simp only [bl, List.getElem_map, List.getElem_range, List.getElem_replicate]
    have hs : i < (⟨(List.replicate N (97 : UInt8)).toArray⟩ : ByteArray).size := by
      show i < (List.replicate N (97 : UInt8)).toArray.size
      simpa using h2
    rw [bn_in hs]
    simp
theorem info5' : ∃ ie, Tryz.prog.info? 5 = some ie ∧ ie.zero = some (.int .u8 0) ∧ ie.size = 1 ∧ ie.bytes = 1 := by
  cases hie : Tryz.prog.info? 5 with
  | none => have := info5; rw [hie] at this; cases this
  | some ie =>
    have h := info5
    rw [hie] at h
    simp only [Option.map_some, Option.some.injEq, Prod.mk.injEq] at h
    exact ⟨ie, rfl, h.1, h.2.1, h.2.2⟩
/-- What the pattern means of the name. -/
def wantB (N S : Nat) (last : Bool) : Bool := decide (S ≤ N) && (!last && (decide (N = 0) || decide (0 < S)))
theorem want_mt (N S : Nat) (last : Bool) : mt (Lp S ++ if last = true then [ps, pb] else []) (List.replicate N 97) = wantB N S last := by
  cases last with
  | true =>
    rw [if_pos rfl, mt_last]
    simp [wantB]
  | false =>
    rw [if_neg (by decide), List.append_nil]
    apply Bool.eq_iff_iff.2
    rw [mt_Lp]
    simp [wantB]
theorem Chg.grownN {L : List Nat} {a b c : World} {row : Option Nat} (h : Chg L a b) (k : b.grownBy c row) (hr : ∀ g, row = some g → a.heap.size ≤ g) : Chg L a c :=
  ⟨k.os.trans h.os, k.tape.trans h.tape, k.output.trans h.output, Nat.le_trans h.size k.size, fun i hi hn =>
    (k.block i (Nat.lt_of_lt_of_le hi h.size) (fun e => by have := hr i e.symm; omega)).trans (h.block i hi hn)⟩
set_option maxRecDepth 100000 in
set_option maxHeartbeats 8000000 in
theorem long_calls (n st : Int) (last : Bool) (w : World) (hE : ErrType w) :
    Calls Tryz.prog 8 #[.int .i64 n, .int .i64 st, .bool last] w fun e w' => e = .returned (.bool true) ∧ Chg [] w w' := by
  have HE := Asd.mk hE
  clear hE
  go_enter Tryz.func8, Tryz.ntmps8
  go_upto_region 4 with fail
  obtain ⟨N, hN⟩ : ∃ N : Nat, max 0 (min n 16384) = (N : Int) := ⟨(max 0 (min n 16384)).toNat, by omega⟩
  obtain ⟨S, hS⟩ : ∃ S : Nat, max 0 (min st 500) = (S : Int) := ⟨(max 0 (min st 500)).toNat, by omega⟩
  have hN2 : N ≤ 16384 := by omega
  have hS2 : S ≤ 500 := by omega
  rw [hN, hS]
  clear hN hS
  go_wp2
  go_loopg [7, 9] (N + 1) (fun gk v7 v9 wr => ∃ i : Nat, i ≤ N ∧ gk = N + 1 - i ∧ v9 = .int .i64 (i : Int) ∧ Asd (Chg [] w wr) ∧ Asd (wr.ownsRow w.heap.size 5 1 v7 i (cellsU (List.replicate i 97))))
  case atStart => exact ⟨0, by omega, by omega, rfl, ⟨Chg.refl _ _⟩, ⟨World.ownsRow_nil _ _ _ _⟩⟩
  case round =>
    obtain ⟨i, hi, rfl, rfl, HC, HO⟩ := hrel
    by_cases hlt : i < N
    · go_wp2_with (at_builtin; obtain ⟨ie, h1, h2, h3, h4⟩ := info5'; refine wpList_append_own _ rfl _ _ 35 rfl w.heap.size 5 ie _ 1 1 Tryz.underlying35 h1 h2 h3 h4 rfl (by decide) _ _ _ rfl (HO.out.alloc _) ⟨wr.heap.size, 0, none⟩ 1 1 [.int .u8 97] rfl rfl (one_new _ _ _) (fun u hu => by simp at hu; subst hu; rfl) (by unfold maxLen; omega) (by omega) (by have := HC.out.size; simp; omega) ?_; intro v' w3 hown' hgrow3 hnil3; clear h1 h2 h3 h4 hnil3; replace hown' := Asd.mk hown'; replace hgrow3 := Asd.mk hgrow3; simp only [Act.put, List.setIfInBounds_toArray, List.set_cons_zero, List.set_cons_succ])
      go_roundg (N + 1 - (i + 1))
      case rel =>
        refine ⟨i + 1, by omega, by omega, by go_num, ⟨Chg.grownN (HC.out.alloc _) hgrow3.out (fun g e => (HO.out.lt g e).1)⟩, ⟨?_⟩⟩
        have h := hown'.out
        rw [show cellsU (List.replicate i 97) ++ [Value.int .u8 97] = cellsU (List.replicate (i + 1) 97) by rw [List.replicate_succ']; simp [cellsU]] at h
        exact h
      case measure => omega
    · obtain rfl : i = N := by omega
      clear hlt
      go_wp2
      obtain ⟨B2, hB2⟩ : ∃ b, b = wr.heap.size := ⟨_, rfl⟩
      have h7 : ∀ g, u7.ownBlock = some g → g < B2 := fun g e => by have := (HO.out.lt g e).2; omega
      have H7 := Asd.mk h7
      have hB2c : w.heap.size ≤ B2 := by rw [hB2]; exact HC.out.size
      clear h7
      go_loopg [8, 10] (S + 1) (fun gk v8 v10 wx => ∃ k : Nat, k ≤ S ∧ gk = S + 1 - k ∧ v10 = .int .i64 (k : Int) ∧ B2 ≤ wx.heap.size ∧ Asd (Chg [] w wx) ∧ Asd (wx.ownsRow w.heap.size 5 1 u7 i (cellsU (List.replicate i 97))) ∧ Asd (wx.ownsRow B2 5 1 v8 (2 * k) (cellsU (pl k))))
      case atStart => exact ⟨0, by omega, by omega, rfl, by omega, HC, HO, ⟨World.ownsRow_nil _ _ _ _⟩⟩
      case round =>
        clear HC HO hB2
        obtain ⟨k, hk, rfl, rfl, hBw, HC, HO, HP⟩ := hrel
        by_cases hlt : k < S
        · go_wp2_with (at_builtin; obtain ⟨ie, h1, h2, h3, h4⟩ := info5'; refine Lib.wpList_append_own_string _ rfl _ _ 35 9 rfl B2 5 ie Tryz.underlying35 Tryz.underlying9 h1 h2 h3 h4 _ _ _ rfl HP.out ⟨#[42, 97]⟩ rfl (by have : (⟨#[42, 97]⟩ : ByteArray).size = 2 := rfl; unfold maxLen; omega) (by have : (⟨#[42, 97]⟩ : ByteArray).size = 2 := rfl; omega) hBw ?_; intro v' w3 hown' hgrow3 hnil3; clear h1 h2 h3 h4 hnil3; replace hown' := Asd.mk hown'; replace hgrow3 := Asd.mk hgrow3; simp only [Act.put, List.setIfInBounds_toArray, List.set_cons_zero, List.set_cons_succ])
          go_roundg (S + 1 - (k + 1))
          case rel =>
            refine ⟨k + 1, by omega, by omega, by go_num, Nat.le_trans hBw hgrow3.out.size, ⟨Chg.grownN HC.out hgrow3.out (fun g e => by have := (HP.out.lt g e).1; omega)⟩, ⟨HO.out.kept hgrow3.out ?_⟩, ⟨?_⟩⟩
            · cases h : u7.ownBlock with
              | none => exact .inl rfl
              | some g => exact .inr (fun e => by have := H7.out g h; have := (HP.out.lt g e.symm).1; omega)
            · have h := hown'.out
              rw [show (⟨#[42, 97]⟩ : ByteArray) = ⟨([42, 97] : List UInt8).toArray⟩ from rfl, strCells_cellsU, cellsU_append] at h
              exact h
          case measure => omega
        · obtain rfl : k = S := by omega
          clear hlt
          cases last with
          | true =>
            go_wp2_with (at_builtin; obtain ⟨ie, h1, h2, h3, h4⟩ := info5'; refine Lib.wpList_append_own_string _ rfl _ _ 35 9 rfl B2 5 ie Tryz.underlying35 Tryz.underlying9 h1 h2 h3 h4 _ _ _ rfl HP.out ⟨#[42, 98]⟩ rfl (by have : (⟨#[42, 98]⟩ : ByteArray).size = 2 := rfl; unfold maxLen; omega) (by have : (⟨#[42, 98]⟩ : ByteArray).size = 2 := rfl; omega) hBw ?_; intro v' w3 hown' hgrow3 hnil3; clear h1 h2 h3 h4 hnil3; rw [show (⟨#[42, 98]⟩ : ByteArray) = ⟨([42, 98] : List UInt8).toArray⟩ from rfl, strCells_cellsU, cellsU_append] at hown'; have HP2 := Asd.mk hown'; have HC2 := Asd.mk (Chg.grownN HC.out hgrow3 (fun g e => by have := (HP.out.lt g e).1; omega)); have HO2 := Asd.mk (HO.out.kept hgrow3 (by cases h : u7.ownBlock with | none => exact .inl rfl | some g => exact .inr (fun e => by have := H7.out g h; have := (HP.out.lt g e.symm).1; omega))); clear hown' hgrow3; have hcv := conv_own (l := pl k ++ [42, 98]) HP2.out; simp only [Act.put, List.setIfInBounds_toArray, List.set_cons_zero, List.set_cons_succ])
            clear HP HC HO hcv
            have hcv := conv_own (l := pl k ++ [42, 98]) HP2.out
            have hp : parts ⟨(pl k ++ [42, 98]).toArray⟩ = some (Lp k ++ [ps, pb]) := (by have h := parts_append (parts_pl k) parts_b; rw [show (⟨#[42, 98]⟩ : ByteArray) = ⟨([42, 98] : List UInt8).toArray⟩ from rfl, bytes_append] at h; exact h)
            have hsz : (⟨(pl k ++ [42, 98]).toArray⟩ : ByteArray).size ≤ 1024 := by
              show (pl k ++ [42, 98]).toArray.size ≤ 1024
              simp only [List.size_toArray, List.length_append, pl_length, List.length_cons, List.length_nil]
              omega
            have hcomp := compile_parts _ w3 hsz
            rw [hp] at hcomp
            have HComp := Asd.mk hcomp
            have hmm : mt (Lp k ++ [ps, pb]) (bl ⟨(List.replicate i (97 : UInt8)).toArray⟩) = wantB i k true := by
              rw [bl_as, ← want_mt]
              simp
            clear hcomp hp hsz
            go_wp2_with fail
            refine HComp.out.mono ?_
            rintro e w4 ⟨gp, rfl, hC4, hG4⟩
            have HC4 := Asd.mk (HC2.out.trans hC4)
            have HG4 := Asd.mk hG4
            have HO4 := Asd.mk (own_chg1 HO2.out (fun g h1 h2 h3 => hC4.block g h3 (by simp)))
            have hcv7 := conv_own (l := List.replicate i 97) HO4.out
            clear hC4 hG4 hcv HComp HP2 HO2 HC2
            by_cases hki : k ≤ i
            · have HM := Asd.mk (show mt (Lp k ++ [ps, pb]) (bl ⟨(List.replicate i (97 : UInt8)).toArray⟩) = false from by rw [hmm]; simp [wantB])
              clear hmm
              go_wp2_with fail
              refine (match_mt gp _ ⟨(List.replicate i (97 : UInt8)).toArray⟩ w4 HG4.out (by show (List.replicate i (97 : UInt8)).toArray.size ≤ _; simp only [List.size_toArray, List.length_replicate]; omega)).mono ?_
              rw [HM.out]
              rintro e w5 ⟨rfl, nn, hw⟩
              have HC5 := Asd.mk (show Chg [] w w5 by rw [hw]; exact HC4.out.drewN nn)
              clear hw
              go_wp2_with fail
              refine (works_calls w5 (HE.out.chg HC5.out)).mono ?_
              rintro e w6 ⟨rfl, hC6⟩
              have HC6 := Asd.mk (HC5.out.trans hC6)
              clear hC6
              go_wp2
              go_ret
              exact ⟨rfl, HC6.out⟩
            · have HM := Asd.mk (show mt (Lp k ++ [ps, pb]) (bl ⟨(List.replicate i (97 : UInt8)).toArray⟩) = false from by rw [hmm]; simp [wantB])
              clear hmm
              go_wp2_with fail
              refine (match_mt gp _ ⟨(List.replicate i (97 : UInt8)).toArray⟩ w4 HG4.out (by show (List.replicate i (97 : UInt8)).toArray.size ≤ _; simp only [List.size_toArray, List.length_replicate]; omega)).mono ?_
              rw [HM.out]
              rintro e w5 ⟨rfl, nn, hw⟩
              have HC5 := Asd.mk (show Chg [] w w5 by rw [hw]; exact HC4.out.drewN nn)
              clear hw
              go_wp2_with fail
              refine (works_calls w5 (HE.out.chg HC5.out)).mono ?_
              rintro e w6 ⟨rfl, hC6⟩
              have HC6 := Asd.mk (HC5.out.trans hC6)
              clear hC6
              go_wp2
              go_ret
              exact ⟨rfl, HC6.out⟩
          | false =>
            have HP2 := HP
            have HC2 := HC
            have HO2 := HO
            clear HP HC HO
            have hcv := conv_own (l := pl k) HP2.out
            have hp : parts ⟨(pl k).toArray⟩ = some (Lp k) := parts_pl k
            have hsz : (⟨(pl k).toArray⟩ : ByteArray).size ≤ 1024 := by
              show (pl k).toArray.size ≤ 1024
              simp only [List.size_toArray, List.length_append, pl_length, List.length_cons, List.length_nil]
              omega
            have hcomp := compile_parts _ wr hsz
            rw [hp] at hcomp
            have HComp := Asd.mk hcomp
            have hmm : mt (Lp k) (bl ⟨(List.replicate i (97 : UInt8)).toArray⟩) = wantB i k false := by
              rw [bl_as, ← want_mt]
              simp
            clear hcomp hp hsz
            go_wp2_with fail
            refine HComp.out.mono ?_
            rintro e w4 ⟨gp, rfl, hC4, hG4⟩
            have HC4 := Asd.mk (HC2.out.trans hC4)
            have HG4 := Asd.mk hG4
            have HO4 := Asd.mk (own_chg1 HO2.out (fun g h1 h2 h3 => hC4.block g h3 (by simp)))
            have hcv7 := conv_own (l := List.replicate i 97) HO4.out
            clear hC4 hG4 hcv HComp HP2 HO2 HC2
            by_cases hki : k ≤ i
            · by_cases hi0 : i = 0
              · subst hi0
                have HM := Asd.mk (show mt (Lp k) (bl ⟨(List.replicate 0 (97 : UInt8)).toArray⟩) = true from by rw [hmm]; first | (simp [wantB]; done) | (simp [wantB]; omega))
                clear hmm
                go_wp2_with fail
                refine (match_mt gp _ ⟨(List.replicate 0 (97 : UInt8)).toArray⟩ w4 HG4.out (by show (List.replicate 0 (97 : UInt8)).toArray.size ≤ _; simp only [List.size_toArray, List.length_replicate]; omega)).mono ?_
                rw [HM.out]
                rintro e w5 ⟨rfl, nn, hw⟩
                have HC5 := Asd.mk (show Chg [] w w5 by rw [hw]; exact HC4.out.drewN nn)
                clear hw
                go_wp2_with fail
                refine (works_calls w5 (HE.out.chg HC5.out)).mono ?_
                rintro e w6 ⟨rfl, hC6⟩
                have HC6 := Asd.mk (HC5.out.trans hC6)
                clear hC6
                go_wp2
                go_ret
                exact ⟨rfl, HC6.out⟩
              · have ti : ((i : Int) == 0) = false := by simp; omega
                by_cases hk0 : 0 < k
                · have HM := Asd.mk (show mt (Lp k) (bl ⟨(List.replicate i (97 : UInt8)).toArray⟩) = true from by rw [hmm]; first | (simp [wantB]; done) | (simp [wantB]; omega))
                  clear hmm
                  go_wp2_with fail
                  refine (match_mt gp _ ⟨(List.replicate i (97 : UInt8)).toArray⟩ w4 HG4.out (by show (List.replicate i (97 : UInt8)).toArray.size ≤ _; simp only [List.size_toArray, List.length_replicate]; omega)).mono ?_
                  rw [HM.out]
                  rintro e w5 ⟨rfl, nn, hw⟩
                  have HC5 := Asd.mk (show Chg [] w w5 by rw [hw]; exact HC4.out.drewN nn)
                  clear hw
                  go_wp2_with fail
                  refine (works_calls w5 (HE.out.chg HC5.out)).mono ?_
                  rintro e w6 ⟨rfl, hC6⟩
                  have HC6 := Asd.mk (HC5.out.trans hC6)
                  clear hC6
                  go_wp2
                  go_ret
                  exact ⟨rfl, HC6.out⟩
                · have HM := Asd.mk (show mt (Lp k) (bl ⟨(List.replicate i (97 : UInt8)).toArray⟩) = false from by rw [hmm]; first | (simp [wantB]; done) | (simp [wantB]; omega))
                  clear hmm
                  go_wp2_with fail
                  refine (match_mt gp _ ⟨(List.replicate i (97 : UInt8)).toArray⟩ w4 HG4.out (by show (List.replicate i (97 : UInt8)).toArray.size ≤ _; simp only [List.size_toArray, List.length_replicate]; omega)).mono ?_
                  rw [HM.out]
                  rintro e w5 ⟨rfl, nn, hw⟩
                  have HC5 := Asd.mk (show Chg [] w w5 by rw [hw]; exact HC4.out.drewN nn)
                  clear hw
                  go_wp2_with fail
                  refine (works_calls w5 (HE.out.chg HC5.out)).mono ?_
                  rintro e w6 ⟨rfl, hC6⟩
                  have HC6 := Asd.mk (HC5.out.trans hC6)
                  clear hC6
                  go_wp2
                  go_ret
                  exact ⟨rfl, HC6.out⟩
            · have HM := Asd.mk (show mt (Lp k) (bl ⟨(List.replicate i (97 : UInt8)).toArray⟩) = false from by rw [hmm]; first | (simp [wantB]; done) | (simp [wantB]; omega))
              clear hmm
              go_wp2_with fail
              refine (match_mt gp _ ⟨(List.replicate i (97 : UInt8)).toArray⟩ w4 HG4.out (by show (List.replicate i (97 : UInt8)).toArray.size ≤ _; simp only [List.size_toArray, List.length_replicate]; omega)).mono ?_
              rw [HM.out]
              rintro e w5 ⟨rfl, nn, hw⟩
              have HC5 := Asd.mk (show Chg [] w w5 by rw [hw]; exact HC4.out.drewN nn)
              clear hw
              go_wp2_with fail
              refine (works_calls w5 (HE.out.chg HC5.out)).mono ?_
              rintro e w6 ⟨rfl, hC6⟩
              have HC6 := Asd.mk (HC5.out.trans hC6)
              clear hC6
              go_wp2
              go_ret
              exact ⟨rfl, HC6.out⟩
end Go.Proofs.YtgkifphfibcfdaaGreatDoor.G
