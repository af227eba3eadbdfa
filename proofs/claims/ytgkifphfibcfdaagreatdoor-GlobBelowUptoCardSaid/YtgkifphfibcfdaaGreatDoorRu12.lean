/- Merged out of these texts: Join, Long, EscMean, BelowLaw. -/
import Derived.Test.YtgkifphfibcfdaaGreatDoorRu5
import Derived.Test.YtgkifphfibcfdaaGreatDoorRu3
import Derived.Test.YtgkifphfibcfdaaGreatDoorRu9
import Derived.Lib.AppendStr
import Derived.Lib.BufferRead
import Derived.Lib.MinMax
import Derived.Deep.CutRange
import Derived.Test.YtgkifphfibcfdaaGreatDoorRu7
/- Patterns one behind the other, and what they mean. -/
namespace Go.Proofs.YtgkifphfibcfdaaGreatDoor.G
open Go.RowKit Go.Proofs.YtgkifphfibcfdaaGreatDoor.B
set_option linter.unusedVariables false
theorem bl_append (X Y : ByteArray) : bl (X ++ Y) = bl X ++ bl Y := by
  have hp := pre_append X Y
  have hs := suf_append X Y
  apply List.ext_getElem
  · rw [List.length_append, bl_length, bl_length, bl_length, ByteArray.size_append]
  · intro i h1 h2
    rw [bl_length, ByteArray.size_append] at h1
    by_cases hi : i < X.size
    · rw [List.getElem_append_left (by rw [bl_length]; exact hi)]
      simp only [bl, List.getElem_map, List.getElem_range]
      exact hp.at_ i hi
    · rw [List.getElem_append_right (by rw [bl_length]; omega)]
      simp only [bl, List.getElem_map, List.getElem_range, List.length_map, List.length_range]
      have := hs.at_ (i - X.size) (by omega)
      rw [← this]
      congr 1
      omega
theorem mt_join {A B : List PartV} {x y : List Nat} (h1 : mt A x = true) (h2 : mt B y = true) : mt (A ++ B) (x ++ y) = true :=
  (mt_append B A _).2 ⟨x.length, by simp, by rw [List.take_left' rfl]; exact h1, by rw [List.drop_left' rfl]; exact h2⟩
theorem mt_all (x : List Nat) : mt [((true, noneT) : PartV)] x = true := (mt_star _ _ rfl).2 ⟨x.length, Nat.le_refl _, by simp [mt]⟩
theorem mt_wide {A : List PartV} {x y z : List Nat} (h : mt A x = true) : mt ([((true, noneT) : PartV)] ++ A ++ [((true, noneT) : PartV)]) (y ++ x ++ z) = true :=
  mt_join (mt_join (mt_all y) h) (mt_all z)
theorem parts_wide {P : ByteArray} {A : List PartV} (h : parts P = some A) : parts ((⟨#[42]⟩ : ByteArray) ++ P ++ ⟨#[42]⟩) = some ([((true, noneT) : PartV)] ++ A ++ [((true, noneT) : PartV)]) :=
  parts_append (parts_append parts_star h) parts_star
end Go.Proofs.YtgkifphfibcfdaaGreatDoor.G
/- GlobLong: the walk, and what patterns of many stars mean. -/
namespace Go.Proofs.YtgkifphfibcfdaaGreatDoor.G
open Go.RowKit Go.Proofs.YtgkifphfibcfdaaGreatDoor.B
set_option linter.unusedVariables false
set_option linter.unusedSimpArgs false
def cellsU (l : List UInt8) : List Value := l.map fun b => Value.int .u8 b.toNat
theorem cellsU_append (a b : List UInt8) : cellsU a ++ cellsU b = cellsU (a ++ b) := by simp [cellsU]
theorem strCells_cellsU (l : List UInt8) : Lib.strCells ⟨l.toArray⟩ = cellsU l := by simp [Lib.strCells, cellsU]
theorem cellsU_length (l : List UInt8) : (cellsU l).length = l.length := by simp [cellsU]
/-- A row of bytes that one owns, as a text. -/
theorem conv_own {w : World} {base : Nat} {v : Value} {n : Nat} {l : List UInt8} (h : w.ownsRow base 5 1 v n (cellsU l)) : (convert 35 9 v).run Tryz.prog w = .ok (.string ⟨l.toArray⟩) w := by
  have hl : l.length = n := by have := h.1; rw [cellsU_length] at this; omega
  rcases h.2 with ⟨rfl, h0⟩ | ⟨g, cap, cur, rfl, hb, hg, _, _, hsz, ht⟩
  · subst h0
    have : l = [] := List.eq_nil_of_length_eq_zero hl
    subst this
    exact Lib.run_convert_nil_bytes w 35 9 5 0 Tryz.underlying35 Tryz.underlying5 Tryz.underlying9
  · have h2 := run_convert_bytes_back (P := Tryz.prog) w 35 9 5 ⟨g, 0, none⟩ cap l Tryz.underlying35 Tryz.underlying5 Tryz.underlying9 (fun j hj => by
      rw [addr_add, cell_of_heap hg]
      have h3 : (cur.toList.take (n * 1))[j]? = (cellsU l)[j]? := by rw [ht]
      rw [List.getElem?_take_of_lt (by omega)] at h3
      simp only [cellsU, List.getElem?_map, List.getElem?_eq_getElem hj, Option.map_some] at h3
      simpa using h3)
    rw [hl] at h2
    exact h2
theorem bytes_append (a b : List UInt8) : (⟨a.toArray⟩ : ByteArray) ++ ⟨b.toArray⟩ = ⟨(a ++ b).toArray⟩ := by
  apply ByteArray.ext
  simp
/-- So many times '*a'. -/
def pl : Nat → List UInt8
  | 0 => []
  | k + 1 => pl k ++ [42, 97]
theorem pl_length : ∀ k, (pl k).length = 2 * k
  | 0 => rfl
  | k + 1 => by simp [pl, pl_length k]; omega
def pa : PartV := (false, upd noneT 97 true)
def pb : PartV := (false, upd noneT 98 true)
def ps : PartV := (true, noneT)
def Lp : Nat → List PartV
  | 0 => []
  | k + 1 => Lp k ++ [ps, pa]
theorem parts_a : parts ⟨#[42, 97]⟩ = some [ps, pa] := by kernel_rfl
theorem parts_b : parts ⟨#[42, 98]⟩ = some [ps, pb] := by kernel_rfl
theorem parts_pl : ∀ k, parts ⟨(pl k).toArray⟩ = some (Lp k)
  | 0 => parts_of (k := 1) rfl
  | k + 1 => by
    have h := parts_append (parts_pl k) parts_a
    rw [bytes_append] at h
    exact h
theorem Lp_front : ∀ k, Lp (k + 1) = [ps, pa] ++ Lp k
  | 0 => rfl
  | k + 1 => by
    show Lp (k + 1) ++ [ps, pa] = [ps, pa] ++ (Lp k ++ [ps, pa])
    rw [← List.append_assoc, ← Lp_front k]
theorem mt_pa (L : List PartV) (m : Nat) : mt (pa :: L) (List.replicate m 97) = true ↔ ∃ r, m = r + 1 ∧ mt L (List.replicate r 97) = true := by
  cases m with
  | zero =>
    rw [List.replicate_zero, mt_one_nil _ rfl]
    constructor
    · intro h; cases h
    · rintro ⟨r, h, _⟩; omega
  | succ m =>
    rw [List.replicate_succ, mt_one _ _ _ rfl]
    constructor
    · intro h
      rw [Bool.and_eq_true] at h
      exact ⟨m, rfl, h.2⟩
    · rintro ⟨r, h, h2⟩
      obtain rfl : m = r := by omega
      rw [h2]; rfl
theorem mt_step (L : List PartV) (N : Nat) : mt ([ps, pa] ++ L) (List.replicate N 97) = true ↔ ∃ r, r < N ∧ mt L (List.replicate r 97) = true := by
  show mt (ps :: (pa :: L)) _ = true ↔ _
  rw [mt_star _ _ rfl, List.length_replicate]
  constructor
  · rintro ⟨j, h1, h2⟩
    rw [List.drop_replicate, mt_pa] at h2
    obtain ⟨r, h3, h4⟩ := h2
    exact ⟨r, by omega, h4⟩
  · rintro ⟨r, h1, h2⟩
    refine ⟨N - (r + 1), by omega, ?_⟩
    rw [List.drop_replicate, mt_pa]
    exact ⟨r, by omega, h2⟩
theorem mt_Lp : ∀ (S N : Nat), mt (Lp S) (List.replicate N 97) = true ↔ S ≤ N ∧ (N = 0 ∨ 0 < S)
  | 0, N => by
    show mt [] _ = true ↔ _
    cases N with
    | zero => simp [mt]
    | succ N => simp [mt, List.replicate_succ]
  | S + 1, N => by
    rw [Lp_front, mt_step]
    constructor
    · rintro ⟨r, h1, h2⟩
      have := (mt_Lp S r).1 h2
      omega
    · rintro ⟨h1, h2⟩
      by_cases hS : S = 0
      · exact ⟨0, by omega, (mt_Lp S 0).2 (by omega)⟩
      · exact ⟨N - 1, by omega, (mt_Lp S (N - 1)).2 (by omega)⟩
theorem mt_last (S N : Nat) : mt (Lp S ++ [ps, pb]) (List.replicate N 97) = false := by
  apply Bool.eq_false_iff.2
  intro h
  obtain ⟨j, h1, h2, h3⟩ := (mt_append _ _ _).1 h
  obtain ⟨j2, h4, h5⟩ := (mt_star _ _ (rfl : ps.1 = true)).1 h3
  rw [List.drop_replicate, List.drop_replicate] at h5
  cases hm : N - j - j2 with
  | zero => rw [hm, List.replicate_zero, mt_one_nil _ rfl] at h5; cases h5
  | succ m =>
    rw [hm, List.replicate_succ, mt_one _ _ _ rfl] at h5
    rw [Bool.and_eq_true] at h5
    exact absurd h5.1 (by decide)
theorem bl_as (N : Nat) : bl ⟨(List.replicate N (97 : UInt8)).toArray⟩ = List.replicate N 97 := by
  apply List.ext_getElem
  · rw [bl_length, List.length_replicate]
    show (List.replicate N (97 : UInt8)).toArray.size = N
    simp
  · intro i h1 h2
    rw [List.length_replicate] at h2
    simp only [bl, List.getElem_map, List.getElem_range, List.getElem_replicate]
    have hs : i < (⟨(List.replicate N (97 : UInt8)).toArray⟩ : ByteArray).size := by
      show i < (List.replicate N (97 : UInt8)).toArray.size
      simpa using h2
    rw [bn_in hs]
    simp
theorem info5' : ∃ ie, Tryz.prog.info? 5 = some ie ∧ ie.zero = some (.int .u8 0) ∧ ie.size = 1 ∧ ie.bytes = 1 := by
  cases hie : Tryz.prog.info? 5 with
  | none => have := info5; rw [hie] at this; cases this
  | some ie =>
    have h := info5
    rw [hie] at h
    simp only [Option.map_some, Option.some.injEq, Prod.mk.injEq] at h
    exact ⟨ie, rfl, h.1, h.2.1, h.2.2⟩
/-- What the pattern means of the name. -/
def wantB (N S : Nat) (last : Bool) : Bool := decide (S ≤ N) && (!last && (decide (N = 0) || decide (0 < S)))
theorem want_mt (N S : Nat) (last : Bool) : mt (Lp S ++ if last = true then [ps, pb] else []) (List.replicate N 97) = wantB N S last := by
  cases last with
  | true =>
    rw [if_pos rfl, mt_last]
    simp [wantB]
  | false =>
    rw [if_neg (by decide), List.append_nil]
    apply Bool.eq_iff_iff.2
    rw [mt_Lp]
    simp [wantB]
theorem Chg.grownN {L : List Nat} {a b c : World} {row : Option Nat} (h : Chg L a b) (k : b.grownBy c row) (hr : ∀ g, row = some g → a.heap.size ≤ g) : Chg L a c :=
  ⟨k.os.trans h.os, k.tape.trans h.tape, k.output.trans h.output, Nat.le_trans h.size k.size, fun i hi hn =>
    (k.block i (Nat.lt_of_lt_of_le hi h.size) (fun e => by have := hr i e.symm; omega)).trans (h.block i hi hn)⟩
set_option maxRecDepth 100000 in
set_option maxHeartbeats 8000000 in
theorem long_calls (n st : Int) (last : Bool) (w : World) (hE : ErrType w) :
    Calls Tryz.prog 8 #[.int .i64 n, .int .i64 st, .bool last] w fun e w' => e = .returned (.bool true) ∧ Chg [] w w' := by
  have HE := Asd.mk hE
  clear hE
  go_enter Tryz.func8, Tryz.ntmps8
  go_upto_region 4 with fail
  obtain ⟨N, hN⟩ : ∃ N : Nat, max 0 (min n 16384) = (N : Int) := ⟨(max 0 (min n 16384)).toNat, by omega⟩
  obtain ⟨S, hS⟩ : ∃ S : Nat, max 0 (min st 500) = (S : Int) := ⟨(max 0 (min st 500)).toNat, by omega⟩
  have hN2 : N ≤ 16384 := by omega
  have hS2 : S ≤ 500 := by omega
  rw [hN, hS]
  clear hN hS
  go_wp2
  go_loopg [7, 9] (N + 1) (fun gk v7 v9 wr => ∃ i : Nat, i ≤ N ∧ gk = N + 1 - i ∧ v9 = .int .i64 (i : Int) ∧ Asd (Chg [] w wr) ∧ Asd (wr.ownsRow w.heap.size 5 1 v7 i (cellsU (List.replicate i 97))))
  case atStart => exact ⟨0, by omega, by omega, rfl, ⟨Chg.refl _ _⟩, ⟨World.ownsRow_nil _ _ _ _⟩⟩
  case round =>
    obtain ⟨i, hi, rfl, rfl, HC, HO⟩ := hrel
    by_cases hlt : i < N
    · go_wp2_with (at_builtin; obtain ⟨ie, h1, h2, h3, h4⟩ := info5'; refine wpList_append_own _ rfl _ _ 35 rfl w.heap.size 5 ie _ 1 1 Tryz.underlying35 h1 h2 h3 h4 rfl (by decide) _ _ _ rfl (HO.out.alloc _) ⟨wr.heap.size, 0, none⟩ 1 1 [.int .u8 97] rfl rfl (one_new _ _ _) (fun u hu => by simp at hu; subst hu; rfl) (by unfold maxLen; omega) (by omega) (by have := HC.out.size; simp; omega) ?_; intro v' w3 hown' hgrow3 hnil3; clear h1 h2 h3 h4 hnil3; replace hown' := Asd.mk hown'; replace hgrow3 := Asd.mk hgrow3; simp only [Act.put, List.setIfInBounds_toArray, List.set_cons_zero, List.set_cons_succ])
      go_roundg (N + 1 - (i + 1))
      case rel =>
        refine ⟨i + 1, by omega, by omega, by go_num, ⟨Chg.grownN (HC.out.alloc _) hgrow3.out (fun g e => (HO.out.lt g e).1)⟩, ⟨?_⟩⟩
        have h := hown'.out
        rw [show cellsU (List.replicate i 97) ++ [Value.int .u8 97] = cellsU (List.replicate (i + 1) 97) by rw [List.replicate_succ']; simp [cellsU]] at h
        exact h
      case measure => omega
    · obtain rfl : i = N := by omega
      clear hlt
      go_wp2
      obtain ⟨B2, hB2⟩ : ∃ b, b = wr.heap.size := ⟨_, rfl⟩
      have h7 : ∀ g, u7.ownBlock = some g → g < B2 := fun g e => by have := (HO.out.lt g e).2; omega
      have H7 := Asd.mk h7
      have hB2c : w.heap.size ≤ B2 := by rw [hB2]; exact HC.out.size
      clear h7
      go_loopg [8, 10] (S + 1) (fun gk v8 v10 wx => ∃ k : Nat, k ≤ S ∧ gk = S + 1 - k ∧ v10 = .int .i64 (k : Int) ∧ B2 ≤ wx.heap.size ∧ Asd (Chg [] w wx) ∧ Asd (wx.ownsRow w.heap.size 5 1 u7 i (cellsU (List.replicate i 97))) ∧ Asd (wx.ownsRow B2 5 1 v8 (2 * k) (cellsU (pl k))))
      case atStart => exact ⟨0, by omega, by omega, rfl, by omega, HC, HO, ⟨World.ownsRow_nil _ _ _ _⟩⟩
      case round =>
        clear HC HO hB2
        obtain ⟨k, hk, rfl, rfl, hBw, HC, HO, HP⟩ := hrel
        by_cases hlt : k < S
        · go_wp2_with (at_builtin; obtain ⟨ie, h1, h2, h3, h4⟩ := info5'; refine Lib.wpList_append_own_string _ rfl _ _ 35 9 rfl B2 5 ie Tryz.underlying35 Tryz.underlying9 h1 h2 h3 h4 _ _ _ rfl HP.out ⟨#[42, 97]⟩ rfl (by have : (⟨#[42, 97]⟩ : ByteArray).size = 2 := rfl; unfold maxLen; omega) (by have : (⟨#[42, 97]⟩ : ByteArray).size = 2 := rfl; omega) hBw ?_; intro v' w3 hown' hgrow3 hnil3; clear h1 h2 h3 h4 hnil3; replace hown' := Asd.mk hown'; replace hgrow3 := Asd.mk hgrow3; simp only [Act.put, List.setIfInBounds_toArray, List.set_cons_zero, List.set_cons_succ])
          go_roundg (S + 1 - (k + 1))
          case rel =>
            refine ⟨k + 1, by omega, by omega, by go_num, Nat.le_trans hBw hgrow3.out.size, ⟨Chg.grownN HC.out hgrow3.out (fun g e => by have := (HP.out.lt g e).1; omega)⟩, ⟨HO.out.kept hgrow3.out ?_⟩, ⟨?_⟩⟩
            · cases h : u7.ownBlock with
              | none => exact .inl rfl
              | some g => exact .inr (fun e => by have := H7.out g h; have := (HP.out.lt g e.symm).1; omega)
            · have h := hown'.out
              rw [show (⟨#[42, 97]⟩ : ByteArray) = ⟨([42, 97] : List UInt8).toArray⟩ from rfl, strCells_cellsU, cellsU_append] at h
              exact h
          case measure => omega
        · obtain rfl : k = S := by omega
          clear hlt
          cases last with
          | true =>
            go_wp2_with (at_builtin; obtain ⟨ie, h1, h2, h3, h4⟩ := info5'; refine Lib.wpList_append_own_string _ rfl _ _ 35 9 rfl B2 5 ie Tryz.underlying35 Tryz.underlying9 h1 h2 h3 h4 _ _ _ rfl HP.out ⟨#[42, 98]⟩ rfl (by have : (⟨#[42, 98]⟩ : ByteArray).size = 2 := rfl; unfold maxLen; omega) (by have : (⟨#[42, 98]⟩ : ByteArray).size = 2 := rfl; omega) hBw ?_; intro v' w3 hown' hgrow3 hnil3; clear h1 h2 h3 h4 hnil3; rw [show (⟨#[42, 98]⟩ : ByteArray) = ⟨([42, 98] : List UInt8).toArray⟩ from rfl, strCells_cellsU, cellsU_append] at hown'; have HP2 := Asd.mk hown'; have HC2 := Asd.mk (Chg.grownN HC.out hgrow3 (fun g e => by have := (HP.out.lt g e).1; omega)); have HO2 := Asd.mk (HO.out.kept hgrow3 (by cases h : u7.ownBlock with | none => exact .inl rfl | some g => exact .inr (fun e => by have := H7.out g h; have := (HP.out.lt g e.symm).1; omega))); clear hown' hgrow3; have hcv := conv_own (l := pl k ++ [42, 98]) HP2.out; simp only [Act.put, List.setIfInBounds_toArray, List.set_cons_zero, List.set_cons_succ])
            clear HP HC HO hcv
            have hcv := conv_own (l := pl k ++ [42, 98]) HP2.out
            have hp : parts ⟨(pl k ++ [42, 98]).toArray⟩ = some (Lp k ++ [ps, pb]) := (by have h := parts_append (parts_pl k) parts_b; rw [show (⟨#[42, 98]⟩ : ByteArray) = ⟨([42, 98] : List UInt8).toArray⟩ from rfl, bytes_append] at h; exact h)
            have hsz : (⟨(pl k ++ [42, 98]).toArray⟩ : ByteArray).size ≤ 1024 := by
              show (pl k ++ [42, 98]).toArray.size ≤ 1024
              simp only [List.size_toArray, List.length_append, pl_length, List.length_cons, List.length_nil]
              omega
            have hcomp := compile_parts _ w3 hsz
            rw [hp] at hcomp
            have HComp := Asd.mk hcomp
            have hmm : mt (Lp k ++ [ps, pb]) (bl ⟨(List.replicate i (97 : UInt8)).toArray⟩) = wantB i k true := by
              rw [bl_as, ← want_mt]
              simp
            clear hcomp hp hsz
            go_wp2_with fail
            refine HComp.out.mono ?_
            rintro e w4 ⟨gp, rfl, hC4, hG4⟩
            have HC4 := Asd.mk (HC2.out.trans hC4)
            have HG4 := Asd.mk hG4
            have HO4 := Asd.mk (own_chg1 HO2.out (fun g h1 h2 h3 => hC4.block g h3 (by simp)))
            have hcv7 := conv_own (l := List.replicate i 97) HO4.out
            clear hC4 hG4 hcv HComp HP2 HO2 HC2
            by_cases hki : k ≤ i
            · have HM := Asd.mk (show mt (Lp k ++ [ps, pb]) (bl ⟨(List.replicate i (97 : UInt8)).toArray⟩) = false from by rw [hmm]; simp [wantB])
              clear hmm
              go_wp2_with fail
              refine (match_mt gp _ ⟨(List.replicate i (97 : UInt8)).toArray⟩ w4 HG4.out (by show (List.replicate i (97 : UInt8)).toArray.size ≤ _; simp only [List.size_toArray, List.length_replicate]; omega)).mono ?_
              rw [HM.out]
              rintro e w5 ⟨rfl, nn, hw⟩
              have HC5 := Asd.mk (show Chg [] w w5 by rw [hw]; exact HC4.out.drewN nn)
              clear hw
              go_wp2_with fail
              refine (works_calls w5 (HE.out.chg HC5.out)).mono ?_
              rintro e w6 ⟨rfl, hC6⟩
              have HC6 := Asd.mk (HC5.out.trans hC6)
              clear hC6
              go_wp2
              go_ret
              exact ⟨rfl, HC6.out⟩
            · have HM := Asd.mk (show mt (Lp k ++ [ps, pb]) (bl ⟨(List.replicate i (97 : UInt8)).toArray⟩) = false from by rw [hmm]; simp [wantB])
              clear hmm
              go_wp2_with fail
              refine (match_mt gp _ ⟨(List.replicate i (97 : UInt8)).toArray⟩ w4 HG4.out (by show (List.replicate i (97 : UInt8)).toArray.size ≤ _; simp only [List.size_toArray, List.length_replicate]; omega)).mono ?_
              rw [HM.out]
              rintro e w5 ⟨rfl, nn, hw⟩
              have HC5 := Asd.mk (show Chg [] w w5 by rw [hw]; exact HC4.out.drewN nn)
              clear hw
              go_wp2_with fail
              refine (works_calls w5 (HE.out.chg HC5.out)).mono ?_
              rintro e w6 ⟨rfl, hC6⟩
              have HC6 := Asd.mk (HC5.out.trans hC6)
              clear hC6
              go_wp2
              go_ret
              exact ⟨rfl, HC6.out⟩
          | false =>
            have HP2 := HP
            have HC2 := HC
            have HO2 := HO
            clear HP HC HO
            have hcv := conv_own (l := pl k) HP2.out
            have hp : parts ⟨(pl k).toArray⟩ = some (Lp k) := parts_pl k
            have hsz : (⟨(pl k).toArray⟩ : ByteArray).size ≤ 1024 := by
              show (pl k).toArray.size ≤ 1024
              simp only [List.size_toArray, List.length_append, pl_length, List.length_cons, List.length_nil]
              omega
            have hcomp := compile_parts _ wr hsz
            rw [hp] at hcomp
            have HComp := Asd.mk hcomp
            have hmm : mt (Lp k) (bl ⟨(List.replicate i (97 : UInt8)).toArray⟩) = wantB i k false := by
              rw [bl_as, ← want_mt]
              simp
            clear hcomp hp hsz
            go_wp2_with fail
            refine HComp.out.mono ?_
            rintro e w4 ⟨gp, rfl, hC4, hG4⟩
            have HC4 := Asd.mk (HC2.out.trans hC4)
            have HG4 := Asd.mk hG4
            have HO4 := Asd.mk (own_chg1 HO2.out (fun g h1 h2 h3 => hC4.block g h3 (by simp)))
            have hcv7 := conv_own (l := List.replicate i 97) HO4.out
            clear hC4 hG4 hcv HComp HP2 HO2 HC2
            by_cases hki : k ≤ i
            · by_cases hi0 : i = 0
              · subst hi0
                have HM := Asd.mk (show mt (Lp k) (bl ⟨(List.replicate 0 (97 : UInt8)).toArray⟩) = true from by rw [hmm]; first | (simp [wantB]; done) | (simp [wantB]; omega))
                clear hmm
                go_wp2_with fail
                refine (match_mt gp _ ⟨(List.replicate 0 (97 : UInt8)).toArray⟩ w4 HG4.out (by show (List.replicate 0 (97 : UInt8)).toArray.size ≤ _; simp only [List.size_toArray, List.length_replicate]; omega)).mono ?_
                rw [HM.out]
                rintro e w5 ⟨rfl, nn, hw⟩
                have HC5 := Asd.mk (show Chg [] w w5 by rw [hw]; exact HC4.out.drewN nn)
                clear hw
                go_wp2_with fail
                refine (works_calls w5 (HE.out.chg HC5.out)).mono ?_
                rintro e w6 ⟨rfl, hC6⟩
                have HC6 := Asd.mk (HC5.out.trans hC6)
                clear hC6
                go_wp2
                go_ret
                exact ⟨rfl, HC6.out⟩
              · have ti : ((i : Int) == 0) = false := by simp; omega
                by_cases hk0 : 0 < k
                · have HM := Asd.mk (show mt (Lp k) (bl ⟨(List.replicate i (97 : UInt8)).toArray⟩) = true from by rw [hmm]; first | (simp [wantB]; done) | (simp [wantB]; omega))
                  clear hmm
                  go_wp2_with fail
                  refine (match_mt gp _ ⟨(List.replicate i (97 : UInt8)).toArray⟩ w4 HG4.out (by show (List.replicate i (97 : UInt8)).toArray.size ≤ _; simp only [List.size_toArray, List.length_replicate]; omega)).mono ?_
                  rw [HM.out]
                  rintro e w5 ⟨rfl, nn, hw⟩
                  have HC5 := Asd.mk (show Chg [] w w5 by rw [hw]; exact HC4.out.drewN nn)
                  clear hw
                  go_wp2_with fail
                  refine (works_calls w5 (HE.out.chg HC5.out)).mono ?_
                  rintro e w6 ⟨rfl, hC6⟩
                  have HC6 := Asd.mk (HC5.out.trans hC6)
                  clear hC6
                  go_wp2
                  go_ret
                  exact ⟨rfl, HC6.out⟩
                · have HM := Asd.mk (show mt (Lp k) (bl ⟨(List.replicate i (97 : UInt8)).toArray⟩) = false from by rw [hmm]; first | (simp [wantB]; done) | (simp [wantB]; omega))
                  clear hmm
                  go_wp2_with fail
                  refine (match_mt gp _ ⟨(List.replicate i (97 : UInt8)).toArray⟩ w4 HG4.out (by show (List.replicate i (97 : UInt8)).toArray.size ≤ _; simp only [List.size_toArray, List.length_replicate]; omega)).mono ?_
                  rw [HM.out]
                  rintro e w5 ⟨rfl, nn, hw⟩
                  have HC5 := Asd.mk (show Chg [] w w5 by rw [hw]; exact HC4.out.drewN nn)
                  clear hw
                  go_wp2_with fail
                  refine (works_calls w5 (HE.out.chg HC5.out)).mono ?_
                  rintro e w6 ⟨rfl, hC6⟩
                  have HC6 := Asd.mk (HC5.out.trans hC6)
                  clear hC6
                  go_wp2
                  go_ret
                  exact ⟨rfl, HC6.out⟩
            · have HM := Asd.mk (show mt (Lp k) (bl ⟨(List.replicate i (97 : UInt8)).toArray⟩) = false from by rw [hmm]; first | (simp [wantB]; done) | (simp [wantB]; omega))
              clear hmm
              go_wp2_with fail
              refine (match_mt gp _ ⟨(List.replicate i (97 : UInt8)).toArray⟩ w4 HG4.out (by show (List.replicate i (97 : UInt8)).toArray.size ≤ _; simp only [List.size_toArray, List.length_replicate]; omega)).mono ?_
              rw [HM.out]
              rintro e w5 ⟨rfl, nn, hw⟩
              have HC5 := Asd.mk (show Chg [] w w5 by rw [hw]; exact HC4.out.drewN nn)
              clear hw
              go_wp2_with fail
              refine (works_calls w5 (HE.out.chg HC5.out)).mono ?_
              rintro e w6 ⟨rfl, hC6⟩
              have HC6 := Asd.mk (HC5.out.trans hC6)
              clear hC6
              go_wp2
              go_ret
              exact ⟨rfl, HC6.out⟩
end Go.Proofs.YtgkifphfibcfdaaGreatDoor.G
/- What an escaped name means: itself, and nothing else; the reference's Escape. -/
namespace Go.Proofs.YtgkifphfibcfdaaGreatDoor.G
open Go.RowKit Go.Proofs.YtgkifphfibcfdaaGreatDoor.B
set_option linter.unusedVariables false
set_option linter.unusedSimpArgs false
/-- The part that takes just one byte. -/
def single (c : Nat) : PartV := (false, upd noneT c true)
theorem single_takes (c d : Nat) : (single c).2 d = decide (d = c) := by
  simp only [single, upd, noneT]
  by_cases h : d = c <;> simp [h]
theorem mt_singles : ∀ (l t : List Nat), mt (l.map single) t = decide (t = l)
  | [], [] => rfl
  | [], _ :: _ => by simp [mt]
  | c :: l, [] => by
    rw [List.map_cons, mt_one_nil _ rfl]; simp
  | c :: l, d :: t => by
    rw [List.map_cons, mt_one _ _ _ rfl, single_takes, mt_singles l t]
    simp only [List.cons.injEq]
    rw [Bool.decide_and]
theorem parts_escaped : ∀ c, c ∈ specials → parts ⟨((escB c).map UInt8.ofNat).toArray⟩ = some [single c] := by
  intro c hc
  simp only [specials, List.mem_cons, List.mem_nil_iff, or_false] at hc
  rcases hc with rfl | rfl | rfl | rfl
  · exact (show parts ⟨((escB 92).map UInt8.ofNat).toArray⟩ = some [single 92] by kernel_rfl)
  · exact (show parts ⟨((escB 91).map UInt8.ofNat).toArray⟩ = some [single 91] by kernel_rfl)
  · exact (show parts ⟨((escB 63).map UInt8.ofNat).toArray⟩ = some [single 63] by kernel_rfl)
  · exact (show parts ⟨((escB 42).map UInt8.ofNat).toArray⟩ = some [single 42] by kernel_rfl)
theorem parts_plain (c : Nat) (h : c < 256) (hc : c ∉ specials) : parts ⟨((escB c).map UInt8.ofNat).toArray⟩ = some [single c] := by
  unfold escB
  rw [if_neg hc]
  have hs : (⟨(([c] : List Nat).map UInt8.ofNat).toArray⟩ : ByteArray).size = 1 := rfl
  have hb : bn ⟨(([c] : List Nat).map UInt8.ofNat).toArray⟩ 0 = c := by
    rw [bn_in (by rw [hs]; omega)]
    show (UInt8.ofNat c).toNat = c
    rw [UInt8.toNat_ofNat']
    omega
  simp only [specials, List.mem_cons, List.mem_nil_iff, or_false, not_or] at hc
  refine parts_of (k := 2) ?_
  have hp : bytePlace ⟨(([c] : List Nat).map UInt8.ofNat).toArray⟩ 0 = 0 := by
    unfold bytePlace
    rw [if_neg (fun h2 => hc.1 (by rw [← hb]; exact (one_bn.1 h2).2))]
  simp only [crun]
  rw [hs, hb, hp, if_pos (by omega), if_neg hc.2.2.2, if_neg hc.2.2.1, if_neg hc.2.1, if_pos (by omega), hb, if_neg (by omega)]
  rfl
theorem bl_lt (s : ByteArray) : ∀ c ∈ bl s, c < 256 := by
  intro c hc
  simp only [bl, List.mem_map, List.mem_range] at hc
  obtain ⟨i, _, rfl⟩ := hc
  have := bn_le s i
  omega
theorem parts_list : ∀ l : List Nat, (∀ c ∈ l, c < 256) → parts ⟨((l.flatMap escB).map UInt8.ofNat).toArray⟩ = some (l.map single)
  | [], _ => parts_of (k := 1) rfl
  | c :: l, h => by
    have h1 : parts ⟨((escB c).map UInt8.ofNat).toArray⟩ = some [single c] := by
      by_cases hc : c ∈ specials
      · exact parts_escaped c hc
      · exact parts_plain c (h c (by simp)) hc
    have h2 := parts_append h1 (parts_list l (fun d hd => h d (by simp [hd])))
    rw [bytes_append] at h2
    rw [List.flatMap_cons, List.map_append, h2]
    rfl
/-- A name's own pattern. -/
theorem parts_escS (s : ByteArray) : parts (escS s) = some ((bl s).map single) := by
  have h := parts_list (bl s) (bl_lt s)
  unfold escS escL
  rw [List.take_of_length_le (by rw [bl_length]; exact Nat.le_refl _)]
  exact h
theorem bl_inj {a b : ByteArray} : (bl b = bl a) ↔ a = b := by
  constructor
  · intro h
    rw [← bl_bytes a, ← bl_bytes b, h]
  · rintro rfl; rfl
theorem mt_escS (s t : ByteArray) : mt ((bl s).map single) (bl t) = (s.toList == t.toList) := by
  rw [mt_singles]
  apply Bool.eq_iff_iff.2
  rw [decide_eq_true_eq, bl_inj, beq_iff_eq, ByteArray.toList_eq, ByteArray.toList_eq]
  constructor
  · rintro rfl; rfl
  · intro h; exact ByteArray.ext (Array.toList_inj.1 h)
theorem escS_size (s : ByteArray) : (escS s).size = (escL s s.size).length := by
  show ((escL s s.size).map UInt8.ofNat).toArray.size = _
  simp
/-- Bytes as cells. -/
theorem cellsU_step (l : List Nat) (c : Nat) (hc : c < 256) : cellsU (l.map UInt8.ofNat) ++ [Value.int .u8 (c : Int)] = cellsU ((l ++ [c]).map UInt8.ofNat) := by
  simp [cellsU, UInt8.toNat_ofNat']
  omega
set_option maxRecDepth 100000 in
set_option maxHeartbeats 8000000 in
theorem refescape_calls (s : ByteArray) (w : World) (hs : s.size ≤ 1048576) : Calls Tryz.prog 19 #[.string s] w fun e w' => e = .returned (.string (escS s)) ∧ Chg [] w w' := by
  go_enter Tryz.func19, Tryz.ntmps19
  go_wp2
  go_loopg [3, 4] (s.size + 1) (fun gk v3 v4 wr => ∃ i : Nat, i ≤ s.size ∧ gk = s.size + 1 - i ∧ v4 = .int .i64 (i : Int) ∧ Asd (Chg [] w wr) ∧ Asd (wr.ownsRow w.heap.size 5 1 v3 (escL s i).length (cellsU ((escL s i).map UInt8.ofNat))))
  case atStart => exact ⟨0, by omega, by omega, rfl, ⟨Chg.refl _ _⟩, ⟨by rw [escL_zero]; exact World.ownsRow_nil _ _ _ _⟩⟩
  case round =>
    obtain ⟨i, hi, rfl, rfl, HC, HO⟩ := hrel
    by_cases hlt : i < s.size
    · have hle := escL_le s i hi
      have hbn : bn s i = s[i].toNat := by unfold bn; rw [dif_pos hlt]
      have hb5 : s[i].toNat < 256 := UInt8.toNat_lt s[i]
      have hsu := escL_succ hlt
      by_cases hsp : bn s i ∈ specials
      · have hsp2 := hsp
        rw [escB, if_pos hsp] at hsu
        simp only [specials, List.mem_cons, List.mem_nil_iff, or_false] at hsp
        rcases hsp with hsp | hsp | hsp | hsp
        · have t0 : (((s[i].toNat : Nat) : Int) == 42) = false := by rw [← hbn, hsp]; rfl
          have t1 : (((s[i].toNat : Nat) : Int) == 63) = false := by rw [← hbn, hsp]; rfl
          have t2 : (((s[i].toNat : Nat) : Int) == 91) = false := by rw [← hbn, hsp]; rfl
          have t3 : (((s[i].toNat : Nat) : Int) == 92) = true := by rw [← hbn, hsp]; rfl
          have HSU := Asd.mk hsu
          have HBN := Asd.mk hbn
          clear hsu hbn hsp
          go_wp2_with (first | (at_builtin; obtain ⟨ie, h1, h2, h3, h4⟩ := info5'; refine wpList_append_own _ rfl _ _ 35 rfl w.heap.size 5 ie _ 1 1 Tryz.underlying35 h1 h2 h3 h4 rfl (by decide) _ _ _ rfl (HO.out.alloc _) ⟨wr.heap.size, 0, none⟩ 1 1 [.int .u8 92] rfl rfl (one_new _ _ _) (fun u hu => by simp at hu; subst hu; rfl) (by unfold maxLen; omega) (by omega) (by have := HC.out.size; simp; omega) ?_; intro v1 w3 hownA hgrowA hnil3; clear h1 h2 h3 h4 hnil3; rw [show Value.int .u8 92 = Value.int .u8 ((92 : Nat) : Int) from rfl, cellsU_step _ 92 (by omega)] at hownA; replace hownA := Asd.mk hownA; replace hgrowA := Asd.mk hgrowA; simp only [Act.put, List.setIfInBounds_toArray, List.set_cons_zero, List.set_cons_succ]) | (at_builtin; obtain ⟨ie, h1, h2, h3, h4⟩ := info5'; refine wpList_append_own _ rfl _ _ 35 rfl w.heap.size 5 ie _ 1 1 Tryz.underlying35 h1 h2 h3 h4 rfl (by decide) _ _ _ rfl (hownA.out.alloc _) ⟨w3.heap.size, 0, none⟩ 1 1 [.int .u8 (s[i].toNat : Int)] rfl rfl (one_new _ _ _) (fun u hu => by simp at hu; subst hu; rfl) (by unfold maxLen; omega) (by omega) (by have := HC.out.size; have := hgrowA.out.size; simp at this ⊢; omega) ?_; intro v2 w4 hownB hgrowB hnil3; clear h1 h2 h3 h4 hnil3; rw [cellsU_step _ _ hb5] at hownB; replace hownB := Asd.mk hownB; replace hgrowB := Asd.mk hgrowB; simp only [Act.put, List.setIfInBounds_toArray, List.set_cons_zero, List.set_cons_succ]))
          go_roundg (s.size + 1 - (i + 1))
          case rel =>
            refine ⟨i + 1, by omega, by omega, by go_num, ⟨Chg.grownN ((Chg.grownN (HC.out.alloc _) hgrowA.out (fun g e => (HO.out.lt g e).1)).alloc _) hgrowB.out (fun g e => (hownA.out.lt g e).1)⟩, ⟨?_⟩⟩
            have h := hownB.out
            rw [HSU.out, HBN.out, List.length_append]
            rw [List.append_assoc] at h
            exact h
          case measure => omega
        · have t0 : (((s[i].toNat : Nat) : Int) == 42) = false := by rw [← hbn, hsp]; rfl
          have t1 : (((s[i].toNat : Nat) : Int) == 63) = false := by rw [← hbn, hsp]; rfl
          have t2 : (((s[i].toNat : Nat) : Int) == 91) = true := by rw [← hbn, hsp]; rfl
          have HSU := Asd.mk hsu
          have HBN := Asd.mk hbn
          clear hsu hbn hsp
          go_wp2_with (first | (at_builtin; obtain ⟨ie, h1, h2, h3, h4⟩ := info5'; refine wpList_append_own _ rfl _ _ 35 rfl w.heap.size 5 ie _ 1 1 Tryz.underlying35 h1 h2 h3 h4 rfl (by decide) _ _ _ rfl (HO.out.alloc _) ⟨wr.heap.size, 0, none⟩ 1 1 [.int .u8 92] rfl rfl (one_new _ _ _) (fun u hu => by simp at hu; subst hu; rfl) (by unfold maxLen; omega) (by omega) (by have := HC.out.size; simp; omega) ?_; intro v1 w3 hownA hgrowA hnil3; clear h1 h2 h3 h4 hnil3; rw [show Value.int .u8 92 = Value.int .u8 ((92 : Nat) : Int) from rfl, cellsU_step _ 92 (by omega)] at hownA; replace hownA := Asd.mk hownA; replace hgrowA := Asd.mk hgrowA; simp only [Act.put, List.setIfInBounds_toArray, List.set_cons_zero, List.set_cons_succ]) | (at_builtin; obtain ⟨ie, h1, h2, h3, h4⟩ := info5'; refine wpList_append_own _ rfl _ _ 35 rfl w.heap.size 5 ie _ 1 1 Tryz.underlying35 h1 h2 h3 h4 rfl (by decide) _ _ _ rfl (hownA.out.alloc _) ⟨w3.heap.size, 0, none⟩ 1 1 [.int .u8 (s[i].toNat : Int)] rfl rfl (one_new _ _ _) (fun u hu => by simp at hu; subst hu; rfl) (by unfold maxLen; omega) (by omega) (by have := HC.out.size; have := hgrowA.out.size; simp at this ⊢; omega) ?_; intro v2 w4 hownB hgrowB hnil3; clear h1 h2 h3 h4 hnil3; rw [cellsU_step _ _ hb5] at hownB; replace hownB := Asd.mk hownB; replace hgrowB := Asd.mk hgrowB; simp only [Act.put, List.setIfInBounds_toArray, List.set_cons_zero, List.set_cons_succ]))
          go_roundg (s.size + 1 - (i + 1))
          case rel =>
            refine ⟨i + 1, by omega, by omega, by go_num, ⟨Chg.grownN ((Chg.grownN (HC.out.alloc _) hgrowA.out (fun g e => (HO.out.lt g e).1)).alloc _) hgrowB.out (fun g e => (hownA.out.lt g e).1)⟩, ⟨?_⟩⟩
            have h := hownB.out
            rw [HSU.out, HBN.out, List.length_append]
            rw [List.append_assoc] at h
            exact h
          case measure => omega
        · have t0 : (((s[i].toNat : Nat) : Int) == 42) = false := by rw [← hbn, hsp]; rfl
          have t1 : (((s[i].toNat : Nat) : Int) == 63) = true := by rw [← hbn, hsp]; rfl
          have HSU := Asd.mk hsu
          have HBN := Asd.mk hbn
          clear hsu hbn hsp
          go_wp2_with (first | (at_builtin; obtain ⟨ie, h1, h2, h3, h4⟩ := info5'; refine wpList_append_own _ rfl _ _ 35 rfl w.heap.size 5 ie _ 1 1 Tryz.underlying35 h1 h2 h3 h4 rfl (by decide) _ _ _ rfl (HO.out.alloc _) ⟨wr.heap.size, 0, none⟩ 1 1 [.int .u8 92] rfl rfl (one_new _ _ _) (fun u hu => by simp at hu; subst hu; rfl) (by unfold maxLen; omega) (by omega) (by have := HC.out.size; simp; omega) ?_; intro v1 w3 hownA hgrowA hnil3; clear h1 h2 h3 h4 hnil3; rw [show Value.int .u8 92 = Value.int .u8 ((92 : Nat) : Int) from rfl, cellsU_step _ 92 (by omega)] at hownA; replace hownA := Asd.mk hownA; replace hgrowA := Asd.mk hgrowA; simp only [Act.put, List.setIfInBounds_toArray, List.set_cons_zero, List.set_cons_succ]) | (at_builtin; obtain ⟨ie, h1, h2, h3, h4⟩ := info5'; refine wpList_append_own _ rfl _ _ 35 rfl w.heap.size 5 ie _ 1 1 Tryz.underlying35 h1 h2 h3 h4 rfl (by decide) _ _ _ rfl (hownA.out.alloc _) ⟨w3.heap.size, 0, none⟩ 1 1 [.int .u8 (s[i].toNat : Int)] rfl rfl (one_new _ _ _) (fun u hu => by simp at hu; subst hu; rfl) (by unfold maxLen; omega) (by omega) (by have := HC.out.size; have := hgrowA.out.size; simp at this ⊢; omega) ?_; intro v2 w4 hownB hgrowB hnil3; clear h1 h2 h3 h4 hnil3; rw [cellsU_step _ _ hb5] at hownB; replace hownB := Asd.mk hownB; replace hgrowB := Asd.mk hgrowB; simp only [Act.put, List.setIfInBounds_toArray, List.set_cons_zero, List.set_cons_succ]))
          go_roundg (s.size + 1 - (i + 1))
          case rel =>
            refine ⟨i + 1, by omega, by omega, by go_num, ⟨Chg.grownN ((Chg.grownN (HC.out.alloc _) hgrowA.out (fun g e => (HO.out.lt g e).1)).alloc _) hgrowB.out (fun g e => (hownA.out.lt g e).1)⟩, ⟨?_⟩⟩
            have h := hownB.out
            rw [HSU.out, HBN.out, List.length_append]
            rw [List.append_assoc] at h
            exact h
          case measure => omega
        · have t0 : (((s[i].toNat : Nat) : Int) == 42) = true := by rw [← hbn, hsp]; rfl
          have HSU := Asd.mk hsu
          have HBN := Asd.mk hbn
          clear hsu hbn hsp
          go_wp2_with (first | (at_builtin; obtain ⟨ie, h1, h2, h3, h4⟩ := info5'; refine wpList_append_own _ rfl _ _ 35 rfl w.heap.size 5 ie _ 1 1 Tryz.underlying35 h1 h2 h3 h4 rfl (by decide) _ _ _ rfl (HO.out.alloc _) ⟨wr.heap.size, 0, none⟩ 1 1 [.int .u8 92] rfl rfl (one_new _ _ _) (fun u hu => by simp at hu; subst hu; rfl) (by unfold maxLen; omega) (by omega) (by have := HC.out.size; simp; omega) ?_; intro v1 w3 hownA hgrowA hnil3; clear h1 h2 h3 h4 hnil3; rw [show Value.int .u8 92 = Value.int .u8 ((92 : Nat) : Int) from rfl, cellsU_step _ 92 (by omega)] at hownA; replace hownA := Asd.mk hownA; replace hgrowA := Asd.mk hgrowA; simp only [Act.put, List.setIfInBounds_toArray, List.set_cons_zero, List.set_cons_succ]) | (at_builtin; obtain ⟨ie, h1, h2, h3, h4⟩ := info5'; refine wpList_append_own _ rfl _ _ 35 rfl w.heap.size 5 ie _ 1 1 Tryz.underlying35 h1 h2 h3 h4 rfl (by decide) _ _ _ rfl (hownA.out.alloc _) ⟨w3.heap.size, 0, none⟩ 1 1 [.int .u8 (s[i].toNat : Int)] rfl rfl (one_new _ _ _) (fun u hu => by simp at hu; subst hu; rfl) (by unfold maxLen; omega) (by omega) (by have := HC.out.size; have := hgrowA.out.size; simp at this ⊢; omega) ?_; intro v2 w4 hownB hgrowB hnil3; clear h1 h2 h3 h4 hnil3; rw [cellsU_step _ _ hb5] at hownB; replace hownB := Asd.mk hownB; replace hgrowB := Asd.mk hgrowB; simp only [Act.put, List.setIfInBounds_toArray, List.set_cons_zero, List.set_cons_succ]))
          go_roundg (s.size + 1 - (i + 1))
          case rel =>
            refine ⟨i + 1, by omega, by omega, by go_num, ⟨Chg.grownN ((Chg.grownN (HC.out.alloc _) hgrowA.out (fun g e => (HO.out.lt g e).1)).alloc _) hgrowB.out (fun g e => (hownA.out.lt g e).1)⟩, ⟨?_⟩⟩
            have h := hownB.out
            rw [HSU.out, HBN.out, List.length_append]
            rw [List.append_assoc] at h
            exact h
          case measure => omega
      · rw [escB, if_neg hsp] at hsu
        simp only [specials, List.mem_cons, List.mem_nil_iff, or_false, not_or] at hsp
        have t1 : (((s[i].toNat : Nat) : Int) == 42) = false := by rw [← hbn]; simp; omega
        have t2 : (((s[i].toNat : Nat) : Int) == 63) = false := by rw [← hbn]; simp; omega
        have t3 : (((s[i].toNat : Nat) : Int) == 91) = false := by rw [← hbn]; simp; omega
        have t4 : (((s[i].toNat : Nat) : Int) == 92) = false := by rw [← hbn]; simp; omega
        have HSU := Asd.mk hsu
        have HBN := Asd.mk hbn
        clear hsu hbn hsp
        go_wp2_with (at_builtin; obtain ⟨ie, h1, h2, h3, h4⟩ := info5'; refine wpList_append_own _ rfl _ _ 35 rfl w.heap.size 5 ie _ 1 1 Tryz.underlying35 h1 h2 h3 h4 rfl (by decide) _ _ _ rfl (HO.out.alloc _) ⟨wr.heap.size, 0, none⟩ 1 1 [.int .u8 (s[i].toNat : Int)] rfl rfl (one_new _ _ _) (fun u hu => by simp at hu; subst hu; rfl) (by unfold maxLen; omega) (by omega) (by have := HC.out.size; simp; omega) ?_; intro v' w3 hown' hgrow3 hnil3; clear h1 h2 h3 h4 hnil3; rw [cellsU_step _ _ hb5] at hown'; replace hown' := Asd.mk hown'; replace hgrow3 := Asd.mk hgrow3; simp only [Act.put, List.setIfInBounds_toArray, List.set_cons_zero, List.set_cons_succ])
        go_roundg (s.size + 1 - (i + 1))
        case rel =>
          refine ⟨i + 1, by omega, by omega, by go_num, ⟨Chg.grownN (HC.out.alloc _) hgrow3.out (fun g e => (HO.out.lt g e).1)⟩, ⟨?_⟩⟩
          have h := hown'.out
          rw [HSU.out, HBN.out, List.length_append]
          exact h
        case measure => omega
    · obtain rfl : i = s.size := by omega
      have hcv := conv_own (l := (escL s s.size).map UInt8.ofNat) HO.out
      go_wp2
      go_ret
      exact ⟨rfl, HC.out⟩
end Go.Proofs.YtgkifphfibcfdaaGreatDoor.G
/- The laws of GlobBelow, plainly: names below names; rules told twice; a rule that is taken back; a name's own rule. -/
namespace Go.Proofs.YtgkifphfibcfdaaGreatDoor.G
open Go.RowKit Go.Proofs.YtgkifphfibcfdaaGreatDoor.B
set_option linter.unusedVariables false
theorem spL_join (c : UInt8) : ∀ a b : List UInt8, spL c (a ++ c :: b) = spL c a ++ spL c b
  | [], b => by simp [spL]
  | x :: a, b => by
    have ih := spL_join c a b
    simp only [List.cons_append, spL]
    rw [ih]
    by_cases h : x = c
    · rw [if_pos h, if_pos h]; rfl
    · rw [if_neg h, if_neg h]
      cases hs : spL c a with
      | nil => exact absurd hs (spL_ne c a)
      | cons p r => rfl
theorem bytes_inj {l m : List ByteArray} (h : l.map (·.data.toList) = m.map (·.data.toList)) : l = m := by
  induction l generalizing m with
  | nil => cases m with
    | nil => rfl
    | cons y m => simp at h
  | cons x l ih => cases m with
    | nil => simp at h
    | cons y m =>
      simp only [List.map_cons, List.cons.injEq] at h
      rw [ih h.2, ByteArray.ext (Array.toList_inj.1 h.1)]
theorem spl_join {c : UInt8} {s a b : ByteArray} (h : s.data.toList = a.data.toList ++ c :: b.data.toList) : spl c.toNat s = spl c.toNat a ++ spl c.toNat b := by
  apply bytes_inj
  rw [List.map_append, spl_list, spl_list, spl_list, h, spL_join]
theorem spl_one {c : UInt8} {s : ByteArray} (h : c ∉ s.data.toList) : spl c.toNat s = [s] := by
  apply bytes_inj
  rw [spl_list, spL_no h]
  rfl
theorem names_join {s a b : ByteArray} (h : s.data.toList = a.data.toList ++ 47 :: b.data.toList) : namesOf s = namesOf a ++ namesOf b := by
  have := spl_join (c := 47) h
  rw [show (47 : UInt8).toNat = 47 from rfl] at this
  unfold namesOf
  rw [this, List.filter_append]
theorem names_one {s : ByteArray} (h : (47 : UInt8) ∉ s.data.toList) (h0 : 0 < s.size) : namesOf s = [s] := by
  have := spl_one (c := 47) h
  rw [show (47 : UInt8).toNat = 47 from rfl] at this
  unfold namesOf
  rw [this, filter_yes h0, List.filter_nil]
theorem ignoredF_iff (rs : List RuleV) (ns : List ByteArray) (dir : Bool) : ∀ f k, ignoredF rs ns dir f k = true ↔ ∃ j, k ≤ j ∧ j < k + f ∧ verdict rs (ns.take j) (dir || decide (j < ns.length)) false = true
  | 0, k => by
    simp only [ignoredF]
    constructor
    · intro h; cases h
    · rintro ⟨j, h1, h2, _⟩; omega
  | f + 1, k => by
    simp only [ignoredF]
    by_cases h : verdict rs (ns.take k) (dir || decide (k < ns.length)) false = true
    · rw [if_pos h]
      exact ⟨fun _ => ⟨k, Nat.le_refl _, by omega, h⟩, fun _ => rfl⟩
    · rw [if_neg h, ignoredF_iff rs ns dir f (k + 1)]
      constructor
      · rintro ⟨j, h1, h2, h3⟩
        exact ⟨j, by omega, by omega, h3⟩
      · rintro ⟨j, h1, h2, h3⟩
        refine ⟨j, ?_, by omega, h3⟩
        by_cases e : j = k
        · subst e; exact absurd h3 h
        · omega
theorem ignoredP_iff (rs : List RuleV) (path : ByteArray) (dir : Bool) : ignoredP rs path dir = true ↔ ∃ j, 1 ≤ j ∧ j ≤ (namesOf path).length ∧ verdict rs ((namesOf path).take j) (dir || decide (j < (namesOf path).length)) false = true := by
  unfold ignoredP
  rw [ignoredF_iff]
  constructor <;> (rintro ⟨j, h1, h2, h3⟩; exact ⟨j, by omega, by omega, h3⟩)
/-- What lies below an ignored directory is ignored. -/
theorem below_ignored {rs : List RuleV} {path s : ByteArray} {M : List ByteArray} (h : namesOf s = namesOf path ++ M) (hM : M ≠ []) (hi : ignoredP rs path true = true) : ignoredP rs s false = true := by
  rw [ignoredP_iff] at hi ⊢
  obtain ⟨j, h1, h2, h3⟩ := hi
  have hl : 0 < M.length := List.length_pos_iff.2 hM
  rw [h, List.length_append]
  refine ⟨j, h1, by omega, ?_⟩
  rw [List.take_append_of_le_length h2, decide_eq_true (by omega)]
  exact h3
theorem verdict_append (a b : List RuleV) (ns : List ByteArray) (d is : Bool) : verdict (a ++ b) ns d is = verdict b ns d (verdict a ns d is) := by
  unfold verdict
  rw [List.foldl_append]
theorem verdict_kind (ns : List ByteArray) (d : Bool) : ∀ rs : List RuleV, (∀ is, verdict rs ns d is = is) ∨ ∃ v, ∀ is, verdict rs ns d is = v
  | [] => .inl fun _ => rfl
  | r :: rs => by
    have hc : ∀ is, verdict (r :: rs) ns d is = verdict rs ns d (if meansF r ns d = true then !r.back else is) := fun _ => rfl
    rcases verdict_kind ns d rs with h | ⟨v, h⟩
    · by_cases hm : meansF r ns d = true
      · exact .inr ⟨!r.back, fun is => by rw [hc, h, if_pos hm]⟩
      · exact .inl fun is => by rw [hc, h, if_neg hm]
    · exact .inr ⟨v, fun is => by rw [hc, h]⟩
theorem verdict_twice (rs : List RuleV) (ns : List ByteArray) (d : Bool) : verdict (rs ++ rs) ns d false = verdict rs ns d false := by
  rw [verdict_append]
  rcases verdict_kind ns d rs with h | ⟨v, h⟩ <;> simp only [h]
/-- The rules told twice are the rules. -/
theorem ignored_twice (rs : List RuleV) (path : ByteArray) (dir : Bool) : ignoredP (rs ++ rs) path dir = ignoredP rs path dir := by
  apply Bool.eq_iff_iff.2
  rw [ignoredP_iff, ignoredP_iff]
  simp only [verdict_twice]
/-- A rule that is taken back ignores nothing more. -/
theorem ignored_back {rs : List RuleV} {x : RuleV} (path : ByteArray) (h : ignoredP (rs ++ [x, { x with back := true }]) path false = true) : ignoredP rs path false = true := by
  rw [ignoredP_iff] at h ⊢
  obtain ⟨j, h1, h2, h3⟩ := h
  refine ⟨j, h1, h2, ?_⟩
  rw [verdict_append] at h3
  revert h3
  generalize (namesOf path).take j = ns
  generalize (false || decide (j < (namesOf path).length)) = d
  generalize verdict rs ns d false = v
  have e : meansF { x with back := true } ns d = meansF x ns d := rfl
  simp only [verdict, List.foldl_cons, List.foldl_nil]
  rw [e]
  cases meansF x ns d <;> simp
/-- The rule that is a name. -/
def nameRule (name : ByteArray) : RuleV := ⟨false, false, false, [some ((bl name).map single)]⟩
theorem means_name (name : ByteArray) (ns : List ByteArray) (d : Bool) : meansF (nameRule name) ns d = true ↔ ns.getLast? = some name := by
  unfold meansF nameRule
  simp only [Bool.false_eq_true, false_and, if_false, if_true]
  cases hl : ns.getLast? with
  | none => simp
  | some n =>
    simp only [mt_escS, beq_iff_eq, Option.some.injEq]
    rw [ByteArray.toList_eq, ByteArray.toList_eq]
    constructor
    · intro h; exact (ByteArray.ext (Array.toList_inj.1 h)).symm
    · rintro rfl; rfl
theorem ignored_name (name path : ByteArray) : ignoredP [nameRule name] path false = true ↔ name ∈ namesOf path := by
  rw [ignoredP_iff]
  have hv : ∀ ns d, verdict [nameRule name] ns d false = true ↔ ns.getLast? = some name := fun ns d => by
    rw [← means_name name ns d]
    simp only [verdict, List.foldl_cons, List.foldl_nil]
    cases meansF (nameRule name) ns d <;> simp [nameRule]
  constructor
  · rintro ⟨j, h1, h2, h3⟩
    rw [hv] at h3
    exact List.mem_of_mem_take (List.mem_of_getLast? h3)
  · intro h
    obtain ⟨i, hi, he⟩ := List.getElem_of_mem h
    refine ⟨i + 1, by omega, by omega, ?_⟩
    rw [hv, List.take_succ_eq_append_getElem hi, List.getLast?_concat, he]
theorem readL_at {l : List ByteArray} : ∀ {i j : Nat} {q : List RuleV}, readL l i = .ok q → readL l j = .ok q := by
  induction l with
  | nil => intro i j q h; exact h
  | cons p l ih =>
    intro i j q h
    simp only [readL] at h ⊢
    split at h
    · rename_i hs; rw [if_pos hs]; exact ih h
    · rename_i hs
      rw [if_neg hs]
      split at h
      · cases h
      · rename_i x hx
        split at h
        · rename_i q' hq
          rw [ih (j := j + 1) hq]
          exact h
        · cases h
theorem readL_join {a b : List ByteArray} {r : List RuleV} (hb : readL b 0 = .ok r) : ∀ {i : Nat} {q : List RuleV}, readL a i = .ok q → readL (a ++ b) i = .ok (q ++ r) := by
  induction a with
  | nil =>
    intro i q h
    simp only [readL, Except.ok.injEq] at h
    rw [← h]
    exact readL_at hb
  | cons p a ih =>
    intro i q h
    simp only [List.cons_append, readL] at h ⊢
    split at h
    · rename_i hs; rw [if_pos hs]; exact ih h
    · rename_i hs
      rw [if_neg hs]
      split at h
      · cases h
      · rename_i x hx
        split at h
        · rename_i q' hq
          simp only [Except.ok.injEq] at h
          rw [ih hq, ← h]
          rfl
        · cases h
theorem read_twice {s t : ByteArray} {rs : List RuleV} (h : readL (spl 10 s) 0 = .ok rs) (ht : t.data.toList = s.data.toList ++ 10 :: s.data.toList) : readL (spl 10 t) 0 = .ok (rs ++ rs) := by
  have := spl_join (c := 10) ht
  rw [show (10 : UInt8).toNat = 10 from rfl] at this
  rw [this]
  exact readL_join h h
/-- Has a path that name in it? -/
def hasB (name : ByteArray) (l : List ByteArray) : Bool := l.any fun p => p.toList == name.toList
theorem hasB_iff (name : ByteArray) (l : List ByteArray) : hasB name l = true ↔ name ∈ l := by
  unfold hasB
  rw [List.any_eq_true]
  constructor
  · rintro ⟨p, hp, h⟩
    have := eq_of_toList h
    rwa [← this]
  · intro h
    exact ⟨name, h, by simp⟩
end Go.Proofs.YtgkifphfibcfdaaGreatDoor.G
