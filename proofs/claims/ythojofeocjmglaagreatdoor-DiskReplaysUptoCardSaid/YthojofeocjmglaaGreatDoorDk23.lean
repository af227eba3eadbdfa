/- Merged out of these texts: QUnq, DReadT, ReplF. -/
import Derived.Test.YthojofeocjmglaaGreatDoorDk22
import Derived.Test.YthojofeocjmglaaGreatDoorDk16
import Derived.Test.YthojofeocjmglaaGreatDoorDk17
import Derived.Test.YthojofeocjmglaaGreatDoorDk12
/- The program's Unquote, of a text that begins with a quote: the walk. -/
namespace Go.Proofs.YthojofeocjmglaaGreatDoor.I
open Go.RowKit Go.Proofs.YthojofeocjmglaaGreatDoor.B Go.Sort
set_option linter.unusedVariables false
set_option linter.unusedSimpArgs false
theorem unq_34 (m : Nat) (r : List UInt8) : unqN (m + 1) (34 :: r) = some ([], r) := by
  conv => lhs; unfold unqN
  rw [if_pos rfl]
theorem unq_10 (m : Nat) (r : List UInt8) : unqN (m + 1) (10 :: r) = none := by
  conv => lhs; unfold unqN
  rw [if_neg (by decide), if_pos rfl]
theorem unq_any {c : UInt8} (h1 : c ≠ 34) (h2 : c ≠ 10) (h3 : c ≠ 92) (m : Nat) (r : List UInt8) : unqN (m + 1) (c :: r) = (unqN m r).map fun x => (c :: x.1, x.2) := by
  conv => lhs; unfold unqN
  rw [if_neg h1, if_neg h2, if_pos h3]
theorem unq_end (m : Nat) : unqN (m + 1) [92] = none := by
  conv => lhs; unfold unqN
  rw [if_neg (by decide), if_neg (by decide), if_neg (by decide)]
theorem unq_meant {l y : UInt8} (h : meantL l = some y) (m : Nat) (r : List UInt8) : unqN (m + 1) (92 :: l :: r) = (unqN m r).map fun x => (y :: x.1, x.2) := by
  conv => lhs; unfold unqN
  rw [if_neg (by decide), if_neg (by decide), if_neg (by decide)]
  simp only [h]
theorem unq_oct {l y : UInt8} {r : List UInt8} (h : meantL l = none) (ho : octF (l :: r) = some y) (m : Nat) : unqN (m + 1) (92 :: l :: r) = (unqN m (r.drop 2)).map fun x => (y :: x.1, x.2) := by
  conv => lhs; unfold unqN
  rw [if_neg (by decide), if_neg (by decide), if_neg (by decide)]
  simp only [h]
  match r, ho with
  | b :: d :: r2, ho =>
    have ho2 : octN l b d = some y := ho
    simp only [ho2]
    rfl
theorem unq_noct {l : UInt8} {r : List UInt8} (h : meantL l = none) (ho : octF (l :: r) = none) (m : Nat) : unqN (m + 1) (92 :: l :: r) = none := by
  conv => lhs; unfold unqN
  rw [if_neg (by decide), if_neg (by decide), if_neg (by decide)]
  simp only [h]
  match r, ho with
  | [], _ => rfl
  | [_], _ => rfl
  | b :: d :: r2, ho =>
    have ho2 : octN l b d = none := ho
    simp only [ho2]
def UnqPost (R : Option (List UInt8 × List UInt8)) (e : Ending) : Prop := match R with
  | some (t, rest) => e = .returned (.tuple #[.string (nb t), .string (nb rest), .nilIface])
  | none => e = .returned (.tuple #[.string ⟨#[]⟩, .string ⟨#[]⟩, errV 20])
theorem drop_cons {s : ByteArray} {i : Nat} (h : i < s.size) : s.data.toList.drop i = s[i] :: s.data.toList.drop (i + 1) := by
  have h2 : i < s.data.toList.length := by rw [list_size]; exact h
  rw [List.drop_eq_getElem_cons h2]
  rfl
theorem extract_end (s : ByteArray) (i : Nat) : s.extract i s.size = nb (s.data.toList.drop i) := by
  have := congrArg nb (toList_extract s i s.size)
  rw [nb_list] at this
  rw [this, List.take_of_length_le (by rw [List.length_drop, list_size]; exact Nat.le_refl _)]
set_option maxRecDepth 100000 in
set_option maxHeartbeats 16000000 in
theorem unquote_calls (s : ByteArray) (r : List UInt8) (w : World) (hs : s.size ≤ 4294967280) (h34 : s.data.toList = 34 :: r) :
    Calls Tryz.prog 78 #[.string s] w fun e w' => UnqPost (unqN s.size r) e ∧ Chg [] w w' := by
  obtain ⟨R, hR⟩ : ∃ R, unqN s.size r = R := ⟨_, rfl⟩
  rw [hR]
  have HRq := Asd.mk hR
  have hsz : s.size = r.length + 1 := by have := list_size s; rw [h34] at this; simpa using this.symm
  have HD1 := Asd.mk (show s.data.toList.drop 1 = r by rw [h34]; rfl)
  have hp := Tryz.strings_HasPrefix s ⟨#[34]⟩ w
  rw [show Lib.hasPrefix s.data.toList (⟨#[34]⟩ : ByteArray).data.toList = true by rw [h34]; rfl] at hp
  have HP := Asd.mk hp
  obtain ⟨i0, hi0, hz0, hz1, hz2⟩ := info_parts info_byte
  have HOne := Asd.mk (show ∀ c : UInt8, ∀ u ∈ [Value.int .u8 (c.toNat : Int)], u.oneCell' = true from fun c u hu => by rw [List.mem_singleton] at hu; rw [hu]; rfl)
  have hs1 : 1 ≤ s.size := by omega
  have HSr := Asd.mk hsz
  clear hp hR h34 hsz
  (go_enter Tryz.func78, Tryz.ntmps78)
  go_wp2_with fail
  refine HP.out.mono ?_
  rintro e w1 ⟨rfl, rfl⟩
  clear HP
  go_wp2_with fail
  go_loopg [6, 7] (s.size + 1) (fun gk v6 v7 wx => ∃ (i m : Nat) (acc : List UInt8), 1 ≤ i ∧ i ≤ s.size ∧ gk = s.size + 2 - i ∧ v7 = .int .i64 (i : Int) ∧ acc.length ≤ i ∧ s.size - i < m ∧ Asd (wx.ownsRow w1.heap.size 5 1 v6 acc.length (Lib.byteCells acc)) ∧ Asd (R = (unqN m (s.data.toList.drop i)).map fun x => (acc ++ x.1, x.2)) ∧ Asd (Chg [] w1 wx))
  case atStart =>
    refine ⟨1, s.size, [], by omega, by omega, rfl, rfl, by simp, by omega, ⟨World.ownsRow_nil _ _ _ _⟩, ⟨?_⟩, ⟨Chg.refl _ _⟩⟩
    rw [HD1.out, HRq.out]
    cases R <;> rfl
  case round =>
    obtain ⟨i, m, acc, h1, hi, rfl, rfl, hal, hm, HR, HQ, HC⟩ := hrel
    by_cases hlt : i < s.size
    · have k1 : (i : Int) < (s.size : Int) := by omega
      obtain ⟨m', rfl⟩ : ∃ m', m = m' + 1 := ⟨m - 1, by omega⟩
      obtain ⟨c, hc⟩ : ∃ c, s[i] = c := ⟨_, rfl⟩
      have hdr := drop_cons hlt
      rw [hc] at hdr
      rw [hdr] at HQ
      have hcn : (s[i]).toNat = c.toNat := by rw [hc]
      clear hdr
      have HBs := Asd.mk (fun y : UInt8 => show w1.heap.size ≤ (wr.alloc (.cells #[.int .u8 (y.toNat : Int)] 5)).heap.size from Nat.le_trans HC.out.size (by simp))
      have HMx := Asd.mk (show acc.length + 1 ≤ maxLen by unfold maxLen; omega)
      have HMy := Asd.mk (show (acc.length + 1) * 1 ≤ 140737488355328 by omega)
      have HNb := Asd.mk (fun (y : UInt8) => (fun j u hj => by
        match j, hj with
        | 0, hj => simp at hj; subst hj; simp [Addr.add]
        : ∀ j u, [Value.int .u8 (y.toNat : Int)][j]? = some u → (wr.alloc (.cells #[.int .u8 (y.toNat : Int)] 5)).cell? ((⟨wr.heap.size, 0, none⟩ : Addr).add j) = some u))
      by_cases h3 : c = 34
      · have t1 : ((c.toNat : Int) == 34) = true := by rw [h3]; rfl
        have HA := Asd.mk (show R = some (acc, s.data.toList.drop (i + 1)) by
          have := HQ.out
          rw [h3, unq_34] at this
          simpa using this)
        have HX := Asd.mk (extract_end s (i + 1))
        have k2 : (i : Int) + 1 ≤ (s.size : Int) := by omega
        clear HQ HNb HMx HMy HBs
        rcases row_form HR.out with ⟨hv, h0⟩ | ⟨g, cap, hv, _, _, hcl⟩
        · have ha : acc = [] := List.eq_nil_of_length_eq_zero h0
          subst hv
          have hcv := fun k => run_convert_bytes_nil (P := Tryz.prog) (wr.drewN k) 164 5 Tryz.underlying164 Tryz.underlying5 0 0 9 Tryz.underlying9
          have HAc := Asd.mk ha
          clear ha h0
          go_upto_region 11 with fail
          go_quiet (fail)
          go_wp2
          go_ret3
          exact ⟨by rw [HA.out, HAc.out]; show _ = Ending.returned (.tuple #[.string (nb []), .string (nb (s.data.toList.drop (i + 1))), .nilIface]); rw [← HX.out]; rfl, HC.out.drewN nq⟩
        · subst hv
          have hcv := fun k => run_convert_bytes_back (P := Tryz.prog) (wr.drewN k) 164 9 5 ⟨g, 0, none⟩ cap acc Tryz.underlying164 Tryz.underlying5 Tryz.underlying9 (fun j hj => by
            have e : (⟨g, 0, none⟩ : Addr).add j = ⟨g, j, none⟩ := by
              unfold Addr.add
              split
              · subst_vars; rfl
              · simp
            rw [e]
            exact hcl j _ (by rw [Lib.byteCells, List.getElem?_map, List.getElem?_eq_getElem hj]; rfl))
          clear hcl
          go_upto_region 11 with fail
          go_quiet (fail)
          go_wp2
          go_ret3
          exact ⟨by rw [HA.out]; show _ = Ending.returned (.tuple #[.string (nb acc), .string (nb (s.data.toList.drop (i + 1))), .nilIface]); rw [← HX.out]; rfl, HC.out.drewN nq⟩
      · have t1 : ((c.toNat : Int) == 34) = false := by
          have : c.toNat ≠ 34 := fun e => h3 (UInt8.toNat_inj.1 e)
          simp only [beq_eq_false_iff_ne, ne_eq]; omega
        by_cases h4 : c = 10
        · have t2 : ((c.toNat : Int) == 10) = true := by rw [h4]; rfl
          have HA := Asd.mk (show R = none by
            have := HQ.out
            rw [h4, unq_10] at this
            simpa using this)
          clear HQ HNb HMx HMy HBs
          go_wp2_with fail
          go_ret3
          exact ⟨by rw [HA.out]; rfl, HC.out⟩
        · have t2 : ((c.toNat : Int) == 10) = false := by
            have : c.toNat ≠ 10 := fun e => h4 (UInt8.toNat_inj.1 e)
            simp only [beq_eq_false_iff_ne, ne_eq]; omega
          by_cases h5 : c = 92
          · have t3 : ((c.toNat : Int) != 92) = false := by rw [h5]; rfl
            obtain ⟨rs, hrs⟩ : ∃ rs, s.extract (i + 1) s.size = rs := ⟨_, rfl⟩
            have hrn : rs = nb (s.data.toList.drop (i + 1)) := by rw [← hrs]; exact extract_end s (i + 1)
            have hrl : rs.data.toList = s.data.toList.drop (i + 1) := by rw [hrn, list_nb]
            have hrz : rs.size = s.size - (i + 1) := by rw [hrn, nb_size, List.length_drop, list_size]
            have k2 : (i : Int) + 1 ≤ (s.size : Int) := by omega
            have hte := ba_tests rs []
            have HRl := Asd.mk hrl
            by_cases h6 : i + 1 = s.size
            · have hre : rs.data.toList = [] := by rw [hrl]; exact List.drop_of_length_le (by rw [list_size]; omega)
              rw [decide_eq_true hre] at hte
              have HA := Asd.mk (show R = none by
                have := HQ.out
                rw [h5, show s.data.toList.drop (i + 1) = [] by rw [← hrl]; exact hre, unq_end] at this
                simpa using this)
              clear HQ HNb HMx HMy HBs hrn hrl hrz hre
              go_wp2_with fail
              go_ret3
              exact ⟨by rw [HA.out]; rfl, HC.out⟩
            · have h7 : i + 1 < s.size := by omega
              have hdr := drop_cons h7
              obtain ⟨l, hl⟩ : ∃ l, s[i + 1] = l := ⟨_, rfl⟩
              rw [hl] at hdr
              have hre : ¬ rs.data.toList = [] := by rw [hrl, hdr]; simp
              rw [decide_eq_false hre] at hte
              have hr0 : 0 < rs.size := by omega
              have hrb : rs.size ≤ 4294967280 := by omega
              have hx0 : (rs[0]'hr0).toNat = l.toNat := by
                have h8 : rs.data.toList[0]? = some l := by rw [hrl, hdr]; rfl
                have h9 : rs.data.toList[0]? = some (rs[0]'hr0) := list_get hr0
                rw [h9] at h8
                rw [Option.some.inj h8]
              have HMn := Asd.mk (meant_calls l wr)
              have HDr := Asd.mk hdr
              clear hrn hrl hre hdr
              cases hml : meantL l with
              | some y =>
                rw [hml] at HMn
                have HQ2 := Asd.mk (show R = (unqN m' (s.data.toList.drop (i + 2))).map fun x => (acc ++ [y] ++ x.1, x.2) by
                  have := HQ.out
                  rw [h5, HDr.out, unq_meant hml] at this
                  rw [this]
                  cases unqN m' (s.data.toList.drop (i + 1 + 1)) <;> simp)
                clear HQ hml hrz hl
                go_wp2_with fail
                refine HMn.out.mono ?_
                rintro e w3 ⟨rfl, rfl⟩
                go_wp2_with (first | (at_builtin; refine wpList_append_own _ rfl (.tmp 71) (.tmp 73) 164 rfl w1.heap.size 5 i0 (.int .u8 0) 1 1 Tryz.underlying164 hi0 hz0 hz1 hz2 rfl (by decide) _ acc.length (Lib.byteCells acc) rfl (HR.out.alloc _) ⟨w3.heap.size, 0, none⟩ 1 1 [.int .u8 (y.toNat : Int)] rfl rfl (HNb.out y) (HOne.out y) HMx.out HMy.out (HBs.out y) ?_; intro v' w' hown hgrow hnil; have HOw := Asd.mk hown; have HGr := Asd.mk (grown_chg (HC.out.alloc _) (HR.out.alloc _) (Nat.le_refl _) hgrow); clear hown hgrow hnil; simp only [Act.put, List.setIfInBounds_toArray, List.set_cons_zero, List.set_cons_succ]))
                go_roundg (s.size + 2 - (i + 2))
                case rel => exact ⟨i + 2, m', acc ++ [y], by omega, by omega, rfl, by go_num, by rw [List.length_append, List.length_singleton]; omega, by omega, ⟨by rw [List.length_append, List.length_singleton, cells_snoc]; exact HOw.out⟩, HQ2, HGr⟩
                case measure => omega
              | none =>
                rw [hml] at HMn
                have HOc := Asd.mk (octal_calls rs wr hrb)
                obtain ⟨OR, hOR⟩ : ∃ OR, octF rs.data.toList = OR := ⟨_, rfl⟩
                rw [hOR] at HOc
                have hoc : octF (l :: s.data.toList.drop (i + 1 + 1)) = OR := by rw [← HDr.out, ← HRl.out]; exact hOR
                cases OR with
                | none =>
                  have HA := Asd.mk (show R = none by
                    have := HQ.out
                    rw [h5, HDr.out, unq_noct hml hoc] at this
                    simpa using this)
                  clear HQ hml hrz hl hoc hOR
                  go_wp2_with fail
                  refine HMn.out.mono ?_
                  rintro e w3 ⟨rfl, rfl⟩
                  go_wp2_with fail
                  refine HOc.out.mono ?_
                  rintro e w4 ⟨rfl, rfl⟩
                  go_wp2_with fail
                  go_ret3
                  exact ⟨by rw [HA.out]; rfl, HC.out⟩
                | some y =>
                  have h9 : i + 4 ≤ s.size := by
                    have : 3 ≤ rs.size := by
                      rcases Nat.lt_or_ge rs.size 3 with h | h
                      · rw [oct_short h] at hOR; cases hOR
                      · exact h
                    omega
                  have HQ2 := Asd.mk (show R = (unqN m' (s.data.toList.drop (i + 4))).map fun x => (acc ++ [y] ++ x.1, x.2) by
                    have := HQ.out
                    rw [h5, HDr.out, unq_oct hml hoc, List.drop_drop] at this
                    rw [this, show i + 1 + 1 + 2 = i + 4 by omega]
                    cases unqN m' (s.data.toList.drop (i + 4)) <;> simp)
                  clear HQ hml hrz hl hoc hOR
                  go_wp2_with fail
                  refine HMn.out.mono ?_
                  rintro e w3 ⟨rfl, rfl⟩
                  go_wp2_with fail
                  refine HOc.out.mono ?_
                  rintro e w4 ⟨rfl, rfl⟩
                  go_wp2_with (first | (at_builtin; refine wpList_append_own _ rfl (.tmp 85) (.tmp 87) 164 rfl w1.heap.size 5 i0 (.int .u8 0) 1 1 Tryz.underlying164 hi0 hz0 hz1 hz2 rfl (by decide) _ acc.length (Lib.byteCells acc) rfl (HR.out.alloc _) ⟨w4.heap.size, 0, none⟩ 1 1 [.int .u8 (y.toNat : Int)] rfl rfl (HNb.out y) (HOne.out y) HMx.out HMy.out (HBs.out y) ?_; intro v' w' hown hgrow hnil; have HOw := Asd.mk hown; have HGr := Asd.mk (grown_chg (HC.out.alloc _) (HR.out.alloc _) (Nat.le_refl _) hgrow); clear hown hgrow hnil; simp only [Act.put, List.setIfInBounds_toArray, List.set_cons_zero, List.set_cons_succ]))
                  go_roundg (s.size + 2 - (i + 4))
                  case rel => exact ⟨i + 4, m', acc ++ [y], by omega, by omega, rfl, by go_num, by rw [List.length_append, List.length_singleton]; omega, by omega, ⟨by rw [List.length_append, List.length_singleton, cells_snoc]; exact HOw.out⟩, HQ2, HGr⟩
                  case measure => omega
          · have t3 : ((c.toNat : Int) != 92) = true := by
              have : c.toNat ≠ 92 := fun e => h5 (UInt8.toNat_inj.1 e)
              simp only [bne_iff_ne, ne_eq]; omega
            have HQ2 := Asd.mk (show R = (unqN m' (s.data.toList.drop (i + 1))).map fun x => (acc ++ [c] ++ x.1, x.2) by
              have := HQ.out
              rw [unq_any h3 h4 h5] at this
              rw [this]
              cases unqN m' (s.data.toList.drop (i + 1)) <;> simp)
            clear HQ
            go_wp2_with (first | (at_builtin; refine wpList_append_own _ rfl (.tmp 52) (.tmp 54) 164 rfl w1.heap.size 5 i0 (.int .u8 0) 1 1 Tryz.underlying164 hi0 hz0 hz1 hz2 rfl (by decide) _ acc.length (Lib.byteCells acc) rfl (HR.out.alloc _) ⟨wr.heap.size, 0, none⟩ 1 1 [.int .u8 (c.toNat : Int)] rfl rfl (HNb.out c) (HOne.out c) HMx.out HMy.out (HBs.out c) ?_; intro v' w' hown hgrow hnil; have HOw := Asd.mk hown; have HGr := Asd.mk (grown_chg (HC.out.alloc _) (HR.out.alloc _) (Nat.le_refl _) hgrow); clear hown hgrow hnil; simp only [Act.put, List.setIfInBounds_toArray, List.set_cons_zero, List.set_cons_succ]))
            go_roundg (s.size + 2 - (i + 1))
            case rel => exact ⟨i + 1, m', acc ++ [c], by omega, by omega, rfl, by go_num, by rw [List.length_append, List.length_singleton]; omega, by omega, ⟨by rw [List.length_append, List.length_singleton, cells_snoc]; exact HOw.out⟩, HQ2, HGr⟩
            case measure => omega
    · obtain rfl : i = s.size := by omega
      have HA := Asd.mk (show R = none by
        have := HQ.out
        obtain ⟨m', rfl⟩ : ∃ m', m = m' + 1 := ⟨m - 1, by omega⟩
        rw [List.drop_of_length_le (by rw [list_size]; exact Nat.le_refl _)] at this
        simpa [unqN] using this)
      clear HQ
      go_wp2_with fail
      go_ret3
      exact ⟨by rw [HA.out]; rfl, HC.out⟩
end Go.Proofs.YthojofeocjmglaaGreatDoor.I
/- The disk's read, of a text that an operation told: the walk. -/
namespace Go.Proofs.YthojofeocjmglaaGreatDoor.I
open Go.RowKit Go.Proofs.YthojofeocjmglaaGreatDoor.B Go.Sort
set_option linter.unusedVariables false
set_option linter.unusedSimpArgs false
theorem index_word (rest : List UInt8) : ∀ word : List UInt8, (32 : UInt8) ∉ word → Lib.index (word ++ 32 :: rest) [32] = (word.length : Int)
  | [], _ => by simp [Lib.index]
  | c :: word, h => by
    have hc : c ≠ 32 := fun e => h (by rw [e]; exact List.mem_cons_self ..)
    have ih := index_word rest word (fun hm => h (List.mem_cons_of_mem _ hm))
    have hp : List.isPrefixOf [32] (c :: (word ++ 32 :: rest)) = false := by simp [List.isPrefixOf, Ne.symm hc]
    rw [List.cons_append]
    unfold Lib.index
    rw [hp, ih]
    simp only [Bool.false_eq_true, if_false]
    rw [show (((word.length : Nat) : Int) == -1) = false by rw [beq_eq_false_iff_ne]; omega]
    simp
theorem cut_word {word : List UInt8} (h : (32 : UInt8) ∉ word) (rest : List UInt8) : Lib.cut (word ++ 32 :: rest) [32] = (word, rest, true) := by
  unfold Lib.cut
  rw [index_word rest word h, if_pos (by omega), Int.toNat_natCast]
  simp
/-- The texts behind the word, apart by spaces. -/
def restL : List (List UInt8) → List UInt8
  | [] => []
  | x :: l => quotB x ++ l.flatMap fun s => 32 :: quotB s
theorem told_rest (word : List UInt8) {L : List (List UInt8)} (h : L ≠ []) : toldL word L = word ++ 32 :: restL L := by
  cases L with
  | nil => exact absurd rfl h
  | cons x l => simp [toldL, restL]
theorem rest_cons (x : List UInt8) (l : List (List UInt8)) : restL (x :: l) = 34 :: (x.flatMap escB ++ 34 :: (l.flatMap fun s => 32 :: quotB s)) := by simp [restL, quotB]
theorem trim_rest (l : List (List UInt8)) : Lib.trimPrefix (l.flatMap fun s => 32 :: quotB s) [32] = restL l := by
  cases l with
  | nil => rfl
  | cons y l => simp [Lib.trimPrefix, Lib.hasPrefix, restL, List.isPrefixOf]
theorem flat_ge : ∀ l : List UInt8, l.length ≤ (l.flatMap escB).length
  | [] => by simp
  | c :: l => by
    have := flat_ge l
    have := (escB_len c).1
    rw [List.flatMap_cons, List.length_append, List.length_cons]
    omega
theorem restL_len (Z : Nat) (L : List (List UInt8)) (h : ∀ x ∈ L, x.length ≤ Z) : (restL L).length ≤ L.length * (4 * Z + 3) := by
  cases L with
  | nil => simp [restL]
  | cons x l =>
    have h1 := told_len Z (x :: l) h
    rw [List.flatMap_cons, List.length_append, List.length_cons] at h1
    show (quotB x ++ l.flatMap fun s => 32 :: quotB s).length ≤ _
    rw [List.length_append]
    omega
set_option maxRecDepth 100000 in
set_option maxHeartbeats 16000000 in
theorem read_told (word : List UInt8) (L : List (List UInt8)) (W : World) (hw : (32 : UInt8) ∉ word) (h0 : L ≠ []) (h2 : L.length ≤ 2) (hz : ∀ x ∈ L, x.length ≤ 268435456) (hwz : word.length ≤ 1000) (hm : MaxLenAt W) :
    Calls Tryz.prog 41 #[.string (nb (toldL word L))] W fun e w' => (∃ v, e = .returned (.tuple #[.string (nb word), v, .bool true]) ∧ RowS w' W.heap.size v (L.map nb)) ∧ Chg [] W w' := by
  obtain ⟨s, hsq⟩ : ∃ s, nb (toldL word L) = s := ⟨_, rfl⟩
  have hsl : s.data.toList = toldL word L := by rw [← hsq, list_nb]
  have hlen := toldL_len word 268435456 L hz
  have hs : s.size ≤ 4294967280 := by
    rw [← list_size, hsl]
    have : L.length * (4 * 268435456 + 3) ≤ 2 * (4 * 268435456 + 3) := Nat.mul_le_mul_right _ h2
    omega
  obtain ⟨m, hmx⟩ := hm
  have hct := Tryz.strings_Cut s ⟨#[32]⟩ m W (by omega) hmx
  rw [hsl, told_rest word h0, show (⟨#[32]⟩ : ByteArray).data.toList = [32] from rfl, cut_word hw] at hct
  have HCt := Asd.mk hct
  rw [hsq]
  have HSq := Asd.mk hsq
  have HZ := Asd.mk hz
  obtain ⟨n, hn⟩ : ∃ n, L.length = n := ⟨_, rfl⟩
  rw [hn] at h2
  have HN := Asd.mk hn
  have HSl := Asd.mk hsl
  clear hct hsl hmx hw hlen hn hsq hz
  (go_enter Tryz.func41, Tryz.ntmps41)
  go_wp2_with fail
  refine HCt.out.mono ?_
  rintro e w1 ⟨rfl, k, rfl⟩
  clear HCt
  go_wp2_with fail
  go_loopg [6, 8] (n + 1) (fun gk v6 v8 wx => ∃ (j : Nat) (rs : ByteArray), j ≤ n ∧ gk = n + 1 - j ∧ v6 = .string rs ∧ Asd (rs.data.toList = restL (L.drop j)) ∧ Asd (RowS wx W.heap.size v8 ((L.take j).map nb)) ∧ Asd (Chg [] W wx))
  case atStart => exact ⟨0, _, by omega, rfl, rfl, ⟨rfl⟩, ⟨World.ownsRow_nil _ _ _ _⟩, ⟨(Chg.refl _ _).drewN k⟩⟩
  case round =>
    obtain ⟨j, rs, hj, rfl, rfl, HRs, HR, HC⟩ := hrel
    have hlj : ((L.take j).map nb).length = j := by rw [List.length_map, List.length_take]; have := HN.out; omega
    obtain ⟨A, c, rfl, _⟩ := own_form HR.out
    have hte := ba_tests rs []
    rw [hlj] at HR ⊢
    by_cases hlt : j < n
    · have hjl : j < L.length := by rw [HN.out]; exact hlt
      obtain ⟨x, hx⟩ : ∃ x, L[j] = x := ⟨_, rfl⟩
      have hdr : L.drop j = x :: L.drop (j + 1) := by rw [List.drop_eq_getElem_cons hjl, hx]
      have hrl := HRs.out
      rw [hdr, rest_cons] at hrl
      have hne : ¬ rs.data.toList = [] := by rw [hrl]; simp
      rw [decide_eq_false hne] at hte
      have hxz := HZ.out x (by rw [← hx]; exact List.getElem_mem hjl)
      have hrsz : rs.size = (restL (L.drop j)).length := by rw [← list_size, HRs.out]
      have hrs1 : rs.size ≤ 4294967280 := by
        rw [hrsz]
        have h1 := restL_len 268435456 (L.drop j) (fun y hy => HZ.out y (List.mem_of_mem_drop hy))
        have h3 : (L.drop j).length ≤ 2 := by rw [List.length_drop]; have := HN.out; omega
        have : (L.drop j).length * (4 * 268435456 + 3) ≤ 2 * (4 * 268435456 + 3) := Nat.mul_le_mul_right _ h3
        omega
      have hun := unquote_calls rs _ wr hrs1 hrl
      rw [unq_flat _ x rs.size (by
        rw [hrsz, hdr, rest_cons]
        have := flat_ge x
        rw [List.length_cons, List.length_append, List.length_cons]
        omega)] at hun
      have HUn := Asd.mk hun
      have k1 : (j : Int) < 2 := by omega
      have HTk := Asd.mk (show (L.take (j + 1)).map nb = (L.take j).map nb ++ [nb x] by rw [List.take_succ_eq_append_getElem hjl, List.map_append, hx]; rfl)
      obtain ⟨tl, htl⟩ : ∃ tl, ((L.drop (j + 1)).flatMap fun s => 32 :: quotB s) = tl := ⟨_, rfl⟩
      have htr := trim_rest (L.drop (j + 1))
      rw [htl] at htr HUn
      have HTr := Asd.mk (fun X => Tryz.strings_TrimPrefix (nb tl) ⟨#[32]⟩ X)
      rw [show (⟨#[32]⟩ : ByteArray).data.toList = [32] from rfl, list_nb, htr] at HTr
      obtain ⟨xb, hxb⟩ : ∃ xb, nb x = xb := ⟨_, rfl⟩
      rw [hxb] at HTk
      have HXb := Asd.mk hxb
      have HLn := Asd.mk (show ((L.take j).map nb).length ≤ 16777216 by omega)
      have HLj := Asd.mk hlj
      clear hdr hrl hne hxz hrsz hun htl htr hx hlj hxb
      go_wp2_with fail
      refine HUn.out.mono ?_
      rintro e w4 ⟨hP, hC4⟩
      have he : e = .returned (.tuple #[.string xb, .string (nb tl), .nilIface]) := by rw [← HXb.out]; exact hP
      subst he
      have HC4 := Asd.mk (HC.out.trans hC4)
      have HR4 := Asd.mk (show w4.ownsRow W.heap.size 9 1 (.slice A j c) ((L.take j).map nb).length (((L.take j).map nb).map Value.string) from by
        exact own_off HR.out hC4 (fun _ _ => by simp))
      have HBn := Asd.mk (hp_new w4 (.cells #[.string xb] 9))
      clear hP hC4 HUn HR
      go_wp2_with (first | (refine wpList_buildStr rfl xb (w4.heap.size) rfl (.tmp 34) rfl rfl ?_; simp only [Act.put, List.setIfInBounds_toArray, List.set_cons_zero, List.set_cons_succ]) | (at_builtin; refine wpList_append9 rfl (.tmp 33) (.tmp 35) rfl W.heap.size _ ((L.take j).map nb) rfl (HR4.out.alloc _) xb w4.heap.size rfl HBn.out HLn.out (Nat.le_trans HC4.out.size (by simp)) ?_; intro v' w' hown hgrow; have HOw := Asd.mk hown; have HGr := Asd.mk (grown_chg (HC4.out.alloc _) (HR4.out.alloc _) (Nat.le_refl _) hgrow); clear hown hgrow; simp only [Act.put, List.setIfInBounds_toArray, List.set_cons_zero, List.set_cons_succ]))
      refine (HTr.out _).mono ?_
      rintro e w6 ⟨rfl, rfl⟩
      go_wp2_with fail
      go_roundg (n + 1 - (j + 1))
      case rel => exact ⟨j + 1, _, by omega, by omega, rfl, ⟨by simp⟩, ⟨by rw [HTk.out]; exact HOw.out⟩, HGr⟩
      case measure => omega
    · obtain rfl : j = n := by omega
      have hnil : rs.data.toList = [] := by rw [HRs.out, List.drop_of_length_le (by have := HN.out; omega)]; rfl
      rw [decide_eq_true hnil] at hte
      have hLm : (L.take j).map nb = L.map nb := by rw [List.take_of_length_le (by have := HN.out; omega)]
      have hRf : RowS wr W.heap.size (.slice A j c) (L.map nb) := by
        have := HR.out
        rw [hLm] at this
        exact this
      have HRf := Asd.mk hRf
      have htl := tell_calls (nb word) (.slice A j c) (L.map nb) wr (strL_of_own hRf) (fun x hx => by
        obtain ⟨y, hy, rfl⟩ := List.mem_map.1 hx
        rw [nb_size]
        have := HZ.out y hy
        omega) (by rw [List.length_map, HN.out]; exact h2) (by rw [nb_size]; omega)
      rw [list_nb, List.map_map, show ((fun x : ByteArray => x.data.toList) ∘ nb) = id from by funext y; exact list_nb y, List.map_id, HSq.out] at htl
      have HTl := Asd.mk htl
      have heq : (s.toList == s.toList) = true := by simp
      clear hnil hLm hRf htl hlj HR
      go_wp2_with fail
      refine HTl.out.mono ?_
      rintro e w4 ⟨rfl, hC4⟩
      have HC4 := Asd.mk (HC.out.trans hC4)
      have HR4 := Asd.mk (show RowS w4 W.heap.size (.slice A j c) (L.map nb) from own_off HRf.out hC4 (fun _ _ => by simp))
      clear hC4 HTl
      go_wp2_with fail
      go_ret3
      exact ⟨⟨_, rfl, HR4.out⟩, HC4.out⟩
end Go.Proofs.YthojofeocjmglaaGreatDoor.I
/- The log leads from what is safe to what is now, and each of its operations is done anew: plain. -/
namespace Go.Proofs.YthojofeocjmglaaGreatDoor.I
open Go.RowKit Go.Proofs.YthojofeocjmglaaGreatDoor.B Go.Sort
set_option linter.unusedVariables false
/-- Each operation of a list is done, one behind the other. -/
def RunsOk (b n : Nat) (fs : FS) (l : List OpV) : Prop := ∀ l1 o l2, l = l1 ++ o :: l2 → (opF (runAll b n fs l1) b n o).1 = 0
theorem runs_nil (b n : Nat) (fs : FS) : RunsOk b n fs [] := fun l1 o l2 h => by simp at h
theorem runs_snoc {b n : Nat} {fs : FS} {l : List OpV} {o : OpV} (h : RunsOk b n fs l) (ho : (opF (runAll b n fs l) b n o).1 = 0) : RunsOk b n fs (l ++ [o]) := fun l1 o' l2 e => by
  rcases List.eq_nil_or_concat l2 with rfl | ⟨l3, z, rfl⟩
  · have e2 : l ++ [o] = l1 ++ [o'] := e
    obtain ⟨h1, h2⟩ := List.append_inj' e2 rfl
    rw [← h1]
    simp only [List.cons.injEq, and_true] at h2
    rw [← h2]
    exact ho
  · have e2 : l ++ [o] = (l1 ++ o' :: l3) ++ [z] := by rw [e]; simp
    obtain ⟨h1, _⟩ := List.append_inj' e2 rfl
    exact h l1 o' l3 h1
/-- A disk whose log's operations all were done. -/
def LogOk (b n : Nat) (d : DK) : Prop := d.off = false → RunsOk b n d.safe d.log
theorem log_count {b n : Nat} {d : DK} (h : LogOk b n d) : LogOk b n (countD b n d).2 := by
  unfold countD
  split
  · exact h
  · split
    · exact fun e => by cases e
    · split
      · exact h
      · exact h
theorem log_do {b n : Nat} {d : DK} (hd : DOk b n d) (h : LogOk b n d) (o : OpV) : LogOk b n (doD b n d o).2 := by
  unfold doD
  split
  · exact log_count h
  · split
    · exact log_count h
    · rename_i h0 h1
      intro e
      have hc := countD_ok hd
      have hl := log_count h
      refine runs_snoc (hl e) ?_
      rw [(op_eqv (hc.led e) (runAll_keep _ hc.safe hc.rsafe).2 o).1]
      exact Classical.not_not.1 h1
theorem log_sync {b n : Nat} {d : DK} (h : LogOk b n d) : LogOk b n (syncD b n d).2 := by
  unfold syncD
  split
  · exact log_count h
  · exact fun _ => runs_nil b n _
/-- All of a list, on a disk: how many were done, and what it is then. -/
noncomputable def replD (b n : Nat) : List OpV → DK → Nat × DK
  | [], d => (0, d)
  | o :: l, d => if (doD b n d o).1 ≠ 0 then (0, (doD b n d o).2) else ((replD b n l (doD b n d o).2).1 + 1, (replD b n l (doD b n d o).2).2)
theorem do_ran {b n : Nat} {d : DK} (o : OpV) (h : d.off = false) (h2 : d.downs = 0) (h3 : d.fails = 0) (ho : (opF d.now b n o).1 = 0) : doD b n d o = (0, { d with steps := d.steps + 1, now := (opF d.now b n o).2, log := d.log ++ [o] }) := by
  unfold doD countD
  rw [h]
  simp only [Bool.false_eq_true, if_false]
  rw [if_neg (show ¬ d.steps + 1 = d.downs by omega), if_neg (show ¬ d.steps + 1 = d.fails by omega)]
  simp [ho]
/-- A clone that was safe does what the log tells: all of it, and is as the disk. -/
theorem repl_all {b n : Nat} : ∀ (l : List OpV) (d : DK), d.off = false → d.downs = 0 → d.fails = 0 → RunsOk b n d.now l → (replD b n l d).1 = l.length ∧ (replD b n l d).2.now = runAll b n d.now l ∧ (replD b n l d).2.log = d.log ++ l
  | [], d, _, _, _, _ => ⟨rfl, rfl, by simp [replD]⟩
  | o :: l, d, h1, h2, h3, h => by
    have ho : (opF d.now b n o).1 = 0 := h [] o l rfl
    have hd := do_ran o h1 h2 h3 ho
    obtain ⟨e1, e2, e3⟩ := repl_all l (doD b n d o).2 (by rw [hd]; exact h1) (by rw [hd]; exact h2) (by rw [hd]; exact h3) (by
      rw [hd]
      intro l1 o' l2 e
      have := h (o :: l1) o' l2 (by rw [e]; rfl)
      exact this)
    simp only [replD]
    rw [if_neg (by rw [hd]; simp), e1, e2, e3, hd]
    refine ⟨rfl, rfl, by simp⟩
end Go.Proofs.YthojofeocjmglaaGreatDoor.I
