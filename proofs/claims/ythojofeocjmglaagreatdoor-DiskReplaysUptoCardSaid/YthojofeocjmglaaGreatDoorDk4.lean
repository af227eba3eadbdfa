/- Merged out of these texts: IRow, Way, At, There, TabPut. -/
import Derived.Test.YthojofeocjmglaaGreatDoorDk2
import Derived.Great.BuildSlice
import Derived.Great.FillDense
import Derived.Test.YthojofeocjmglaaGreatDoorDk3
import Derived.Laws.Tables
import Derived.Laws.Rows
/- A row of strings that one makes, or reads. -/
namespace Go.Proofs.YthojofeocjmglaaGreatDoor.I
open Go.RowKit Go.Proofs.YthojofeocjmglaaGreatDoor.B
set_option linter.unusedVariables false
theorem info9 : (Tryz.prog.info? 9).map (fun i => (i.zero, i.size, i.bytes)) = some (some (.string ⟨#[]⟩), 1, 16) := by kernel_rfl
theorem info9' : ∃ ie, Tryz.prog.info? 9 = some ie ∧ ie.zero = some (.string ⟨#[]⟩) ∧ ie.size = 1 ∧ ie.bytes = 16 := by
  cases hie : Tryz.prog.info? 9 with
  | none => have := info9; rw [hie] at this; cases this
  | some ie =>
    have h := info9
    rw [hie] at h
    simp only [Option.map_some, Option.some.injEq, Prod.mk.injEq] at h
    exact ⟨ie, rfl, h.1, h.2.1, h.2.2⟩
theorem buildStr (s : ByteArray) (w : World) : (Instr.buildSlice 35 1 #[(0, .string s)]).run Tryz.prog w = .ok (.slice (some ⟨w.heap.size, 0, none⟩) 1 1) (w.alloc (.cells #[.string s] 9)) := by
  obtain ⟨ie, h1, h2, h3, h4⟩ := info9'
  refine Go.run_buildSlice w 35 9 1 _ _ ie _ Tryz.underlying35 h1 h2 (by rw [h3]; decide) (by rw [h3]; decide) ?_
  rw [h3]
  have := Great.fill_whole (s := 1) (by omega) [.string s] ((Array.range (1 * 1)).map ((Value.string ⟨#[]⟩).cells[· % (Value.string ⟨#[]⟩).cells.size]!)) (by simp [Value.cells]) (by simp)
  simpa [Value.cells] using this
theorem wp_buildStr (s : ByteArray) {o : Oper} {a : Act} {w : World} {K : Act → World → Prop} {Q : Exit → Act → World → Prop} (x : Operand) (ho : o.op = .buildSlice 35 1 #[(0, x)]) (hx : a.eval x = .string s)
    (h : K (a.put o.dst (.slice (some ⟨w.heap.size, 0, none⟩) 1 1)) (w.alloc (.cells #[.string s] 9))) : o.wp Tryz.prog a w K Q := by
  unfold Oper.wp execOp
  simp only [ho, List.map_toArray, List.map_cons, List.map_nil, hx, Sem.run_bind, buildStr, Result.andThen_ok]
  exact h
theorem wpList_buildStr {ops : Array Oper} {rest : List Oper} {o : Oper} {a : Act} {w : World} {Q : Exit → Act → World → Prop} (hgd : o.guard = none) (s : ByteArray) (n : Nat) (hn : w.heap.size = n) (x : Operand) (ho : o.op = .buildSlice 35 1 #[(0, x)]) (hx : a.eval x = .string s)
    (h : wpList Tryz.prog ops Q rest (a.put o.dst (.slice (some ⟨n, 0, none⟩) 1 1)) (w.alloc (.cells #[.string s] 9))) : wpList Tryz.prog ops Q (o :: rest) a w :=
  wpList_plain hgd fun _ hK => wp_buildStr s x ho hx (hK _ _ (by subst hn; exact h))
theorem wpList_append9 {ops : Array Oper} {rest : List Oper} {o : Oper} {a : Act} {w : World} {Q : Exit → Act → World → Prop} (hgd : o.guard = none) (s x : Operand)
    (ho : o.op = .call { callee := .builtin .append, args := #[s, x], argTypes := #[35, 35] }) (base : Nat) (v : Value) (L : List ByteArray) (hs : a.eval s = v) (hown : w.ownsRow base 9 1 v L.length (L.map Value.string))
    (p : ByteArray) (g : Nat) (hx : a.eval x = .slice (some ⟨g, 0, none⟩) 1 1) (hg : w.heap[g]? = some (.cells #[.string p] 9 (0, 0))) (hL : L.length ≤ 16777216) (hb : base ≤ w.heap.size)
    (h : ∀ v' w', w'.ownsRow base 9 1 v' (L ++ [p]).length ((L ++ [p]).map Value.string) → w.grownBy w' v.ownBlock → wpList Tryz.prog ops Q rest (a.put o.dst v') w') : wpList Tryz.prog ops Q (o :: rest) a w := by
  obtain ⟨ie, h1, h2, h3, h4⟩ := info9'
  refine wpList_append_own _ hgd s x 35 ho base 9 ie _ 1 16 Tryz.underlying35 h1 h2 h3 h4 rfl (by decide) v L.length (L.map Value.string) hs hown ⟨g, 0, none⟩ 1 1 [.string p] hx rfl ?_ (fun u hu => by simp at hu; subst hu; rfl) ?_ ?_ hb ?_
  · intro j u hu
    have h0 : j = 0 := by
      cases j with
      | zero => rfl
      | succ j => simp at hu
    subst h0
    have e : (⟨g, 0, none⟩ : Addr).add 0 = ⟨g, 0, none⟩ := rfl
    rw [e, cell_of_heap hg]
    simpa using hu
  · unfold maxLen; omega
  · omega
  · intro v' w' q1 q2 q3
    refine h v' w' ?_ q2
    rw [List.length_append, List.map_append]
    exact q1
/-- A row of strings in memory. -/
def StrL (w : World) (v : Value) (L : List ByteArray) : Prop := ∃ A c, v = .slice A L.length c ∧ ∀ i, (h : i < L.length) → ∃ a, A = some a ∧ w.cell? (a.add i) = some (.string (L[i]'h))
theorem StrL.chg {w w' : World} {v : Value} {L : List ByteArray} (h : StrL w v L) (hc : Chg [] w w') : StrL w' v L := by
  obtain ⟨A, c, hv, h1⟩ := h
  refine ⟨A, c, hv, fun i hi => ?_⟩
  obtain ⟨a, h2, h3⟩ := h1 i hi
  exact ⟨a, h2, (hc.below.cell (World.block_lt_of_cell? w _ h3)).trans h3⟩
theorem strL_of_own {w : World} {base : Nat} {v : Value} {L : List ByteArray} (h : w.ownsRow base 9 1 v L.length (L.map Value.string)) : StrL w v L := by
  obtain ⟨h1, h2⟩ := h
  rcases h2 with ⟨rfl, h0⟩ | ⟨g, cap, cur, rfl, hb, hg, hn, hc, hsz, ht⟩
  · exact ⟨none, 0, by rw [h0], fun p hp => by omega⟩
  · refine ⟨_, cap, rfl, fun i hi => ⟨_, rfl, ?_⟩⟩
    have e : (⟨g, 0, none⟩ : Addr).add i = ⟨g, i, none⟩ := by
      unfold Addr.add
      split
      · subst_vars; rfl
      · simp
    rw [e, cell_of_heap hg]
    have h3 : (cur.toList.take (L.length * 1))[i]? = (L.map Value.string)[i]? := by rw [ht]
    rw [List.getElem?_take_of_lt (by omega), List.getElem?_map, List.getElem?_eq_getElem hi] at h3
    simpa using h3
theorem chg_rgrown {L : List Nat} {a b c : World} {row : Option Nat} (h : Chg L a b) (k : b.grownBy c row) (hr : ∀ g, row = some g → g < a.heap.size → g ∈ L) : Chg L a c :=
  ⟨k.os.trans h.os, k.tape.trans h.tape, k.output.trans h.output, Nat.le_trans h.size k.size, fun i hi hn =>
    (k.block i (Nat.lt_of_lt_of_le hi h.size) (fun e => hn (hr i e.symm hi))).trans (h.block i hi hn)⟩
theorem grown_chg {w wr w' : World} {base : Nat} {t : TypeId} {z n : Nat} {v : Value} {l : List Value} (hc : Chg [] w wr) (ho : wr.ownsRow base t z v n l) (hb : w.heap.size ≤ base) (hg : wr.grownBy w' v.ownBlock) : Chg [] w w' :=
  chg_rgrown hc hg (fun g e hk => by have := (ho.lt g e).1; omega)
end Go.Proofs.YthojofeocjmglaaGreatDoor.I
/- The program's way: the walk. -/
namespace Go.Proofs.YthojofeocjmglaaGreatDoor.I
open Go.RowKit Go.Proofs.YthojofeocjmglaaGreatDoor.B
set_option linter.unusedVariables false
def wayPost (fs : FS) (A : Pth → Nat) (p : Pth) (e : Ending) : Prop := match wayE fs p with
  | none => e = .returned (.tuple #[(.agg #[.pointer (dirA A p), .string (lastS p), .pointer (kidA fs A p)]), .nilIface])
  | some n => e = .returned (.tuple #[(.agg #[.pointer none, .string ⟨#[]⟩, .pointer none]), .iface 88 (.int .i64 (n : Int))])
theorem size_place (a b c : Value) : (Tryz.prog.info? 127).map (·.size) = some (#[a, b, c]).size := by kernel_rfl
set_option maxRecDepth 100000 in
set_option maxHeartbeats 16000000 in
theorem way_calls (L : List Nat) (t : Nat) (fs : FS) (by' nd : Nat) (A M : Pth → Nat) (p : Pth) (g c : Nat) (w : World) (hT : TabAt w L t fs by' nd A M) (hg : FsOk fs) (hp : p ≠ []) (hN : NmR w g 0 p) (hl : p.length ≤ 65) (hc : p.length ≤ c) :
    Calls Tryz.prog 106 #[(.pointer (some ⟨t, 0, none⟩)), .slice (some ⟨g, 0, none⟩) p.length c] w fun e w' => wayPost fs A p e ∧ Chg [] w w' := by
  obtain ⟨m, hm⟩ : ∃ m, p.length = m + 1 := ⟨p.length - 1, by have := List.length_pos_iff.2 hp; omega⟩
  obtain ⟨R, hR⟩ : ∃ R, wayE fs p = R := ⟨_, rfl⟩
  have k6 : IntKind.i64.wrap (m : Int) = (m : Int) := w64 (by omega) (by omega)
  have HT := Asd.mk hT
  have HN := Asd.mk hN
  have HG := Asd.mk hg
  have HR := Asd.mk hR
  have t0 : (((m : Int) + 1) == 0) = false := by simp; omega
  have HC := Asd.mk (show Chg [] w (w.alloc (.cells #[.pointer none, .string ⟨#[]⟩, .pointer none] 127)) from (Chg.refl _ _).alloc _)
  have HT1 := Asd.mk (HT.out.keep0 HC.out)
  have HN1 := Asd.mk (HN.out.keep HC.out (by simp))
  have r0 : ((w.alloc (.cells #[.pointer none, .string ⟨#[]⟩, .pointer none] 127))).cell? ⟨t, 0, none⟩ = some (.pointer (some ⟨A [], 0, none⟩)) := cell_of_heap HT1.out.tab 0
  rw [hm]
  clear hT hN hg hR
  go_enter Tryz.func106, Tryz.ntmps106
  have k2 : (m : Int) ≤ (m : Int) + 1 := by omega
  have k3 : (m : Int) ≤ (c : Int) := by omega
  clear HT HN
  go_wp2
  go_loopg [6, 29] (m + 1) (fun gk v6 v29 wx => (w.alloc (.cells #[.pointer none, .string ⟨#[]⟩, .pointer none] 127)) = wx ∧ ∃ i : Nat, i ≤ m ∧ gk = m + 1 - i ∧ v29 = .int .i64 (i : Int) ∧ v6 = (.pointer (some ⟨A (p.take i), 0, none⟩)) ∧ Asd (wayFrom fs (p.take i) (p.drop i) = R) ∧ Asd (∃ x, fs.at (p.take i) = some x ∧ x.kind = 2))
  case atStart => exact ⟨rfl, 0, by omega, rfl, rfl, by rw [List.take_zero], ⟨by rw [List.take_zero, List.drop_zero]; exact HR.out⟩, ⟨_, rfl, rfl⟩⟩
  case round =>
    obtain ⟨rfl, i, hi, rfl, rfl, rfl, HWy, HD⟩ := hrel
    have hip : i < p.length := by omega
    obtain ⟨n, hn⟩ : ∃ n, p[i] = n := ⟨_, rfl⟩
    obtain ⟨x, hx, hxk⟩ := HD.out
    have hcell : ((w.alloc (.cells #[.pointer none, .string ⟨#[]⟩, .pointer none] 127))).cell? ⟨g, i, none⟩ = some (.string (nb n)) := by
      have h := HN1.out.cell hip
      rw [Nat.zero_add, hn] at h
      exact h
    have hno := HT1.out.node _ _ hx
    rw [if_pos hxk] at hno
    have c2 : ((w.alloc (.cells #[.pointer none, .string ⟨#[]⟩, .pointer none] 127))).cell? ⟨A (p.take i), 2, none⟩ = some (.map (some (M (p.take i)))) := cell_of_heap hno 2
    have hlook := look_kid HT1.out hx hxk n
    have htk : p.take i ++ [n] = p.take (i + 1) := by rw [List.take_succ_eq_append_getElem hip, hn]
    by_cases hlt : i < m
    · have k1 : (i : Int) < (m : Int) := by omega
      obtain ⟨n2, r, hdr⟩ : ∃ n2 r, p.drop i = n :: n2 :: r := by
        have h1 := List.drop_eq_getElem_cons (l := p) (i := i) (by omega)
        have h2 := List.drop_eq_getElem_cons (l := p) (i := i + 1) (by omega)
        rw [h2, hn] at h1
        exact ⟨_, _, h1⟩
      have hw := HWy.out
      rw [hdr] at hw
      simp only [wayFrom] at hw
      have hdr2 : p.drop (i + 1) = n2 :: r := by
        have : p.drop (i + 1) = (p.drop i).drop 1 := by rw [List.drop_drop]
        rw [this, hdr]; rfl
      rw [htk] at hw hlook
      unfold kidA at hlook
      cases hy : fs.at (p.take (i + 1)) with
      | none =>
        rw [hy] at hw hlook
        simp only at hw
        rw [show (none : Option Nd).map (fun _ => (⟨A (p.take (i + 1)), 0, none⟩ : Addr)) = none from rfl] at hlook
        have HP := Asd.mk (show wayPost fs A p (.returned (.tuple #[(.agg #[.pointer none, .string ⟨#[]⟩, .pointer none]), .iface 88 (.int .i64 200)])) by unfold wayPost; rw [HR.out, ← hw]; rfl)
        clear hw hy hdr hdr2 htk hn hx hxk HWy HD hno
        go_wp2
        refine bodyPost_ret (results_row_tmp rfl _ _ w.heap.size 127 _ (0, 0) _ rfl (hp_new _ _) Tryz.underlying127 rfl (size_place _ _ _)) rfl ?_
        exact ⟨HP.out, (Chg.refl _ _).alloc _⟩
      | some y =>
        rw [hy] at hw hlook
        simp only at hw
        rw [show (some y).map (fun _ => (⟨A (p.take (i + 1)), 0, none⟩ : Addr)) = some ⟨A (p.take (i + 1)), 0, none⟩ from rfl] at hlook
        have hno2 := HT1.out.node _ _ hy
        have y0 : ((w.alloc (.cells #[.pointer none, .string ⟨#[]⟩, .pointer none] 127))).cell? ⟨A (p.take (i + 1)), 0, none⟩ = some (.int .i64 (y.kind : Int)) := cell_of_heap hno2 0
        have hkk := HG.out.kind _ _ hy
        by_cases h1 : y.kind = 1
        · rw [if_pos h1] at hw
          rw [h1] at y0
          have HP := Asd.mk (show wayPost fs A p (.returned (.tuple #[(.agg #[.pointer none, .string ⟨#[]⟩, .pointer none]), .iface 88 (.int .i64 203)])) by unfold wayPost; rw [HR.out, ← hw]; rfl)
          clear hw hy hdr hdr2 htk hn hx hxk HWy HD hno hno2 hkk h1
          go_wp2
          refine bodyPost_ret (results_row_tmp rfl _ _ w.heap.size 127 _ (0, 0) _ rfl (hp_new _ _) Tryz.underlying127 rfl (size_place _ _ _)) rfl ?_
          exact ⟨HP.out, (Chg.refl _ _).alloc _⟩
        · rw [if_neg h1] at hw
          by_cases h3 : y.kind = 3
          · rw [if_pos h3] at hw
            rw [h3] at y0
            have HP := Asd.mk (show wayPost fs A p (.returned (.tuple #[(.agg #[.pointer none, .string ⟨#[]⟩, .pointer none]), .iface 88 (.int .i64 204)])) by unfold wayPost; rw [HR.out, ← hw]; rfl)
            clear hw hy hdr hdr2 htk hn hx hxk HWy HD hno hno2 hkk h1 h3
            go_wp2
            refine bodyPost_ret (results_row_tmp rfl _ _ w.heap.size 127 _ (0, 0) _ rfl (hp_new _ _) Tryz.underlying127 rfl (size_place _ _ _)) rfl ?_
            exact ⟨HP.out, (Chg.refl _ _).alloc _⟩
          · rw [if_neg h3] at hw
            have h2 : y.kind = 2 := by omega
            rw [h2] at y0
            have HW2 := Asd.mk (show wayFrom fs (p.take (i + 1)) (p.drop (i + 1)) = R by rw [hdr2]; exact hw)
            have HD2 := Asd.mk (show ∃ x, fs.at (p.take (i + 1)) = some x ∧ x.kind = 2 from ⟨y, hy, h2⟩)
            clear hw hy hdr hdr2 htk hn hx hxk HWy HD hno hno2 hkk h1 h3 h2
            go_wp2
            go_roundg (m + 1 - (i + 1))
            case rel => exact ⟨rfl, i + 1, by omega, by omega, by go_num, rfl, HW2, HD2⟩
            case measure => omega
    · obtain rfl : i = m := by omega
      have hdr : p.drop i = [n] := by
        have h1 := List.drop_eq_getElem_cons (l := p) (i := i) (by omega)
        have h2 : p.drop (i + 1) = [] := List.drop_eq_nil_of_le (by omega)
        rw [hn, h2] at h1
        exact h1
      have hw := HWy.out
      rw [hdr] at hw
      simp only [wayFrom] at hw
      have htp : p.take (i + 1) = p := List.take_of_length_le (by omega)
      rw [htp] at htk
      have hdl : p.dropLast = p.take i := by rw [List.dropLast_eq_take, hm, Nat.add_sub_cancel]
      have hgl : p.getLastD [] = n := by
        rw [← htk]; simp
      rw [htk] at hlook
      have HP := Asd.mk (show wayPost fs A p (.returned (.tuple #[(.agg #[.pointer (dirA A p), .string (lastS p), .pointer (kidA fs A p)]), .nilIface])) by unfold wayPost; rw [HR.out, ← hw])
      have HPV := Asd.mk (show dirA A p = some ⟨A (p.take i), 0, none⟩ ∧ lastS p = nb n from ⟨by unfold dirA; rw [if_neg hp, hdl], by unfold lastS; rw [if_neg hp, hgl]⟩)
      obtain ⟨ka, hka⟩ : ∃ a, kidA fs A p = a := ⟨_, rfl⟩
      rw [hka] at hlook
      have HKA := Asd.mk hka
      clear hw hdr htk htp hdl hgl hn hx hxk HWy HD hno hka
      have kq : ((i : Int) + 1 - 1) = (i : Int) := by omega
      go_wp2
      refine bodyPost_ret (results_row_tmp rfl _ _ w.heap.size 127 _ (0, 0) _ rfl (hp_new _ _) Tryz.underlying127 rfl (size_place _ _ _)) rfl ?_
      exact ⟨by rw [← HKA.out, ← HPV.out.1, ← HPV.out.2]; exact HP.out, (Chg.refl _ _).alloc _⟩
set_option maxRecDepth 100000 in
set_option maxHeartbeats 16000000 in
theorem way_root (L : List Nat) (t : Nat) (fs : FS) (by' nd : Nat) (A M : Pth → Nat) (w : World) (hT : TabAt w L t fs by' nd A M) :
    Calls Tryz.prog 106 #[(.pointer (some ⟨t, 0, none⟩)), .slice none 0 0] w fun e w' => wayPost fs A [] e ∧ Chg [] w w' := by
  have HC := Asd.mk (show Chg [] w (w.alloc (.cells #[.pointer none, .string ⟨#[]⟩, .pointer none] 127)) from (Chg.refl _ _).alloc _)
  have HT1 := Asd.mk (hT.keep0 HC.out)
  have r0 : ((w.alloc (.cells #[.pointer none, .string ⟨#[]⟩, .pointer none] 127))).cell? ⟨t, 0, none⟩ = some (.pointer (some ⟨A [], 0, none⟩)) := cell_of_heap HT1.out.tab 0
  clear hT
  go_enter Tryz.func106, Tryz.ntmps106
  go_wp2
  refine bodyPost_ret (results_row_tmp rfl _ _ w.heap.size 127 _ (0, 0) _ rfl (hp_new _ _) Tryz.underlying127 rfl (size_place _ _ _)) rfl ?_
  exact ⟨by unfold wayPost wayE; simp only [wayFrom, dirA, lastS, kidA, at_root, if_true, Option.map_some]; rfl, (Chg.refl _ _).alloc _⟩
end Go.Proofs.YthojofeocjmglaaGreatDoor.I
/- The program's at, there: the walks. -/
namespace Go.Proofs.YthojofeocjmglaaGreatDoor.I
open Go.RowKit Go.Proofs.YthojofeocjmglaaGreatDoor.B Go.Sort
set_option linter.unusedVariables false
theorem one_place (a c : Option Addr) (b : ByteArray) : (#[Value.pointer a, .string b, .pointer c]).all (·.oneCell') = true := by kernel_rfl
/-- The way to a path, from its text; the error's number. -/
def atE (fs : FS) (s : ByteArray) : Except Nat Pth := match partsF s with
  | .error n => .error n
  | .ok p => match wayE fs p with
    | some n => .error n
    | none => .ok p
def AtPost (fs : FS) (A : Pth → Nat) (R : Except Nat Pth) (e : Ending) : Prop := match R with
  | .ok p => e = .returned (.tuple #[.agg #[.pointer (dirA A p), .string (lastS p), .pointer (kidA fs A p)], .nilIface])
  | .error n => e = .returned (.tuple #[(.agg #[.pointer none, .string ⟨#[]⟩, .pointer none]), .iface 88 (.int .i64 (n : Int))])
theorem partsF_len {s : ByteArray} {p : Pth} (h : partsF s = .ok p) : p.length ≤ 64 := by
  unfold partsF at h
  split at h
  · cases h
  · split at h
    · cases h; simp
    · split at h
      · cases h
      · split at h
        · cases h
        · cases h; omega
set_option maxRecDepth 100000 in
set_option maxHeartbeats 16000000 in
theorem at_calls (L : List Nat) (t : Nat) (fs : FS) (by' nd : Nat) (A M : Pth → Nat) (s : ByteArray) (w : World) (hT : TabAt w L t fs by' nd A M) (hg : FsOk fs) (hm : MaxLenAt w) (hs : s.size ≤ 4294967280) :
    Calls Tryz.prog 100 #[(.pointer (some ⟨t, 0, none⟩)), .string s] w fun e w' => AtPost fs A (atE fs s) e ∧ Chg [] w w' := by
  have HC0 := Asd.mk (show Chg [] w (w.alloc (.cells #[.pointer none, .string ⟨#[]⟩, .pointer none] 127)) from (Chg.refl _ _).alloc _)
  have HT0 := Asd.mk (hT.keep0 HC0.out)
  have HP := Asd.mk (parts_calls s (w.alloc (.cells #[.pointer none, .string ⟨#[]⟩, .pointer none] 127)) (hm.chg HC0.out) hs)
  have HZ0 := Asd.mk (hp_new w (.cells #[.pointer none, .string ⟨#[]⟩, .pointer none] 127))
  have HG := Asd.mk hg
  obtain ⟨B, hB⟩ : ∃ B, w.heap.size = B := ⟨_, rfl⟩
  rw [hB] at HZ0
  have hBw : ¬ B < w.heap.size := by omega
  obtain ⟨R, hR⟩ : ∃ R, partsF s = R := ⟨_, rfl⟩
  rw [hR] at HP
  clear hT hg hm
  cases R with
  | error n =>
    have HA := Asd.mk (show atE fs s = .error n by unfold atE; rw [hR])
    clear hR
    go_enter Tryz.func100, Tryz.ntmps100
    go_wp2_with fail
    refine HP.out.mono ?_
    rintro e w1 ⟨rfl, hC1⟩
    have HZ := Asd.mk (hC1.heap HZ0.out (by simp))
    have HC1 := Asd.mk (HC0.out.trans hC1)
    clear hC1
    go_wp2_with (first | (refine wpList_store_row (o := ⟨none, _, _, _, _, _⟩) rfl 127 (.tmp 4) (.tmp 15) rfl B _ rfl rfl 127 _ HZ.out (size_place _ _ _) rfl (one_place _ _ _) ?_))
    refine bodyPost_ret (results_row_tmp rfl _ _ B 127 _ (0, 0) _ rfl (setRow_heap _ _ _ _ _ _ HZ.out) Tryz.underlying127 rfl (size_place _ _ _)) rfl ?_
    exact ⟨by rw [HA.out]; rfl, HC1.out.setRow (by omega) _⟩
  | ok p =>
    have hl := partsF_len hR
    have HA := Asd.mk (show atE fs s = match wayE fs p with | some n => .error n | none => .ok p by unfold atE; rw [hR])
    have HWy := Asd.mk (fun (v : Value) (W : World) (hc : Chg [] (w.alloc (.cells #[.pointer none, .string ⟨#[]⟩, .pointer none] 127)) W) (hv : (p = [] ∧ v = .slice none 0 0) ∨ (p ≠ [] ∧ ∃ g, v = .slice (some ⟨g, 0, none⟩) p.length p.length ∧ NmR W g 0 p)) =>
      show Calls Tryz.prog 106 #[(.pointer (some ⟨t, 0, none⟩)), v] W fun e w' => wayPost fs A p e ∧ Chg [] W w' from by
        rcases hv with ⟨rfl, rfl⟩ | ⟨h1, g, rfl, h2⟩
        · exact way_root L t fs by' nd A M W (HT0.out.keep0 hc)
        · exact way_calls L t fs by' nd A M p g p.length W (HT0.out.keep0 hc) HG.out h1 h2 (by omega) (Nat.le_refl _))
    clear hR
    go_enter Tryz.func100, Tryz.ntmps100
    go_wp2_with fail
    refine HP.out.mono ?_
    rintro e w1 ⟨hP, hC1⟩
    have hPV : ∃ A1 n1, e = .returned (.tuple #[.slice A1 n1 n1, .nilIface]) ∧ ((p = [] ∧ Value.slice A1 n1 n1 = .slice none 0 0) ∨ (p ≠ [] ∧ ∃ g, Value.slice A1 n1 n1 = .slice (some ⟨g, 0, none⟩) p.length p.length ∧ NmR w1 g 0 p)) := by
      rcases hP with ⟨h1, h2⟩ | ⟨h1, g, h2, h3⟩
      · exact ⟨none, 0, h2, .inl ⟨h1, rfl⟩⟩
      · exact ⟨_, _, h2, .inr ⟨h1, g, rfl, h3⟩⟩
    obtain ⟨A1, n1, rfl, hv⟩ := hPV
    have HW1 := Asd.mk (HWy.out _ w1 hC1 hv)
    have HZ1 := Asd.mk (hC1.heap HZ0.out (by simp))
    have HC1 := Asd.mk (HC0.out.trans hC1)
    clear hC1 hP hv HWy
    go_wp2_with fail
    refine HW1.out.mono ?_
    rintro e w2 ⟨hPo, hC2⟩
    have HZ := Asd.mk (hC2.heap HZ1.out (by simp))
    have HC2 := Asd.mk (HC1.out.trans hC2)
    clear hC2 HW1
    unfold wayPost at hPo
    cases hw : wayE fs p with
    | none =>
      rw [hw] at hPo HA
      simp only at hPo
      subst hPo
      clear hw
      go_wp2_with (first | (refine wpList_store_row (o := ⟨none, _, _, _, _, _⟩) rfl 127 (.tmp 4) (.tmp 20) rfl B _ rfl rfl 127 _ HZ.out (size_place _ _ _) rfl (one_place _ _ _) ?_))
      refine bodyPost_ret (results_row_tmp rfl _ _ B 127 _ (0, 0) _ rfl (setRow_heap _ _ _ _ _ _ HZ.out) Tryz.underlying127 rfl (size_place _ _ _)) rfl ?_
      exact ⟨by rw [HA.out]; rfl, HC2.out.setRow (by omega) _⟩
    | some n =>
      rw [hw] at hPo HA
      simp only at hPo
      subst hPo
      clear hw
      go_wp2_with (first | (refine wpList_store_row (o := ⟨none, _, _, _, _, _⟩) rfl 127 (.tmp 4) (.tmp 20) rfl B _ rfl rfl 127 _ HZ.out (size_place _ _ _) rfl (one_place _ _ _) ?_))
      refine bodyPost_ret (results_row_tmp rfl _ _ B 127 _ (0, 0) _ rfl (setRow_heap _ _ _ _ _ _ HZ.out) Tryz.underlying127 rfl (size_place _ _ _)) rfl ?_
      exact ⟨by rw [HA.out]; rfl, HC2.out.setRow (by omega) _⟩
end Go.Proofs.YthojofeocjmglaaGreatDoor.I
/- The program's there, noFile, directory: the walks. -/
namespace Go.Proofs.YthojofeocjmglaaGreatDoor.I
open Go.RowKit Go.Proofs.YthojofeocjmglaaGreatDoor.B Go.Sort
set_option linter.unusedVariables false
/-- The way to a path at which something must stand; the error's number. -/
def thereE (fs : FS) (s : ByteArray) : Except Nat Pth := match atE fs s with
  | .error n => .error n
  | .ok p => if (fs.at p).isSome = true then .ok p else .error 200
def TherePost (fs : FS) (A : Pth → Nat) (R : Except Nat Pth) (e : Ending) : Prop := match R with
  | .ok p => e = .returned (.tuple #[.agg #[.pointer (dirA A p), .string (lastS p), .pointer (some ⟨A p, 0, none⟩)], .nilIface])
  | .error n => ∃ d l k, e = .returned (.tuple #[.agg #[.pointer d, .string l, .pointer k], .iface 88 (.int .i64 (n : Int))])
set_option maxRecDepth 100000 in
set_option maxHeartbeats 16000000 in
theorem there_calls (L : List Nat) (t : Nat) (fs : FS) (by' nd : Nat) (A M : Pth → Nat) (s : ByteArray) (w : World) (hT : TabAt w L t fs by' nd A M) (hg : FsOk fs) (hm : MaxLenAt w) (hs : s.size ≤ 4294967280) :
    Calls Tryz.prog 80 #[(.pointer (some ⟨t, 0, none⟩)), .string s] w fun e w' => TherePost fs A (thereE fs s) e ∧ Chg [] w w' := by
  have HC0 := Asd.mk (show Chg [] w (w.alloc (.cells #[.pointer none, .string ⟨#[]⟩, .pointer none] 127)) from (Chg.refl _ _).alloc _)
  have HP := Asd.mk (at_calls L t fs by' nd A M s (w.alloc (.cells #[.pointer none, .string ⟨#[]⟩, .pointer none] 127)) (hT.keep0 HC0.out) hg (hm.chg HC0.out) hs)
  have HZ0 := Asd.mk (hp_new w (.cells #[.pointer none, .string ⟨#[]⟩, .pointer none] 127))
  obtain ⟨B, hB⟩ : ∃ B, w.heap.size = B := ⟨_, rfl⟩
  rw [hB] at HZ0
  have hBw : ¬ B < w.heap.size := by omega
  obtain ⟨R, hR⟩ : ∃ R, atE fs s = R := ⟨_, rfl⟩
  rw [hR] at HP
  clear hT hg hm
  cases R with
  | error n =>
    have HA := Asd.mk (show thereE fs s = .error n by unfold thereE; rw [hR])
    clear hR
    go_enter Tryz.func80, Tryz.ntmps80
    go_wp2_with fail
    refine HP.out.mono ?_
    rintro e w1 ⟨rfl, hC1⟩
    have HZ1 := Asd.mk (hC1.heap HZ0.out (by simp))
    have HC1 := Asd.mk (HC0.out.trans hC1)
    have HZ := Asd.mk (hp_alloc HZ1.out (.cells #[.pointer none, .string ⟨#[]⟩, .pointer none] 127))
    clear hC1
    go_wp2_with (first | (refine wpList_load_row (o := ⟨some 22, _, _, _, _, _⟩) rfl 127 (.tmp 6) rfl _ rfl 127 _ (0, 0) _ (hp_new _ _) Tryz.underlying127 rfl (size_place _ _ _) ?_) | (refine wpList_store_row (o := ⟨none, _, _, _, _, _⟩) rfl 127 (.tmp 4) (.tmp 22) rfl B _ rfl rfl 127 _ HZ.out (size_place _ _ _) rfl (one_place _ _ _) ?_))
    refine bodyPost_ret (results_row_tmp rfl _ _ B 127 _ (0, 0) _ rfl (setRow_heap _ _ _ _ _ _ HZ.out) Tryz.underlying127 rfl (size_place _ _ _)) rfl ?_
    exact ⟨by rw [HA.out]; exact ⟨_, _, _, rfl⟩, (HC1.out.alloc _).setRow (by omega) _⟩
  | ok p =>
    cases hp : fs.at p with
    | none =>
      have HA := Asd.mk (show thereE fs s = .error 200 by unfold thereE; rw [hR]; simp only; rw [hp]; rfl)
      have HK := Asd.mk (show kidA fs A p = none by unfold kidA; rw [hp]; rfl)
      clear hR hp
      go_enter Tryz.func80, Tryz.ntmps80
      go_wp2_with fail
      refine HP.out.mono ?_
      rintro e w1 ⟨hPo, hC1⟩
      have hPo2 : e = .returned (.tuple #[.agg #[.pointer (dirA A p), .string (lastS p), .pointer none], .nilIface]) := by rw [← HK.out]; exact hPo
      subst hPo2
      have HZ1 := Asd.mk (hC1.heap HZ0.out (by simp))
      have HC1 := Asd.mk (HC0.out.trans hC1)
      have HZ := Asd.mk (hp_alloc HZ1.out (.cells #[.pointer (dirA A p), .string (lastS p), .pointer none] 127))
      clear hC1 hPo
      go_wp2_with (first | (refine wpList_load_row (o := ⟨some 22, _, _, _, _, _⟩) rfl 127 (.tmp 6) rfl _ rfl 127 _ (0, 0) _ (hp_new _ _) Tryz.underlying127 rfl (size_place _ _ _) ?_) | (refine wpList_store_row (o := ⟨none, _, _, _, _, _⟩) rfl 127 (.tmp 4) (.tmp 22) rfl B _ rfl rfl 127 _ HZ.out (size_place _ _ _) rfl (one_place _ _ _) ?_))
      refine bodyPost_ret (results_row_tmp rfl _ _ B 127 _ (0, 0) _ rfl (setRow_heap _ _ _ _ _ _ HZ.out) Tryz.underlying127 rfl (size_place _ _ _)) rfl ?_
      exact ⟨by rw [HA.out]; exact ⟨_, _, _, rfl⟩, (HC1.out.alloc _).setRow (by omega) _⟩
    | some x =>
      have HA := Asd.mk (show thereE fs s = .ok p by unfold thereE; rw [hR]; simp only; rw [hp]; rfl)
      have HK := Asd.mk (show kidA fs A p = some ⟨A p, 0, none⟩ by unfold kidA; rw [hp]; rfl)
      clear hR hp
      go_enter Tryz.func80, Tryz.ntmps80
      go_wp2_with fail
      refine HP.out.mono ?_
      rintro e w1 ⟨hPo, hC1⟩
      have hPo2 : e = .returned (.tuple #[.agg #[.pointer (dirA A p), .string (lastS p), .pointer (some ⟨A p, 0, none⟩)], .nilIface]) := by rw [← HK.out]; exact hPo
      subst hPo2
      have HZ1 := Asd.mk (hC1.heap HZ0.out (by simp))
      have HC1 := Asd.mk (HC0.out.trans hC1)
      have HZ := Asd.mk (hp_alloc HZ1.out (.cells #[.pointer (dirA A p), .string (lastS p), .pointer (some ⟨A p, 0, none⟩)] 127))
      clear hC1 hPo
      go_wp2_with (first | (refine wpList_load_row (o := ⟨some 22, _, _, _, _, _⟩) rfl 127 (.tmp 6) rfl _ rfl 127 _ (0, 0) _ (hp_new _ _) Tryz.underlying127 rfl (size_place _ _ _) ?_) | (refine wpList_store_row (o := ⟨none, _, _, _, _, _⟩) rfl 127 (.tmp 4) (.tmp 22) rfl B _ rfl rfl 127 _ HZ.out (size_place _ _ _) rfl (one_place _ _ _) ?_))
      refine bodyPost_ret (results_row_tmp rfl _ _ B 127 _ (0, 0) _ rfl (setRow_heap _ _ _ _ _ _ HZ.out) Tryz.underlying127 rfl (size_place _ _ _)) rfl ?_
      exact ⟨by rw [HA.out]; rfl, (HC1.out.alloc _).setRow (by omega) _⟩
/-- The answer of noFile. -/
def noFileV (k : Nat) : Value := if k = 2 then .iface 88 (.int .i64 202) else if k = 3 then .iface 88 (.int .i64 204) else .nilIface
set_option maxRecDepth 100000 in
set_option maxHeartbeats 16000000 in
theorem noFile_calls (a : Nat) (x : Nd) (m : Value) (w : World) (hn : w.heap[a]? = some (.cells #[.int .i64 (x.kind : Int), .string x.text, m] 133 (0, 0))) (hk : x.kind = 1 ∨ x.kind = 2 ∨ x.kind = 3) :
    Calls Tryz.prog 102 #[(.pointer (some ⟨a, 0, none⟩))] w fun e w' => e = .returned (noFileV x.kind) ∧ w' = w := by
  have c0 : w.cell? ⟨a, 0, none⟩ = some (.int .i64 (x.kind : Int)) := cell_of_heap hn 0
  clear hn
  rcases hk with hk | hk | hk
  · rw [hk] at c0 ⊢
    go_enter Tryz.func102, Tryz.ntmps102
    go_wp2
    go_ret
    exact ⟨rfl, rfl⟩
  · rw [hk] at c0 ⊢
    go_enter Tryz.func102, Tryz.ntmps102
    go_wp2
    go_ret
    exact ⟨rfl, rfl⟩
  · rw [hk] at c0 ⊢
    go_enter Tryz.func102, Tryz.ntmps102
    go_wp2
    go_ret
    exact ⟨rfl, rfl⟩
theorem make_map (W : World) : (Instr.makeMap 131 none).run Tryz.prog W = .ok (.map (some W.heap.size)) (W.alloc (.map #[] 0)) := by kernel_rfl
set_option maxRecDepth 100000 in
set_option maxHeartbeats 16000000 in
theorem directory_calls (w : World) :
    Calls Tryz.prog 60 #[] w fun e w' => e = .returned (.pointer (some ⟨w.heap.size + 1, 0, none⟩)) ∧ w' = (w.alloc (.map #[] 0)).alloc (.cells #[.int .i64 2, .string ⟨#[]⟩, .map (some w.heap.size)] 133) := by
  have hmk := fun W => make_map W
  go_enter Tryz.func60, Tryz.ntmps60
  go_wp2
  go_ret
  exact ⟨by simp, rfl⟩
end Go.Proofs.YthojofeocjmglaaGreatDoor.I
/- A new node in a directory: what the file system is then, in memory. -/
namespace Go.Proofs.YthojofeocjmglaaGreatDoor.I
open Go.RowKit Go.Proofs.YthojofeocjmglaaGreatDoor.B Go.Sort
set_option linter.unusedVariables false
def updP (f : Pth → Nat) (p : Pth) (v : Nat) : Pth → Nat := fun q => if q = p then v else f q
theorem updP_same (f : Pth → Nat) (p : Pth) (v : Nat) : updP f p v p = v := if_pos rfl
theorem updP_ne (f : Pth → Nat) {p q : Pth} (v : Nat) (h : q ≠ p) : updP f p v q = f q := if_neg h
theorem lookup_append {p : Pth} : ∀ {fs : FS} {x : Pth × Nd}, (fs ++ [x]).lookup p = match fs.lookup p with | some y => some y | none => if p = x.1 then some x.2 else none
  | [], (a, b) => by
    show List.lookup p [(a, b)] = if p = a then some b else none
    rw [List.lookup_cons]
    by_cases h : p = a
    · rw [if_pos h, h]; simp
    · rw [if_neg h]
      have : (p == a) = false := by simp [h]
      rw [this]
      rfl
  | (q, y) :: fs, x => by
    simp only [List.cons_append, List.lookup_cons]
    by_cases h : p = q
    · subst h; simp
    · have : (p == q) = false := by simp [h]
      rw [this]
      simp only
      exact lookup_append
theorem at_put {fs : FS} {p : Pth} (x : Nd) (hp : p ≠ []) (hn : fs.at p = none) (r : Pth) : FS.at (fs ++ [(p, x)]) r = if r = p then some x else fs.at r := by
  unfold FS.at
  by_cases hr : r = []
  · rw [if_pos hr, if_pos hr, if_neg (by rw [hr]; exact Ne.symm hp)]
  · rw [if_neg hr, if_neg hr, lookup_append]
    rw [at_ne fs hp] at hn
    by_cases h : r = p
    · subst h
      rw [hn, if_pos rfl]
    · simp only [if_neg h]
      cases fs.lookup r <;> rfl
theorem snoc_inj {q r : Pth} {m n : Nm} (h : q ++ [m] = r ++ [n]) : q = r ∧ m = n := by
  have := List.append_inj' h rfl
  exact ⟨this.1, by simpa using this.2⟩
theorem snoc_ne (p : Pth) (n : Nm) : p ++ [n] ≠ p := fun e => by have := congrArg List.length e; simp at this
theorem kid_none {fs : FS} (hg : FsOk fs) {p : Pth} (h : fs.at p = none) (n : Nm) : fs.at (p ++ [n]) = none := by
  cases hx : fs.at (p ++ [n]) with
  | none => rfl
  | some x =>
    obtain ⟨y, hy, _⟩ := hg.up p n (by rw [hx]; simp)
    rw [h] at hy
    cases hy
theorem TabAt.ne_tab {w : World} {L : List Nat} {t by' nd : Nat} {fs : FS} {A M : Pth → Nat} (h : TabAt w L t fs by' nd A M) {p : Pth} {x : Nd} (hx : fs.at p = some x) : A p ≠ t := fun e => by
  have h1 := h.node p x hx
  rw [e, h.tab] at h1
  simp only [Option.some.injEq, Obj.cells.injEq] at h1
  exact absurd h1.2.1 (by decide)
theorem TabAt.ne_map {w : World} {L : List Nat} {t by' nd : Nat} {fs : FS} {A M : Pth → Nat} (h : TabAt w L t fs by' nd A M) {p q : Pth} {x y : Nd} (hx : fs.at p = some x) (hy : fs.at q = some y) (hk : y.kind = 2) : A p ≠ M q := fun e => by
  have h1 := h.node p x hx
  obtain ⟨es, clock, K, h2, _⟩ := h.kids q y hy hk
  rw [e, h2] at h1
  cases h1
theorem TabAt.tab_ne_map {w : World} {L : List Nat} {t by' nd : Nat} {fs : FS} {A M : Pth → Nat} (h : TabAt w L t fs by' nd A M) {q : Pth} {y : Nd} (hy : fs.at q = some y) (hk : y.kind = 2) : M q ≠ t := fun e => by
  have h1 := h.tab
  obtain ⟨es, clock, K, h2, _⟩ := h.kids q y hy hk
  rw [← e, h2] at h1
  cases h1
theorem TabAt.put {w w' : World} {L : List Nat} {t by' nd : Nat} {fs : FS} {A M : Pth → Nat} (h : TabAt w L t fs by' nd A M) (hg : FsOk fs) {q : Pth} {n : Nm} {x y : Nd} {c m : Nat} (hq : fs.at q = some y) (hy : y.kind = 2) (hn : fs.at (q ++ [n]) = none)
    (ht : w'.heap[t]? = some (.cells #[(.pointer (some ⟨A [], 0, none⟩)), .int .i64 (by' : Int), .int .i64 (nd : Int), .int .i64 ((usedF fs + x.text.size : Nat) : Int), .int .i64 ((fs.length + 1 : Nat) : Int)] 118 (0, 0)))
    (hmap : ∃ es clock K, w'.heap[M q]? = some (.map es clock) ∧ MKids es clock K ∧ ∀ k, K.lookup k = if k = n then some (.pointer (some ⟨c, 0, none⟩)) else (fs.at (q ++ [k])).map fun _ => (.pointer (some ⟨A (q ++ [k]), 0, none⟩)))
    (hc : w'.heap[c]? = some (.cells #[.int .i64 (x.kind : Int), .string x.text, if x.kind = 2 then .map (some m) else .map none] 133 (0, 0)))
    (hm : x.kind = 2 → w'.heap[m]? = some (.map #[] 0)) (hoth : ∀ i ∈ L, i ≠ t → i ≠ M q → w'.heap[i]? = w.heap[i]?) (hcL : c ∉ L) (hmL : x.kind = 2 → m ∉ L) (hmB : m < w'.heap.size) (hsz : w.heap.size ≤ w'.heap.size) :
    TabAt w' (c :: m :: L) t (fs ++ [(q ++ [n], x)]) by' nd (updP A (q ++ [n]) c) (updP M (q ++ [n]) m) := by
  have hp : q ++ [n] ≠ [] := by simp
  have hat := at_put x hp hn
  have hA0 : updP A (q ++ [n]) c [] = A [] := updP_ne A c (Ne.symm hp)
  have hold : ∀ r z, r ≠ q ++ [n] → FS.at (fs ++ [(q ++ [n], x)]) r = some z → fs.at r = some z := fun r z hr hz => by
    rw [hat r, if_neg hr] at hz
    exact hz
  refine ⟨?_, ?_, ?_, by simp [h.tL], fun i hi => ?_, ?_, ?_, ?_⟩
  · rw [hA0, ht]
    have e1 : usedF (fs ++ [(q ++ [n], x)]) = usedF fs + x.text.size := by unfold usedF; rw [List.map_append, List.sum_append]; simp
    rw [e1, List.length_append]
    rfl
  · intro r z hz
    by_cases hr : r = q ++ [n]
    · subst hr
      rw [hat, if_pos rfl] at hz
      cases hz
      rw [updP_same, updP_same]
      exact hc
    · have hz2 := hold r z hr hz
      rw [updP_ne A c hr, updP_ne M m hr, hoth _ (h.aL r z hz2).1 (h.ne_tab hz2) (h.ne_map hz2 hq hy)]
      exact h.node r z hz2
  · intro r z hz hzk
    by_cases hr : r = q ++ [n]
    · subst hr
      rw [hat, if_pos rfl] at hz
      cases hz
      rw [updP_same]
      refine ⟨#[], 0, [], hm hzk, kids_nil 0, fun k => ?_⟩
      rw [hat, if_neg (snoc_ne _ _), kid_none hg hn k]
      rfl
    · have hz2 := hold r z hr hz
      rw [updP_ne M m hr]
      by_cases hrq : r = q
      · subst hrq
        obtain ⟨es, clock, K, h1, h2, h3⟩ := hmap
        refine ⟨es, clock, K, h1, h2, fun k => ?_⟩
        rw [h3 k, hat]
        by_cases hk : k = n
        · subst hk
          rw [if_pos rfl, if_pos rfl, updP_same]
          rfl
        · have hne : r ++ [k] ≠ r ++ [n] := fun e => hk (snoc_inj e).2
          rw [if_neg hk, if_neg hne, updP_ne A c hne]
      · obtain ⟨es, clock, K, h1, h2, h3⟩ := h.kids r z hz2 hzk
        have hMr : M r ≠ M q := fun e => hrq (h.injM r q z y hz2 hq hzk hy e)
        refine ⟨es, clock, K, ?_, h2, fun k => ?_⟩
        · rw [hoth _ ((h.aL r z hz2).2 hzk) (h.tab_ne_map hz2 hzk) hMr]
          exact h1
        · have hne : r ++ [k] ≠ q ++ [n] := fun e => hrq (snoc_inj e).1
          rw [h3 k, hat, if_neg hne, updP_ne A c hne]
  · rcases List.mem_cons.1 hi with rfl | hi
    · exact lt_of_heap hc
    · rcases List.mem_cons.1 hi with rfl | hi
      · exact hmB
      · exact Nat.lt_of_lt_of_le (h.bl i hi) hsz
  · intro r z hz
    by_cases hr : r = q ++ [n]
    · subst hr
      rw [updP_same, updP_same]
      exact ⟨by simp, fun _ => by simp⟩
    · have hz2 := hold r z hr hz
      rw [updP_ne A c hr, updP_ne M m hr]
      have := h.aL r z hz2
      exact ⟨by simp [this.1], fun hk => by simp [this.2 hk]⟩
  · intro r1 r2 z1 z2 h1 h2 he
    by_cases e1 : r1 = q ++ [n]
    · by_cases e2 : r2 = q ++ [n]
      · rw [e1, e2]
      · subst e1
        rw [updP_same, updP_ne A c e2] at he
        exact absurd (he ▸ (h.aL r2 z2 (hold r2 z2 e2 h2)).1) hcL
    · by_cases e2 : r2 = q ++ [n]
      · subst e2
        rw [updP_same, updP_ne A c e1] at he
        exact absurd (he ▸ (h.aL r1 z1 (hold r1 z1 e1 h1)).1) hcL
      · rw [updP_ne A c e1, updP_ne A c e2] at he
        exact h.injA r1 r2 z1 z2 (hold r1 z1 e1 h1) (hold r2 z2 e2 h2) he
  · intro r1 r2 z1 z2 h1 h2 k1 k2 he
    by_cases e1 : r1 = q ++ [n]
    · by_cases e2 : r2 = q ++ [n]
      · rw [e1, e2]
      · subst e1
        rw [hat, if_pos rfl] at h1
        cases h1
        rw [updP_same, updP_ne M m e2] at he
        exact absurd (he ▸ (h.aL r2 z2 (hold r2 z2 e2 h2)).2 k2) (hmL k1)
    · by_cases e2 : r2 = q ++ [n]
      · subst e2
        rw [hat, if_pos rfl] at h2
        cases h2
        rw [updP_same, updP_ne M m e1] at he
        exact absurd (he ▸ (h.aL r1 z1 (hold r1 z1 e1 h1)).2 k1) (hmL k2)
      · rw [updP_ne M m e1, updP_ne M m e2] at he
        exact h.injM r1 r2 z1 z2 (hold r1 z1 e1 h1) (hold r2 z2 e2 h2) k1 k2 he
end Go.Proofs.YthojofeocjmglaaGreatDoor.I
