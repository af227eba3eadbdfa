/- Merged out of these texts: PieceDef, Laid3, Works, AnyWalk. -/
import Derived.Test.YtgkifphfibcfdaaGreatDoorRu7
import Derived.Test.YtgkifphfibcfdaaGreatDoorRuCompile
import Derived.Test.YtgkifphfibcfdaaGreatDoorRu1
import Derived.Lay
import Derived.Test.YtgkifphfibcfdaaGreatDoorRu3
import Derived.Test.YtgkifphfibcfdaaGreatDoorRuEsc
import Derived.Test.YtgkifphfibcfdaaGreatDoorRuRMatch
import Derived.Test.YtgkifphfibcfdaaGreatDoorRuRComp
import Derived.Deep.LoopGhost
/- The program's pieces and rules in memory. -/
namespace Go.Proofs.YtgkifphfibcfdaaGreatDoor.G
open Go.RowKit Go.Proofs.YtgkifphfibcfdaaGreatDoor.B
set_option linter.unusedVariables false
theorem compile_own (s : ByteArray) (w : World) (hs : s.size ≤ 1024) : Calls Tryz.prog 12 #[.string s] w fun e w' => CompPost2 w (parts s) e w' := compile_calls2 s w hs _ _ (crun_parts s)
theorem GlobH.keeps {T : List TypeId} {w w' : World} {gp : Nat} {L : List PartV} (h : GlobH w gp L) (hk : Keeps T w w') (h1 : 60 ∉ T) (h2 : 66 ∉ T) : GlobH w' gp L := by
  obtain ⟨A, c, hg, ⟨b, ho⟩, hL⟩ := h
  exact ⟨A, c, hk.2 _ _ _ _ hg h1, ⟨b, own_keeps ho hk h2⟩, hL⟩
/-- A piece of the program's: nil, or a pattern. -/
def PPieceH (w : World) (y : PieceV × Value) : Prop := match y.1 with | none => y.2 = .pointer none | some L => ∃ gp, y.2 = .pointer (some ⟨gp, 0, none⟩) ∧ GlobH w gp L
theorem PPieceH.keeps {T : List TypeId} {w w' : World} {y : PieceV × Value} (h : PPieceH w y) (hk : Keeps T w w') (h1 : 60 ∉ T) (h2 : 66 ∉ T) : PPieceH w' y := by
  unfold PPieceH at *
  split
  · rename_i hy; rw [hy] at h; exact h
  · rename_i L hy
    rw [hy] at h
    obtain ⟨gp, e, hg⟩ := h
    exact ⟨gp, e, hg.keeps hk h1 h2⟩
theorem info22 : (Tryz.prog.info? 22).map (fun i => (i.zero, i.size, i.bytes)) = some (some (.pointer none), 1, 8) := by kernel_rfl
theorem info22' : ∃ ie, Tryz.prog.info? 22 = some ie ∧ ie.zero = some (.pointer none) ∧ ie.size = 1 ∧ ie.bytes = 8 := by
  cases hie : Tryz.prog.info? 22 with
  | none => have := info22; rw [hie] at this; cases this
  | some ie =>
    have h := info22
    rw [hie] at h
    simp only [Option.map_some, Option.some.injEq, Prod.mk.injEq] at h
    exact ⟨ie, rfl, h.1, h.2.1, h.2.2⟩
theorem wpList_append85 {ops : Array Oper} {rest : List Oper} {o : Oper} {a : Act} {w : World} {Q : Exit → Act → World → Prop} (hgd : o.guard = none) (s x : Operand)
    (ho : o.op = .call { callee := .builtin .append, args := #[s, x], argTypes := #[85, 85] }) (base : Nat) (v : Value) (Y : List (PieceV × Value)) (hs : a.eval s = v) (hown : w.ownsRow base 22 1 v Y.length (Y.map (·.2)))
    (z : PieceV) (q : Option Addr) (g : Nat) (hx : a.eval x = .slice (some ⟨g, 0, none⟩) 1 1) (hg : w.heap[g]? = some (.cells #[.pointer q] 22 (0, 0))) (hL : Y.length ≤ 16777216) (hb : base ≤ w.heap.size)
    (h : ∀ v' w', w'.ownsRow base 22 1 v' (Y.length + 1) ((Y ++ [((z, Value.pointer q) : PieceV × Value)]).map (·.2)) → w.grownBy w' v.ownBlock → wpList Tryz.prog ops Q rest (a.put o.dst v') w') : wpList Tryz.prog ops Q (o :: rest) a w := by
  obtain ⟨ie, h1, h2, h3, h4⟩ := info22'
  refine wpList_append_own _ hgd s x 85 ho base 22 ie _ 1 8 Tryz.underlying85 h1 h2 h3 h4 rfl (by decide) v Y.length (Y.map (·.2)) hs hown ⟨g, 0, none⟩ 1 1 [.pointer q] hx rfl ?_ (fun u hu => by simp at hu; subst hu; rfl) ?_ ?_ hb ?_
  · intro j u hu
    have h0 : j = 0 := by
      cases j with
      | zero => rfl
      | succ j => simp at hu
    subst h0
    have e : (⟨g, 0, none⟩ : Addr).add 0 = ⟨g, 0, none⟩ := rfl
    rw [e, cell_of_heap hg]
    simpa using hu
  · unfold maxLen; omega
  · omega
  · intro v' w' q1 q2 q3
    refine h v' w' ?_ q2
    rw [List.map_append]
    exact q1
/-- A rule of the program's in memory. -/
def PRuleAt (w : World) (b : Nat) (bk dr rt : Bool) (v : Value) : Prop := w.heap[b]? = some (.cells #[.bool bk, .bool dr, .bool rt, v] 87 (0, 0))
/-- MaxLen of the library's, a number. -/
def MaxLenAt (w : World) : Prop := ∃ m : Int, w.cell? ⟨1, 0, none⟩ = some (.int .i64 m)
theorem MaxLenAt.chg {w w' : World} (h : MaxLenAt w) (hc : Chg [] w w') : MaxLenAt w' := by
  obtain ⟨m, hm⟩ := h
  exact ⟨m, (hc.below.cell (World.block_lt_of_cell? w _ hm)).trans hm⟩
/-- What parse leaves. -/
def PRulePost (w : World) (R : Except Nat RuleV) (e : Ending) (w' : World) : Prop :=
  Chg [] w w' ∧ match R with
  | .ok r => ∃ (v : Value) (Y : List (PieceV × Value)), e = .returned (.tuple #[.agg #[.bool r.back, .bool r.dir, .bool r.rooted, v], .nilIface]) ∧ w'.ownsRow w.heap.size 22 1 v Y.length (Y.map (·.2)) ∧ (∀ y ∈ Y, PPieceH w' y) ∧ Y.map (·.1) = r.pieces
  | .error n => ∃ b1 b2 b3 A k m, e = .returned (.tuple #[.agg #[.bool b1, .bool b2, .bool b3, .slice A k m], .iface 57 (.int .i64 (n : Int))])
/-- The library's Split at one byte, in this text's words. -/
theorem psplit_calls (c : UInt8) (s : ByteArray) (w : World) (hm : MaxLenAt w) (hs : s.size ≤ 4194304) :
    Calls Tryz.prog 34 #[.string s, .string ⟨#[c]⟩] w fun e w' => ∃ v, e = .returned v ∧ Chg [] w w' ∧ v = .slice (some ⟨w.heap.size, 0, none⟩) (spl c.toNat s).length (spl c.toNat s).length ∧ StrR w' w.heap.size 0 (spl c.toNat s) := by
  obtain ⟨m, hm⟩ := hm
  refine (Tryz.strings_Split s ⟨#[c]⟩ m w (by omega) hm (Nat.le_refl 1)).mono ?_
  rintro e w' ⟨rfl, rfl⟩
  rw [count_spl, split_eq]
  refine ⟨_, rfl, (Chg.refl _ _).alloc _, rfl, _, hp_new _ _, fun i hi => ?_⟩
  rw [Nat.zero_add]
  simp [List.getElem?_eq_getElem hi]
end Go.Proofs.YtgkifphfibcfdaaGreatDoor.G
/- The three listed variables of GlobRules and GlobBelow: a world that meets them; internal/bytealg.MaxLen is a number. -/
namespace Go.Proofs.YtgkifphfibcfdaaGreatDoor.G
open Go.ChangeShapes Go.WideShapes Go.ChangeAt Go.RowKit Go.Proofs.YtgkifphfibcfdaaGreatDoor.B
set_option linter.unusedVariables false
abbrev laidTwo : List (String × DataW Unit) := [("unicode/utf8.acceptRanges", Rows.laid_unicode_utf8_acceptRanges), ("unicode/utf8.first", Rows.laid_unicode_utf8_first)]
abbrev laidThree : List (String × DataW Unit) := [("unicode/utf8.acceptRanges", Rows.laid_unicode_utf8_acceptRanges), ("errors.errorType", Rows.laid_errors_errorType), ("unicode/utf8.first", Rows.laid_unicode_utf8_first)]
theorem errType_of_three {W : World} (h : laidMetH Tryz.prog laidThree W) : ErrType W := by
  have h' : laidMet Tryz.prog laidTwo W ∧ handlesMet Tryz.prog laidOne W := h
  exact errType_of_laid (show laidMet Tryz.prog [] W ∧ handlesMet Tryz.prog laidOne W from ⟨laidMet_nil _ _, h'.2⟩)
set_option maxRecDepth 100000 in
theorem maxLen_of_shaped {W : World} (h : W.ShapedOpen Tryz.prog) : MaxLenAt W := by
  obtain ⟨cs, hh, hs, hr⟩ := h.1 1 #[.int .i64 0] 3 (of_decide_eq_true (by kernel_rfl)) (by kernel_rfl)
  obtain ⟨ts, hts, hlen, hall⟩ := hr (by kernel_rfl)
  have hc : Tryz.prog.cellTypes Tryz.prog.depth 3 = some [3] := by kernel_rfl
  rw [hc] at hts
  obtain rfl := Option.some.inj hts
  have h1 : 0 < cs.size := by rw [hs]; decide
  obtain ⟨u, hu', hok⟩ := hall 0 cs[0] (by simp [h1])
  have hu3 : u = 3 := by simpa using hu'.symm
  subst hu3
  have hcell : W.cell? ⟨1, 0, none⟩ = some cs[0] := by simp [World.cell?, hh, h1]
  unfold MaxLenAt
  rw [hcell]
  unfold Cell.ok at hok
  rw [Tryz.underlying3] at hok
  cases hv : cs[0] <;> rw [hv] at hok <;> first | (simp at hok; done) | skip
  obtain ⟨rfl, _⟩ := hok
  exact ⟨_, rfl⟩
noncomputable def laidWorld3 (os : Os) : World := (laidWorld os).layVars Tryz.prog laidTwo
theorem laidWorld3_os (os : Os) : (laidWorld3 os).os = os := World.layVars_os _ _ _
theorem laid_met3 (os : Os) (args : Array Value) : laidMetH Tryz.prog laidThree ((laidWorld3 os).forCall (fun _ _ => 0) ⟨#[], args, []⟩).memory :=
  laidMetH_of_parts
    (laidMet_layVars (w0 := laidWorld os) ["unicode/utf8.acceptRanges", "unicode/utf8.first"] [] (by simp [World.memory, World.forCall, Input.heap]; rfl) (by kernel_rfl) (by kernel_rfl) LaidIn.none)
    (by kernel_rfl)
end Go.Proofs.YtgkifphfibcfdaaGreatDoor.G
/- works: the head of the glob statements. -/
namespace Go.Proofs.YtgkifphfibcfdaaGreatDoor.G
open Go.RowKit Go.Proofs.YtgkifphfibcfdaaGreatDoor.B
set_option linter.unusedVariables false
theorem PartsAt.chg {w w' : World} {A : Option Addr} {L : List PartV} (h : PartsAt w A L) (hc : Chg [] w w') : PartsAt w' A L := by
  intro p hp
  obtain ⟨g, hA, hj⟩ := h p hp
  refine ⟨g, hA, fun j hjl => ?_⟩
  have h1 := hj j hjl
  obtain ⟨v, hv⟩ : ∃ v, (cellsOf (L[p]'hp).1 (L[p]'hp).2)[j]? = some v := ⟨_, Array.getElem?_eq_getElem (by rw [cellsOf_size]; exact hjl)⟩
  rw [hv] at h1 ⊢
  exact (hc.below.cell (p := ⟨g, p * 257 + j, none⟩) (World.block_lt_of_cell? w _ h1)).trans h1
theorem GlobAt.chg {w w' : World} {gp : Nat} {L : List PartV} (h : GlobAt w gp L) (hc : Chg [] w w') : GlobAt w' gp L := by
  obtain ⟨A, c, h1, h2, h3⟩ := h
  exact ⟨A, c, hc.heap h1 (by simp), h2.chg hc, h3⟩
theorem match_mt (gp : Nat) (L : List PartV) (s : ByteArray) (w : World) (hg : GlobAt w gp L) (hs : s.size ≤ 16777216) :
    Calls Tryz.prog 15 #[.pointer (some ⟨gp, 0, none⟩), .string s] w fun e w' => e = .returned (.bool (mt L (bl s))) ∧ ∃ n, w' = w.drewN n := by
  obtain ⟨k, hk⟩ := mrun_start L s
  exact match_calls gp L s k _ w hg hs hk
theorem compile_parts (s : ByteArray) (w : World) (hs : s.size ≤ 1024) : Calls Tryz.prog 12 #[.string s] w fun e w' => CompPost w (parts s) e w' := compile_calls s w hs _ _ (crun_parts s)
def pat1 : ByteArray := ⟨#[42, 46, 91, 97, 45, 99, 111, 93]⟩
def pat2 : ByteArray := ⟨#[91, 97]⟩
theorem pat1_means : ∃ L, parts pat1 = some L ∧ mt L (bl ⟨#[120, 46, 111]⟩) = true ∧ mt L (bl ⟨#[46, 98]⟩) = true ∧ mt L (bl ⟨#[120, 46, 100]⟩) = false := by
  have h : (match parts pat1 with | some L => mt L (bl ⟨#[120, 46, 111]⟩) && mt L (bl ⟨#[46, 98]⟩) && !mt L (bl ⟨#[120, 46, 100]⟩) | none => false) = true := by kernel_rfl
  cases hp : parts pat1 with
  | none => rw [hp] at h; cases h
  | some L =>
    rw [hp] at h
    simp only [Bool.and_eq_true, Bool.not_eq_true'] at h
    exact ⟨L, rfl, h.1.1, h.1.2, h.2⟩
theorem pat2_none : parts pat2 = none := by kernel_rfl
theorem esc1 : escS ⟨#[97, 42]⟩ = ⟨#[97, 92, 42]⟩ := by kernel_rfl
set_option maxRecDepth 100000 in
set_option maxHeartbeats 4000000 in
theorem works_calls (w : World) (hE : ErrType w) : Calls Tryz.prog 17 #[] w fun e w' => e = .returned (.bool true) ∧ Chg [] w w' := by
  obtain ⟨L, hL, m1, m2, m3⟩ := pat1_means
  have h1 := compile_parts pat1 w (by decide)
  rw [hL] at h1
  have H1 := Asd.mk h1
  have M1 := Asd.mk m1
  have M2 := Asd.mk m2
  have M3 := Asd.mk m3
  have HE := Asd.mk hE
  clear h1 m1 m2 m3 hL hE
  go_enter Tryz.func17, Tryz.ntmps17
  go_wp2_with fail
  refine H1.out.mono ?_
  rintro e w1 ⟨gp, rfl, hC1, hG1⟩
  have h2 := compile_parts pat2 w1 (by decide)
  rw [pat2_none] at h2
  have H2 := Asd.mk h2
  have HC1 := Asd.mk hC1
  have HG1 := Asd.mk hG1
  clear h2 hC1 hG1 H1
  go_wp2_with fail
  refine H2.out.mono ?_
  rintro e w2 ⟨rfl, hC2⟩
  have HG2 := Asd.mk (HG1.out.chg hC2)
  have HC2 := Asd.mk (HC1.out.trans hC2)
  clear H2 hC2 HG1 HC1
  go_wp2_with fail
  refine (num_errno 40 w2 (HE.out.chg HC2.out)).mono ?_
  rintro e w3 ⟨rfl, hC3⟩
  have HG3 := Asd.mk (HG2.out.chg hC3)
  have HC3 := Asd.mk (HC2.out.trans hC3)
  clear HG2 HC2 hC3
  go_wp2_with fail
  refine (match_mt gp L ⟨#[120, 46, 111]⟩ w3 HG3.out (by decide)).mono ?_
  rw [M1.out]
  rintro e w4 ⟨rfl, n4, hw4⟩
  have HG4 := Asd.mk (show GlobAt w4 gp L by rw [hw4]; exact HG3.out.chg ((Chg.refl [] _).drewN n4))
  have HC4 := Asd.mk (show Chg [] w w4 by rw [hw4]; exact HC3.out.drewN n4)
  clear hw4
  go_wp2_with fail
  refine (match_mt gp L ⟨#[46, 98]⟩ _ HG4.out (by decide)).mono ?_
  rw [M2.out]
  rintro e w5 ⟨rfl, n5, hw5⟩
  have HG5 := Asd.mk (show GlobAt w5 gp L by rw [hw5]; exact HG4.out.chg ((Chg.refl [] _).drewN n5))
  have HC5 := Asd.mk (show Chg [] w w5 by rw [hw5]; exact HC4.out.drewN n5)
  clear hw5
  go_wp2_with fail
  refine (match_mt gp L ⟨#[120, 46, 100]⟩ _ HG5.out (by decide)).mono ?_
  rw [M3.out]
  rintro e w6 ⟨rfl, n6, hw6⟩
  have HC6 := Asd.mk (show Chg [] w w6 by rw [hw6]; exact HC5.out.drewN n6)
  clear hw6
  go_wp2_with fail
  refine (escape_short ⟨#[97, 42]⟩ _ (by decide)).mono ?_
  rw [esc1]
  rintro e w7 ⟨rfl, hC7⟩
  have HC7 := Asd.mk (HC6.out.trans hC7)
  clear hC7
  go_wp2
  go_ret
  exact ⟨rfl, HC7.out⟩
end Go.Proofs.YtgkifphfibcfdaaGreatDoor.G
/- GlobAny: Any and the reference's Any as one plain function; the walk. -/
namespace Go.Proofs.YtgkifphfibcfdaaGreatDoor.G
open Go.RowKit Go.Proofs.YtgkifphfibcfdaaGreatDoor.B
set_option linter.unusedVariables false
/-- Any, from one text on: whether one means the name; the first error's number (0: none). -/
def anyF (S : Nat → ByteArray) (name : ByteArray) : Nat → Nat → Bool → Bool × Nat
  | 0, _, is => (is, 0)
  | k + 1, i, is => if 1024 < (S i).size then (false, 2) else match parts (S i) with | some L => anyF S name k (i + 1) (is || mt L (bl name)) | none => (false, 40)
/-- A row of strings. -/
def StrsAt (w : World) (sp : Option Addr) (n : Nat) (S : Nat → ByteArray) : Prop := ∀ i, i < n → ∃ a, sp = some a ∧ w.cell? (a.add i) = some (.string (S i)) ∧ (S i).size ≤ 1048576
theorem StrsAt.chg {w w' : World} {sp : Option Addr} {n : Nat} {S : Nat → ByteArray} (h : StrsAt w sp n S) (hc : Chg [] w w') : StrsAt w' sp n S := by
  intro i hi
  obtain ⟨a, h1, h2, h3⟩ := h i hi
  exact ⟨a, h1, (hc.below.cell (World.block_lt_of_cell? w _ h2)).trans h2, h3⟩
def errV (n : Nat) : Value := if n = 0 then .nilIface else .iface 57 (.int .i64 (n : Int))
theorem anyF_err (S : Nat → ByteArray) (name : ByteArray) : ∀ k i is, (anyF S name k i is).2 = 0 ∨ (anyF S name k i is).2 = 2 ∨ (anyF S name k i is).2 = 40
  | 0, _, _ => .inl rfl
  | k + 1, i, is => by
    simp only [anyF]
    split
    · exact .inr (.inl rfl)
    · split
      · exact anyF_err S name k _ _
      · exact .inr (.inr rfl)
set_option maxRecDepth 100000 in
set_option maxHeartbeats 8000000 in
theorem any_calls (sp : Option Addr) (n cap : Nat) (S : Nat → ByteArray) (name : ByteArray) (w : World) (hS : StrsAt w sp n S) (hn : n ≤ 9223372036854775807) (hname : name.size ≤ 1048576) (R : Bool × Nat) (hR : anyF S name n 0 false = R) :
    Calls Tryz.prog 20 #[.slice sp n cap, .string name] w fun e w' => e = .returned (.tuple #[.bool R.1, errV R.2]) ∧ Chg [] w w' := by
  have HS := Asd.mk hS
  have HR := Asd.mk hR
  clear hS hR
  go_enter Tryz.func20, Tryz.ntmps20
  go_wp2
  go_loopg [6, 13] (n + 1) (fun gk v6 v13 wx => ∃ (i : Nat) (is : Bool), i ≤ n ∧ gk = n + 1 - i ∧ v6 = .bool is ∧ v13 = .int .i64 (i : Int) ∧ Asd (anyF S name (n - i) i is = R) ∧ Asd (Chg [] w wx))
  case atStart => exact ⟨0, false, by omega, rfl, rfl, rfl, HR, ⟨Chg.refl _ _⟩⟩
  case round =>
    obtain ⟨i, is, hi, rfl, rfl, rfl, HI, HC⟩ := hrel
    by_cases hlt : i < n
    · obtain ⟨a, ha, hcell, hsz⟩ := (HS.out.chg HC.out) i hlt
      subst ha
      have hI := HI.out
      rw [show n - i = (n - (i + 1)) + 1 by omega] at hI
      simp only [anyF] at hI
      obtain ⟨s, hs⟩ : ∃ s, S i = s := ⟨_, rfl⟩
      rw [hs] at hI hcell hsz
      by_cases hlong : 1024 < s.size
      · rw [if_pos hlong] at hI
        have HQ := Asd.mk hI
        clear hI hs HI
        go_wp2_with fail
        refine (compile_long s wr hlong (by omega)).mono ?_
        rintro e w1 ⟨rfl, hw1⟩
        have HC1 := Asd.mk (show Chg [] w w1 by rw [hw1]; exact HC.out)
        clear hw1
        go_wp2
        go_ret2
        exact ⟨by rw [← HQ.out]; rfl, HC1.out⟩
      · rw [if_neg hlong] at hI
        have hcomp := compile_parts s wr (by omega)
        cases hpar : parts s with
        | none =>
          rw [hpar] at hI hcomp
          have HQ := Asd.mk hI
          have HComp := Asd.mk hcomp
          clear hI hs HI hcomp hpar
          go_wp2_with fail
          refine HComp.out.mono ?_
          rintro e w1 ⟨rfl, hC1⟩
          have HC1 := Asd.mk (HC.out.trans hC1)
          clear hC1
          go_wp2
          go_ret2
          exact ⟨by rw [← HQ.out]; rfl, HC1.out⟩
        | some L =>
          rw [hpar] at hI hcomp
          have HQ := Asd.mk hI
          have HComp := Asd.mk hcomp
          clear hI hs HI hcomp hpar
          go_wp2_with fail
          refine HComp.out.mono ?_
          rintro e w1 ⟨gp, rfl, hC1, hG1⟩
          have HC1 := Asd.mk (HC.out.trans hC1)
          have HG1 := Asd.mk hG1
          clear hC1 hG1 HComp
          cases is with
          | true =>
            go_wp2
            go_roundg (n + 1 - (i + 1))
            case rel => exact ⟨i + 1, true, by omega, rfl, rfl, by go_num, HQ, HC1⟩
            case measure => omega
          | false =>
            go_wp2_with fail
            refine (match_mt gp _ name w1 HG1.out (by omega)).mono ?_
            rintro e w2 ⟨rfl, nn, hw⟩
            have HC2 := Asd.mk (show Chg [] w w2 by rw [hw]; exact HC1.out.drewN nn)
            clear hw
            go_wp2
            go_roundg (n + 1 - (i + 1))
            case rel => exact ⟨i + 1, mt L (bl name), by omega, rfl, rfl, by go_num, ⟨by rw [← HQ.out, Bool.false_or]⟩, HC2⟩
            case measure => omega
    · obtain rfl : i = n := by omega
      have HQ := Asd.mk (show R = (is, 0) by rw [← HI.out, Nat.sub_self]; rfl)
      clear HI
      go_wp2
      go_ret2
      exact ⟨by rw [HQ.out]; rfl, HC.out⟩
set_option maxRecDepth 100000 in
set_option maxHeartbeats 8000000 in
theorem rany_calls (sp : Option Addr) (n cap : Nat) (S : Nat → ByteArray) (name : ByteArray) (w : World) (hS : StrsAt w sp n S) (hn : n ≤ 9223372036854775806) (hname : name.size ≤ 1048576) (R : Bool × Nat) (hR : anyF S name n 0 false = R) :
    Calls Tryz.prog 21 #[.slice sp n cap, .string name] w fun e w' => e = .returned (.tuple #[.bool R.1, .int .i64 (R.2 : Int)]) ∧ Chg [] w w' := by
  have HS := Asd.mk hS
  have HR := Asd.mk hR
  clear hS hR
  go_enter Tryz.func21, Tryz.ntmps21
  go_wp2
  go_loopg [6, 7] (n + 1) (fun gk v6 v7 wx => ∃ (i : Nat) (is : Bool), i ≤ n ∧ gk = n + 1 - i ∧ v6 = .bool is ∧ v7 = .int .i64 (i : Int) ∧ Asd (anyF S name (n - i) i is = R) ∧ Asd (Chg [] w wx))
  case atStart => exact ⟨0, false, by omega, rfl, rfl, rfl, HR, ⟨Chg.refl _ _⟩⟩
  case round =>
    obtain ⟨i, is, hi, rfl, rfl, rfl, HI, HC⟩ := hrel
    by_cases hlt : i < n
    · obtain ⟨a, ha, hcell, hsz⟩ := (HS.out.chg HC.out) i hlt
      subst ha
      have hI := HI.out
      rw [show n - i = (n - (i + 1)) + 1 by omega] at hI
      simp only [anyF] at hI
      obtain ⟨s, hs⟩ : ∃ s, S i = s := ⟨_, rfl⟩
      rw [hs] at hI hcell hsz
      by_cases hlong : 1024 < s.size
      · rw [if_pos hlong] at hI
        have HQ := Asd.mk hI
        clear hI hs HI
        go_wp2_with fail
        refine (rcompile_long s wr hlong (by omega)).mono ?_
        rintro e w1 ⟨rfl, hw1⟩
        have HC1 := Asd.mk (show Chg [] w w1 by rw [hw1]; exact HC.out)
        clear hw1
        go_wp2
        go_ret2
        exact ⟨by rw [← HQ.out]; rfl, HC1.out⟩
      · rw [if_neg hlong] at hI
        have hcomp := rcompile_parts s wr (by omega)
        cases hpar : parts s with
        | none =>
          rw [hpar] at hI hcomp
          have HQ := Asd.mk hI
          have HComp := Asd.mk hcomp
          clear hI hs HI hcomp hpar
          go_wp2_with fail
          refine HComp.out.mono ?_
          rintro e w1 ⟨hC1, rfl⟩
          have HC1 := Asd.mk (HC.out.trans hC1)
          clear hC1
          go_wp2
          go_ret2
          exact ⟨by rw [← HQ.out]; rfl, HC1.out⟩
        | some L =>
          rw [hpar] at hI hcomp
          have HQ := Asd.mk hI
          have HComp := Asd.mk hcomp
          clear hI hs HI hcomp hpar
          go_wp2_with fail
          refine HComp.out.mono ?_
          rintro e w1 ⟨hC1, A, c, rfl, hP1, hL⟩
          have HC1 := Asd.mk (HC.out.trans hC1)
          have HP1 := Asd.mk hP1
          clear hC1 hP1 HComp
          cases is with
          | true =>
            go_wp2
            go_roundg (n + 1 - (i + 1))
            case rel => exact ⟨i + 1, true, by omega, rfl, rfl, by go_num, HQ, HC1⟩
            case measure => omega
          | false =>
            go_wp2_with fail
            refine (rmatch_calls A c L name w1 HP1.out hL (by omega)).mono ?_
            rintro e w2 ⟨rfl, hC2⟩
            have HC2 := Asd.mk (HC1.out.trans hC2)
            clear hC2
            go_wp2
            go_roundg (n + 1 - (i + 1))
            case rel => exact ⟨i + 1, mt L (bl name), by omega, rfl, rfl, by go_num, ⟨by rw [← HQ.out, Bool.false_or]⟩, HC2⟩
            case measure => omega
    · obtain rfl : i = n := by omega
      have HQ := Asd.mk (show R = (is, 0) by rw [← HI.out, Nat.sub_self]; rfl)
      clear HI
      go_wp2
      go_ret2
      exact ⟨by rw [HQ.out]; rfl, HC.out⟩
set_option maxHeartbeats 4000000 in
theorem globany_calls (sp : Option Addr) (n cap : Nat) (S : Nat → ByteArray) (name : ByteArray) (w : World) (hE : ErrType w) (hS : StrsAt w sp n S) (hn : n ≤ 9223372036854775806) (hname : name.size ≤ 1048576) :
    Calls Tryz.prog 9 #[.slice sp n cap, .string name] w fun e w' => e = .returned (.bool true) ∧ Chg [] w w' := by
  obtain ⟨R, hR⟩ : ∃ R, anyF S name n 0 false = R := ⟨_, rfl⟩
  have herr := anyF_err S name n 0 false
  rw [hR] at herr
  have HE := Asd.mk hE
  have HA := Asd.mk (any_calls sp n cap S name w hS (by omega) hname R hR)
  have HB := Asd.mk (fun W (hc : Chg [] w W) => rany_calls sp n cap S name W (hS.chg hc) hn hname R hR)
  clear hE hS hR
  obtain ⟨b, m⟩ := R
  simp only at herr
  have tb : (b == b) = true := by simp
  rcases herr with rfl | rfl | rfl
  · go_enter Tryz.func9, Tryz.ntmps9
    go_wp2_with fail
    refine HA.out.mono ?_
    rintro e w1 ⟨rfl, hC1⟩
    have HB1 := Asd.mk (HB.out w1 hC1)
    have HC1 := Asd.mk hC1
    clear hC1 HA HB
    rw [show errV 0 = Value.nilIface from rfl]
    go_wp2_with fail
    refine HB1.out.mono ?_
    rintro e w2 ⟨rfl, hC2⟩
    have HC2 := Asd.mk (HC1.out.trans hC2)
    clear hC2 HB1
    go_wp2_with fail
    refine (num_nil w2).mono ?_
    rintro e w3 ⟨rfl, hw3⟩
    subst hw3
    go_wp2_with fail
    refine (works_calls w3 (HE.out.chg HC2.out)).mono ?_
    rintro e w4 ⟨rfl, hC4⟩
    have HC4 := Asd.mk (HC2.out.trans hC4)
    clear hC4
    go_wp2
    go_ret
    exact ⟨rfl, HC4.out⟩
  · go_enter Tryz.func9, Tryz.ntmps9
    go_wp2_with fail
    refine HA.out.mono ?_
    rintro e w1 ⟨rfl, hC1⟩
    have HB1 := Asd.mk (HB.out w1 hC1)
    have HC1 := Asd.mk hC1
    clear hC1 HA HB
    rw [show errV 2 = Value.iface 57 (.int .i64 2) from rfl]
    go_wp2_with fail
    refine HB1.out.mono ?_
    rintro e w2 ⟨rfl, hC2⟩
    have HC2 := Asd.mk (HC1.out.trans hC2)
    clear hC2 HB1
    go_wp2_with fail
    refine (num_errno 2 w2 (HE.out.chg HC2.out)).mono ?_
    rintro e w3 ⟨rfl, hC3⟩
    have HC3 := Asd.mk (HC2.out.trans hC3)
    clear hC3
    go_wp2_with fail
    refine (works_calls w3 (HE.out.chg HC3.out)).mono ?_
    rintro e w4 ⟨rfl, hC4⟩
    have HC4 := Asd.mk (HC3.out.trans hC4)
    clear hC4
    go_wp2
    go_ret
    exact ⟨rfl, HC4.out⟩
  · go_enter Tryz.func9, Tryz.ntmps9
    go_wp2_with fail
    refine HA.out.mono ?_
    rintro e w1 ⟨rfl, hC1⟩
    have HB1 := Asd.mk (HB.out w1 hC1)
    have HC1 := Asd.mk hC1
    clear hC1 HA HB
    rw [show errV 40 = Value.iface 57 (.int .i64 40) from rfl]
    go_wp2_with fail
    refine HB1.out.mono ?_
    rintro e w2 ⟨rfl, hC2⟩
    have HC2 := Asd.mk (HC1.out.trans hC2)
    clear hC2 HB1
    go_wp2_with fail
    refine (num_errno 40 w2 (HE.out.chg HC2.out)).mono ?_
    rintro e w3 ⟨rfl, hC3⟩
    have HC3 := Asd.mk (HC2.out.trans hC3)
    clear hC3
    go_wp2_with fail
    refine (works_calls w3 (HE.out.chg HC3.out)).mono ?_
    rintro e w4 ⟨rfl, hC4⟩
    have HC4 := Asd.mk (HC3.out.trans hC4)
    clear hC4
    go_wp2
    go_ret
    exact ⟨rfl, HC4.out⟩
end Go.Proofs.YtgkifphfibcfdaaGreatDoor.G
