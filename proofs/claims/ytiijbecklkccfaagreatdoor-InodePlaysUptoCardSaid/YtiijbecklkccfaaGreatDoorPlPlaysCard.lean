/- InodePlays answers true for all rooms, lists of calls and lists of paths: whatever is done, in whatever room, each error, the whole tree behind each call, and what is asked of paths are the document's. The arguments together are of bulk at most 1048576 (the second form); errors.errorType and the tables of unicode/utf8 are as the program's start lays them; internal/bytealg.MaxLen is any number. -/
import Derived.Test.YtiijbecklkccfaaGreatDoorCards
import Derived.Test.YtiijbecklkccfaaGreatDoorTie
import Derived.Test.YtiijbecklkccfaaGreatDoorPl3
import Derived.Test.YtiijbecklkccfaaGreatDoorPl26
import Derived.Test.YtiijbecklkccfaaGreatDoorPlOpsOpen
import Derived.Carry
import Derived.SliceStrings
namespace Go.Proofs.YtiijbecklkccfaaGreatDoor.inodePlays
open Go.ChangeMaps (open_string shut_string)
open Go.ChangeShapes Go.WideShapes Go.ChangeAt Go.RowKit Go.Proofs.YtiijbecklkccfaaGreatDoor.B Go.Proofs.YtiijbecklkccfaaGreatDoor.I Go.Joins
set_option linter.unusedVariables false
theorem reads (os : Os) {H : Type} (enc : TypeId × Value → H) : ∃ places, DataW.whole enc Tryz.prog ((laidWorld3 os).forCall (fun _ _ => 0) ⟨#[], #[.agg #[.int .i64 0, .int .i64 0], .slice none 0 0, .slice none 0 0], []⟩).memory Tryz.f6.params.toList Rows.inodePlaysSpec.vars false #[Value.agg #[.int .i64 0, .int .i64 0], Value.slice none 0 0, Value.slice none 0 0].toList 8 = some ([.agg [.lit (.int .i64 0), .lit (.int .i64 0)], .nil, .nil], [], places) :=
  ⟨[], by kernel_rfl⟩
theorem cells9 : Tryz.prog.cellsOf 9 = 1 := by kernel_rfl
theorem bulk_strs {H : Type} (ss : List ByteArray) : ss.length + (ss.map (·.size)).sum ≤ Rows.uptoBulkAll (strs (H := H) ss) := by
  induction ss with
  | nil => simp
  | cons s r ih =>
    have h : Rows.uptoBulkAll (strs (H := H) (s :: r)) = s.data.toList.length + 1 + Rows.uptoBulkAll (strs (H := H) r) := rfl
    have hz : s.data.toList.length = s.size := by simp
    rw [h, hz]
    simp only [List.length_cons, List.map_cons, List.sum_cons]
    omega
theorem bulk_each {ss : List ByteArray} {i : Nat} (h : i < ss.length) : (ss.getD i ByteArray.empty).size ≤ (ss.map (·.size)).sum := by
  induction ss generalizing i with
  | nil => simp at h
  | cons s r ih =>
    cases i with
    | zero => simp
    | succ i =>
      have := ih (i := i) (by simpa using h)
      simp only [List.getD_cons_succ, List.map_cons, List.sum_cons]
      omega
set_option maxRecDepth 100000 in
theorem lifted (os : Os) (started : os.Started) (H : Type) (enc : TypeId × Value → H) (F : Stop.Interp) :
    ReturnsInHanded {} Tryz.checked os 6 .any ((Rows.OpenSpec.upto Rows.inodePlaysSpec).preRow enc Tryz.prog Tryz.f6 Rows.inodePlaysUptoRow.domain false Rows.inodePlaysUptoRow.laid) (((Rows.OpenSpec.upto Rows.inodePlaysSpec).at F).post enc Tryz.prog Tryz.f6 false true false false) := by
  obtain ⟨places, hx⟩ := reads os enc
  refine returnsInHanded_of_row (C := Tryz.checked) (s := Rows.OpenSpec.upto Rows.inodePlaysSpec) own started (by kernel_rfl) Tryz.func6
    (witness_row_at (enc := enc) (C := Tryz.checked) false (laidWorld3 os) #[.agg #[.int .i64 0, .int .i64 0], .slice none 0 0, .slice none 0 0] (laidWorld3_os os) (by kernel_rfl) (by kernel_rfl) (by kernel_rfl)
      (OpenSpec.preRow_of_cond 8 hx (by kernel_rfl) (fun k hk => by cases hk; kernel_rfl) (by kernel_rfl) (laid_met3 os _))) ?_
  intro W base args ds gs before hval0 hW x1 hk x3 hL x4 x5
  have hE : ErrType W := errType_of_three hL
  have hM : MaxLenAt W := maxLen_of_shaped x4
  have hval : ∀ (j : Nat) t v, Tryz.f6.params[j]? = some t → args[j]? = some v → Value.okWide Tryz.prog W .any base t v := hval0
  have hW' := hW
  obtain ⟨p, q, hA0, hV, rfl, hfz, hnd⟩ := hW
  have hA : DataW.TrodAll enc Tryz.prog W 0 (fun _ => true) true Tryz.f6.params.toList args.toList ds p := hA0
  rw [Tryz.params6] at hA hval
  obtain ⟨v0, vs0, d0, ds0, p0, q0, hargs, rfl, rfl, h0, r0⟩ := trodAll_cons hA
  obtain ⟨v1, vs1, d1, ds1, p1, q1, rfl, rfl, rfl, h1, r1⟩ := trodAll_cons r0
  obtain ⟨v2, vs2, d2, ds2, p2, q2, rfl, rfl, rfl, h2, r2⟩ := trodAll_cons r1
  obtain ⟨rfl, rfl, rfl⟩ := trodAll_nil r2
  obtain rfl : args = #[v0, v1, v2] := by cases args; simp_all
  obtain ⟨rfl, rfl⟩ := trodVars_none hV
  obtain ⟨sp, len, cap, rfl⟩ := okWide_slice Tryz.underlying24 (hval 1 24 v1 rfl rfl)
  obtain ⟨sq, len2, cap2, rfl⟩ := okWide_slice Tryz.underlying42 (hval 2 42 v2 rfl rfl)
  have hb := of_decide_eq_true (hk _ rfl)
  have hlt0 : ∀ x ∈ p0, x.block < W.heap.size := fun x hx => by simpa using hW'.lt x (by simp [hx])
  have hlt1 : ∀ x ∈ p1, x.block < W.heap.size := fun x hx => by simpa using hW'.lt x (by simp [hx])
  have hlt2 : ∀ x ∈ p2, x.block < W.heap.size := fun x hx => by simpa using hW'.lt x (by simp [hx])
  have h0k := h0
  have h1k := h1
  have h2k := h2
  have hT0 : ∀ (W' : World), Below W.heap.size W W' → DataW.Trod enc Tryz.prog W' 0 (fun b => decide (b < W.heap.size)) true 23 v0 d0 p0 :=
    fun W' hn => Below.trod laidOut (by kernel_rfl) (of_decide_eq_true (by kernel_rfl)) h0k hn hlt0
  have hT1 : ∀ (W' : World), Below W.heap.size W W' → DataW.Trod enc Tryz.prog W' 0 (fun b => decide (b < W.heap.size)) true 24 (.slice sp len cap) d1 p1 :=
    fun W' hn => Below.trod laidOut (by kernel_rfl) (of_decide_eq_true (by kernel_rfl)) h1k hn hlt1
  have hT2 : ∀ (W' : World), Below W.heap.size W W' → DataW.Trod enc Tryz.prog W' 0 (fun b => decide (b < W.heap.size)) true 42 (.slice sq len2 cap2) d2 p2 :=
    fun W' hn => Below.trod laidOut (by kernel_rfl) (of_decide_eq_true (by kernel_rfl)) h2k hn hlt2
  obtain ⟨c0, c1, y0, y1, m0, rfl, hd0, hp0, hy0, hy1⟩ := open_agg2 Tryz.underlying23 (by kernel_rfl) (by kernel_rfl) (hval 0 23 v0 rfl rfl) h0
  obtain ⟨bb, e0, _, _⟩ := DataW.trod_int Tryz.underlying3 hy0
  obtain ⟨nn, e1, _, _⟩ := DataW.trod_int Tryz.underlying3 hy1
  simp at e0 e1
  subst e0 e1
  obtain ⟨fuel, hf⟩ := h1
  obtain ⟨fuel2, hf2⟩ := h2
  have hb1 : Rows.uptoBulk d1 ≤ 1048576 := by
    simp only [List.cons_append, List.nil_append, Rows.uptoBulkAll] at hb
    omega
  have hb2 : Rows.uptoBulk d2 ≤ 1048576 := by
    simp only [List.cons_append, List.nil_append, Rows.uptoBulkAll] at hb
    omega
  obtain ⟨sp', n', cap', O, hcs, hn, hO⟩ := open_ops hf hb1
  obtain ⟨rfl, rfl, rfl⟩ : sp' = sp ∧ n' = len ∧ cap' = cap := by
    have : [Value.slice sp len cap] = [Value.slice sp' n' cap'] := hcs
    simp only [List.cons.injEq, Value.slice.injEq, and_true] at this
    exact ⟨this.1.symm, this.2.1.symm, this.2.2.symm⟩
  have fin : ∀ e W', (e = Ending.returned (.bool true) ∧ Chg [] W W') → ∃ v, e = Ending.returned v ∧ ((Rows.OpenSpec.upto Rows.inodePlaysSpec).at F).post enc Tryz.prog Tryz.f6 false true false false W #[.agg #[.int .i64 bb, .int .i64 nn], .slice sp' n' cap', .slice sq len2 cap2] v W' := by
    intro e W' ⟨he, hc⟩
    subst he
    exact ⟨_, rfl, _, _, _, [], _, [], hW', trodAll_mk1 (shut_bool Tryz.underlying4 _), (trodAll_cons_mk (hT0 _ hc.below) (trodAll_cons_mk (hT1 _ hc.below) (trodAll_cons_mk (hT2 _ hc.below) trodAll_mk0))), rfl, hc.below.frame _, fun h => by cases h⟩
  clear hA0 hval0 hk x1 x3 hL x4 x5 hT0 hT1 hT2
  rcases open_strings Tryz.underlying42 Tryz.underlying9 cells9 hf2 with ⟨hcs2, hx⟩ | ⟨a, len', cap3, ss, hcs2, _, hl, hm, hz, hx, hcell, hws⟩
  · simp [Value.cells] at hcs2
    obtain ⟨rfl, rfl, rfl⟩ := hcs2
    exact (inodeplays_calls bb nn sp' none n' cap' 0 0 O (fun _ => ByteArray.empty) W hO hn (fun i hi => absurd hi (by omega)) (by omega) hM hE).mono fin
  · simp [Value.cells] at hcs2
    obtain ⟨rfl, rfl, rfl⟩ := hcs2
    simp only [Prod.mk.injEq] at hx
    obtain ⟨rfl, rfl⟩ := hx
    simp only [if_true] at hz
    have hbs := bulk_strs (H := H) (ss.take len2)
    simp only [Rows.uptoBulk] at hb2
    have hlen : (ss.take len2).length = len2 := by rw [List.length_take]; omega
    have hln : len2 ≤ 1048576 := by omega
    refine (inodeplays_calls bb nn sp' (some a) n' cap' len2 cap2 O (fun i => (ss.take len2).getD i ByteArray.empty) W hO hn (fun i hi => ⟨a, rfl, ?_, ?_⟩) hln hM hE).mono fin
    · rw [hcell i (by omega)]
      congr 2
      simp only [List.getD_eq_getElem?_getD]
      rw [List.getElem?_take_of_lt hi]
    · have := bulk_each (ss := ss.take len2) (i := i) (by omega)
      show ((ss.take len2).getD i ByteArray.empty).size ≤ 1048576
      omega
set_option maxRecDepth 100000 in
theorem said : Rows.InodePlaysUptoSaid :=
  OpenClaim.holds_of_cond 6 Tryz.f6 rfl rfl rfl rfl rfl rfl rfl ⟨rfl, rfl, rfl, rfl, rfl⟩ rfl rfl rfl rfl rfl (by kernel_rfl) Tryz.func6 (by kernel_rfl)
    (of_decide_eq_true (by kernel_rfl)) (by unfold Func.isWrapper; first | (rw [if_pos (by decide +kernel)]; kernel_rfl) | (rw [if_neg (by decide +kernel)]; exact ⟨rfl, rfl⟩))
    (fun os started H enc _ F => by rw [OpenClaim.pre_eq_preRow]; exact lifted os started H enc F)
theorem plain (f : FuncId) (fn : Func) (hf : Tryz.pinned.checked.prog.funcNamed "selvage/selvagelaw20.InodePlays" = some f) (hfn : Tryz.pinned.checked.prog.funcs[f]? = some fn) :
    true = Tryz.pinned.checked.prog.looks [] ∧ ∀ (j : Nat) t, fn.params[j]? = some t → Tryz.pinned.checked.prog.wantsStandIn t = false := by
  obtain rfl : f = 6 := Option.some.inj ((show Tryz.prog.funcNamed "selvage/selvagelaw20.InodePlays" = some 6 by kernel_rfl).symm.trans hf) |>.symm
  obtain rfl : fn = Tryz.f6 := (Option.some.inj (Tryz.func6.symm.trans hfn)).symm
  refine ⟨by kernel_rfl, fun j t ht => ?_⟩
  rw [Tryz.params6] at ht
  have ht2 := Array.mem_of_getElem? ht
  have h34 : t = 23 ∨ t = 24 ∨ t = 42 := by simp at ht2; omega
  rcases h34 with rfl | rfl | rfl
  · exact (show Tryz.prog.wantsStandIn 23 = false by kernel_rfl)
  · exact (show Tryz.prog.wantsStandIn 24 = false by kernel_rfl)
  · exact (show Tryz.prog.wantsStandIn 42 = false by kernel_rfl)
theorem card : Rows.InodePlaysUptoCardSaid :=
  Claim7.holds_tied_plain_at .later [] _ _ _ _ said (fun _ h => by cases h) (by kernel_rfl) (fun _ h => by cases h) inodePlaysUpto_row_tie rfl ⟨rfl, rfl⟩ (by kernel_rfl) rfl plain (by kernel_rfl)
end Go.Proofs.YtiijbecklkccfaaGreatDoor.inodePlays
namespace Go.Proofs.YtiijbecklkccfaaGreatDoor
/-- The card, under a short name, for the claim. -/
theorem inodePlays_upto : Rows.InodePlaysUptoCardSaid := inodePlays.card
#print axioms inodePlays_upto
end Go.Proofs.YtiijbecklkccfaaGreatDoor
