/- GlobAny answers true for all arguments: whether one of several patterns means a name, or the number of the error of the first that is none, is as the document says. The arguments together are of bulk at most 1048576 (the second form); errors.errorType is as the program's start lays it. -/
import Derived.Test.YtgkifphfibcfdaaGreatDoorCards
import Derived.Test.YtgkifphfibcfdaaGreatDoorTie
import Derived.Test.YtgkifphfibcfdaaGreatDoorLaid
import Derived.Test.YtgkifphfibcfdaaGreatDoorAnyWalk
import Derived.SliceStrings
import Derived.Carry
namespace Go.Proofs.YtgkifphfibcfdaaGreatDoor.globAnyUpto
open Go.ChangeShapes Go.WideShapes Go.ChangeAt Go.RowKit Go.Proofs.YtgkifphfibcfdaaGreatDoor.B Go.Proofs.YtgkifphfibcfdaaGreatDoor.G
open Go.ChangeMaps (open_string shut_string)
set_option linter.unusedVariables false
theorem reads (os : Os) {H : Type} (enc : TypeId × Value → H) : ∃ places, DataW.whole enc Tryz.prog ((laidWorld os).forCall (fun _ _ => 0) ⟨#[], #[.slice none 0 0, .string ByteArray.empty], []⟩).memory Tryz.f9.params.toList Rows.globAnySpec.vars false #[Value.slice none 0 0, Value.string ByteArray.empty].toList 8 = some ([.nil, .lit (.string [])], [], places) :=
  ⟨[], by kernel_rfl⟩
theorem laidOut : laidOutB Tryz.prog = true := by kernel_rfl
theorem cells9 : Tryz.prog.cellsOf 9 = 1 := by kernel_rfl
theorem bulk_strs {H : Type} (ss : List ByteArray) : ss.length + (ss.map (·.size)).sum ≤ Rows.uptoBulkAll (strs (H := H) ss) := by
  induction ss with
  | nil => simp
  | cons s r ih =>
    have h : Rows.uptoBulkAll (strs (H := H) (s :: r)) = s.data.toList.length + 1 + Rows.uptoBulkAll (strs (H := H) r) := rfl
    have hz : s.data.toList.length = s.size := by simp
    rw [h, hz]
    simp only [List.length_cons, List.map_cons, List.sum_cons]
    omega
theorem bulk_each {ss : List ByteArray} {i : Nat} (h : i < ss.length) : (ss.getD i ByteArray.empty).size ≤ (ss.map (·.size)).sum := by
  induction ss generalizing i with
  | nil => simp at h
  | cons s r ih =>
    cases i with
    | zero => simp
    | succ i =>
      have := ih (i := i) (by simpa using h)
      simp only [List.getD_cons_succ, List.map_cons, List.sum_cons]
      omega
set_option maxRecDepth 100000 in
theorem lifted (os : Os) (started : os.Started) (H : Type) (enc : TypeId × Value → H) (F : Stop.Interp) :
    ReturnsInHanded {} Tryz.checked os 9 .any ((Rows.OpenSpec.upto Rows.globAnySpec).preRow enc Tryz.prog Tryz.f9 Rows.globAnyUptoRow.domain false Rows.globAnyUptoRow.laid) (((Rows.OpenSpec.upto Rows.globAnySpec).at F).post enc Tryz.prog Tryz.f9 false true false false) := by
  obtain ⟨places, hx⟩ := reads os enc
  refine returnsInHanded_of_row (C := Tryz.checked) (s := Rows.OpenSpec.upto Rows.globAnySpec) own started (by kernel_rfl) Tryz.func9
    (witness_row_at (enc := enc) (C := Tryz.checked) false (laidWorld os) #[.slice none 0 0, .string ByteArray.empty] rfl (by kernel_rfl) (by kernel_rfl) (by kernel_rfl)
      (OpenSpec.preRow_of_cond 8 hx (by kernel_rfl) (fun k hk => by cases hk; kernel_rfl) (by kernel_rfl) (laid_met os _))) ?_
  intro W base args ds gs before hval0 hW x1 hk x3 hL x4 x5
  have hE : ErrType W := errType_of_laid hL
  have hval : ∀ (j : Nat) t v, Tryz.f9.params[j]? = some t → args[j]? = some v → Value.okWide Tryz.prog W .any base t v := hval0
  have hW' := hW
  obtain ⟨p, q, hA0, hV, rfl, hfz, hnd⟩ := hW
  have hA : DataW.TrodAll enc Tryz.prog W 0 (fun _ => true) true Tryz.f9.params.toList args.toList ds p := hA0
  rw [Tryz.params9] at hA hval
  obtain ⟨v0, vs0, d0, ds0, p0, q0, hargs, rfl, rfl, h0, r0⟩ := trodAll_cons hA
  obtain ⟨v1, vs1, d1, ds1, p1, q1, rfl, rfl, rfl, h1, r1⟩ := trodAll_cons r0
  obtain ⟨rfl, rfl, rfl⟩ := trodAll_nil r1
  obtain rfl : args = #[v0, v1] := by cases args; simp_all
  obtain ⟨rfl, rfl⟩ := trodVars_none hV
  obtain ⟨a1, rfl, rfl, rfl, y1⟩ := open_string Tryz.underlying9 (hval 1 9 v1 rfl rfl) h1
  obtain ⟨sp, len, cap, rfl⟩ := okWide_slice Tryz.underlying41 (hval 0 41 v0 rfl rfl)
  have hb := of_decide_eq_true (hk _ rfl)
  have hlt : ∀ x ∈ p0, x.block < W.heap.size := fun x hx => by simpa using hW'.lt x (by simp [hx])
  have h0k := h0
  have hT0 : ∀ (W' : World), Below W.heap.size W W' → DataW.Trod enc Tryz.prog W' 0 (fun b => decide (b < W.heap.size)) true 41 (.slice sp len cap) d0 p0 :=
    fun W' hn => Below.trod laidOut (by kernel_rfl) (of_decide_eq_true (by kernel_rfl)) h0k hn hlt
  have fin : ∀ e W', (e = Ending.returned (.bool true) ∧ Chg [] W W') → ∃ v, e = Ending.returned v ∧ ((Rows.OpenSpec.upto Rows.globAnySpec).at F).post enc Tryz.prog Tryz.f9 false true false false W #[.slice sp len cap, .string a1] v W' := by
    intro e W' ⟨he, hc⟩
    subst he
    exact ⟨_, rfl, _, _, _, [], _, [], hW', trodAll_mk1 (shut_bool Tryz.underlying4 _), (trodAll_cons_mk (hT0 _ hc.below) (trodAll_cons_mk (shut_string Tryz.underlying9 y1) trodAll_mk0)), rfl, hc.below.frame _, fun h => by cases h⟩
  obtain ⟨fuel, hf⟩ := h0
  clear hA0 hval0 hk x1 x3 hL x4 x5 hT0
  rcases open_strings Tryz.underlying41 Tryz.underlying9 cells9 hf with ⟨hcs, hx⟩ | ⟨a, len', cap', ss, hcs, _, hl, hm, hz, hx, hcell, hws⟩
  · simp [Value.cells] at hcs
    obtain ⟨rfl, rfl, rfl⟩ := hcs
    simp only [Prod.mk.injEq] at hx
    obtain ⟨rfl, rfl⟩ := hx
    simp only [List.cons_append, List.nil_append, Rows.uptoBulkAll, Rows.uptoBulk, Array.length_toList] at hb
    have z1 : a1.size ≤ 1048576 := by have hz : a1.data.size = a1.size := rfl; omega
    exact (globany_calls none 0 0 (fun _ => ByteArray.empty) a1 W hE (fun i hi => absurd hi (by omega)) (by omega) z1).mono fin
  · simp [Value.cells] at hcs
    obtain ⟨rfl, rfl, rfl⟩ := hcs
    simp only [Prod.mk.injEq] at hx
    obtain ⟨rfl, rfl⟩ := hx
    simp only [if_true] at hz
    simp only [List.cons_append, List.nil_append, Rows.uptoBulkAll, Rows.uptoBulk, Array.length_toList] at hb
    have hbs := bulk_strs (H := H) (ss.take len)
    have z1 : a1.size ≤ 1048576 := by have hz : a1.data.size = a1.size := rfl; omega
    have hlen : (ss.take len).length = len := by rw [List.length_take]; omega
    have hln : len ≤ 1048576 := by omega
    refine (globany_calls (some a) len cap (fun i => (ss.take len).getD i ByteArray.empty) a1 W hE (fun i hi => ⟨a, rfl, ?_, ?_⟩) (by omega) z1).mono fin
    · rw [hcell i (by omega)]
      congr 2
      simp only [List.getD_eq_getElem?_getD]
      rw [List.getElem?_take_of_lt hi]
    · have := bulk_each (ss := ss.take len) (i := i) (by omega)
      show ((ss.take len).getD i ByteArray.empty).size ≤ 1048576
      omega
theorem said : Rows.GlobAnyUptoSaid :=
  OpenClaim.holds_of_cond 9 Tryz.f9 rfl rfl rfl rfl rfl rfl rfl ⟨rfl, rfl, rfl, rfl, rfl⟩ rfl rfl rfl rfl rfl (by kernel_rfl) Tryz.func9 (by kernel_rfl)
    (of_decide_eq_true (by kernel_rfl)) (by unfold Func.isWrapper; first | (rw [if_pos (by decide +kernel)]; kernel_rfl) | (rw [if_neg (by decide +kernel)]; exact ⟨rfl, rfl⟩))
    (fun os started H enc _ F => by rw [OpenClaim.pre_eq_preRow]; exact lifted os started H enc F)
theorem plain (f : FuncId) (fn : Func) (hf : Tryz.pinned.checked.prog.funcNamed "selvage/selvagelaw04.GlobAny" = some f) (hfn : Tryz.pinned.checked.prog.funcs[f]? = some fn) :
    true = Tryz.pinned.checked.prog.looks [] ∧ ∀ (j : Nat) t, fn.params[j]? = some t → Tryz.pinned.checked.prog.wantsStandIn t = false := by
  obtain rfl : f = 9 := Option.some.inj ((show Tryz.prog.funcNamed "selvage/selvagelaw04.GlobAny" = some 9 by kernel_rfl).symm.trans hf) |>.symm
  obtain rfl : fn = Tryz.f9 := (Option.some.inj (Tryz.func9.symm.trans hfn)).symm
  refine ⟨by kernel_rfl, fun j t ht => ?_⟩
  rw [Tryz.params9] at ht
  have ht2 := Array.mem_of_getElem? ht
  have h34 : t = 41 ∨ t = 9 := by simp at ht2; omega
  rcases h34 with rfl | rfl
  · exact (show Tryz.prog.wantsStandIn 41 = false by kernel_rfl)
  · exact (show Tryz.prog.wantsStandIn 9 = false by kernel_rfl)
theorem card : Rows.GlobAnyUptoCardSaid :=
  Claim7.holds_tied_plain_at .later [] _ _ _ _ said (fun _ h => by cases h) (by kernel_rfl) (fun _ h => by cases h) globAnyUpto_row_tie rfl ⟨rfl, rfl⟩ (by kernel_rfl) rfl plain (by kernel_rfl)
end Go.Proofs.YtgkifphfibcfdaaGreatDoor.globAnyUpto
namespace Go.Proofs.YtgkifphfibcfdaaGreatDoor
/-- The card, under a short name, for the claim. -/
theorem globAny_upto : Rows.GlobAnyUptoCardSaid := globAnyUpto.card
#print axioms globAny_upto
end Go.Proofs.YtgkifphfibcfdaaGreatDoor
