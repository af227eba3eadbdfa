/- InodeOwn answers true for all lists of calls: trees and lists of names that are answered are their caller's: what is written into them is not seen in what is answered later. The argument is of bulk at most 1048576 (the second form); errors.errorType and the tables of unicode/utf8 are as the program's start lays them; internal/bytealg.MaxLen is any number. -/
import Derived.Test.YtiijbecklkccfaaGreatDoorCards
import Derived.Test.YtiijbecklkccfaaGreatDoorTie
import Derived.Test.YtiijbecklkccfaaGreatDoorOw3
import Derived.Test.YtiijbecklkccfaaGreatDoorOw13
import Derived.Carry
namespace Go.Proofs.YtiijbecklkccfaaGreatDoor.inodeOwn
open Go.ChangeShapes Go.WideShapes Go.ChangeAt Go.RowKit Go.Proofs.YtiijbecklkccfaaGreatDoor.B Go.Proofs.YtiijbecklkccfaaGreatDoor.I
set_option linter.unusedVariables false
theorem reads (os : Os) {H : Type} (enc : TypeId × Value → H) : ∃ places, DataW.whole enc Tryz.prog ((laidWorld3 os).forCall (fun _ _ => 0) ⟨#[], #[.slice none 0 0], []⟩).memory Tryz.f5.params.toList Rows.inodeOwnSpec.vars false #[Value.slice none 0 0].toList 8 = some ([.nil], [], places) :=
  ⟨[], by kernel_rfl⟩
set_option maxRecDepth 100000 in
theorem lifted (os : Os) (started : os.Started) (H : Type) (enc : TypeId × Value → H) (F : Stop.Interp) :
    ReturnsInHanded {} Tryz.checked os 5 .any ((Rows.OpenSpec.upto Rows.inodeOwnSpec).preRow enc Tryz.prog Tryz.f5 Rows.inodeOwnUptoRow.domain false Rows.inodeOwnUptoRow.laid) (((Rows.OpenSpec.upto Rows.inodeOwnSpec).at F).post enc Tryz.prog Tryz.f5 false true false false) := by
  obtain ⟨places, hx⟩ := reads os enc
  refine returnsInHanded_of_row (C := Tryz.checked) (s := Rows.OpenSpec.upto Rows.inodeOwnSpec) own started (by kernel_rfl) Tryz.func5
    (witness_row_at (enc := enc) (C := Tryz.checked) false (laidWorld3 os) #[.slice none 0 0] (laidWorld3_os os) (by kernel_rfl) (by kernel_rfl) (by kernel_rfl)
      (OpenSpec.preRow_of_cond 8 hx (by kernel_rfl) (fun k hk => by cases hk; kernel_rfl) (by kernel_rfl) (laid_met3 os _))) ?_
  intro W base args ds gs before hval0 hW x1 hk x3 hL x4 x5
  have hE : ErrType W := errType_of_three hL
  have hM : MaxLenAt W := maxLen_of_shaped x4
  have hval : ∀ (j : Nat) t v, Tryz.f5.params[j]? = some t → args[j]? = some v → Value.okWide Tryz.prog W .any base t v := hval0
  have hW' := hW
  obtain ⟨p, q, hA0, hV, rfl, hfz, hnd⟩ := hW
  have hA : DataW.TrodAll enc Tryz.prog W 0 (fun _ => true) true Tryz.f5.params.toList args.toList ds p := hA0
  rw [Tryz.params5] at hA hval
  obtain ⟨v0, vs0, d0, ds0, p0, q0, hargs, rfl, rfl, h0, r0⟩ := trodAll_cons hA
  obtain ⟨rfl, rfl, rfl⟩ := trodAll_nil r0
  obtain rfl : args = #[v0] := by cases args; simp_all
  obtain ⟨rfl, rfl⟩ := trodVars_none hV
  obtain ⟨sp, len, cap, rfl⟩ := okWide_slice Tryz.underlying24 (hval 0 24 v0 rfl rfl)
  have hb := of_decide_eq_true (hk _ rfl)
  have hlt : ∀ x ∈ p0, x.block < W.heap.size := fun x hx => by simpa using hW'.lt x (by simp [hx])
  have h0k := h0
  have hT0 : ∀ (W' : World), Below W.heap.size W W' → DataW.Trod enc Tryz.prog W' 0 (fun b => decide (b < W.heap.size)) true 24 (.slice sp len cap) d0 p0 :=
    fun W' hn => Below.trod laidOut (by kernel_rfl) (of_decide_eq_true (by kernel_rfl)) h0k hn hlt
  obtain ⟨fuel, hf⟩ := h0
  have hb0 : Rows.uptoBulk d0 ≤ 1048576 := by
    simp only [List.cons_append, List.nil_append, Rows.uptoBulkAll] at hb
    omega
  obtain ⟨sp', n', cap', O, hcs, hn, hO⟩ := open_ops hf hb0
  obtain ⟨rfl, rfl, rfl⟩ : sp' = sp ∧ n' = len ∧ cap' = cap := by
    have : [Value.slice sp len cap] = [Value.slice sp' n' cap'] := hcs
    simp only [List.cons.injEq, Value.slice.injEq, and_true] at this
    exact ⟨this.1.symm, this.2.1.symm, this.2.2.symm⟩
  clear hA0 hval0 hk x1 x3 hL x4 x5
  refine (inodeown_calls sp' n' cap' O W hO hn hM hE).mono fun e W' ⟨he, hc⟩ => ?_
  subst he
  exact ⟨_, rfl, _, _, _, [], _, [], hW', trodAll_mk1 (shut_bool Tryz.underlying4 _), (trodAll_cons_mk (hT0 _ hc.below) trodAll_mk0), rfl, hc.below.frame _, fun h => by cases h⟩
set_option maxRecDepth 100000 in
theorem said : Rows.InodeOwnUptoSaid :=
  OpenClaim.holds_of_cond 5 Tryz.f5 rfl rfl rfl rfl rfl rfl rfl ⟨rfl, rfl, rfl, rfl, rfl⟩ rfl rfl rfl rfl rfl (by kernel_rfl) Tryz.func5 (by kernel_rfl)
    (of_decide_eq_true (by kernel_rfl)) (by unfold Func.isWrapper; first | (rw [if_pos (by decide +kernel)]; kernel_rfl) | (rw [if_neg (by decide +kernel)]; exact ⟨rfl, rfl⟩))
    (fun os started H enc _ F => by rw [OpenClaim.pre_eq_preRow]; exact lifted os started H enc F)
theorem plain (f : FuncId) (fn : Func) (hf : Tryz.pinned.checked.prog.funcNamed "selvage/selvagelaw20.InodeOwn" = some f) (hfn : Tryz.pinned.checked.prog.funcs[f]? = some fn) :
    true = Tryz.pinned.checked.prog.looks [] ∧ ∀ (j : Nat) t, fn.params[j]? = some t → Tryz.pinned.checked.prog.wantsStandIn t = false := by
  obtain rfl : f = 5 := Option.some.inj ((show Tryz.prog.funcNamed "selvage/selvagelaw20.InodeOwn" = some 5 by kernel_rfl).symm.trans hf) |>.symm
  obtain rfl : fn = Tryz.f5 := (Option.some.inj (Tryz.func5.symm.trans hfn)).symm
  refine ⟨by kernel_rfl, fun j t ht => ?_⟩
  rw [Tryz.params5] at ht
  have ht2 := Array.mem_of_getElem? ht
  have h34 : t = 24 := by simp at ht2; omega
  subst h34
  exact (show Tryz.prog.wantsStandIn 24 = false by kernel_rfl)
theorem card : Rows.InodeOwnUptoCardSaid :=
  Claim7.holds_tied_plain_at .later [] _ _ _ _ said (fun _ h => by cases h) (by kernel_rfl) (fun _ h => by cases h) inodeOwnUpto_row_tie rfl ⟨rfl, rfl⟩ (by kernel_rfl) rfl plain (by kernel_rfl)
end Go.Proofs.YtiijbecklkccfaaGreatDoor.inodeOwn
namespace Go.Proofs.YtiijbecklkccfaaGreatDoor
/-- The card, under a short name, for the claim. -/
theorem inodeOwn_upto : Rows.InodeOwnUptoCardSaid := inodeOwn.card
#print axioms inodeOwn_upto
end Go.Proofs.YtiijbecklkccfaaGreatDoor
