/- InodeApart answers true for all lists of calls and all pairs of calls: two calls at paths that lie apart end alike in either order. The arguments together are of bulk at most 1048576 (the second form); errors.errorType and the tables of unicode/utf8 are as the program's start lays them; internal/bytealg.MaxLen is any number. -/
import Derived.Test.YtiijbecklkccfaaGreatDoorCards
import Derived.Test.YtiijbecklkccfaaGreatDoorTie
import Derived.Test.YtiijbecklkccfaaGreatDoorOw3
import Derived.Test.YtiijbecklkccfaaGreatDoorOw17
import Derived.Test.YtiijbecklkccfaaGreatDoorOw13
import Derived.Carry
namespace Go.Proofs.YtiijbecklkccfaaGreatDoor.inodeApart
open Go.ChangeMaps (open_string shut_string)
open Go.ChangeShapes Go.WideShapes Go.ChangeAt Go.RowKit Go.Proofs.YtiijbecklkccfaaGreatDoor.B Go.Proofs.YtiijbecklkccfaaGreatDoor.I Go.Joins
set_option linter.unusedVariables false
theorem reads (os : Os) {H : Type} (enc : TypeId × Value → H) : ∃ places, DataW.whole enc Tryz.prog ((laidWorld3 os).forCall (fun _ _ => 0) ⟨#[], #[.slice none 0 0, .agg #[.int .i64 0, .string ByteArray.empty, .string ByteArray.empty], .agg #[.int .i64 0, .string ByteArray.empty, .string ByteArray.empty]], []⟩).memory Tryz.f7.params.toList Rows.inodeApartSpec.vars false #[Value.slice none 0 0, Value.agg #[.int .i64 0, .string ByteArray.empty, .string ByteArray.empty], Value.agg #[.int .i64 0, .string ByteArray.empty, .string ByteArray.empty]].toList 8 = some ([.nil, .agg [.lit (.int .i64 0), .lit (.string ByteArray.empty.data.toList), .lit (.string ByteArray.empty.data.toList)], .agg [.lit (.int .i64 0), .lit (.string ByteArray.empty.data.toList), .lit (.string ByteArray.empty.data.toList)]], [], places) :=
  ⟨[], by kernel_rfl⟩
set_option maxRecDepth 100000 in
theorem lifted (os : Os) (started : os.Started) (H : Type) (enc : TypeId × Value → H) (F : Stop.Interp) :
    ReturnsInHanded {} Tryz.checked os 7 .any ((Rows.OpenSpec.upto Rows.inodeApartSpec).preRow enc Tryz.prog Tryz.f7 Rows.inodeApartUptoRow.domain false Rows.inodeApartUptoRow.laid) (((Rows.OpenSpec.upto Rows.inodeApartSpec).at F).post enc Tryz.prog Tryz.f7 false true false false) := by
  obtain ⟨places, hx⟩ := reads os enc
  refine returnsInHanded_of_row (C := Tryz.checked) (s := Rows.OpenSpec.upto Rows.inodeApartSpec) own started (by kernel_rfl) Tryz.func7
    (witness_row_at (enc := enc) (C := Tryz.checked) false (laidWorld3 os) #[.slice none 0 0, .agg #[.int .i64 0, .string ByteArray.empty, .string ByteArray.empty], .agg #[.int .i64 0, .string ByteArray.empty, .string ByteArray.empty]] (laidWorld3_os os) (by kernel_rfl) (by kernel_rfl) (by kernel_rfl)
      (OpenSpec.preRow_of_cond 8 hx (by kernel_rfl) (fun k hk => by cases hk; kernel_rfl) (by kernel_rfl) (laid_met3 os _))) ?_
  intro W base args ds gs before hval0 hW x1 hk x3 hL x4 x5
  have hE : ErrType W := errType_of_three hL
  have hM : MaxLenAt W := maxLen_of_shaped x4
  have hval : ∀ (j : Nat) t v, Tryz.f7.params[j]? = some t → args[j]? = some v → Value.okWide Tryz.prog W .any base t v := hval0
  have hW' := hW
  obtain ⟨p, q, hA0, hV, rfl, hfz, hnd⟩ := hW
  have hA : DataW.TrodAll enc Tryz.prog W 0 (fun _ => true) true Tryz.f7.params.toList args.toList ds p := hA0
  rw [Tryz.params7] at hA hval
  obtain ⟨v0, vs0, d0, ds0, p0, q0, hargs, rfl, rfl, h0, r0⟩ := trodAll_cons hA
  obtain ⟨v1, vs1, d1, ds1, p1, q1, rfl, rfl, rfl, h1, r1⟩ := trodAll_cons r0
  obtain ⟨v2, vs2, d2, ds2, p2, q2, rfl, rfl, rfl, h2, r2⟩ := trodAll_cons r1
  obtain ⟨rfl, rfl, rfl⟩ := trodAll_nil r2
  obtain rfl : args = #[v0, v1, v2] := by cases args; simp_all
  obtain ⟨rfl, rfl⟩ := trodVars_none hV
  obtain ⟨sp, len, cap, rfl⟩ := okWide_slice Tryz.underlying24 (hval 0 24 v0 rfl rfl)
  have hb := of_decide_eq_true (hk _ rfl)
  have hlt0 : ∀ x ∈ p0, x.block < W.heap.size := fun x hx => by simpa using hW'.lt x (by simp [hx])
  have hlt1 : ∀ x ∈ p1, x.block < W.heap.size := fun x hx => by simpa using hW'.lt x (by simp [hx])
  have hlt2 : ∀ x ∈ p2, x.block < W.heap.size := fun x hx => by simpa using hW'.lt x (by simp [hx])
  have h0k := h0
  have h1k := h1
  have h2k := h2
  have hT0 : ∀ (W' : World), Below W.heap.size W W' → DataW.Trod enc Tryz.prog W' 0 (fun b => decide (b < W.heap.size)) true 24 (.slice sp len cap) d0 p0 :=
    fun W' hn => Below.trod laidOut (by kernel_rfl) (of_decide_eq_true (by kernel_rfl)) h0k hn hlt0
  have hT1 : ∀ (W' : World), Below W.heap.size W W' → DataW.Trod enc Tryz.prog W' 0 (fun b => decide (b < W.heap.size)) true 36 v1 d1 p1 :=
    fun W' hn => Below.trod laidOut (by kernel_rfl) (of_decide_eq_true (by kernel_rfl)) h1k hn hlt1
  have hT2 : ∀ (W' : World), Below W.heap.size W W' → DataW.Trod enc Tryz.prog W' 0 (fun b => decide (b < W.heap.size)) true 36 v2 d2 p2 :=
    fun W' hn => Below.trod laidOut (by kernel_rfl) (of_decide_eq_true (by kernel_rfl)) h2k hn hlt2
  obtain ⟨cA1, cB1, cC1, yA1, yB1, yC1, m1, rfl, hd1, hp1, hA1, hB1, hC1⟩ := open_agg3 Tryz.underlying36 (by kernel_rfl) (by kernel_rfl) (hval 1 36 v1 rfl rfl) h1
  obtain ⟨k1, eA1, rA1, _⟩ := DataW.trod_int Tryz.underlying3 hA1
  obtain ⟨a1, eB1, rB1, _⟩ := DataW.trod_string Tryz.underlying9 hB1
  obtain ⟨b1, eC1, rC1, _⟩ := DataW.trod_string Tryz.underlying9 hC1
  simp at eA1 eB1 eC1
  subst eA1 eB1 eC1
  subst rA1 rB1 rC1
  obtain ⟨cA2, cB2, cC2, yA2, yB2, yC2, m2, rfl, hd2, hp2, hA2, hB2, hC2⟩ := open_agg3 Tryz.underlying36 (by kernel_rfl) (by kernel_rfl) (hval 2 36 v2 rfl rfl) h2
  obtain ⟨k2, eA2, rA2, _⟩ := DataW.trod_int Tryz.underlying3 hA2
  obtain ⟨a2, eB2, rB2, _⟩ := DataW.trod_string Tryz.underlying9 hB2
  obtain ⟨b2, eC2, rC2, _⟩ := DataW.trod_string Tryz.underlying9 hC2
  simp at eA2 eB2 eC2
  subst eA2 eB2 eC2
  subst rA2 rB2 rC2
  obtain ⟨fuel, hf⟩ := h0
  rw [hd1, hd2] at hb
  simp only [List.cons_append, List.nil_append, Rows.uptoBulkAll, Rows.uptoBulk, Array.length_toList] at hb
  have hz : a1.data.size = a1.size ∧ b1.data.size = b1.size ∧ a2.data.size = a2.size ∧ b2.data.size = b2.size := ⟨rfl, rfl, rfl, rfl⟩
  have hb0 : Rows.uptoBulk d0 ≤ 1048576 := by omega
  have ho : a1.size ≤ 1048576 ∧ b1.size ≤ 1048576 ∧ a2.size ≤ 1048576 ∧ b2.size ≤ 1048576 := by omega
  obtain ⟨sp', n', cap', O, hcs, hn, hO⟩ := open_ops hf hb0
  obtain ⟨rfl, rfl, rfl⟩ : sp' = sp ∧ n' = len ∧ cap' = cap := by
    have : [Value.slice sp len cap] = [Value.slice sp' n' cap'] := hcs
    simp only [List.cons.injEq, Value.slice.injEq, and_true] at this
    exact ⟨this.1.symm, this.2.1.symm, this.2.2.symm⟩
  clear hA0 hval0 hk x1 x3 hL x4 x5
  refine (inodeapart_calls sp' n' cap' O ⟨k1, a1, b1⟩ ⟨k2, a2, b2⟩ W hO hn ho hM hE).mono fun e W' ⟨he, hc⟩ => ?_
  subst he
  exact ⟨_, rfl, _, _, _, [], _, [], hW', trodAll_mk1 (shut_bool Tryz.underlying4 _), (trodAll_cons_mk (hT0 _ hc.below) (trodAll_cons_mk (hT1 _ hc.below) (trodAll_cons_mk (hT2 _ hc.below) trodAll_mk0))), rfl, hc.below.frame _, fun h => by cases h⟩
set_option maxRecDepth 100000 in
theorem said : Rows.InodeApartUptoSaid :=
  OpenClaim.holds_of_cond 7 Tryz.f7 rfl rfl rfl rfl rfl rfl rfl ⟨rfl, rfl, rfl, rfl, rfl⟩ rfl rfl rfl rfl rfl (by kernel_rfl) Tryz.func7 (by kernel_rfl)
    (of_decide_eq_true (by kernel_rfl)) (by unfold Func.isWrapper; first | (rw [if_pos (by decide +kernel)]; kernel_rfl) | (rw [if_neg (by decide +kernel)]; exact ⟨rfl, rfl⟩))
    (fun os started H enc _ F => by rw [OpenClaim.pre_eq_preRow]; exact lifted os started H enc F)
theorem plain (f : FuncId) (fn : Func) (hf : Tryz.pinned.checked.prog.funcNamed "selvage/selvagelaw20.InodeApart" = some f) (hfn : Tryz.pinned.checked.prog.funcs[f]? = some fn) :
    true = Tryz.pinned.checked.prog.looks [] ∧ ∀ (j : Nat) t, fn.params[j]? = some t → Tryz.pinned.checked.prog.wantsStandIn t = false := by
  obtain rfl : f = 7 := Option.some.inj ((show Tryz.prog.funcNamed "selvage/selvagelaw20.InodeApart" = some 7 by kernel_rfl).symm.trans hf) |>.symm
  obtain rfl : fn = Tryz.f7 := (Option.some.inj (Tryz.func7.symm.trans hfn)).symm
  refine ⟨by kernel_rfl, fun j t ht => ?_⟩
  rw [Tryz.params7] at ht
  have ht2 := Array.mem_of_getElem? ht
  have h34 : t = 36 ∨ t = 24 := (by simpa using ht2 : t = 24 ∨ t = 36).symm
  rcases h34 with rfl | rfl
  · exact (show Tryz.prog.wantsStandIn 36 = false by kernel_rfl)
  · exact (show Tryz.prog.wantsStandIn 24 = false by kernel_rfl)
theorem card : Rows.InodeApartUptoCardSaid :=
  Claim7.holds_tied_plain_at .later [] _ _ _ _ said (fun _ h => by cases h) (by kernel_rfl) (fun _ h => by cases h) inodeApartUpto_row_tie rfl ⟨rfl, rfl⟩ (by kernel_rfl) rfl plain (by kernel_rfl)
end Go.Proofs.YtiijbecklkccfaaGreatDoor.inodeApart
namespace Go.Proofs.YtiijbecklkccfaaGreatDoor
/-- The card, under a short name, for the claim. -/
theorem inodeApart_upto : Rows.InodeApartUptoCardSaid := inodeApart.card
#print axioms inodeApart_upto
end Go.Proofs.YtiijbecklkccfaaGreatDoor
