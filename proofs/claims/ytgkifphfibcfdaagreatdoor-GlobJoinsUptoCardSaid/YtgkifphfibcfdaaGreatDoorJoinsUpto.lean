/- GlobJoins answers true for all patterns P, Q and names X, Y: patterns one behind the other mean names one behind the other; with stars at both ends a pattern means whatever has in it what it means. The arguments together are of bulk at most 1048576 (the second form); errors.errorType is as the program's start lays it. -/
import Derived.Test.YtgkifphfibcfdaaGreatDoorCards
import Derived.Test.YtgkifphfibcfdaaGreatDoorTie
import Derived.Test.YtgkifphfibcfdaaGreatDoorLaid
import Derived.Test.YtgkifphfibcfdaaGreatDoorJoinsWalk
namespace Go.Proofs.YtgkifphfibcfdaaGreatDoor.globJoinsUpto
open Go.ChangeShapes Go.WideShapes Go.ChangeAt Go.RowKit Go.Proofs.YtgkifphfibcfdaaGreatDoor.B Go.Proofs.YtgkifphfibcfdaaGreatDoor.G Go.Joins
open Go.ChangeMaps (open_string shut_string)
set_option linter.unusedVariables false
theorem reads (os : Os) {H : Type} (enc : TypeId × Value → H) : ∃ places, DataW.whole enc Tryz.prog ((laidWorld os).forCall (fun _ _ => 0) ⟨#[], #[.agg #[.string ByteArray.empty, .string ByteArray.empty, .string ByteArray.empty, .string ByteArray.empty]], []⟩).memory Tryz.f6.params.toList Rows.globJoinsSpec.vars false #[Value.agg #[.string ByteArray.empty, .string ByteArray.empty, .string ByteArray.empty, .string ByteArray.empty]].toList 8 = some ([.agg [.lit (.string []), .lit (.string []), .lit (.string []), .lit (.string [])]], [], places) :=
  ⟨[], by kernel_rfl⟩
theorem field {H : Type} (enc : TypeId × Value → H) (w : World) (base : Nat) (sp : Nat → Bool) (held : Bool) (s : ByteArray) (hs : s.size ≤ maxLen) : ∃ n, DataW.trod enc Tryz.prog w base sp held n 9 [.string s] = some (.lit (.string s.data.toList), []) :=
  ⟨1, by simp [DataW.trod, Tryz.underlying9, hs]⟩
set_option maxRecDepth 100000 in
theorem lifted (os : Os) (started : os.Started) (H : Type) (enc : TypeId × Value → H) (F : Stop.Interp) :
    ReturnsInHanded {} Tryz.checked os 6 .any ((Rows.OpenSpec.upto Rows.globJoinsSpec).preRow enc Tryz.prog Tryz.f6 Rows.globJoinsUptoRow.domain false Rows.globJoinsUptoRow.laid) (((Rows.OpenSpec.upto Rows.globJoinsSpec).at F).post enc Tryz.prog Tryz.f6 false true false false) := by
  obtain ⟨places, hx⟩ := reads os enc
  refine returnsInHanded_of_row (C := Tryz.checked) (s := Rows.OpenSpec.upto Rows.globJoinsSpec) own started (by kernel_rfl) Tryz.func6
    (witness_row_at (enc := enc) (C := Tryz.checked) false (laidWorld os) #[.agg #[.string ByteArray.empty, .string ByteArray.empty, .string ByteArray.empty, .string ByteArray.empty]] rfl (by kernel_rfl) (by kernel_rfl) (by kernel_rfl)
      (OpenSpec.preRow_of_cond 8 hx (by kernel_rfl) (fun k hk => by cases hk; kernel_rfl) (by kernel_rfl) (laid_met os _))) ?_
  intro W base args ds gs before hval0 hW x1 hk x3 hL x4 x5
  have hE : ErrType W := errType_of_laid hL
  have hval : ∀ (j : Nat) t v, Tryz.f6.params[j]? = some t → args[j]? = some v → Value.okWide Tryz.prog W .any base t v := hval0
  have hW' := hW
  obtain ⟨p, q, hA0, hV, rfl, hfz, hnd⟩ := hW
  have hA : DataW.TrodAll enc Tryz.prog W 0 (fun _ => true) true Tryz.f6.params.toList args.toList ds p := hA0
  rw [Tryz.params6] at hA hval
  obtain ⟨v0, d0, rfl, rfl, h0⟩ := trodAll_one hA
  obtain ⟨rfl, rfl⟩ := trodVars_none hV
  obtain ⟨c0, c1, c2, c3, y0, y1, y2, y3, m, rfl, rfl, rfl, hy0, hy1, hy2, hy3⟩ := open_agg4 Tryz.underlying38 (by kernel_rfl) (by kernel_rfl) (hval 0 38 v0 rfl rfl) h0
  obtain ⟨P, e0, rfl, wP⟩ := DataW.trod_string Tryz.underlying9 hy0
  obtain ⟨Q, e1, rfl, wQ⟩ := DataW.trod_string Tryz.underlying9 hy1
  obtain ⟨X, e2, rfl, wX⟩ := DataW.trod_string Tryz.underlying9 hy2
  obtain ⟨Y, e3, rfl, wY⟩ := DataW.trod_string Tryz.underlying9 hy3
  simp at e0 e1 e2 e3
  subst e0 e1 e2 e3
  have hb := of_decide_eq_true (hk _ rfl)
  simp only [List.cons_append, List.nil_append, Rows.uptoBulkAll, Rows.uptoBulk, Array.length_toList] at hb
  have zP : P.size ≤ 1048576 := by have hz : P.data.size = P.size := rfl; omega
  have zQ : Q.size ≤ 1048576 := by have hz : Q.data.size = Q.size := rfl; omega
  have zX : X.size ≤ 1048576 := by have hz : X.data.size = X.size := rfl; omega
  have zY : Y.size ≤ 1048576 := by have hz : Y.data.size = Y.size := rfl; omega
  clear hA0 hval0 hk hb x1 x3 hL x4 x5 hA
  have structReads : ∀ (W' : World) (sp : Nat → Bool), DataW.Trod enc Tryz.prog W' 0 sp true 38 (.agg #[.string P, .string Q, .string X, .string Y]) (.agg [.lit (.string P.data.toList), .lit (.string Q.data.toList), .lit (.string X.data.toList), .lit (.string Y.data.toList)]) [] := fun W' sp =>
    shut_agg4 (y0 := (.lit (.string P.data.toList), [])) (y1 := (.lit (.string Q.data.toList), [])) (y2 := (.lit (.string X.data.toList), [])) (y3 := (.lit (.string Y.data.toList), [])) Tryz.underlying38 (by kernel_rfl) (by kernel_rfl) (field enc W' 0 sp true P wP) (field enc W' 0 sp true Q wQ) (field enc W' 0 sp true X wX) (field enc W' 0 sp true Y wY)
  refine (joins_calls P Q X Y W hE zP zQ zX zY).mono fun e W' ⟨he, hc⟩ => ?_
  subst he
  exact ⟨_, rfl, _, _, _, [], _, [], hW', trodAll_mk1 (shut_bool Tryz.underlying4 _), trodAll_mk1 (structReads _ _), rfl, hc.below.frame _, fun h => by cases h⟩
theorem said : Rows.GlobJoinsUptoSaid :=
  OpenClaim.holds_of_cond 6 Tryz.f6 rfl rfl rfl rfl rfl rfl rfl ⟨rfl, rfl, rfl, rfl, rfl⟩ rfl rfl rfl rfl rfl (by kernel_rfl) Tryz.func6 (by kernel_rfl)
    (of_decide_eq_true (by kernel_rfl)) (by unfold Func.isWrapper; first | (rw [if_pos (by decide +kernel)]; kernel_rfl) | (rw [if_neg (by decide +kernel)]; exact ⟨rfl, rfl⟩))
    (fun os started H enc _ F => by rw [OpenClaim.pre_eq_preRow]; exact lifted os started H enc F)
theorem plain (f : FuncId) (fn : Func) (hf : Tryz.pinned.checked.prog.funcNamed "selvage/selvagelaw04.GlobJoins" = some f) (hfn : Tryz.pinned.checked.prog.funcs[f]? = some fn) :
    true = Tryz.pinned.checked.prog.looks [] ∧ ∀ (j : Nat) t, fn.params[j]? = some t → Tryz.pinned.checked.prog.wantsStandIn t = false := by
  obtain rfl : f = 6 := Option.some.inj ((show Tryz.prog.funcNamed "selvage/selvagelaw04.GlobJoins" = some 6 by kernel_rfl).symm.trans hf) |>.symm
  obtain rfl : fn = Tryz.f6 := (Option.some.inj (Tryz.func6.symm.trans hfn)).symm
  refine ⟨by kernel_rfl, fun j t ht => ?_⟩
  rw [Tryz.params6] at ht
  obtain rfl : t = 38 := by simpa using Array.mem_of_getElem? ht
  exact (show Tryz.prog.wantsStandIn 38 = false by kernel_rfl)
theorem card : Rows.GlobJoinsUptoCardSaid :=
  Claim7.holds_tied_plain_at .later [] _ _ _ _ said (fun _ h => by cases h) (by kernel_rfl) (fun _ h => by cases h) globJoinsUpto_row_tie rfl ⟨rfl, rfl⟩ (by kernel_rfl) rfl plain (by kernel_rfl)
end Go.Proofs.YtgkifphfibcfdaaGreatDoor.globJoinsUpto
namespace Go.Proofs.YtgkifphfibcfdaaGreatDoor
/-- The card, under a short name, for the claim. -/
theorem globJoins_upto : Rows.GlobJoinsUptoCardSaid := globJoinsUpto.card
#print axioms globJoins_upto
end Go.Proofs.YtgkifphfibcfdaaGreatDoor
