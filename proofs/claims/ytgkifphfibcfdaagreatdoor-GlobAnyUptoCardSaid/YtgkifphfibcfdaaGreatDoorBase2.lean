/- More words on worlds: a whole row that is stored; a result that is a row and a flag. -/
import Derived.Test.YtgkifphfibcfdaaGreatDoorBase
namespace Go.Proofs.YtgkifphfibcfdaaGreatDoor.B
open Go.RowKit
theorem hp_setRow_other {w : World} {k g : Nat} {cs : Array Value} (h : k ≠ g) : (w.setRow g cs).heap[k]? = w.heap[k]? := by
  simp only [World.setRow]
  rw [Array.getElem?_modify, if_neg (fun e => h e.symm)]
theorem Chg.setRow {L : List Nat} {a b : World} (h : Chg L a b) {g : Nat} (hp : g < a.heap.size → g ∈ L) (cs : Array Value) : Chg L a (b.setRow g cs) :=
  ⟨h.os, h.tape, h.output, by simpa [World.setRow] using h.size, fun i hi hn => (hp_setRow_other (by rintro rfl; exact hn (hp hi))).trans (h.block i hi hn)⟩
theorem results_row_tmp {P : Program} {fn : Func} {p u : Tmp} {ty : TypeId} (h : fn.results = #[.cell p ty, .tmp u]) (tmps : Array Value) (w : World) (g : Nat) (t : TypeId) (cs : Array Value) (fr : Nat × Nat) (d : TypeDesc)
    (hp : tmps.getD p undef = .pointer (some ⟨g, 0, none⟩)) (hg : w.heap[g]? = some (.cells cs t fr))
    (hu : P.underlying ty = some d) (hd : (match d with | .struct _ | .array _ _ => true | _ => false) = true) (hi : (P.info? ty).map (·.size) = some cs.size) :
    (results fn tmps).run P w = .ok (.tuple #[.agg cs, tmps.getD u undef]) w := by
  have hp' : tmps[p]?.getD undef = .pointer (some ⟨g, 0, none⟩) := by simpa using hp
  simp [results, h, hp', asAddr, run_loadVar_row w g t ty cs fr d hg hu hd hi]
end Go.Proofs.YtgkifphfibcfdaaGreatDoor.B
