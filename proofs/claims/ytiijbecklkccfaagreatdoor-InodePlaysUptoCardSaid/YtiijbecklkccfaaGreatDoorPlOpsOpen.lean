/- The argument that is a list of calls, out of a row's reading. -/
import Derived.Test.YtiijbecklkccfaaGreatDoorPl13
import Derived.Test.YtiijbecklkccfaaGreatDoorRows
import Derived.ChangeSame
import Derived.ChangeArms
import Derived.SliceStrings
namespace Go.Proofs.YtiijbecklkccfaaGreatDoor.I
open Go.ChangeShapes Go.WideShapes Go.ChangeAt Go.RowKit Go.Proofs.YtiijbecklkccfaaGreatDoor.B Go.Deep
set_option linter.unusedVariables false
theorem cells_op : Tryz.prog.cellsOf 36 = 3 := by kernel_rfl
theorem cells_i : Tryz.prog.cellsOf 3 = 1 := by kernel_rfl
theorem cells_s : Tryz.prog.cellsOf 9 = 1 := by kernel_rfl
section
variable {H : Type} {enc : TypeId × Value → H} {w : World} {base : Nat} {spare : Nat → Bool} {held : Bool}
set_option maxRecDepth 100000 in
theorem op_of_cells {n : Nat} {cs : List Value} {x : DataW H × List MemPlace} (h : DataW.trod enc Tryz.prog w base spare held n 36 cs = some x) :
    ∃ (k : Int) (a b : ByteArray), cs = [.int .i64 k, .string a, .string b] ∧ x.1 = .agg [.lit (.int .i64 k), .lit (.string a.data.toList), .lit (.string b.data.toList)] := by
  obtain ⟨xs, m, _, rfl, hl, hxl, hf⟩ := DataW.trod_struct Tryz.underlying36 h
  rw [cells_op] at hl
  match xs, hxl, cs, hl with
  | [y0, y1, y2], _, [v0, v1, v2], _ =>
    have g0 : DataW.trod enc Tryz.prog w base spare held m 3 (([v0, v1, v2].drop 0).take (Tryz.prog.cellsOf 3)) = some y0 := hf 0 _ rfl
    have g1 : DataW.trod enc Tryz.prog w base spare held m 9 (([v0, v1, v2].drop 1).take (Tryz.prog.cellsOf 9)) = some y1 := hf 1 _ rfl
    have g2 : DataW.trod enc Tryz.prog w base spare held m 9 (([v0, v1, v2].drop 2).take (Tryz.prog.cellsOf 9)) = some y2 := hf 2 _ rfl
    rw [cells_i] at g0
    rw [cells_s] at g1 g2
    obtain ⟨k, e0, rfl, _⟩ := DataW.trod_int Tryz.underlying3 g0
    obtain ⟨a, e1, rfl, _⟩ := DataW.trod_string Tryz.underlying9 g1
    obtain ⟨b, e2, rfl, _⟩ := DataW.trod_string Tryz.underlying9 g2
    have e0' : [v0] = [Value.int .i64 k] := e0
    have e1' : [v1] = [Value.string a] := e1
    have e2' : [v2] = [Value.string b] := e2
    simp only [List.cons.injEq, and_true] at e0' e1' e2'
    exact ⟨k, a, b, by rw [e0', e1', e2'], rfl⟩
theorem bulk_map {n : Nat} {D : Nat → DataW H} {i : Nat} (hi : i < n) : Rows.uptoBulk (D i) ≤ Rows.uptoBulkAll ((List.range n).map D) ∧ n ≤ Rows.uptoBulkAll ((List.range n).map D) := by
  have pos : ∀ d : DataW H, 1 ≤ Rows.uptoBulk d := fun d => by
    cases d with
    | lit l => cases l <;> simp only [Rows.uptoBulk] <;> omega
    | _ => simp only [Rows.uptoBulk] <;> omega
  have all : ∀ l : List (DataW H), l.length ≤ Rows.uptoBulkAll l := fun l => by
    induction l with
    | nil => simp
    | cons d l ih =>
      simp only [Rows.uptoBulkAll, List.length_cons]
      have := pos d
      omega
  have mem : ∀ (l : List (DataW H)) (d : DataW H), d ∈ l → Rows.uptoBulk d ≤ Rows.uptoBulkAll l := fun l d hd => by
    induction l with
    | nil => cases hd
    | cons e l ih =>
      simp only [Rows.uptoBulkAll]
      rcases List.mem_cons.1 hd with rfl | h
      · omega
      · have := ih h; omega
  exact ⟨mem _ _ (List.mem_map.2 ⟨i, List.mem_range.2 hi, rfl⟩), by have := all ((List.range n).map D); simpa using this⟩
/-- A list of calls, read out of a row. -/
theorem open_ops {fuel : Nat} {cs : List Value} {x : DataW H × List MemPlace} (h : DataW.trod enc Tryz.prog w base spare held fuel 24 cs = some x) (hb : Rows.uptoBulk x.1 ≤ 1048576) :
    ∃ sp n cap O, cs = [.slice sp n cap] ∧ n ≤ 1048576 ∧ OpsAt w sp n O := by
  rcases open_slice Tryz.underlying24 h with ⟨rfl, _⟩ | ⟨a, len, cap, m, nn, D, Pl, rfl, _, hl, hm, hmm, rfl, hx⟩
  · exact ⟨none, 0, 0, fun _ => ⟨0, ⟨#[]⟩, ⟨#[]⟩⟩, rfl, by omega, fun i hi => by omega⟩
  · have hlm : len ≤ m := by rw [hmm]; split <;> omega
    have each : ∀ i, i < len → ∃ o : OpV, w.cell? (a.add (i * 3)) = some (.int .i64 o.kind) ∧ w.cell? (a.add (i * 3 + 1)) = some (.string o.a) ∧ w.cell? (a.add (i * 3 + 2)) = some (.string o.b) ∧ o.a.size ≤ 1048576 ∧ o.b.size ≤ 1048576 := fun i hi => by
      obtain ⟨cs', h1, h2⟩ := hx i (by omega)
      obtain ⟨k, s, z, rfl, e⟩ := op_of_cells h2
      rw [cells_op] at h1
      obtain ⟨_, _, hcell⟩ := World.cells?_some h1
      have c0 := hcell 0 (by omega)
      have c1 := hcell 1 (by omega)
      have c2 := hcell 2 (by omega)
      rw [Go.Deep.add_add] at c0 c1 c2
      have hbi := (bulk_map (D := D) hi).1
      have e' : D i = .agg [.lit (.int .i64 k), .lit (.string s.data.toList), .lit (.string z.data.toList)] := e
      rw [e'] at hbi
      simp only [Rows.uptoBulk, Rows.uptoBulkAll] at hbi hb
      have es : s.data.toList.length = s.size := by simp
      have ez : z.data.toList.length = z.size := by simp
      exact ⟨⟨k, s, z⟩, by simpa using c0, by simpa using c1, by simpa using c2, by show s.size ≤ _; omega, by show z.size ≤ _; omega⟩
    refine ⟨some a, len, cap, fun i => if h : i < len then Classical.choose (each i h) else ⟨0, ⟨#[]⟩, ⟨#[]⟩⟩, rfl, ?_, fun i hi => ⟨a, rfl, ?_⟩⟩
    rotate_left
    · simp only [dif_pos hi]
      exact Classical.choose_spec (each i hi)
    by_cases h0 : len = 0
    · omega
    · have := (bulk_map (D := D) (n := len) (i := 0) (by omega)).2
      simp only [Rows.uptoBulk] at hb
      omega
end
end Go.Proofs.YtiijbecklkccfaaGreatDoor.I
