/- Merged out of these texts: ActRow, FailF, FailsF, WorksF, SureF, Sure, RefBelow, KeepsF, RowTurn. -/
import Derived.Test.YthojofeocjmglaaGreatDoorDk18
import Derived.Deep.MidRow
import Derived.Deep.Slices
import Derived.Test.YthojofeocjmglaaGreatDoorDk12
import Derived.Test.YthojofeocjmglaaGreatDoorDk14
import Derived.Test.YthojofeocjmglaaGreatDoorDk9
import Derived.Test.YthojofeocjmglaaGreatDoorDk1
import Derived.Test.YthojofeocjmglaaGreatDoorDk16
import Derived.Test.YthojofeocjmglaaGreatDoorDk6
import Derived.Test.YthojofeocjmglaaGreatDoorDk13
/- The argument that holds a row of acts: what lies in memory; one of them read. -/
namespace Go.Proofs.YthojofeocjmglaaGreatDoor.I
open Go.RowKit Go.Proofs.YthojofeocjmglaaGreatDoor.B Go.Sort
set_option linter.unusedVariables false
/-- One act at an address. -/
def ActAt (w : World) (p : Addr) (o : ActV) : Prop := w.cell? (p.add 0) = some (.int .i64 o.kind) ∧ w.cell? (p.add 1) = some (.string o.a) ∧ w.cell? (p.add 2) = some (.string o.b) ∧ w.cell? (p.add 3) = some (.int .i64 o.n) ∧ w.cell? (p.add 4) = some (.int .i64 o.k)
/-- So many acts lie at sp. -/
def ActsAt (w : World) (sp : Option Addr) (n : Nat) (O : Nat → ActV) : Prop := ∀ i, i < n → ∃ a, sp = some a ∧ ActAt w (a.add (i * 5)) (O i) ∧ (O i).a.size ≤ 1048576 ∧ (O i).b.size ≤ 1048576
theorem ActAt.chg {w w' : World} {p : Addr} {o : ActV} (h : ActAt w p o) (hC : Chg [] w w') : ActAt w' p o := by
  have mv : ∀ {p : Addr} {v : Value}, w.cell? p = some v → w'.cell? p = some v := fun h => (hC.below.cell (World.block_lt_of_cell? w _ h)).trans h
  exact ⟨mv h.1, mv h.2.1, mv h.2.2.1, mv h.2.2.2.1, mv h.2.2.2.2⟩
theorem ActsAt.chg {w w' : World} {sp : Option Addr} {n : Nat} {O : Nat → ActV} (h : ActsAt w sp n O) (hC : Chg [] w w') : ActsAt w' sp n O := fun i hi => by
  obtain ⟨a, h0, h1, h2⟩ := h i hi
  exact ⟨a, h0, h1.chg hC, h2⟩
theorem size_act (a b c d e : Value) : (Tryz.prog.info? 33).map (·.size) = some (#[a, b, c, d, e]).size := by kernel_rfl
theorem load_act {w : World} {p : Addr} {o : ActV} (h : ActAt w p o) : (loadVar 33 p).run Tryz.prog w = .ok (.agg #[.int .i64 o.kind, .string o.a, .string o.b, .int .i64 o.n, .int .i64 o.k]) w := by
  obtain ⟨h0, h1, h2, h3, h4⟩ := h
  have hl : (loadCells p [Value.int .i64 o.kind, .string o.a, .string o.b, .int .i64 o.n, .int .i64 o.k].length).run Tryz.prog w = .ok [Value.int .i64 o.kind, .string o.a, .string o.b, .int .i64 o.n, .int .i64 o.k].toArray w :=
    run_loadCells_list (P := Tryz.prog) w p _ (fun j v hv => by
      match j, hv with
      | 0, hv => simp at hv; rw [← hv]; exact h0
      | 1, hv => simp at hv; rw [← hv]; exact h1
      | 2, hv => simp at hv; rw [← hv]; exact h2
      | 3, hv => simp at hv; rw [← hv]; exact h3
      | 4, hv => simp at hv; rw [← hv]; exact h4
      | j + 5, hv => simp at hv)
  have hi := size_act (Value.int .i64 o.kind) (.string o.a) (.string o.b) (.int .i64 o.n) (.int .i64 o.k)
  cases hq : Tryz.prog.info? 33 with
  | none => simp [hq] at hi
  | some i =>
    have hs : i.size = 5 := by simpa [hq] using hi
    have hagg : (isAgg 33).run Tryz.prog w = .ok true w := by
      unfold isAgg
      rw [Sem.run_bind, run_underlying Tryz.underlying33 w]
      rfl
    simp only [List.length_cons, List.length_nil] at hl
    simp [loadVar, Sem.run_bind, hagg, sizeOf, typeInfo, hq, hs, hl]
theorem wpList_load_act {ops : Array Oper} {rest : List Oper} {o : Oper} {a : Act} {w : World} {Q : Exit → Act → World → Prop} (hgd : o.guard = none) (x : Operand) (ho : o.op = .load 33 x)
    (p : Addr) (hx : a.eval x = .pointer (some p)) (v : ActV) (h0 : ActAt w p v)
    (h : wpList Tryz.prog ops Q rest (a.put o.dst (.agg #[.int .i64 v.kind, .string v.a, .string v.b, .int .i64 v.n, .int .i64 v.k])) w) : wpList Tryz.prog ops Q (o :: rest) a w :=
  wpList_plain hgd fun _ hK => by
    have := load_act h0
    unfold Oper.wp execOp
    simp only [ho, hx, Instr.loadAt, Instr.sureAddr, Sem.run_bind, Sem.run_pure, Result.andThen_ok, this]
    exact hK _ _ h
/-- An act in a block of its own. -/
theorem act_block {w : World} {B : Nat} {o : ActV} (h : w.heap[B]? = some (.cells #[.int .i64 o.kind, .string o.a, .string o.b, .int .i64 o.n, .int .i64 o.k] 33 (0, 0))) : ActAt w ⟨B, 0, none⟩ o := by
  have e : ∀ j, (⟨B, 0, none⟩ : Addr).add j = ⟨B, j, none⟩ := fun j => by
    unfold Addr.add
    split
    · subst_vars; rfl
    · simp
  exact ⟨by rw [e]; exact cell_of_heap h 0, by rw [e]; exact cell_of_heap h 1, by rw [e]; exact cell_of_heap h 2, by rw [e]; exact cell_of_heap h 3, by rw [e]; exact cell_of_heap h 4⟩
/-- The number of an error out of its number. -/
theorem countD_logl (b n : Nat) (d : DK) : (countD b n d).2.log.length ≤ d.log.length := by rw [(countD_log b n d).1]; exact Nat.le_refl _
theorem actD_log (b n : Nat) (d : DK) (a : ActV) : (actD b n d a).2.log.length ≤ d.log.length + 1 := by
  have hc := countD_logl b n d
  unfold actD
  split
  · unfold doD
    split
    · omega
    · split
      · show (countD b n d).2.log.length ≤ _
        omega
      · show ((countD b n d).2.log ++ [_]).length ≤ _
        rw [List.length_append, List.length_singleton]
        omega
  · split
    · unfold syncD
      split
      · omega
      · simp
    · split
      · unfold failA; split
        · simp
        · split <;> simp
      · split
        · unfold downA; split
          · simp
          · split <;> simp
        · unfold startD; split <;> simp
end Go.Proofs.YthojofeocjmglaaGreatDoor.I
/- Two disks, of which one has a failure planned: plain. -/
namespace Go.Proofs.YthojofeocjmglaaGreatDoor.I
open Go.RowKit Go.Proofs.YthojofeocjmglaaGreatDoor.B Go.Sort
set_option linter.unusedVariables false
/-- Two disks that differ in their numbers alone, no loss of power being planned. -/
structure Pair (d k : DK) : Prop where
  now : d.now = k.now
  safe : d.safe = k.safe
  log : d.log = k.log
  on1 : d.off = false
  on2 : k.off = false
  no1 : d.downs = 0
  no2 : k.downs = 0
theorem count_free {b n : Nat} {d : DK} (h : d.off = false) (h2 : d.downs = 0) (h3 : d.steps + 1 ≠ d.fails) : countD b n d = (0, { d with steps := d.steps + 1 }) := by
  unfold countD
  rw [h]
  simp only [Bool.false_eq_true, if_false]
  rw [if_neg (by omega), if_neg h3]
theorem count_fail {b n : Nat} {d : DK} (h : d.off = false) (h2 : d.downs = 0) (h3 : d.steps + 1 = d.fails) : countD b n d = (210, { d with steps := d.steps + 1 }) := by
  unfold countD
  rw [h]
  simp only [Bool.false_eq_true, if_false]
  rw [if_neg (by omega), if_pos h3]
theorem do_free {b n : Nat} {d : DK} (o : OpV) (h : d.off = false) (h2 : d.downs = 0) (h3 : d.steps + 1 ≠ d.fails) : doD b n d o = if (opF d.now b n o).1 ≠ 0 then ((opF d.now b n o).1, { d with steps := d.steps + 1 }) else (0, { d with steps := d.steps + 1, now := (opF d.now b n o).2, log := d.log ++ [o] }) := by
  unfold doD
  rw [count_free h h2 h3]
  simp
theorem do_fail {b n : Nat} {d : DK} (o : OpV) (h : d.off = false) (h2 : d.downs = 0) (h3 : d.steps + 1 = d.fails) : doD b n d o = (210, { d with steps := d.steps + 1 }) := by
  unfold doD
  rw [count_fail h h2 h3]
  simp
theorem pair_do {b n : Nat} {d k : DK} (o : OpV) (h : Pair d k) (h1 : d.steps + 1 ≠ d.fails) (h2 : k.steps + 1 ≠ k.fails) : (doD b n d o).1 = (doD b n k o).1 ∧ Pair (doD b n d o).2 (doD b n k o).2 ∧ (doD b n d o).2.steps = d.steps + 1 ∧ (doD b n k o).2.steps = k.steps + 1 ∧ (doD b n d o).2.fails = d.fails ∧ (doD b n k o).2.fails = k.fails := by
  rw [do_free o h.on1 h.no1 h1, do_free o h.on2 h.no2 h2, h.now]
  split
  · exact ⟨rfl, ⟨rfl, h.safe, h.log, h.on1, h.on2, h.no1, h.no2⟩, rfl, rfl, rfl, rfl⟩
  · exact ⟨rfl, ⟨rfl, h.safe, by show d.log ++ [o] = k.log ++ [o]; rw [h.log], h.on1, h.on2, h.no1, h.no2⟩, rfl, rfl, rfl, rfl⟩
theorem pair_sync {b n : Nat} {d k : DK} (h : Pair d k) (h1 : d.steps + 1 ≠ d.fails) (h2 : k.steps + 1 ≠ k.fails) : (syncD b n d).1 = 0 ∧ (syncD b n k).1 = 0 ∧ Pair (syncD b n d).2 (syncD b n k).2 := by
  unfold syncD
  rw [count_free h.on1 h.no1 h1, count_free h.on2 h.no2 h2]
  simp only [ne_eq, not_true_eq_false, if_false]
  exact ⟨by trivial, by trivial, ⟨h.now, h.now, rfl, h.on1, h.on2, h.no1, h.no2⟩⟩
theorem pair_fail {b n : Nat} {d k : DK} (o : OpV) (h : Pair d k) (h1 : d.steps + 1 = d.fails) : (doD b n d o).1 = 210 ∧ Pair (doD b n d o).2 k := by
  rw [do_fail o h.on1 h.no1 h1]
  exact ⟨rfl, ⟨h.now, h.safe, h.log, h.on1, h.on2, h.no1, h.no2⟩⟩
end Go.Proofs.YthojofeocjmglaaGreatDoor.I
/- Two disks, of which one has a failure planned, under the same acts: plain. -/
namespace Go.Proofs.YthojofeocjmglaaGreatDoor.I
open Go.RowKit Go.Proofs.YthojofeocjmglaaGreatDoor.B Go.Sort
set_option linter.unusedVariables false
variable {b n : Nat}
theorem act_op {d : DK} {a : ActV} (h : 1 ≤ a.kind ∧ a.kind ≤ 6) : actD b n d a = doD b n d ⟨a.kind, a.a, a.b⟩ := by unfold actD; rw [if_pos h]
theorem act_sync {d : DK} {a : ActV} (h : a.kind = 7) : actD b n d a = syncD b n d := by unfold actD; rw [if_neg (by omega), if_pos h]
theorem sync_free {d : DK} (h : d.off = false) (h2 : d.downs = 0) (h3 : d.steps + 1 ≠ d.fails) : syncD b n d = (0, { d with steps := d.steps + 1, safe := d.now, log := [] }) := by
  unfold syncD
  rw [count_free h h2 h3]
  simp
theorem sync_fail {d : DK} (h : d.off = false) (h2 : d.downs = 0) (h3 : d.steps + 1 = d.fails) : syncD b n d = (210, { d with steps := d.steps + 1 }) := by
  unfold syncD
  rw [count_fail h h2 h3]
  simp
/-- Neither fails: alike. -/
theorem pair_act {d k : DK} (a : ActV) (ha : 1 ≤ a.kind ∧ a.kind ≤ 7) (h : Pair d k) (h1 : d.steps + 1 ≠ d.fails) (h2 : k.steps + 1 ≠ k.fails) :
    (actD b n d a).1 = (actD b n k a).1 ∧ Pair (actD b n d a).2 (actD b n k a).2 ∧ (actD b n d a).2.steps = d.steps + 1 ∧ (actD b n k a).2.steps = k.steps + 1 ∧ (actD b n d a).2.fails = d.fails ∧ (actD b n k a).2.fails = k.fails := by
  by_cases h7 : a.kind = 7
  · rw [act_sync h7, act_sync h7, sync_free h.on1 h.no1 h1, sync_free h.on2 h.no2 h2]
    exact ⟨rfl, ⟨h.now, h.now, rfl, h.on1, h.on2, h.no1, h.no2⟩, rfl, rfl, rfl, rfl⟩
  · rw [act_op (by omega), act_op (by omega)]
    exact pair_do _ h h1 h2
/-- The one that is planned to fail does: nothing else turns. -/
theorem pair_act_fail {d k : DK} (a : ActV) (ha : 1 ≤ a.kind ∧ a.kind ≤ 7) (h : Pair d k) (h1 : d.steps + 1 = d.fails) :
    (actD b n d a).1 = 210 ∧ Pair (actD b n d a).2 k ∧ (actD b n d a).2.steps = d.steps + 1 ∧ (actD b n d a).2.fails = d.fails := by
  by_cases h7 : a.kind = 7
  · rw [act_sync h7, sync_fail h.on1 h.no1 h1]
    exact ⟨rfl, ⟨h.now, h.safe, h.log, h.on1, h.on2, h.no1, h.no2⟩, rfl, rfl⟩
  · rw [act_op (by omega), do_fail _ h.on1 h.no1 h1]
    exact ⟨rfl, ⟨h.now, h.safe, h.log, h.on1, h.on2, h.no1, h.no2⟩, rfl, rfl⟩
theorem pair_new (m : Nat) : Pair { newD with fails := m } newD := ⟨rfl, rfl, rfl, rfl, rfl, rfl, rfl⟩
end Go.Proofs.YthojofeocjmglaaGreatDoor.I
/- What the head of the statements does with a file system: plain. -/
namespace Go.Proofs.YthojofeocjmglaaGreatDoor.I
open Go.RowKit Go.Proofs.YthojofeocjmglaaGreatDoor.B Go.Sort
set_option linter.unusedVariables false
def F1 : FS := [([[97]], rootN)]
def F2 : FS := [([[97]], rootN), ([[97], [102]], ⟨1, ⟨#[]⟩⟩)]
def F3 : FS := [([[97]], rootN), ([[97], [102]], ⟨1, ⟨#[104, 105]⟩⟩)]
def F4 : FS := [([[97]], rootN), ([[103]], ⟨1, ⟨#[104, 105]⟩⟩)]
theorem pts_a : partsF ⟨#[97]⟩ = .ok ([] ++ [[97]]) := by kernel_rfl
theorem pts_g : partsF ⟨#[103]⟩ = .ok ([] ++ [[103]]) := by kernel_rfl
theorem pts_af : partsF ⟨#[97, 47, 102]⟩ = .ok ([[97]] ++ [[102]]) := by kernel_rfl
theorem room0 : Room [] 10 3 := ⟨by omega, by omega, by unfold usedF; simp, by simp⟩
theorem wk1 : makeF [] 10 3 ⟨#[97]⟩ = (0, F1) := makeF_new fsOk_nil rfl rfl rfl pts_a (by simp) (by unfold usedF; simp)
theorem g1 : FsOk F1 ∧ Room F1 10 3 := by have := makeF_keep fsOk_nil room0 ⟨#[97]⟩; rw [wk1] at this; exact this
theorem wk2 : createF F1 10 3 ⟨#[97, 47, 102]⟩ = (0, F2) := createF_new g1.1 (y := rootN) rfl rfl rfl pts_af (by decide) (by decide)
theorem g2 : FsOk F2 ∧ Room F2 10 3 := by have := createF_keep g1.1 g1.2 ⟨#[97, 47, 102]⟩; rw [wk2] at this; exact this
theorem wk3 : appendF F2 10 ⟨#[97, 47, 102]⟩ ⟨#[104, 105]⟩ = (0, F3) := by
  rw [appendF_file g2.1 (x := ⟨1, ⟨#[]⟩⟩) (p := [[97], [102]]) rfl rfl pts_af (by decide), if_neg (by decide)]
  kernel_rfl
theorem g3 : FsOk F3 ∧ Room F3 10 3 := by have := appendF_keep g2.1 g2.2 ⟨#[97, 47, 102]⟩ ⟨#[104, 105]⟩; rw [wk3] at this; exact this
theorem mv4 : mvF F3 [[97], [102]] [[103]] = F4 := by
  unfold mvF F3 F4
  simp only [List.map_cons, List.map_nil]
  rw [mvP_out (r := [[97]]) (by decide), show mvP [[97], [102]] [[103]] [[97], [102]] = [[103]] from mvP_in [[97], [102]] [[103]] []]
theorem wk4 : renameF F3 ⟨#[97, 47, 102]⟩ ⟨#[103]⟩ = (0, F4) := by
  have hx : F3.at ([[97]] ++ [[102]]) = some ⟨1, ⟨#[104, 105]⟩⟩ := by kernel_rfl
  rw [renameF_new g3.1 pts_af pts_g (by simp) hx (fun h => by cases h) (qd := []) (y := rootN) rfl rfl rfl, if_pos]
  · exact congrArg (Prod.mk 0) mv4
  · intro r hr
    cases r with
    | nil => exact ⟨_, pts_g⟩
    | cons k r =>
      obtain ⟨y, h1, h2⟩ := g3.1.prefix hr (by simp)
      rw [hx] at h1
      cases h1
      cases h2
theorem g4 : FsOk F4 ∧ Room F4 10 3 := by
  have hx : F3.at ([[97]] ++ [[102]]) = some ⟨1, ⟨#[104, 105]⟩⟩ := by kernel_rfl
  have hh : RenOk F3 ⟨#[97, 47, 102]⟩ ⟨#[103]⟩ [[97], [102]] [[103]] ⟨1, ⟨#[104, 105]⟩⟩ [] [103] rootN := by
    refine ⟨pts_af, pts_g, by simp, by decide, hx, rfl, rfl, rfl, by decide, ?_, ?_⟩
    · rintro ⟨k, hk⟩
      have hn : F3.at [[103]] = none := by kernel_rfl
      exact hk (not_under g3.1 hn [k])
    · intro r hr
      cases r with
      | nil => exact ⟨_, pts_g⟩
      | cons k r =>
        obtain ⟨y, h1, h2⟩ := g3.1.prefix (p := [[97], [102]]) hr (by simp)
        rw [show F3.at [[97], [102]] = some ⟨1, ⟨#[104, 105]⟩⟩ from hx] at h1
        cases h1
        cases h2
  have := hh.sound g3.1 g3.2
  rw [del_none (by decide), mv4] at this
  exact this
theorem wk5 : readF F4 ⟨#[103]⟩ = (0, ⟨#[104, 105]⟩) := readF_file g4.1 (x := ⟨1, ⟨#[104, 105]⟩⟩) (p := [[103]]) rfl rfl pts_g
theorem wk6 : (readF F4 ⟨#[97, 47, 102]⟩).1 = 200 := by
  unfold readF
  rw [thereE_no g4.1 (q := [[97]]) (y := rootN) rfl rfl rfl pts_af]
theorem wk7 : usedF F4 = 2 := by decide
theorem wk8 : appendF F4 10 ⟨#[103]⟩ ⟨#[49, 50, 51, 52, 53, 54, 55, 56, 57]⟩ = (206, F4) := by
  rw [appendF_file g4.1 (x := ⟨1, ⟨#[104, 105]⟩⟩) (p := [[103]]) rfl rfl pts_g (by decide), if_pos (by decide)]
theorem wk9 : listE F4 ⟨#[]⟩ = .ok [] := by
  unfold listE
  rw [thereE_at g4.1 (x := rootN) (p := []) rfl parts_empty]
  rfl
/-- The names that List gives. -/
theorem wk10 {l : List Nm} (hd : l.Nodup) (h : ∀ k, k ∈ l ↔ F4.at ([] ++ [k]) ≠ none) : l.length = 2 ∧ sortN l = [[97], [103]] := by
  have hm : ∀ k, k ∈ l ↔ k ∈ ([[97], [103]] : List Nm) := by
    intro k
    rw [h k, List.nil_append, at_ne _ (by simp)]
    unfold F4
    rw [List.lookup_cons, List.lookup_cons, List.lookup_nil]
    by_cases h1 : k = [97]
    · subst h1; simp
    · have e1 : ([k] == ([[97]] : Pth)) = false := by simpa using h1
      rw [e1]
      by_cases h2 : k = [103]
      · subst h2; simp
      · have e2 : ([k] == ([[103]] : Pth)) = false := by simpa using h2
        rw [e2]
        simp [h1, h2]
  have hp : l.Perm [[97], [103]] := (List.perm_ext_iff_of_nodup hd (by decide)).2 hm
  refine ⟨hp.length_eq, ?_⟩
  have h1 : (sortN l).Perm [[97], [103]] := (List.mergeSort_perm l _).trans hp
  have tr : ∀ a b c : Nm, decide (a ≤ b) = true → decide (b ≤ c) = true → decide (a ≤ c) = true := fun a b c h1 h2 => by
    simp only [decide_eq_true_eq] at h1 h2 ⊢
    exact List.le_trans h1 h2
  have tt : ∀ a b : Nm, (decide (a ≤ b) || decide (b ≤ a)) = true := fun a b => by
    simp only [Bool.or_eq_true, decide_eq_true_eq]
    exact List.le_total a b
  have h2 := List.pairwise_mergeSort (le := fun x y : Nm => decide (x ≤ y)) tr tt l
  refine h1.eq_of_pairwise ?_ h2 ?_
  · intro a b _ _ h1 h2
    simp only [decide_eq_true_eq] at h1 h2
    exact List.le_antisymm h1 h2
  · simp
    decide
end Go.Proofs.YthojofeocjmglaaGreatDoor.I
/- What must come whatever the input is, of a disk: plain. -/
namespace Go.Proofs.YthojofeocjmglaaGreatDoor.I
open Go.RowKit Go.Proofs.YthojofeocjmglaaGreatDoor.B Go.Sort
set_option linter.unusedVariables false
def U1 : FS := [([[97]], rootN)]
def U2 : FS := [([[97]], rootN), ([[97], [120]], ⟨1, ⟨#[]⟩⟩)]
def U3 : FS := [([[97]], rootN), ([[97], [120]], ⟨1, ⟨#[104, 105]⟩⟩)]
def ov1 : OpV := ⟨1, ⟨#[97]⟩, ⟨#[]⟩⟩
def ov2 : OpV := ⟨2, ⟨#[97, 47, 120]⟩, ⟨#[]⟩⟩
def ov3 : OpV := ⟨3, ⟨#[97, 47, 120]⟩, ⟨#[104, 105]⟩⟩
def DU1 : DK := ⟨U1, [], [ov1], 1, 0, 0, 0, false⟩
def DU2 : DK := ⟨U1, U1, [], 2, 0, 0, 0, false⟩
def DU3 : DK := ⟨U2, U1, [ov2], 3, 0, 0, 0, false⟩
def DU4 : DK := ⟨U3, U1, [ov2, ov3], 4, 0, 0, 0, false⟩
def DU5 : DK := ⟨U3, U1, [ov2, ov3], 4, 0, 5, 1, false⟩
def DU6 : DK := ⟨U2, U1, [ov2, ov3], 5, 0, 5, 1, true⟩
def DU7 : DK := ⟨U2, U2, [], 5, 0, 0, 1, false⟩
theorem uts_ax : partsF ⟨#[97, 47, 120]⟩ = .ok ([[97]] ++ [[120]]) := by kernel_rfl
theorem uroom0 : Room [] 100 10 := ⟨by omega, by omega, by unfold usedF; simp, by simp⟩
theorem us1 : makeF [] 100 10 ⟨#[97]⟩ = (0, U1) := makeF_new fsOk_nil rfl rfl rfl pts_a (by simp) (by unfold usedF; simp)
theorem ug1 : FsOk U1 ∧ Room U1 100 10 := by have := makeF_keep fsOk_nil uroom0 ⟨#[97]⟩; rw [us1] at this; exact this
theorem us2 : createF U1 100 10 ⟨#[97, 47, 120]⟩ = (0, U2) := createF_new ug1.1 (y := rootN) rfl rfl rfl uts_ax (by decide) (by decide)
theorem ug2 : FsOk U2 ∧ Room U2 100 10 := by have := createF_keep ug1.1 ug1.2 ⟨#[97, 47, 120]⟩; rw [us2] at this; exact this
theorem us3 : appendF U2 100 ⟨#[97, 47, 120]⟩ ⟨#[104, 105]⟩ = (0, U3) := by
  rw [appendF_file ug2.1 (x := ⟨1, ⟨#[]⟩⟩) (p := [[97], [120]]) rfl rfl uts_ax (by decide), if_neg (by decide)]
  kernel_rfl
theorem us4 : readF U2 ⟨#[97, 47, 120]⟩ = (0, ⟨#[]⟩) := readF_file ug2.1 (x := ⟨1, ⟨#[]⟩⟩) (p := [[97], [120]]) rfl rfl uts_ax
theorem uop1 : opF [] 100 10 ov1 = (0, U1) := by unfold opF; rw [if_pos (by rfl)]; exact us1
theorem uop2 : opF U1 100 10 ov2 = (0, U2) := by unfold opF; rw [if_neg (by show ¬ (2 : Int) = 1; decide), if_pos (by rfl)]; exact us2
theorem uop3 : opF U2 100 10 ov3 = (0, U3) := by unfold opF; rw [if_neg (by show ¬ (3 : Int) = 1; decide), if_neg (by show ¬ (3 : Int) = 2; decide), if_pos (by rfl)]; exact us3
theorem su1 : doD 100 10 newD ov1 = (0, DU1) := by
  rw [do_free _ rfl rfl (by decide), show newD.now = [] from rfl, uop1]
  rfl
theorem su2 : syncD 100 10 DU1 = (0, DU2) := by
  rw [sync_free rfl rfl (by decide)]
  rfl
theorem su3 : doD 100 10 DU2 ov2 = (0, DU3) := by
  rw [do_free _ rfl rfl (by decide), show DU2.now = U1 from rfl, uop2]
  rfl
theorem su4 : doD 100 10 DU3 ov3 = (0, DU4) := by
  rw [do_free _ rfl rfl (by decide), show DU3.now = U2 from rfl, uop3]
  rfl
theorem su5 : downA DU4 1 1 = (0, DU5) := by
  unfold downA
  rw [if_neg (by decide), if_neg (by decide)]
  rfl
theorem su6 : syncD 100 10 DU5 = (211, DU6) := by
  have hc : countD 100 10 DU5 = (211, DU6) := by
    unfold countD
    rw [if_neg (by decide), if_pos (by rfl)]
    show (211, (⟨(opF U1 100 10 ov2).2, U1, [ov2, ov3], 5, 0, 5, 1, true⟩ : DK)) = _
    rw [uop2]
    rfl
  unfold syncD
  rw [hc]
  rfl
theorem su7 : startD DU6 = (0, DU7) := rfl
theorem su8 : startD DU7 = (212, DU7) := rfl
theorem su9 : readF DU7.now ⟨#[97, 47, 120]⟩ = (0, ⟨#[]⟩) := us4
end Go.Proofs.YthojofeocjmglaaGreatDoor.I
/- The laws' sure: the walk. -/
namespace Go.Proofs.YthojofeocjmglaaGreatDoor.I
open Go.RowKit Go.Proofs.YthojofeocjmglaaGreatDoor.B Go.Sort
set_option linter.unusedVariables false
set_option linter.unusedSimpArgs false
theorem errV_ne {n : Nat} (h : n ≠ 0) : errV n = .iface 88 (.int .i64 (n : Int)) := by unfold errV; rw [if_neg h]
set_option maxRecDepth 100000 in
set_option maxHeartbeats 16000000 in
theorem sure_calls (w : World) (hm : MaxLenAt w) (hg : ErrType w) : Calls Tryz.prog 19 #[] w fun e w' => e = .returned (.bool true) ∧ Chg [] w w' := by
  have HM := Asd.mk hm
  have HE := Asd.mk hg
  have H0 := Asd.mk (dnew_ok 100 10 w w (Chg.refl _ _) (by omega) (by omega))
  clear hm hg
  (go_enter Tryz.func19, Tryz.ntmps19)
  go_wp2_with fail
  refine H0.out.mono ?_
  rintro e w1 ⟨d, K, rfl, hS, _, _⟩
  have HS := Asd.mk hS
  have H1 := Asd.mk (dnew_bad (-1) 0 w1 (by omega))
  clear hS H0
  go_wp2_with fail
  refine H1.out.mono ?_
  rintro e w2 ⟨rfl, hC⟩
  have HS2 := Asd.mk (HS.out.chg0 hC)
  have H2 := Asd.mk (num_errno 1 w2 (HE.out.chg HS2.out.1))
  clear hC H1 HS
  go_wp2_with fail
  refine H2.out.mono ?_
  rintro e w3 ⟨rfl, hC⟩
  have HS3 := Asd.mk (HS2.out.chg0 hC)
  have h3 := dmake_calls w w3 K [] d 100 10 newD ⟨#[97]⟩ ⟨#[]⟩ HS3.out HM.out (by decide) (by decide) (by decide) (by decide)
  rw [show doD 100 10 newD ⟨1, ⟨#[97]⟩, ⟨#[]⟩⟩ = (0, DU1) from su1] at h3
  have H3 := Asd.mk h3
  clear hC H2 HS2 h3
  go_wp2_with fail
  refine H3.out.mono ?_
  rintro e w4 ⟨rfl, K4, Q4, hS, _, _, _⟩
  have h4 := dsync_calls w w4 K4 Q4 d 100 10 DU1 hS HM.out (by decide)
  rw [su2] at h4
  have H4 := Asd.mk h4
  clear hS H3 HS3 h4
  simp only [errV, if_true]
  go_wp2_with fail
  refine H4.out.mono ?_
  rintro e w5 ⟨rfl, K5, Q5, hS, _, _, _⟩
  have h5 := dcreate_calls w w5 K5 Q5 d 100 10 DU2 ⟨#[97, 47, 120]⟩ ⟨#[]⟩ hS HM.out (by decide) (by decide) (by decide) (by decide)
  rw [show doD 100 10 DU2 ⟨2, ⟨#[97, 47, 120]⟩, ⟨#[]⟩⟩ = (0, DU3) from su3] at h5
  have H5 := Asd.mk h5
  clear hS H4 h5
  simp only [errV, if_true]
  go_wp2_with fail
  refine H5.out.mono ?_
  rintro e w6 ⟨rfl, K6, Q6, hS, _, _, _⟩
  have h6 := dappend_calls w w6 K6 Q6 d 100 10 DU3 ⟨#[97, 47, 120]⟩ ⟨#[104, 105]⟩ hS HM.out (by decide) (by decide) (by decide) (by decide)
  rw [show doD 100 10 DU3 ⟨3, ⟨#[97, 47, 120]⟩, ⟨#[104, 105]⟩⟩ = (0, DU4) from su4] at h6
  have H6 := Asd.mk h6
  clear hS H5 h6
  simp only [errV, if_true]
  go_wp2_with fail
  refine H6.out.mono ?_
  rintro e w7 ⟨rfl, K7, Q7, hS, _, _, _⟩
  have h7 := dunsafe_calls hS
  rw [show ((DU4.log.length : Nat) : Int) = 2 from rfl] at h7
  have H7 := Asd.mk h7
  have HS7 := Asd.mk hS
  clear hS H6 h7
  simp only [errV, if_true]
  go_wp2_with fail
  refine H7.out.mono ?_
  rintro e w8 ⟨rfl, rfl⟩
  have h8 := ddown_calls w w8 K7 Q7 d 100 10 DU4 1 1 HS7.out (by decide)
  rw [su5] at h8
  have H8 := Asd.mk h8
  clear H7 h8
  go_wp2_with fail
  refine H8.out.mono ?_
  rintro e w9 ⟨rfl, K9, Q9, hS, _, _, _⟩
  have h9 := dsync_calls w w9 K9 Q9 d 100 10 DU5 hS HM.out (by decide)
  rw [su6] at h9
  have H9 := Asd.mk h9
  clear hS H8 HS7 h9
  simp only [errV, if_true]
  go_wp2_with fail
  refine H9.out.mono ?_
  rintro e wa ⟨rfl, Ka, Qa, hS, _, _, _⟩
  rw [show errV 211 = .iface 88 (.int .i64 211) from errV_ne (by decide)]
  have HSa := Asd.mk hS
  have Ha := Asd.mk (num_errno 211 wa (HE.out.chg hS.1))
  clear hS H9
  go_wp2_with fail
  refine Ha.out.mono ?_
  rintro e wb ⟨rfl, hC⟩
  have h10 := dstart_calls w wb Ka Qa d 100 10 DU6 (HSa.out.chg0 hC)
  rw [su7] at h10
  have Hb := Asd.mk h10
  clear hC Ha HSa h10
  go_wp2_with fail
  refine Hb.out.mono ?_
  rintro e wc ⟨rfl, Kc, Qc, hS, _, _, _⟩
  have h11 := dread_on ⟨#[97, 47, 120]⟩ hS HM.out (by decide) rfl
  rw [su9] at h11
  have Hc := Asd.mk h11
  have HSc := Asd.mk hS
  clear hS Hb h11
  simp only [errV, if_true]
  go_wp2_with fail
  refine Hc.out.mono ?_
  rintro e wd ⟨rfl, hC⟩
  have HSd := Asd.mk (HSc.out.chg0 hC)
  have h12 := dsteps_calls HSd.out
  rw [show ((DU7.steps : Nat) : Int) = 5 from rfl] at h12
  have Hd := Asd.mk h12
  clear hC Hc HSc h12
  simp only [errV, if_true]
  go_wp2_with fail
  refine Hd.out.mono ?_
  rintro e we ⟨rfl, rfl⟩
  have h13 := dunsafe_calls HSd.out
  rw [show ((DU7.log.length : Nat) : Int) = 0 from rfl] at h13
  have He := Asd.mk h13
  clear Hd h13
  go_wp2_with fail
  refine He.out.mono ?_
  rintro e wf ⟨rfl, rfl⟩
  have h14 := dstart_calls w wf Kc Qc d 100 10 DU7 HSd.out
  rw [su8] at h14
  have Hf := Asd.mk h14
  clear He h14
  go_wp2_with fail
  refine Hf.out.mono ?_
  rintro e wg ⟨rfl, Kg, Qg, hS, _, _, _⟩
  rw [show errV 212 = .iface 88 (.int .i64 212) from errV_ne (by decide)]
  have HSg := Asd.mk hS
  have Hg := Asd.mk (num_errno 212 wg (HE.out.chg hS.1))
  clear hS Hf
  go_wp2_with fail
  refine Hg.out.mono ?_
  rintro e wh ⟨rfl, hC⟩
  have HSh := Asd.mk (HSg.out.chg0 hC)
  clear hC Hg
  go_wp2
  go_ret
  exact ⟨rfl, HSh.out.1⟩
end Go.Proofs.YthojofeocjmglaaGreatDoor.I
/- The reference's Below (layer 3): the walk. -/
namespace Go.Proofs.YthojofeocjmglaaGreatDoor.I
open Go.RowKit Go.Proofs.YthojofeocjmglaaGreatDoor.B Go.Sort
set_option linter.unusedVariables false
theorem pre_slash {a b : ByteArray} : Lib.hasPrefix b.data.toList (a ++ ⟨#[47]⟩).data.toList = true ↔ ∃ h : a.size < b.size, (b.extract 0 a.size).data.toList = a.data.toList ∧ b[a.size] = 47 := by
  have ha := list_size a
  have hb := list_size b
  unfold Lib.hasPrefix
  rw [ByteArray.data_append, Array.toList_append, List.isPrefixOf_iff_prefix]
  constructor
  · rintro ⟨t, ht⟩
    have hlen := congrArg List.length ht
    simp only [List.length_append, List.length_cons, List.length_nil] at hlen
    have hlt : a.size < b.size := by omega
    refine ⟨hlt, ?_, ?_⟩
    · rw [toList_extract, List.drop_zero, Nat.sub_zero, ← ht, List.append_assoc, ← ha, List.take_left]
    · have h1 := list_get hlt
      rw [← ht, List.append_assoc, List.getElem?_append_right (by omega), ha, Nat.sub_self] at h1
      simp at h1
      exact h1.symm
  · rintro ⟨hlt, h1, h2⟩
    rw [toList_extract, List.drop_zero, Nat.sub_zero] at h1
    refine ⟨b.data.toList.drop (a.size + 1), ?_⟩
    have hl : a.size < b.data.toList.length := by omega
    have h3 : b.data.toList.drop a.size = 47 :: b.data.toList.drop (a.size + 1) := by
      rw [List.drop_eq_getElem_cons hl]
      congr 1
    calc a.data.toList ++ [47] ++ b.data.toList.drop (a.size + 1) = a.data.toList ++ b.data.toList.drop a.size := by rw [h3]; simp
      _ = b.data.toList.take a.size ++ b.data.toList.drop a.size := by rw [h1]
      _ = _ := List.take_append_drop _ _
set_option maxRecDepth 100000 in
set_option maxHeartbeats 16000000 in
theorem refbelow_calls (a b : ByteArray) (w : World) (ha : a.size ≤ 4294967280) (hb : b.size ≤ 4294967280) : Calls Tryz.prog 151 #[.string a, .string b] w fun e w' => e = .returned (.bool (belowB a b)) ∧ w' = w := by
  have t1 := ba_tests a []
  by_cases h1 : a.data.toList = []
  · rw [show belowB a b = true by unfold belowB; rw [ByteArray.toList_eq, h1]; rfl]
    rw [decide_eq_true h1] at t1
    clear h1
    (go_enter Tryz.func151, Tryz.ntmps151)
    go_wp2
    go_ret
    exact ⟨rfl, rfl⟩
  · rw [decide_eq_false h1] at t1
    have te : a.toList.isEmpty = false := by rw [ByteArray.toList_eq]; exact Bool.eq_false_iff.2 fun h => h1 (List.isEmpty_iff.1 h)
    cases t2 : (b.toList == a.toList) with
    | true =>
      rw [show belowB a b = true by unfold belowB; rw [t2]; simp]
      clear h1 te
      (go_enter Tryz.func151, Tryz.ntmps151)
      go_wp2
      go_ret
      exact ⟨rfl, rfl⟩
    | false =>
      rw [show belowB a b = Lib.hasPrefix b.data.toList (a ++ ⟨#[47]⟩).data.toList by unfold belowB; rw [te, t2]; rfl]
      by_cases h3 : a.size < b.size
      · have k1 : (a.size : Int) < (b.size : Int) := by omega
        have hx : ((b.extract 0 a.size).toList == a.toList) = decide ((b.extract 0 a.size).data.toList = a.data.toList) := by
          rw [ByteArray.toList_eq a]; exact ba_tests _ _
        by_cases h4 : (b.extract 0 a.size).data.toList = a.data.toList
        · rw [decide_eq_true h4] at hx
          by_cases h5 : b[a.size] = 47
          · rw [pre_slash.2 ⟨h3, h4, h5⟩]
            have t5 : (((b[a.size].toNat : Nat) : Int) == 47) = true := by rw [h5]; rfl
            clear h1 te h4 h5
            (go_enter Tryz.func151, Tryz.ntmps151)
            go_wp2
            go_ret
            exact ⟨rfl, rfl⟩
          · rw [show Lib.hasPrefix b.data.toList (a ++ ⟨#[47]⟩).data.toList = false from Bool.eq_false_iff.2 fun h => h5 (pre_slash.1 h).2.2]
            have t5 : (((b[a.size].toNat : Nat) : Int) == 47) = false := by
              refine beq_eq_false_iff_ne.2 fun h => h5 ?_
              apply UInt8.toNat_inj.1
              have : b[a.size].toNat = 47 := by omega
              rw [this]; rfl
            clear h1 te h4 h5
            (go_enter Tryz.func151, Tryz.ntmps151)
            go_wp2
            go_ret
            exact ⟨rfl, rfl⟩
        · rw [show Lib.hasPrefix b.data.toList (a ++ ⟨#[47]⟩).data.toList = false from Bool.eq_false_iff.2 fun h => h4 (pre_slash.1 h).2.1]
          rw [decide_eq_false h4] at hx
          clear h1 te h4
          (go_enter Tryz.func151, Tryz.ntmps151)
          go_wp2
          go_ret
          exact ⟨rfl, rfl⟩
      · have k1 : ¬ (a.size : Int) < (b.size : Int) := by omega
        rw [show Lib.hasPrefix b.data.toList (a ++ ⟨#[47]⟩).data.toList = false from Bool.eq_false_iff.2 fun h => h3 (pre_slash.1 h).1]
        clear h1 te h3
        (go_enter Tryz.func151, Tryz.ntmps151)
        go_wp2
        go_ret
        exact ⟨rfl, rfl⟩
end Go.Proofs.YthojofeocjmglaaGreatDoor.I
/- What InodeKeeps asks of a tree: plain. -/
namespace Go.Proofs.YthojofeocjmglaaGreatDoor.I
open Go.RowKit Go.Proofs.YthojofeocjmglaaGreatDoor.B Go.Sort
set_option linter.unusedVariables false
/-- The whole tree. -/
def treeF0 (fs : FS) : List Ent := treeL fs 65 []
theorem below_prefix {p q : Pth} (hp : p ≠ []) (hop : okP p) (hoq : okP q) (h : belowB (tx p) (tx q) = true) : p <+: q := by
  have hpt := parts_tx hp hop
  by_cases hq : q = []
  · subst hq
    exfalso
    unfold belowB at h
    rw [Bool.or_eq_true, Bool.or_eq_true] at h
    rcases h with (h | h) | h
    · rw [ByteArray.toList_eq, List.isEmpty_iff] at h
      have : tx p = ⟨#[]⟩ := by have := congrArg nb h; rw [nb_list] at this; exact this
      exact tx_ne hp hop this
    · have := ba_eq (beq_iff_eq.1 h)
      exact tx_ne hp hop this.symm
    · obtain ⟨h1, _⟩ := pre_slash.1 h
      have : (tx []).size = 0 := rfl
      omega
  · unfold belowB at h
    rw [Bool.or_eq_true, Bool.or_eq_true] at h
    rcases h with (h | h) | h
    · rw [ByteArray.toList_eq, List.isEmpty_iff] at h
      have : tx p = ⟨#[]⟩ := by have := congrArg nb h; rw [nb_list] at this; exact this
      exact absurd this (tx_ne hp hop)
    · have e := ba_eq (beq_iff_eq.1 h)
      have hqt := parts_tx hq hoq
      rw [e, hpt] at hqt
      cases hqt
      exact List.prefix_refl _
    · unfold Lib.hasPrefix at h
      rw [List.isPrefixOf_iff_prefix] at h
      obtain ⟨t, ht⟩ := h
      rw [ByteArray.data_append, Array.toList_append, tx_list, tx_list] at ht
      have hs := spL_join_all 47 hq (ok_slash hoq.2.2)
      rw [← ht, List.append_assoc] at hs
      have e : spL 47 (joinL 47 p ++ ([47] ++ t)) = spL 47 (joinL 47 p) ++ spL 47 t := spL_join 47 (joinL 47 p) t
      have hs2 : spL 47 (joinL 47 p) ++ spL 47 t = q := by rw [← e]; exact hs
      rw [spL_join_all 47 hp (ok_slash hop.2.2)] at hs2
      exact ⟨_, hs2⟩
theorem ok_at {fs : FS} (hg : FsOk fs) {p : Pth} (h : fs.at p ≠ none) : okP p := by
  cases hx : fs.at p with
  | none => exact absurd hx h
  | some x => exact hg.okp p x hx
/-- What stands behind what is no directory is not below it. -/
theorem tree_next {fs : FS} (hg : FsOk fs) {k : Nat} (hk : k + 1 < (pathsL fs 65 []).length) (hn : (entF fs ((pathsL fs 65 [])[k]'(by omega))).2.1 ≠ 2) : belowB (tx ((pathsL fs 65 [])[k]'(by omega))) (tx ((pathsL fs 65 [])[k + 1]'hk)) = false := by
  obtain ⟨a, ha⟩ : ∃ a, (pathsL fs 65 [])[k]'(by omega) = a := ⟨_, rfl⟩
  obtain ⟨b, hb⟩ : ∃ b, (pathsL fs 65 [])[k + 1]'hk = b := ⟨_, rfl⟩
  have ma : a ∈ pathsL fs 65 [] := by rw [← ha]; exact List.getElem_mem _
  have mb : b ∈ pathsL fs 65 [] := by rw [← hb]; exact List.getElem_mem _
  have hne : a ≠ b := by
    rw [← ha, ← hb]
    exact List.pairwise_iff_getElem.1 (paths_nodup hg.nodup 65 []) k (k + 1) (by omega) hk (by omega)
  have hr : fs.at [] ≠ none := by rw [at_root]; simp
  have aa := paths_at hr ma
  have ab := paths_at hr mb
  rw [ha] at hn
  rw [ha, hb]
  apply Bool.eq_false_iff.2
  intro h
  have ha0 : a ≠ [] := by
    rintro rfl
    apply hn
    unfold entF
    rw [at_root]; rfl
  obtain ⟨s, hs⟩ := below_prefix ha0 (ok_at hg aa) (ok_at hg ab) h
  have hs0 : s ≠ [] := by
    rintro rfl
    rw [List.append_nil] at hs
    exact hne hs
  rw [← hs] at ab
  obtain ⟨y, hy1, hy2⟩ := hg.prefix ab hs0
  apply hn
  unfold entF
  rw [hy1]
  exact hy2
theorem sum_perm {l m : List Nat} (h : l.Perm m) : l.sum = m.sum := by
  induction h with
  | nil => rfl
  | cons x _ ih => simp [ih]
  | swap x y l => simp; omega
  | trans _ _ h1 h2 => exact h1.trans h2
/-- The bytes of all texts are what is taken. -/
theorem tree_sum {fs : FS} (hg : FsOk fs) : ((treeF0 fs).map fun x => x.2.2.size).sum = usedF fs := by
  unfold treeF0 treeL
  rw [List.map_map]
  have h1 := sum_perm ((paths_perm hg).map ((fun x : Ent => x.2.2.size) ∘ entF fs))
  rw [h1, List.map_cons, List.sum_cons, List.map_map]
  have h0 : ((fun x : Ent => x.2.2.size) ∘ entF fs) [] = 0 := by
    show ((fs.at []).getD rootN).text.size = 0
    rw [at_root]; rfl
  rw [h0, Nat.zero_add]
  unfold usedF
  congr 1
  refine List.map_congr_left fun y hy => ?_
  show ((fs.at y.1).getD rootN).text.size = y.2.text.size
  rw [at_ne fs (hg.ne y hy), mem_lookup hg.nodup hy]
  rfl
theorem tree_count {fs : FS} (hg : FsOk fs) : (treeF0 fs).length = fs.length + 1 := by
  unfold treeF0 treeL
  rw [List.length_map, (paths_perm hg).length_eq]
  simp
end Go.Proofs.YthojofeocjmglaaGreatDoor.I
/- Rows that are written into, appended to; a row of entries as sameEntries reads it. -/
namespace Go.Proofs.YthojofeocjmglaaGreatDoor.I
open Go.RowKit Go.Proofs.YthojofeocjmglaaGreatDoor.B Go.Sort
set_option linter.unusedVariables false
theorem setCells_heap (g : Nat) (t : TypeId) (fz : Nat × Nat) : ∀ (vs : List Value) (o : Nat) (w : World) (cs : Array Value), w.heap[g]? = some (.cells cs t fz) → ∃ cs', (w.setCells g o vs).heap[g]? = some (.cells cs' t fz) ∧ cs'.size = cs.size
  | [], o, w, cs, h => ⟨cs, h, rfl⟩
  | v :: vs, o, w, cs, h => by
    obtain ⟨cs', h1, h2⟩ := setCells_heap g t fz vs (o + 1) (w.setCell ⟨g, o, none⟩ v) _ (hp_set h o v)
    exact ⟨cs', h1, by rw [h2]; simp⟩
theorem Chg.setCells {L : List Nat} {a : World} {g : Nat} (hp : g < a.heap.size → g ∈ L) : ∀ (vs : List Value) (o : Nat) (b : World), Chg L a b → Chg L a (b.setCells g o vs)
  | [], o, b, h => h
  | v :: vs, o, b, h => Chg.setCells hp vs (o + 1) (b.setCell ⟨g, o, none⟩ v) (h.setCell hp v)
theorem there_row {w : World} {g : Nat} {cs : Array Value} {t : TypeId} (h : w.heap[g]? = some (.cells cs t (0, 0))) {o n : Nat} (hn : o + n ≤ cs.size) : w.there g o n := fun j hj =>
  ⟨by rw [cell_of_heap h, Array.getElem?_eq_getElem (by omega)]; rfl, frozen_of_heap h (o + j)⟩
theorem own_form {w : World} {b z n : Nat} {t : TypeId} {v : Value} {xs : List Value} (h : w.ownsRow b t z v n xs) : ∃ A c, v = .slice A n c ∧ n ≤ c := by
  rcases h.2 with ⟨rfl, rfl⟩ | ⟨g, cap, cur, rfl, _, _, hc, _⟩
  · exact ⟨none, 0, rfl, Nat.le_refl _⟩
  · exact ⟨_, _, rfl, hc⟩
theorem own_cells {w : World} {b z n c : Nat} {t : TypeId} {A : Option Addr} {xs : List Value} (h : w.ownsRow b t z (.slice A n c) n xs) (hn : 0 < n) : ∃ g cur, A = some ⟨g, 0, none⟩ ∧ b ≤ g ∧ w.heap[g]? = some (.cells cur t (0, 0)) ∧ n * z ≤ cur.size := by
  rcases h.2 with ⟨_, h0⟩ | ⟨g, cap, cur, hv, hb, hg, hc, hm, hs, ht⟩
  · omega
  · have e1 : A = some ⟨g, 0, none⟩ := by simp only [Value.slice.injEq] at hv; exact hv.1
    refine ⟨g, cur, e1, hb, hg, ?_⟩
    rw [hs]
    exact Nat.mul_le_mul_right z hc
/-- A row written into is a row still. -/
theorem own_write {w : World} {b z n c : Nat} {t : TypeId} {g : Nat} {xs : List Value} (h : w.ownsRow b t z (.slice (some ⟨g, 0, none⟩) n c) n xs) (o : Nat) (vs : List Value) : ∃ xs', (w.setCells g o vs).ownsRow b t z (.slice (some ⟨g, 0, none⟩) n c) n xs' := by
  rcases h.2 with ⟨h1, _⟩ | ⟨g', cap, cur, hv, hb, hg, hc, hm, hs, ht⟩
  · cases h1
  · have e1 : g = g' ∧ c = cap := by simp only [Value.slice.injEq, Option.some.injEq, Addr.mk.injEq] at hv; exact ⟨hv.1.1, hv.2.2⟩
    obtain ⟨rfl, rfl⟩ := e1
    obtain ⟨cs', k1, k2⟩ := setCells_heap g t (0, 0) vs o w cur hg
    refine ⟨cs'.toList.take (n * z), ?_, .inr ⟨g, c, cs', rfl, hb, k1, hc, hm, by rw [k2, hs], rfl⟩⟩
    rw [List.length_take, Array.length_toList, k2, hs]
    exact Nat.min_eq_left (Nat.mul_le_mul_right z hc)
/-- What a row that grows leaves. -/
theorem chg_grown {w w' : World} {row : Option Nat} (h : w.grownBy w' row) : Chg row.toList w w' :=
  ⟨h.os, h.tape, h.output, h.size, fun i hi hn => h.block i hi (fun e => hn (by rw [← e]; simp))⟩
theorem wpList_build_ent {ops : Array Oper} {rest : List Oper} {o : Oper} {a : Act} {w : World} {Q : Exit → Act → World → Prop} (hgd : o.guard = none) (x : Ent) (y : Operand) (ho : o.op = .buildSlice 39 1 #[(0, y)]) (hy : a.eval y = .agg (entC x)) (n : Nat) (hn : w.heap.size = n)
    (h : wpList Tryz.prog ops Q rest (a.put o.dst (.slice (some ⟨n, 0, none⟩) 1 1)) (w.alloc (.cells (entC x) 64))) : wpList Tryz.prog ops Q (o :: rest) a w :=
  wpList_plain hgd fun _ hK => wp_build_ent x y ho hy (by subst hn; exact hK _ _ h)
set_option maxRecDepth 100000 in
theorem wpList_append_entx {ops : Array Oper} {rest : List Oper} {o : Oper} {a : Act} {w : World} {Q : Exit → Act → World → Prop} (hgd : o.guard = none) (x : Ent) (s y : Operand)
    (ho : o.op = .call { callee := .builtin .append, args := #[s, y], argTypes := #[39, 39] }) (base : Nat) (v : Value) (n : Nat) (xs : List Value) (hs : a.eval s = v) (hown : w.ownsRow base 64 3 v n xs)
    (g : Nat) (hy : a.eval y = .slice (some ⟨g, 0, none⟩) 1 1) (hg : w.heap[g]? = some (.cells (entC x) 64 (0, 0))) (hL : n ≤ 1048576) (hb : base ≤ w.heap.size)
    (h : ∀ g' cap w', w'.ownsRow base 64 3 (.slice (some ⟨g', 0, none⟩) (n + 1) cap) (n + 1) (xs ++ (entC x).toList) → w.grownBy w' v.ownBlock → wpList Tryz.prog ops Q rest (a.put o.dst (.slice (some ⟨g', 0, none⟩) (n + 1) cap)) w') : wpList Tryz.prog ops Q (o :: rest) a w := by
  obtain ⟨ie, z, h1, h2, h3, h4, h5⟩ := info_ent'
  refine wpList_append_lies w hgd s y 39 ho base 64 ie z 3 40 Tryz.underlying39 h1 h2 h3 h4 h5 (by decide) v n xs hs hown ⟨g, 0, none⟩ 1 1 (entC x).toList hy ?_ ?_ ?_ (by decide) ?_ ?_ hb _ rfl ?_
  · rfl
  · intro j u hu
    have e : (⟨g, 0, none⟩ : Addr).add j = ⟨g, j, none⟩ := by
      unfold Addr.add
      split
      · subst_vars; rfl
      · simp
    rw [e, cell_of_heap hg]
    simpa using hu
  · intro u hu
    have h7 : (entC x).all (·.oneCell') = true := one_entry _ _ _
    exact (Array.all_eq_true_iff_forall_mem.1 h7) u (Array.mem_def.2 hu)
  · unfold maxLen; omega
  · omega
  · intro g' cap w' q1 q2 q3 _
    exact h g' cap w' q1 q2
theorem wpList_append_strx {ops : Array Oper} {rest : List Oper} {o : Oper} {a : Act} {w : World} {Q : Exit → Act → World → Prop} (hgd : o.guard = none) (p : ByteArray) (s y : Operand)
    (ho : o.op = .call { callee := .builtin .append, args := #[s, y], argTypes := #[35, 35] }) (base : Nat) (v : Value) (n : Nat) (xs : List Value) (hs : a.eval s = v) (hown : w.ownsRow base 9 1 v n xs)
    (g : Nat) (hy : a.eval y = .slice (some ⟨g, 0, none⟩) 1 1) (hg : w.heap[g]? = some (.cells #[.string p] 9 (0, 0))) (hL : n ≤ 1048576) (hb : base ≤ w.heap.size)
    (h : ∀ g' cap w', w'.ownsRow base 9 1 (.slice (some ⟨g', 0, none⟩) (n + 1) cap) (n + 1) (xs ++ [.string p]) → w.grownBy w' v.ownBlock → wpList Tryz.prog ops Q rest (a.put o.dst (.slice (some ⟨g', 0, none⟩) (n + 1) cap)) w') : wpList Tryz.prog ops Q (o :: rest) a w := by
  obtain ⟨ie, h1, h2, h3, h4⟩ := info9'
  refine wpList_append_lies w hgd s y 35 ho base 9 ie (.string ⟨#[]⟩) 1 16 Tryz.underlying35 h1 h2 h3 h4 rfl (by decide) v n xs hs hown ⟨g, 0, none⟩ 1 1 [.string p] hy ?_ ?_ ?_ (by decide) ?_ ?_ hb _ rfl ?_
  · rfl
  · intro j u hu
    match j, hu with
    | 0, hu =>
      simp at hu
      rw [← hu]
      exact cell_of_heap hg 0
    | j + 1, hu => simp at hu
  · intro u hu
    simp at hu
    subst hu
    rfl
  · unfold maxLen; omega
  · omega
  · intro g' cap w' q1 q2 q3 _
    exact h g' cap w' q1 q2
theorem flatE_get (E : List Ent) : ∀ (i : Nat) (h : i < E.length), (flatE E)[i * 3]? = some (.string (E[i]'h).1) ∧ (flatE E)[i * 3 + 1]? = some (.int .i64 ((E[i]'h).2.1 : Int)) ∧ (flatE E)[i * 3 + 2]? = some (.string (E[i]'h).2.2) := by
  induction E with
  | nil => intro i h; simp at h
  | cons x E ih =>
    intro i h
    have e : flatE (x :: E) = [.string x.1, .int .i64 (x.2.1 : Int), .string x.2.2] ++ flatE E := by simp [flatE, entC]
    cases i with
    | zero => rw [e]; exact ⟨rfl, rfl, rfl⟩
    | succ i =>
      obtain ⟨h1, h2, h3⟩ := ih i (by simpa using h)
      rw [e]
      have e1 : (i + 1) * 3 = i * 3 + 3 := by omega
      refine ⟨?_, ?_, ?_⟩
      · rw [e1, List.getElem?_append_right (by simp)]; exact h1
      · rw [e1, List.getElem?_append_right (by simp)]; simpa using h2
      · rw [e1, List.getElem?_append_right (by simp)]; simpa using h3
theorem entL_of_own {w : World} {b : Nat} {v : Value} {E : List Ent} (h : RowE w b v E) : EntL w v E := by
  obtain ⟨h1, h2⟩ := h
  rcases h2 with ⟨rfl, h0⟩ | ⟨g, cap, cur, rfl, hb, hg, hn, hc, hsz, ht⟩
  · exact ⟨none, 0, by rw [h0], fun i hi => by omega⟩
  · have get : ∀ j, j < E.length * 3 → w.cell? ⟨g, j, none⟩ = (flatE E)[j]? := fun j hj => by
      rw [cell_of_heap hg, ← ht, List.getElem?_take_of_lt hj, Array.getElem?_toList]
    refine ⟨_, cap, rfl, fun i hi => ⟨g, rfl, ?_, ?_, ?_⟩⟩
    · rw [get _ (by omega)]; exact (flatE_get E i hi).1
    · rw [get _ (by omega)]; exact (flatE_get E i hi).2.1
    · rw [get _ (by omega)]; exact (flatE_get E i hi).2.2
end Go.Proofs.YthojofeocjmglaaGreatDoor.I
