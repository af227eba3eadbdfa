/- Merged out of these texts: CrashF, StRow, CrashL, Crash. -/
import Derived.Test.YthojofeocjmglaaGreatDoorDk12
import Derived.Test.YthojofeocjmglaaGreatDoorDk20
import Derived.Deep.AppendLies
import Derived.Test.YthojofeocjmglaaGreatDoorDk19
/- What a crash leaves, and what a failure leaves: plain. -/
namespace Go.Proofs.YthojofeocjmglaaGreatDoor.I
open Go.RowKit Go.Proofs.YthojofeocjmglaaGreatDoor.B Go.Sort
set_option linter.unusedVariables false
/-- The states since the last Sync: behind each of the first so many operations. -/
theorem runAll_take {b n : Nat} (fs : FS) (l : List OpV) (k : Nat) (hk : l.length ≤ k) : runAll b n fs (l.take k) = runAll b n fs l := by
  rw [List.take_of_length_le hk]
/-- The tree of what is now. -/
noncomputable def treeD (d : DK) : List Ent := treeL d.now 65 []
/-- What Tree told behind each operation that was done since the last Sync. -/
structure StatesOk (b n : Nat) (d : DK) (st : List (List Ent)) : Prop where
  len : st.length = d.log.length + 1
  at_ : ∀ k, k ≤ d.log.length → st[k]? = some (treeL (runAll b n d.safe (d.log.take k)) 65 [])
theorem states_new {b n : Nat} {d : DK} (h : d.log = []) (hs : d.safe = d.now) : StatesOk b n d [treeD d] := by
  refine ⟨by rw [h]; rfl, fun k hk => ?_⟩
  rw [h] at hk ⊢
  obtain rfl : k = 0 := by simpa using hk
  simp [treeD, runAll, hs]
theorem states_more {b n : Nat} {d : DK} {st : List (List Ent)} (h : StatesOk b n d st) {d' : DK} (o : OpV) (h1 : d'.safe = d.safe) (h2 : d'.log = d.log ++ [o]) (h3 : treeD d' = treeL (runAll b n d.safe (d.log ++ [o])) 65 []) : StatesOk b n d' (st ++ [treeD d']) := by
  refine ⟨by rw [h2]; simp [h.len], fun k hk => ?_⟩
  rw [h2] at hk ⊢
  rw [h1]
  rw [List.length_append, List.length_singleton] at hk
  rcases Nat.lt_or_ge k st.length with hlt | hge
  · rw [List.getElem?_append_left hlt, h.at_ k (by have := h.len; omega), List.take_append_of_le_length (by have := h.len; omega)]
  · obtain rfl : k = st.length := by have := h.len; omega
    rw [List.getElem?_append_right (Nat.le_refl _), h.len, List.take_of_length_le (by simp)]
    simp [h3]
/-- What a loss of power leaves. -/
theorem crash_tree {b n : Nat} {d : DK} {st : List (List Ent)} (h : StatesOk b n d st) (keep : Nat) : st[min keep (st.length - 1)]? = some (treeL (runAll b n d.safe (d.log.take keep)) 65 []) := by
  have hl := h.len
  rw [h.at_ _ (by omega)]
  congr 3
  rcases Nat.lt_or_ge keep d.log.length with h1 | h1
  · rw [Nat.min_eq_left (by omega)]
  · rw [List.take_of_length_le h1, List.take_of_length_le (by omega)]
/-- The power goes ahead of the next operation: what stands behind Start. -/
noncomputable def downD (d : DK) (m keep : Nat) : DK := { d with downs := d.steps + m, keep := keep }
theorem crash_sync {b n : Nat} {d : DK} (h : d.off = false) (keep : Nat) : (syncD b n (downD d 1 keep)).1 = 211 ∧ (syncD b n (downD d 1 keep)).2.off = true ∧ (syncD b n (downD d 1 keep)).2.now = runAll b n d.safe (d.log.take keep) := by
  unfold syncD countD downD
  simp only
  rw [h]
  simp
end Go.Proofs.YthojofeocjmglaaGreatDoor.I
/- A row of rows of entries: what Tree told at each state. -/
namespace Go.Proofs.YthojofeocjmglaaGreatDoor.I
open Go.RowKit Go.Proofs.YthojofeocjmglaaGreatDoor.B Go.Sort
set_option linter.unusedVariables false
theorem info_ents : (Tryz.prog.info? 39).map (fun i => (i.zero, i.size, i.bytes)) = some (some (.slice none 0 0), 1, 24) := by kernel_rfl
theorem build_ents (A : Option Addr) (n c : Nat) (w : World) : (Instr.buildSlice 46 1 #[(0, .slice A n c)]).run Tryz.prog w = .ok (.slice (some ⟨w.heap.size, 0, none⟩) 1 1) (w.alloc (.cells #[.slice A n c] 39)) := by
  obtain ⟨ie, h1, h2, h3, h4⟩ := info_parts info_ents
  refine Go.run_buildSlice w 46 39 1 _ _ ie _ Tryz.underlying46 h1 h2 (by rw [h3]; decide) (by rw [h3]; decide) ?_
  rw [h3]
  have := Great.fill_whole (s := 1) (by omega) [.slice A n c] ((Array.range (1 * 1)).map ((Value.slice none 0 0).cells[· % (Value.slice none 0 0).cells.size]!)) (by simp [Value.cells]) (by simp)
  simpa [Value.cells] using this
theorem wp_build_ents (A : Option Addr) (m c : Nat) {o : Oper} {a : Act} {w : World} {K : Act → World → Prop} {Q : Exit → Act → World → Prop} (x : Operand) (ho : o.op = .buildSlice 46 1 #[(0, x)]) (hx : a.eval x = .slice A m c)
    (h : K (a.put o.dst (.slice (some ⟨w.heap.size, 0, none⟩) 1 1)) (w.alloc (.cells #[.slice A m c] 39))) : o.wp Tryz.prog a w K Q := by
  unfold Oper.wp execOp
  simp only [ho, List.map_toArray, List.map_cons, List.map_nil, hx, Sem.run_bind, build_ents, Result.andThen_ok]
  exact h
theorem wpList_build_ents {ops : Array Oper} {rest : List Oper} {o : Oper} {a : Act} {w : World} {Q : Exit → Act → World → Prop} (hgd : o.guard = none) (A : Option Addr) (m c : Nat) (n : Nat) (hn : w.heap.size = n) (x : Operand) (ho : o.op = .buildSlice 46 1 #[(0, x)]) (hx : a.eval x = .slice A m c)
    (h : wpList Tryz.prog ops Q rest (a.put o.dst (.slice (some ⟨n, 0, none⟩) 1 1)) (w.alloc (.cells #[.slice A m c] 39))) : wpList Tryz.prog ops Q (o :: rest) a w :=
  wpList_plain hgd fun _ hK => wp_build_ents A m c x ho hx (hK _ _ (by subst hn; exact h))
/-- The states' row: L is what turns beside it. -/
def StRow (W : World) (base : Nat) (L : List Nat) (v : Value) (st : List (List Ent)) : Prop :=
  ∃ vs : List Value, vs.length = st.length ∧ W.ownsRow base 39 1 v vs.length vs ∧ Off v L ∧ ∀ (i : Nat) (x : Value) (E : List Ent), vs[i]? = some x → st[i]? = some E → RowE W base x E ∧ Off x L
theorem StRow.nil (W : World) (base : Nat) (L : List Nat) : StRow W base L (.slice none 0 0) [] := ⟨[], rfl, World.ownsRow_nil _ _ _ _, fun g hg => absurd hg (by simp [Value.ownBlock]), fun i x E hx => by simp at hx⟩
theorem StRow.keep {W W' : World} {base : Nat} {J L L' : List Nat} {v : Value} {st : List (List Ent)} (h : StRow W base L v st) (hC : Chg J W W') (hJ : ∀ i ∈ J, i ∈ L) (hL : ∀ i ∈ L', i ∈ L ∨ W.heap.size ≤ i) : StRow W' base L' v st := by
  obtain ⟨vs, h1, h2, h3, h4⟩ := h
  refine ⟨vs, h1, own_off h2 hC (fun g hg hj => h3 g hg (hJ g hj)), off_next h2 h3 hL, fun i x E hx hE => ?_⟩
  obtain ⟨k1, k2⟩ := h4 i x E hx hE
  exact ⟨own_off k1 hC (fun g hg hj => k2 g hg (hJ g hj)), off_next k1 k2 hL⟩
theorem StRow.keep0 {W W' : World} {base : Nat} {L : List Nat} {v : Value} {st : List (List Ent)} (h : StRow W base L v st) (hC : Chg [] W W') : StRow W' base L v st := h.keep hC (by simp) (fun i hi => .inl hi)
theorem StRow.own {W : World} {base : Nat} {L : List Nat} {v : Value} {st : List (List Ent)} (h : StRow W base L v st) : ∀ g, v.ownBlock = some g → base ≤ g ∧ g ∉ L := by
  obtain ⟨vs, h1, h2, h3, h4⟩ := h
  exact fun g hg => ⟨(own_block h2 hg).1, h3 g hg⟩
/-- One state more. -/
theorem StRow.push {X Y w' : World} {base : Nat} {L : List Nat} {v : Value} {st : List (List Ent)} {vs : List Value} {x : Value} {E : List Ent} (hl : vs.length = st.length) (hown : X.ownsRow base 39 1 v vs.length vs) (hoff : Off v L) (hat : ∀ (i : Nat) (x : Value) (E : List Ent), vs[i]? = some x → st[i]? = some E → RowE X base x E ∧ Off x L)
    (hx : RowE X base x E) (hxo : Off x L) (hL : ∀ i ∈ L, i < X.heap.size) (hY : Chg [] X Y) {g' cap' : Nat}
    (hown' : w'.ownsRow base 39 1 (.slice (some ⟨g', 0, none⟩) (vs.length + 1) cap') (vs.length + 1) (vs ++ [x])) (hgrow : Y.grownBy w' v.ownBlock) (hlie : v.ownBlock = some g' ∨ g' = Y.heap.size) :
    StRow w' base L (.slice (some ⟨g', 0, none⟩) (vs.length + 1) cap') (st ++ [E]) ∧ Chg v.ownBlock.toList X w' := by
  have hC : Chg v.ownBlock.toList X w' := chg_rgrown (hY.mono (by simp)) hgrow (fun g hg _ => by rw [hg]; simp)
  have hrow : ∀ {y : Value} {F : List Ent}, RowE X base y F → RowE w' base y F := fun {y F} hy => by
    refine own_off hy hC (fun g hg hm => ?_)
    obtain ⟨_, cur, hc⟩ := own_block hy hg
    exact own_ne hown hc (by decide) (by simpa using hm)
  refine ⟨⟨vs ++ [x], by simp [hl], by rw [List.length_append, List.length_singleton]; exact hown', fun g hg hi => ?_, fun i y F hy hF => ?_⟩, hC⟩
  · have e : g' = g := by simpa [Value.ownBlock] using hg
    rw [← e] at hi
    rcases hlie with h1 | h1
    · exact hoff g' h1 hi
    · have := hL g' hi; have := hY.size; omega
  · rcases Nat.lt_or_ge i vs.length with hlt | hge
    · rw [List.getElem?_append_left hlt] at hy
      rw [List.getElem?_append_left (by omega)] at hF
      obtain ⟨k1, k2⟩ := hat i y F hy hF
      exact ⟨hrow k1, k2⟩
    · have hi : i = vs.length := by
        have := (List.getElem?_eq_some_iff.1 hy).1
        rw [List.length_append, List.length_singleton] at this
        omega
      subst hi
      rw [List.getElem?_append_right (Nat.le_refl _), Nat.sub_self] at hy
      rw [hl, List.getElem?_append_right (Nat.le_refl _), Nat.sub_self] at hF
      have e1 : x = y := by simpa using hy
      have e2 : E = F := by simpa using hF
      rw [← e1, ← e2]
      exact ⟨hrow hx, hxo⟩
/-- The append of one state, as an operation. -/
theorem wpList_append_ents {ops : Array Oper} {rest : List Oper} {o : Oper} {a : Act} {w : World} {Q : Exit → Act → World → Prop} (hgd : o.guard = none) (s x : Operand)
    (ho : o.op = .call { callee := .builtin .append, args := #[s, x], argTypes := #[46, 46] }) (base : Nat) (v : Value) (vs : List Value) (hs : a.eval s = v) (hown : w.ownsRow base 39 1 v vs.length vs)
    (A : Option Addr) (n c g : Nat) (hx : a.eval x = .slice (some ⟨g, 0, none⟩) 1 1) (hg : w.heap[g]? = some (.cells #[.slice A n c] 39 (0, 0))) (hL : vs.length ≤ 1000000) (hb : base ≤ w.heap.size)
    (h : ∀ g' cap' w', w'.ownsRow base 39 1 (.slice (some ⟨g', 0, none⟩) (vs.length + 1) cap') (vs.length + 1) (vs ++ [.slice A n c]) → w.grownBy w' v.ownBlock → (v.ownBlock = some g' ∨ g' = w.heap.size) → wpList Tryz.prog ops Q rest (a.put o.dst (.slice (some ⟨g', 0, none⟩) (vs.length + 1) cap')) w') : wpList Tryz.prog ops Q (o :: rest) a w := by
  obtain ⟨ie, h1, h2, h3, h4⟩ := info_parts info_ents
  refine wpList_append_lies _ hgd s x 46 ho base 39 ie _ 1 24 Tryz.underlying46 h1 h2 h3 h4 rfl (by decide) v vs.length vs hs hown ⟨g, 0, none⟩ 1 1 [.slice A n c] hx rfl (World.news_of_block hg) (fun u hu => by rw [List.mem_singleton] at hu; rw [hu]; rfl) (by decide) (by unfold maxLen; omega) (by omega) hb _ rfl ?_
  intro g' cap' w' k1 k2 k3 _
  exact h g' cap' w' k1 k2 k3
end Go.Proofs.YthojofeocjmglaaGreatDoor.I
/- A crash behind acts: plain. -/
namespace Go.Proofs.YthojofeocjmglaaGreatDoor.I
open Go.RowKit Go.Proofs.YthojofeocjmglaaGreatDoor.B Go.Sort
set_option linter.unusedVariables false
variable {b n : Nat}
theorem states_last {d : DK} {st : List (List Ent)} (h : StatesOk b n d st) (hO : DOk b n d) (hoff : d.off = false) : st[st.length - 1]? = some (treeD d) := by
  have hl := h.len
  rw [show st.length - 1 = d.log.length by omega, h.at_ _ (Nat.le_refl _), List.take_length]
  exact congrArg some (hO.led hoff).tree
/-- No plan stands. -/
structure Calm (d : DK) : Prop where
  on : d.off = false
  downs : d.downs = 0
  fails : d.fails = 0
theorem crash_step {d : DK} {st : List (List Ent)} (a : ActV) (ha : 1 ≤ a.kind ∧ a.kind ≤ 7) (hO : DOk b n d) (hc : Calm d) (hs : StatesOk b n d st) :
    Calm (actD b n d a).2 ∧ (actD b n d a).2.steps = d.steps + 1 ∧ (a.kind = 7 → (actD b n d a).1 = 0 ∧ StatesOk b n (actD b n d a).2 [treeD (actD b n d a).2]) ∧ (a.kind ≠ 7 → (actD b n d a).1 = 0 → StatesOk b n (actD b n d a).2 (st ++ [treeD (actD b n d a).2])) ∧ (a.kind ≠ 7 → (actD b n d a).1 ≠ 0 → StatesOk b n (actD b n d a).2 st ∧ st[st.length - 1]? = some (treeD (actD b n d a).2)) := by
  by_cases h7 : a.kind = 7
  · rw [act_sync h7, sync_free hc.on hc.downs (by rw [hc.fails]; omega)]
    refine ⟨⟨hc.on, hc.downs, hc.fails⟩, rfl, fun _ => ⟨rfl, states_new rfl rfl⟩, fun h => absurd h7 h, fun h => absurd h7 h⟩
  · have ho := do_free (b := b) (n := n) ⟨a.kind, a.a, a.b⟩ hc.on hc.downs (by rw [hc.fails]; omega)
    have hok := doD_ok hO ⟨a.kind, a.a, a.b⟩
    rw [act_op (by omega)]
    rw [ho] at hok ⊢
    by_cases h0 : (opF d.now b n ⟨a.kind, a.a, a.b⟩).1 ≠ 0
    · rw [if_pos h0]
      exact ⟨⟨hc.on, hc.downs, hc.fails⟩, rfl, fun h => absurd h h7, fun _ h => absurd h h0, fun _ _ => ⟨⟨hs.len, hs.at_⟩, show st[st.length - 1]? = some (treeD d) from states_last hs hO hc.on⟩⟩
    · rw [if_neg h0] at hok ⊢
      refine ⟨⟨hc.on, hc.downs, hc.fails⟩, rfl, fun h => absurd h h7, fun _ _ => ?_, fun _ h => absurd rfl h⟩
      exact states_more hs ⟨a.kind, a.a, a.b⟩ rfl rfl (hok.led hc.on).tree.symm
/-- The power goes ahead of the next operation, and comes back. -/
def crashD (b n : Nat) (d : DK) (kp : Nat) : DK := { d with downs := d.steps + 1, keep := kp }
noncomputable def fallenD (b n : Nat) (d : DK) (kp : Nat) : DK := { d with downs := d.steps + 1, keep := kp, steps := d.steps + 1, off := true, now := runAll b n d.safe (d.log.take kp) }
noncomputable def risenD (b n : Nat) (d : DK) (kp : Nat) : DK := { d with downs := 0, fails := 0, keep := kp, steps := d.steps + 1, off := false, log := [], now := runAll b n d.safe (d.log.take kp), safe := runAll b n d.safe (d.log.take kp) }
theorem crash_down {d : DK} (hc : Calm d) (kp : Nat) : downA d 1 (kp : Int) = (0, crashD b n d kp) := by
  unfold downA
  rw [if_neg (by omega), if_neg (by rw [hc.on]; decide)]
  rfl
theorem crash_falls {d : DK} (hc : Calm d) (kp : Nat) : syncD b n (crashD b n d kp) = (211, fallenD b n d kp) := by
  have h : countD b n (crashD b n d kp) = (211, fallenD b n d kp) := by
    unfold countD
    rw [if_neg (by show ¬ d.off = true; rw [hc.on]; decide), if_pos (by rfl)]
    rfl
  unfold syncD
  rw [h]
  rfl
theorem crash_rises (d : DK) (kp : Nat) : startD (fallenD b n d kp) = (0, risenD b n d kp) := rfl
theorem crash_state {d : DK} {st : List (List Ent)} (h : StatesOk b n d st) (kp : Nat) : st[min kp (st.length - 1)]? = some (treeD (risenD b n d kp)) := crash_tree h kp
theorem states_first : StatesOk b n newD [treeD newD] := states_new rfl rfl
end Go.Proofs.YthojofeocjmglaaGreatDoor.I
/- DiskCrash: the walk. -/
namespace Go.Proofs.YthojofeocjmglaaGreatDoor.I
open Go.RowKit Go.Proofs.YthojofeocjmglaaGreatDoor.B Go.Sort
set_option linter.unusedVariables false
set_option linter.unusedSimpArgs false
set_option maxRecDepth 100000 in
set_option maxHeartbeats 16000000 in
theorem crash_bad (bb nn : Int) (sp : Option Addr) (n cap : Nat) (m : Int) (w : World) (hm : MaxLenAt w) (he : ErrType w) (hb : bb < 0 ∨ 2147483647 < bb ∨ nn < 0 ∨ 65536 < nn) :
    Calls Tryz.prog 4 #[.agg #[.int .i64 bb, .int .i64 nn, .slice sp n cap], .int .i64 m] w fun e w' => e = .returned (.bool true) ∧ Chg [] w w' := by
  obtain ⟨w0, hw0⟩ : ∃ W, w.alloc (.cells #[.int .i64 bb, .int .i64 nn, .slice sp n cap] 24) = W := ⟨_, rfl⟩
  have HC0 := Asd.mk (show Chg [] w w0 by rw [← hw0]; exact (Chg.refl _ _).alloc _)
  have hB : w0.heap[w.heap.size]? = some (.cells #[.int .i64 bb, .int .i64 nn, .slice sp n cap] 24 (0, 0)) := by rw [← hw0]; exact hp_new _ _
  have b0 := cell_of_heap hB 0
  have b1 := cell_of_heap hB 1
  have HN := Asd.mk (fun W => dnew_bad bb nn W hb)
  have HM := Asd.mk (hm.chg HC0.out)
  have HE := Asd.mk (he.chg HC0.out)
  clear hB hm he hb
  (go_enter Tryz.func4, Tryz.ntmps4)
  go_upto_region 1 with fail
  (try rw [hw0])
  clear hw0
  go_wp2_with fail
  refine (HN.out _).mono ?_
  rintro e w2 ⟨rfl, hC⟩
  have HC2 := Asd.mk hC
  clear hC HN
  go_wp2_with fail
  refine (sure_calls w2 (HM.out.chg HC2.out) (HE.out.chg HC2.out)).mono ?_
  rintro e w3 ⟨rfl, hC⟩
  have HC3 := Asd.mk (HC2.out.trans hC)
  clear hC
  go_wp2
  go_ret
  exact ⟨rfl, HC0.out.trans HC3.out⟩
/-- What stands while the acts go: the disk, its states. -/
structure CrS (w0 W : World) (d bb nn : Nat) (D : DK) (K Q : List Nat) (v : Value) (st : List (List Ent)) : Prop where
  sys : DiskS w0 W K Q d bb nn D
  calm : Calm D
  sts : StatesOk bb nn D st
  row : StRow W w0.heap.size (K ++ Q) v st
theorem CrS.chg0 {w0 W W' : World} {d bb nn : Nat} {D : DK} {K Q : List Nat} {v : Value} {st : List (List Ent)} (h : CrS w0 W d bb nn D K Q v st) (hC : Chg [] W W') : CrS w0 W' d bb nn D K Q v st := ⟨h.sys.chg0 hC, h.calm, h.sts, h.row.keep0 hC⟩
theorem CrS.klt {w0 W : World} {d bb nn : Nat} {D : DK} {K Q : List Nat} {v : Value} {st : List (List Ent)} (h : CrS w0 W d bb nn D K Q v st) : ∀ i ∈ K ++ Q, i < W.heap.size := fun i hi => h.sys.klt i (List.mem_append.1 hi)
/-- A state is put behind the others. -/
theorem crs_push {w0 X Y w' : World} {d bb nn : Nat} {D : DK} {K Q : List Nat} {v : Value} {st : List (List Ent)} {vs : List Value} {A : Option Addr} {m c b : Nat} (hS : DiskS w0 X K Q d bb nn D) (hc : Calm D) (hst : StatesOk bb nn D (st ++ [treeD D]))
    (hl : vs.length = st.length) (hown : X.ownsRow w0.heap.size 39 1 v vs.length vs) (hoff : Off v (K ++ Q)) (hat : ∀ (i : Nat) (x : Value) (E : List Ent), vs[i]? = some x → st[i]? = some E → RowE X w0.heap.size x E ∧ Off x (K ++ Q))
    (hx : RowE X b (.slice A m c) (treeF D.now [])) (hb : ∀ i ∈ K ++ Q, i < b) (hb0 : w0.heap.size ≤ b) (hY : Chg [] X Y) {g' cap' : Nat}
    (hown' : w'.ownsRow w0.heap.size 39 1 (.slice (some ⟨g', 0, none⟩) (vs.length + 1) cap') (vs.length + 1) (vs ++ [.slice A m c])) (hgrow : Y.grownBy w' v.ownBlock) (hlie : v.ownBlock = some g' ∨ g' = Y.heap.size) :
    CrS w0 w' d bb nn D K Q (.slice (some ⟨g', 0, none⟩) (vs.length + 1) cap') (st ++ [treeD D]) := by
  have hxr : RowE X w0.heap.size (.slice A m c) (treeD D) := own_mono hx hb0
  obtain ⟨h1, h2⟩ := StRow.push (E := treeD D) hl hown hoff hat hxr (off_new hx hb) (fun i hi => hS.klt i (List.mem_append.1 hi)) hY hown' hgrow hlie
  refine ⟨hS.chg h2 (fun i hi => ?_) (fun i hi hj => ?_) (fun i hi hj => ?_), hc, hst, h1⟩
  · exact (own_block hown (by simpa using hi)).1
  · exact hoff i (by simpa using hj) (List.mem_append_left _ hi)
  · exact hoff i (by simpa using hj) (List.mem_append_right _ hi)
set_option maxRecDepth 100000 in
set_option maxHeartbeats 32000000 in
theorem crash_ok (bb nn : Nat) (sp : Option Addr) (n cap : Nat) (O : Nat → ActV) (m : Int) (w : World) (hO : ActsAt w sp n O) (hn : n ≤ 1048576) (hm : MaxLenAt w) (he : ErrType w) (hbb : bb ≤ 2147483647) (hnn : nn ≤ 65536) :
    Calls Tryz.prog 4 #[.agg #[.int .i64 (bb : Int), .int .i64 (nn : Int), .slice sp n cap], .int .i64 m] w fun e w' => e = .returned (.bool true) ∧ Chg [] w w' := by
  obtain ⟨w0, hw0⟩ : ∃ W, w.alloc (.cells #[.int .i64 (bb : Int), .int .i64 (nn : Int), .slice sp n cap] 24) = W := ⟨_, rfl⟩
  have HC0 := Asd.mk (show Chg [] w w0 by rw [← hw0]; exact (Chg.refl _ _).alloc _)
  obtain ⟨B0, hB0⟩ : ∃ B0, w.heap.size = B0 := ⟨_, rfl⟩
  have hB : w0.heap[B0]? = some (.cells #[.int .i64 (bb : Int), .int .i64 (nn : Int), .slice sp n cap] 24 (0, 0)) := by rw [← hw0, ← hB0]; exact hp_new _ _
  have HB := Asd.mk hB
  have HM := Asd.mk (hm.chg HC0.out)
  have HE := Asd.mk (he.chg HC0.out)
  have HO := Asd.mk (hO.chg HC0.out)
  have H0 := Asd.mk (dnew_ok bb nn w0 w0 (Chg.refl _ _) hbb hnn)
  have b0 := cell_of_heap hB 0
  have b1 := cell_of_heap hB 1
  obtain ⟨N, hN⟩ : ∃ N : Nat, max 0 (min m 1000) = (N : Int) := ⟨(max 0 (min m 1000)).toNat, by omega⟩
  clear hm he hO hB
  (go_enter Tryz.func4, Tryz.ntmps4)
  go_upto_region 1 with fail
  (try rw [hw0])
  (try rw [hB0])
  clear hw0 hB0
  go_wp2_with fail
  refine H0.out.mono ?_
  rintro e w1 ⟨d, K, rfl, hS, hC1, hKd⟩
  have HS1 := Asd.mk hS
  have H1 := Asd.mk (dtree_on hS HM.out rfl)
  clear hS hC1 hKd b0 b1 H0
  go_wp2_with fail
  (try rw [hN])
  refine H1.out.mono ?_
  rintro e w2 ⟨⟨v2, rfl, hv2⟩, hC⟩
  have HS2 := Asd.mk (HS1.out.chg0 hC)
  obtain ⟨A2, c2, rfl, _⟩ := own_form hv2
  have HV2 := Asd.mk hv2
  have HKl := Asd.mk (fun i (hi : i ∈ K ++ []) => HS1.out.klt i (List.mem_append.1 hi))
  have HLe := Asd.mk HS1.out.1.size
  clear hC H1 HS1 hv2
  have HBk := Asd.mk (hp_new w2 (.cells #[.slice A2 (treeF newD.now []).length c2] 39))
  go_wp2_with (first | (refine wpList_build_ents rfl A2 (treeF newD.now []).length c2 w2.heap.size rfl (.tmp 41) rfl rfl ?_; simp only [Act.put, List.setIfInBounds_toArray, List.set_cons_zero, List.set_cons_succ]) | (at_builtin; refine wpList_append_ents rfl (.tmp 40) (.tmp 42) rfl w0.heap.size (.slice none 0 0) [] rfl (World.ownsRow_nil _ _ _ _) A2 (treeF newD.now []).length c2 w2.heap.size rfl HBk.out (by decide) (Nat.le_trans HS2.out.1.size (by simp)) ?_; intro g3 cap3 w3 hown hgrow hlie; have HG := Asd.mk (And.intro hown (And.intro hgrow hlie)); clear hown hgrow hlie; simp only [Act.put, List.setIfInBounds_toArray, List.set_cons_zero, List.set_cons_succ]))
  have HCr := Asd.mk (crs_push (st := []) HS2.out ⟨rfl, rfl, rfl⟩ (states_first (b := bb) (n := nn)) (vs := []) rfl (World.ownsRow_nil _ _ _ _) (fun g hg => absurd hg (by simp [Value.ownBlock])) (fun i x E hx => by simp at hx) HV2.out HKl.out HLe.out ((Chg.refl [] w2).alloc _) HG.out.1 HG.out.2.1 HG.out.2.2)
  clear HS2 HV2 HKl HLe HBk HG
  go_loopg [7, 10] 42 (fun gk v7 v10 wx => ∃ (i : Nat) (D : DK) (K Q : List Nat) (st : List (List Ent)), i ≤ 40 ∧ gk = 42 - i ∧ v10 = .int .i64 (i : Int) ∧ Asd (CrS w0 wx d bb nn D K Q v7 st) ∧ Asd (D.steps ≤ i ∧ st.length ≤ i + 1))
  case atStart => exact ⟨0, newD, K, [], [treeD newD], by omega, rfl, rfl, HCr, ⟨Nat.le_refl _, Nat.le_refl _⟩⟩
  case round =>
    obtain ⟨i, D, K, Q, st, hi, rfl, rfl, HS, HP⟩ := hrel
    have hBr := HS.out.sys.1.heap HB.out (by simp)
    have b2 := cell_of_heap hBr 2
    clear hBr
    go_upto_region 9 with fail
    go_cut [52] from 44 to 52 (fun v52 wx => wr = wx ∧ ∃ c : Bool, v52 = .bool c ∧ Asd (c = true → i < n ∧ i < 40))
    case first =>
      by_cases h1 : i < n
      · have k1 : (i : Int) < (n : Int) := by omega
        by_cases h2 : i < 40
        · have k2 : (i : Int) < 40 := by omega
          go_wp2
          go_meet
          case rel => exact ⟨rfl, true, rfl, ⟨fun _ => ⟨h1, h2⟩⟩⟩
        · have k2 : ¬ (i : Int) < 40 := by omega
          go_wp2
          go_meet
          case rel => exact ⟨rfl, false, rfl, ⟨fun h => by cases h⟩⟩
      · have k1 : ¬ (i : Int) < (n : Int) := by omega
        go_wp2
        go_meet
        case rel => exact ⟨rfl, false, rfl, ⟨fun h => by cases h⟩⟩
    case rest =>
      obtain ⟨rfl, t, rfl, HRc⟩ := hcut
      cases t with
      | true =>
        obtain ⟨hin, hi40⟩ := HRc.out rfl
        obtain ⟨a, rfl, hAct, z1, z2⟩ := (HO.out.chg HS.out.sys.1) i hin
        obtain ⟨⟨kk, aa, az, an, ak⟩, hOi⟩ : ∃ x, O i = x := ⟨_, rfl⟩
        rw [hOi] at hAct z1 z2
        have HA := Asd.mk hAct
        have HZ := Asd.mk (show aa.size ≤ 4294967280 ∧ az.size ≤ 4294967280 from ⟨Nat.le_trans z1 (by decide), Nat.le_trans z2 (by decide)⟩)
        have k1 : (i : Int) < (n : Int) := by omega
        clear hAct z1 z2 hOi HRc
        go_upto_region 12 with (refine wpList_load_act rfl (.tmp 58) rfl (a.add (i * 5)) rfl ⟨kk, aa, az, an, ak⟩ HA.out ?_)
        refine wp_opaque2 (fun V hV => ?_)
        have HCV := Asd.mk (show Chg [] wr V by rw [hV]; exact (Chg.refl _ _).alloc _)
        have hBV : V.heap[wr.heap.size]? = some (.cells #[.int .i64 kk, .string aa, .string az, .int .i64 an, .int .i64 ak] 33 (0, 0)) := by rw [hV]; exact hp_new _ _
        obtain ⟨B, hBq⟩ : ∃ B, wr.heap.size = B := ⟨_, rfl⟩
        rw [hBq] at hBV ⊢
        have HBV := Asd.mk hBV
        have e0 := cell_of_heap hBV 0
        have HBd := Asd.mk (show B ∉ K from fun h => by have := HS.out.sys.klt B (.inl h); omega)
        have HSV := Asd.mk (HS.out.chg0 HCV.out)
        clear hV hBV hBq HS HA b2
        go_cut [67] from 60 to 67 (fun v67 wx => V = wx ∧ ∃ c : Bool, v67 = .bool c ∧ Asd (c = false → 1 ≤ kk ∧ kk ≤ 7))
        case first =>
          by_cases h1 : kk < 1
          · have t1 : decide (kk < 1) = true := decide_eq_true h1
            go_wp2
            go_meet
            case rel => exact ⟨rfl, true, rfl, ⟨fun h => by cases h⟩⟩
          · have t1 : decide (kk < 1) = false := decide_eq_false h1
            by_cases h2 : 7 < kk
            · have t2 : decide (7 < kk) = true := decide_eq_true h2
              go_wp2
              go_meet
              case rel => exact ⟨rfl, true, rfl, ⟨fun h => by cases h⟩⟩
            · have t2 : decide (7 < kk) = false := decide_eq_false h2
              go_wp2
              go_meet
              case rel => exact ⟨rfl, false, rfl, ⟨fun _ => ⟨by omega, by omega⟩⟩⟩
        case rest =>
          obtain ⟨rfl, t, rfl, HKd⟩ := hcut
          cases t with
          | true =>
            clear HKd
            go_wp2_with fail
            go_roundg (42 - (i + 1))
            case rel => exact ⟨i + 1, D, K, Q, st, by omega, rfl, by go_num, HSV, ⟨by have := HP.out; omega⟩⟩
            case measure => omega
          | false =>
            have HKk := Asd.mk (HKd.out rfl)
            have HD := Asd.mk (did_calls w0 V K Q d bb nn D kk aa az an ak HSV.out.sys HM.out HZ.out.1 HZ.out.2 (by have := HP.out; omega) (by have := HP.out; have := HSV.out.sts.len; omega))
            have HAB := Asd.mk (act_block (o := ⟨kk, aa, az, an, ak⟩) HBV.out)
            have hcs := crash_step (b := bb) (n := nn) ⟨kk, aa, az, an, ak⟩ HKk.out HSV.out.sys.2.2.1 HSV.out.calm HSV.out.sts
            obtain ⟨R, hR⟩ : ∃ R, actD bb nn D ⟨kk, aa, az, an, ak⟩ = R := ⟨_, rfl⟩
            rw [hR] at HD hcs
            have HCs := Asd.mk hcs
            clear HKd hR hcs
            go_wp2_with (refine wpList_load_act rfl (.tmp 11) rfl ⟨B, 0, none⟩ rfl ⟨kk, aa, az, an, ak⟩ HAB.out ?_)
            refine HD.out.mono ?_
            rintro e w4 ⟨he, K4, Q4, hS, hC4, hK4, hQ4⟩
            obtain ⟨ev, hev⟩ : ∃ ev, errV R.1 = ev := ⟨_, rfl⟩
            rw [hev] at he
            subst he
            have HEv := Asd.mk hev
            have HS4 := Asd.mk hS
            have HR4 := Asd.mk (HSV.out.row.keep hC4 (fun i hi => List.mem_append_left _ hi) (L' := K4 ++ Q4) (fun i hi => by
              rcases List.mem_append.1 hi with hi | hi
              · exact (hK4 i hi).imp (List.mem_append_left _) id
              · exact (hQ4 i hi).imp (List.mem_append_right _) id))
            have HA4 := Asd.mk (show w4.heap[B]? = some (.cells #[.int .i64 kk, .string aa, .string az, .int .i64 an, .int .i64 ak] 33 (0, 0)) from hC4.heap HBV.out HBd.out)
            have H5 := Asd.mk (dtree_on hS HM.out HCs.out.1.on)
            clear hS hC4 hK4 hQ4 hev HD HAB HSV e0
            go_wp2_with fail
            refine H5.out.mono ?_
            rintro e w5 ⟨⟨v5, rfl, hv5⟩, hC⟩
            have HS5 := Asd.mk (HS4.out.chg0 hC)
            have HR5 := Asd.mk (HR4.out.keep0 hC)
            have hA5 := hC.heap HA4.out (by simp)
            have e0 := cell_of_heap hA5 0
            obtain ⟨A5, c5, rfl, _⟩ := own_form hv5
            have HV5 := Asd.mk hv5
            have HKl := Asd.mk (fun i (hi : i ∈ K4 ++ Q4) => HS4.out.klt i (List.mem_append.1 hi))
            have HLe := Asd.mk HS4.out.1.size
            have HBk := Asd.mk (hp_new w5 (.cells #[.slice A5 (treeF R.2.now []).length c5] 39))
            clear hv5 hC hA5 H5 HS4 HR4 HA4
            by_cases h7 : kk = 7
            · have t1 : (kk == 7) = true := by rw [h7]; rfl
              go_wp2_with (first | (refine wpList_build_ents rfl A5 (treeF R.2.now []).length c5 w5.heap.size rfl (.tmp 81) rfl rfl ?_; simp only [Act.put, List.setIfInBounds_toArray, List.set_cons_zero, List.set_cons_succ]) | (at_builtin; refine wpList_append_ents rfl (.tmp 80) (.tmp 82) rfl w0.heap.size (.slice none 0 0) [] rfl (World.ownsRow_nil _ _ _ _) A5 (treeF R.2.now []).length c5 w5.heap.size rfl HBk.out (by decide) (Nat.le_trans HS5.out.1.size (by simp)) ?_; intro g6 cap6 w6 hown hgrow hlie; have HG := Asd.mk (And.intro hown (And.intro hgrow hlie)); clear hown hgrow hlie; simp only [Act.put, List.setIfInBounds_toArray, List.set_cons_zero, List.set_cons_succ]))
              obtain ⟨hc1, hc2, hc3, _, _⟩ := HCs.out
              have hc4 := (hc3 h7).2
              have HCr := Asd.mk (crs_push (st := []) HS5.out hc1 hc4 (vs := []) rfl (World.ownsRow_nil _ _ _ _) (fun g hg => absurd hg (by simp [Value.ownBlock])) (fun i x E hx => by simp at hx) HV5.out HKl.out HLe.out ((Chg.refl [] w5).alloc _) HG.out.1 HG.out.2.1 HG.out.2.2)
              have HPn := Asd.mk (show R.2.steps ≤ i + 1 from by have := HP.out; omega)
              clear HS5 HR5 HV5 HKl HLe HBk HG hc1 hc2 hc3 hc4 HCs HEv
              go_roundg (42 - (i + 1))
              case rel => exact ⟨i + 1, R.2, K4, Q4, [treeD R.2], by omega, rfl, by go_num, HCr, ⟨HPn.out, by show 1 ≤ i + 1 + 1; omega⟩⟩
              case measure => omega
            · have t1 : (kk == 7) = false := by simp only [beq_eq_false_iff_ne, ne_eq]; omega
              obtain ⟨vs, hvl, hown, hoff, hat⟩ := HR5.out
              by_cases h0 : R.1 = 0
              · have hev0 : ev = .nilIface := by rw [← HEv.out, h0]; rfl
                subst hev0
                have HOw := Asd.mk (hown.alloc (.cells #[.slice A5 (treeF R.2.now []).length c5] 39))
                have HOw0 := Asd.mk hown
                have HOf := Asd.mk hoff
                have HAt := Asd.mk hat
                have HVl := Asd.mk hvl
                have HVn := Asd.mk (show vs.length ≤ 1000000 by have := HP.out; omega)
                clear hown hoff hat hvl
                go_wp2_with (first | (refine wpList_build_ents rfl A5 (treeF R.2.now []).length c5 w5.heap.size rfl (.tmp 88) rfl rfl ?_; simp only [Act.put, List.setIfInBounds_toArray, List.set_cons_zero, List.set_cons_succ]) | (at_builtin; refine wpList_append_ents rfl (.tmp 87) (.tmp 89) rfl w0.heap.size _ vs rfl HOw.out A5 (treeF R.2.now []).length c5 w5.heap.size rfl HBk.out HVn.out (Nat.le_trans HS5.out.1.size (by simp)) ?_; intro g6 cap6 w6 hown hgrow hlie; have HG := Asd.mk (And.intro hown (And.intro hgrow hlie)); clear hown hgrow hlie; simp only [Act.put, List.setIfInBounds_toArray, List.set_cons_zero, List.set_cons_succ]))
                obtain ⟨hc1, hc2, _, hc3, _⟩ := HCs.out
                have hc4 := hc3 h7 h0
                have HCr := Asd.mk (crs_push HS5.out hc1 hc4 HVl.out HOw0.out HOf.out HAt.out HV5.out HKl.out HLe.out ((Chg.refl [] w5).alloc _) HG.out.1 HG.out.2.1 HG.out.2.2)
                have HPn := Asd.mk (show R.2.steps ≤ i + 1 ∧ (st ++ [treeD R.2]).length ≤ i + 1 + 1 from by have := HP.out; rw [List.length_append, List.length_singleton]; omega)
                clear HS5 HR5 HV5 HKl HLe HBk HG hc1 hc2 hc3 hc4 HCs HEv HOw HOw0 HOf HAt HVl HVn
                go_roundg (42 - (i + 1))
                case rel => exact ⟨i + 1, R.2, K4, Q4, st ++ [treeD R.2], by omega, rfl, by go_num, HCr, HPn⟩
                case measure => omega
              · have hev0 : ev = .iface 88 (.int .i64 (R.1 : Int)) := by rw [← HEv.out, errV_ne h0]
                subst hev0
                obtain ⟨hc1, hc2, _, _, hc3⟩ := HCs.out
                obtain ⟨hc4, hc5⟩ := hc3 h7 h0
                obtain ⟨mm, hmm⟩ : ∃ mm, st.length = mm + 1 := ⟨st.length - 1, by have := hc4.len; omega⟩
                rw [hmm, Nat.add_sub_cancel] at hc5
                have hmb : mm ≤ 41 := by have := HP.out; omega
                obtain ⟨g, cap', rfl, hcap, hcm, hcell⟩ : ∃ g cap', _ = Value.slice (some ⟨g, 0, none⟩) vs.length cap' ∧ vs.length ≤ cap' ∧ cap' ≤ maxLen ∧ ∀ j x, vs[j]? = some x → w5.cell? ⟨g, j, none⟩ = some x := by
                  rcases row_form hown with ⟨_, h⟩ | h
                  · omega
                  · exact h
                have hvm : vs.length = mm + 1 := by rw [hvl, hmm]
                have hil : mm < vs.length := by omega
                obtain ⟨x, hx⟩ : ∃ x, vs[mm] = x := ⟨_, rfl⟩
                have hx2 : vs[mm]? = some x := by rw [List.getElem?_eq_getElem hil, hx]
                have hxc := hcell mm x hx2
                obtain ⟨hxr, hxo⟩ := hat mm x _ hx2 hc5
                have HRow := Asd.mk (show StRow w5 w0.heap.size (K4 ++ Q4) (.slice (some ⟨g, 0, none⟩) (mm + 1) cap') st by rw [← hvm]; exact HR5.out)
                rw [hvm]
                have hsm := sameEntries_calls (treeF R.2.now []) (treeD R.2) (.slice A5 (treeF R.2.now []).length c5) x w5 (entL_of_own HV5.out) (entL_of_own hxr) (tree_small HS5.out) (tree_small HS5.out)
                rw [decide_eq_true (show treeF R.2.now [] = treeD R.2 from rfl)] at hsm
                have HSm := Asd.mk hsm
                have HPn := Asd.mk (show R.2.steps ≤ i + 1 ∧ st.length ≤ i + 1 + 1 from by have := HP.out; omega)
                have HCa := Asd.mk (And.intro hc1 hc4)
                clear hvl hown hoff hat hc1 hc2 hc3 hc4 hc5 hcap hcm hcell hvm hil hx hx2 hxr hxo hsm hmm HR5 HCs HEv
                go_wp2_with fail
                refine HSm.out.mono ?_
                rintro e w6 ⟨rfl, hC⟩
                have HS6 := Asd.mk (show CrS w0 w6 d bb nn R.2 K4 Q4 (.slice (some ⟨g, 0, none⟩) (mm + 1) cap') st from ⟨HS5.out.chg0 hC, HCa.out.1, HCa.out.2, HRow.out.keep0 hC⟩)
                clear hC HSm HS5 HRow hxc HV5 HBk
                go_wp2_with fail
                go_roundg (42 - (i + 1))
                case rel => exact ⟨i + 1, R.2, K4, Q4, st, by omega, rfl, by go_num, HS6, HPn⟩
                case measure => omega
      | false =>
        obtain ⟨vs, hvl, hown, hoff, hat⟩ := HS.out.row
        have hlen := HS.out.sts.len
        obtain ⟨mm, hmm⟩ : ∃ mm, D.log.length = mm := ⟨_, rfl⟩
        rw [hmm] at hlen
        have hmb : mm ≤ 41 := by have := HP.out; omega
        have hNb : N ≤ 1000 := by omega
        have hmm2 := Asd.mk hmm
        have hpz : (0 : Nat) = 0 := rfl
        have hvm : vs.length = mm + 1 := by rw [hvl, hlen]
        obtain ⟨g, cap', rfl, hcap, hcm, hcell⟩ : ∃ g cap', _ = Value.slice (some ⟨g, 0, none⟩) vs.length cap' ∧ vs.length ≤ cap' ∧ cap' ≤ maxLen ∧ ∀ j x, vs[j]? = some x → wr.cell? ⟨g, j, none⟩ = some x := by
          rcases row_form hown with ⟨_, h⟩ | h
          · omega
          · exact h
        have hst : st[min N (st.length - 1)]? = some (treeD (risenD bb nn D N)) := crash_state HS.out.sts N
        obtain ⟨pp, hpp⟩ : ∃ pp, min N mm = pp := ⟨_, rfl⟩
        rw [hlen, Nat.add_sub_cancel, hpp] at hst
        have hil : pp < vs.length := by omega
        obtain ⟨x, hx⟩ : ∃ x, vs[pp] = x := ⟨_, rfl⟩
        have hx2 : vs[pp]? = some x := by rw [List.getElem?_eq_getElem hil, hx]
        have HRow := Asd.mk (show StRow wr w0.heap.size (K ++ Q) (.slice (some ⟨g, 0, none⟩) (mm + 1) cap') st by rw [← hvm]; exact HS.out.row)
        have HSt := Asd.mk hst
        have HVs := Asd.mk (And.intro hvl hx2)
        rw [hvm]
        have hu := dunsafe_calls HS.out.sys
        rw [hmm] at hu
        have HU := Asd.mk hu
        have hdn := ddown_calls w0 wr K Q d bb nn D 1 (N : Int) HS.out.sys (by have := HP.out; omega)
        rw [crash_down (b := bb) (n := nn) HS.out.calm N] at hdn
        have HDn := Asd.mk hdn
        have HSz := Asd.mk (show D.steps ≤ 1000000 by have := HP.out; omega)
        have HCa := Asd.mk HS.out.calm
        clear hvl hown hoff hat hlen hvm hcap hcm hcell hst hil hx hx2 hu hdn b2 HRc hmm hpz
        have HPp := Asd.mk hpp
        clear hpp
        go_wp2_with fail
        refine HU.out.mono ?_
        rintro e w4 ⟨rfl, rfl⟩
        clear HU
        go_wp2_with fail
        refine HDn.out.mono ?_
        rintro e w5 ⟨rfl, K5, Q5, hS5, hC5, hK5, hQ5⟩
        have HR5 := Asd.mk (HRow.out.keep hC5 (fun i hi => List.mem_append_left _ hi) (L' := K5 ++ Q5) (fun i hi => by
          rcases List.mem_append.1 hi with hi | hi
          · exact (hK5 i hi).imp (List.mem_append_left _) id
          · exact (hQ5 i hi).imp (List.mem_append_right _) id))
        have hsy := dsync_calls w0 w5 K5 Q5 d bb nn _ hS5 HM.out (by show D.steps ≤ 1000000; exact HSz.out)
        rw [show syncD bb nn ((0 : Nat), crashD bb nn D N).2 = (211, fallenD bb nn D N) from crash_falls HCa.out N] at hsy
        have H6 := Asd.mk hsy
        clear hS5 hC5 hK5 hQ5 hsy HDn HRow
        simp only [errV, if_true]
        go_wp2_with fail
        refine H6.out.mono ?_
        rintro e w6 ⟨rfl, K6, Q6, hS6, hC6, hK6, hQ6⟩
        rw [show errV (((211 : Nat), fallenD bb nn D N)).1 = .iface 88 (.int .i64 211) from errV_ne (n := 211) (by decide)]
        have HS6 := Asd.mk hS6
        have HR6 := Asd.mk (HR5.out.keep hC6 (fun i hi => List.mem_append_left _ hi) (L' := K6 ++ Q6) (fun i hi => by
          rcases List.mem_append.1 hi with hi | hi
          · exact (hK6 i hi).imp (List.mem_append_left _) id
          · exact (hQ6 i hi).imp (List.mem_append_right _) id))
        have H7 := Asd.mk (num_errno 211 w6 (HE.out.chg hS6.1))
        clear hS6 hC6 hK6 hQ6 H6 HR5
        go_wp2_with fail
        refine H7.out.mono ?_
        rintro e w7 ⟨rfl, hC⟩
        have HR7 := Asd.mk (HR6.out.keep0 hC)
        have hsa := dstart_calls w0 w7 K6 Q6 d bb nn _ (HS6.out.chg0 hC)
        rw [show startD ((211 : Nat), fallenD bb nn D N).2 = (0, risenD bb nn D N) from crash_rises D N] at hsa
        have H8 := Asd.mk hsa
        clear hC hsa H7 HS6 HR6
        go_wp2_with fail
        refine H8.out.mono ?_
        rintro e w8 ⟨rfl, K8, Q8, hS8, hC8, hK8, hQ8⟩
        have HS8 := Asd.mk hS8
        have HR8 := Asd.mk (HR7.out.keep hC8 (fun i hi => List.mem_append_left _ hi) (L' := K8 ++ Q8) (fun i hi => by
          rcases List.mem_append.1 hi with hi | hi
          · exact (hK8 i hi).imp (List.mem_append_left _) id
          · exact (hQ8 i hi).imp (List.mem_append_right _) id))
        have H9 := Asd.mk (dtree_on hS8 HM.out rfl)
        clear hS8 hC8 hK8 hQ8 H8 HR7
        simp only [errV, if_true]
        go_wp2_with fail
        refine H9.out.mono ?_
        rintro e w9 ⟨⟨v9, rfl, hv9⟩, hC⟩
        have HS9 := Asd.mk (HS8.out.chg0 hC)
        have HR9 := Asd.mk (HR8.out.keep0 hC)
        have HV9 := Asd.mk hv9
        clear hv9 hC H9 HS8 HR8
        obtain ⟨vs9, hvl9, hown9, hoff9, hat9⟩ := HR9.out
        have hvm9 : vs9.length = mm + 1 := by rw [hvl9, HS.out.sts.len, hmm2.out]
        have hil9 : pp < vs9.length := by have := HPp.out; omega
        obtain ⟨y, hy⟩ : ∃ y, vs9[pp] = y := ⟨_, rfl⟩
        have hy2 : vs9[pp]? = some y := by rw [List.getElem?_eq_getElem hil9, hy]
        obtain ⟨hyr, _⟩ := hat9 pp y _ hy2 HSt.out
        have hcell9 : w9.cell? ⟨g, pp, none⟩ = some y := by
          rcases row_form hown9 with ⟨h, _⟩ | ⟨g', cap2, h, _, _, hc⟩
          · simp at h
          · have e : g' = g := by
              simp only [Value.slice.injEq, Option.some.injEq, Addr.mk.injEq] at h
              exact h.1.1.symm
            rw [e] at hc
            exact hc pp y hy2
        have hsm := sameEntries_calls (treeF (((0 : Nat), risenD bb nn D N)).2.now []) (treeD (risenD bb nn D N)) v9 y w9 (entL_of_own HV9.out) (entL_of_own hyr) (tree_small HS9.out) (tree_small HS9.out)
        rw [decide_eq_true (show treeF (((0 : Nat), risenD bb nn D N)).2.now [] = treeD (risenD bb nn D N) from rfl)] at hsm
        have HSm := Asd.mk hsm
        have hmin : min (N : Int) (mm : Int) = (pp : Int) := by have := HPp.out; omega
        have hpb : pp ≤ mm := by have := HPp.out; omega
        clear hvl9 hown9 hoff9 hat9 hvm9 hil9 hy hy2 hyr hsm
        go_wp2_with fail
        refine HSm.out.mono ?_
        rintro e w10 ⟨rfl, hC⟩
        have hu2 := dunsafe_calls (HS9.out.chg0 hC)
        rw [show (((((0 : Nat), risenD bb nn D N)).2.log.length : Nat) : Int) = 0 from rfl] at hu2
        have HU := Asd.mk hu2
        have HC10 := Asd.mk (HS9.out.1.trans hC)
        clear hC hu2 HSm hcell9 HS9 HR9
        go_wp2_with fail
        refine HU.out.mono ?_
        rintro e w11 ⟨rfl, rfl⟩
        go_wp2_with fail
        refine (sure_calls w11 (HM.out.chg HC10.out) (HE.out.chg HC10.out)).mono ?_
        rintro e w12 ⟨rfl, hC⟩
        have HC12 := Asd.mk (HC10.out.trans hC)
        clear hC HU
        go_wp2
        go_ret
        exact ⟨rfl, HC0.out.trans HC12.out⟩
/-- DiskCrash, of all cases and numbers. -/
theorem diskcrash_calls (bb nn : Int) (sp : Option Addr) (n cap : Nat) (O : Nat → ActV) (m : Int) (w : World) (hO : ActsAt w sp n O) (hn : n ≤ 1048576) (hm : MaxLenAt w) (he : ErrType w) :
    Calls Tryz.prog 4 #[.agg #[.int .i64 bb, .int .i64 nn, .slice sp n cap], .int .i64 m] w fun e w' => e = .returned (.bool true) ∧ Chg [] w w' := by
  by_cases hb : bb < 0 ∨ 2147483647 < bb ∨ nn < 0 ∨ 65536 < nn
  · exact crash_bad bb nn sp n cap m w hm he hb
  · obtain ⟨b, rfl⟩ : ∃ b : Nat, bb = (b : Int) := ⟨bb.toNat, by omega⟩
    obtain ⟨k, rfl⟩ : ∃ k : Nat, nn = (k : Int) := ⟨nn.toNat, by omega⟩
    exact crash_ok b k sp n cap O m w hO hn hm he (by omega) (by omega)
end Go.Proofs.YthojofeocjmglaaGreatDoor.I
