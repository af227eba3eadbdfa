/- Merged out of these texts: Build, Table, Reader, Shelf. -/
import Derived.Test.YtgkifphfibcfdaaGreatDoorRu1
import Derived.Deep.LoopGhost
import Derived.Deep.CutRange
import Derived.Deep.WholeRow
import Derived.WalkSpells
import Derived.Lib.LazyBuf
import Derived.Lib.SliceRun
import Derived.Lib.ConvBytes
import Derived.Great.BuildSlice
import Derived.Test.YtgkifphfibcfdaaGreatDoorProg
import Derived.Laws.EntriesVeiled
import Derived.Shelf.Small.Wraps
import Derived.Shelf.Strings.Search3
import Derived.Shelf.Strings.Prefix
import Derived.Shelf.Strings.Split
import Derived.Shelf.Strings.FieldsFuncAny
import Derived.Shelf.LaysM
/- (*strings.Replacer).build at Escape's eight strings. -/
namespace Go.Proofs.YtgkifphfibcfdaaGreatDoor.G
open Go.RowKit Go.Proofs.YtgkifphfibcfdaaGreatDoor.B
set_option linter.unusedVariables false
/-- The eight strings that Escape hands over. -/
def olds : Array Value := #[.string ⟨#[42]⟩, .string ⟨#[92, 42]⟩, .string ⟨#[63]⟩, .string ⟨#[92, 63]⟩, .string ⟨#[91]⟩, .string ⟨#[92, 91]⟩, .string ⟨#[92]⟩, .string ⟨#[92, 92]⟩]
/-- A replacer in memory: done, the lock, what was built, the strings. -/
def RpAt (w : World) (b : Nat) (d m : Int) (r o : Value) : Prop := w.heap[b]? = some (.cells #[.int .u32 d, .int .i32 m, .int .u32 0, r, o] 136 (0, 0))
def OldAt (w : World) (g : Nat) : Prop := ∃ cur, w.heap[g]? = some (.cells cur 9 (0, 0)) ∧ ∀ j, j < 8 → cur[j]? = olds[j]?
theorem OldAt.chg {L : List Nat} {w w' : World} {g : Nat} (h : OldAt w g) (hc : Chg L w w') (hg : g ∉ L) : OldAt w' g := by
  obtain ⟨cur, h1, h2⟩ := h
  exact ⟨cur, hc.heap h1 hg, h2⟩
theorem info9 : (Tryz.prog.info? 9).map (fun i => (i.zero, i.size, i.bytes)) = some (some (.string ⟨#[]⟩), 1, 16) := by kernel_rfl
theorem info9' : ∃ ie, Tryz.prog.info? 9 = some ie ∧ ie.zero = some (.string ⟨#[]⟩) ∧ ie.size = 1 ∧ ie.bytes = 16 := by
  cases hie : Tryz.prog.info? 9 with
  | none => have := info9; rw [hie] at this; cases this
  | some ie =>
    have h := info9
    rw [hie] at h
    simp only [Option.map_some, Option.some.injEq, Prod.mk.injEq] at h
    exact ⟨ie, rfl, h.1, h.2.1, h.2.2⟩
theorem build41 (s : ByteArray) (w : World) : (Instr.buildSlice 41 1 #[(0, .string s)]).run Tryz.prog w = .ok (.slice (some ⟨w.heap.size, 0, none⟩) 1 1) (w.alloc (.cells #[.string s] 9)) := by
  obtain ⟨ie, h1, h2, h3, h4⟩ := info9'
  refine Go.run_buildSlice w 41 9 1 _ _ ie _ Tryz.underlying41 h1 h2 (by rw [h3]; decide) (by rw [h3]; decide) ?_
  rw [h3]
  have := Great.fill_whole (s := 1) (by omega) [.string s] ((Array.range (1 * 1)).map ((Value.string ⟨#[]⟩).cells[· % (Value.string ⟨#[]⟩).cells.size]!)) (by simp [Value.cells]) (by simp)
  simpa [Value.cells] using this
theorem wp_build41 (s : ByteArray) {o : Oper} {a : Act} {w : World} {K : Act → World → Prop} {Q : Exit → Act → World → Prop} (x : Operand) (ho : o.op = .buildSlice 41 1 #[(0, x)]) (hx : a.eval x = .string s)
    (h : K (a.put o.dst (.slice (some ⟨w.heap.size, 0, none⟩) 1 1)) (w.alloc (.cells #[.string s] 9))) : o.wp Tryz.prog a w K Q := by
  unfold Oper.wp execOp
  simp only [ho, List.map_toArray, List.map_cons, List.map_nil, hx, Sem.run_bind, build41, Result.andThen_ok]
  exact h
theorem wpList_build41 {ops : Array Oper} {rest : List Oper} {o : Oper} {a : Act} {w : World} {Q : Exit → Act → World → Prop} (hgd : o.guard = none) (s : ByteArray) (n : Nat) (hn : w.heap.size = n) (x : Operand) (ho : o.op = .buildSlice 41 1 #[(0, x)]) (hx : a.eval x = .string s)
    (h : wpList Tryz.prog ops Q rest (a.put o.dst (.slice (some ⟨n, 0, none⟩) 1 1)) (w.alloc (.cells #[.string s] 9))) : wpList Tryz.prog ops Q (o :: rest) a w :=
  wpList_plain hgd fun _ hK => wp_build41 s x ho hx (hK _ _ (by subst hn; exact h))
def four : Array Value := #[.string ⟨#[]⟩, .string ⟨#[]⟩, .string ⟨#[]⟩, .string ⟨#[]⟩]
theorem make4 (w : World) : (Instr.makeSlice 41 (.int .i64 0) (.int .i64 4)).run Tryz.prog w = .ok (.slice (some ⟨w.heap.size, 0, none⟩) 0 4) (w.alloc (.cells four 9)) := by
  obtain ⟨ie, h1, h2, h3, h4⟩ := info9'
  have h := run_makeSlice (P := Tryz.prog) w 41 9 ie _ Tryz.underlying41 h1 h2 .i64 .i64 0 4 (by omega) (by omega) (by rw [h3]; decide) (by rw [h4]; decide) (by omega)
  rw [h3] at h
  have e : madeCells (Value.string ⟨#[]⟩).cells (Int.toNat 4 * 1) = four := by kernel_rfl
  rw [e] at h
  exact h
/-- The cells of a byteStringReplacer: a slice a byte, and the bytes to replace. -/
def bsr (F : Nat → Value) (tr : Value) : Array Value := ((List.range 256).map F ++ [tr]).toArray
theorem bsr_size (F : Nat → Value) (tr : Value) : (bsr F tr).size = 257 := by simp [bsr]
theorem bsr_at (F : Nat → Value) (tr : Value) (j : Nat) (h : j < 256) : (bsr F tr)[j]? = some (F j) := by
  simp only [bsr, List.getElem?_toArray]
  rw [List.getElem?_append_left (by simpa using h)]
  simp [h]
theorem bsr_last (F : Nat → Value) (tr : Value) : (bsr F tr)[256]? = some tr := by
  simp only [bsr, List.getElem?_toArray]
  rw [List.getElem?_append_right (by simp)]
  simp
def updV (F : Nat → Value) (i : Nat) (v : Value) : Nat → Value := fun j => if j = i then v else F j
theorem bsr_set (F : Nat → Value) (tr : Value) (i : Nat) (v : Value) (h : i < 256) : (bsr F tr).setIfInBounds i v = bsr (updV F i v) tr := by
  apply Array.ext_getElem?
  intro j
  rw [Array.getElem?_setIfInBounds]
  by_cases hj : i = j
  · subst hj
    rw [if_pos rfl, if_pos (by rw [bsr_size]; omega), bsr_at _ _ _ h]
    simp [updV]
  · rw [if_neg hj]
    by_cases h1 : j < 256
    · rw [bsr_at _ _ _ h1, bsr_at _ _ _ h1]
      simp only [updV]
      rw [if_neg (fun e => hj e.symm)]
    · by_cases h2 : j = 256
      · subst h2; rw [bsr_last, bsr_last]
      · rw [Array.getElem?_eq_none (by rw [bsr_size]; omega), Array.getElem?_eq_none (by rw [bsr_size]; omega)]
theorem bsr_set_last (F : Nat → Value) (tr v : Value) : (bsr F tr).setIfInBounds 256 v = bsr F v := by
  apply Array.ext_getElem?
  intro j
  rw [Array.getElem?_setIfInBounds]
  by_cases hj : 256 = j
  · subst hj
    rw [if_pos rfl, if_pos (by rw [bsr_size]; omega), bsr_last]
  · rw [if_neg hj]
    by_cases h1 : j < 256
    · rw [bsr_at _ _ _ h1, bsr_at _ _ _ h1]
    · rw [Array.getElem?_eq_none (by rw [bsr_size]; omega), Array.getElem?_eq_none (by rw [bsr_size]; omega)]
def nilF : Nat → Value := fun _ => .slice none 0 0
theorem zero184 : Tryz.zeroCells184.toList = (bsr nilF (.slice none 0 0)).toList := by kernel_rfl
theorem size184 : (Tryz.prog.info? 184).map (·.size) = some 257 := by kernel_rfl
theorem store184 (w : World) (n : Nat) (hn : w.heap.size = n) (g l c : Nat) :
    (storeCells ⟨n, 0, none⟩ (Tryz.zeroCells184.toList.set 256 (.slice (some ⟨g, 0, none⟩) l c))).run Tryz.prog (w.alloc (.cells Tryz.zeroCells184 184)) = .ok () (w.alloc (.cells (bsr nilF (.slice (some ⟨g, 0, none⟩) l c)) 184)) := by
  subst hn
  have e : Tryz.zeroCells184.toList.set 256 (.slice (some ⟨g, 0, none⟩) l c) = (bsr nilF (.slice (some ⟨g, 0, none⟩) l c)).toList := by
    rw [zero184, ← Array.toList_setIfInBounds, bsr_set_last]
  have es : Tryz.zeroCells184.size = 257 := by
    have := congrArg List.length zero184
    rw [Array.length_toList, Array.length_toList, bsr_size] at this
    exact this
  rw [e]
  refine run_storeCells_new w 184 Tryz.zeroCells184 _ (by rw [size184, bsr_size]) (by rw [es, bsr_size]) ?_
  rw [Array.all_eq_true_iff_forall_mem]
  intro v hv
  simp only [bsr, List.mem_toArray, List.mem_append, List.mem_map, List.mem_singleton] at hv
  rcases hv with ⟨i, _, rfl⟩ | rfl <;> rfl
/-- The bytes that Escape escapes, in the order in which the replacer takes them. -/
def specials : List Nat := [92, 91, 63, 42]
/-- What build holds behind n rounds. -/
structure BuildAt (w w' : World) (B : Nat) (n : Nat) (F : Nat → Value) (tr : Value) : Prop where
  chg : Chg [] w w'
  at_ : w'.heap[B]? = some (.cells (bsr F tr) 184 (0, 0))
  own : w'.ownsRow w.heap.size 9 1 tr n ((specials.take n).map fun c => .string ⟨#[UInt8.ofNat c]⟩)
  apart : tr.ownBlock ≠ some B
  reps : ∀ c, c ∈ specials.take n → ∃ g cap cs fz, F c = .slice (some ⟨g, 0, none⟩) 2 cap ∧ g ≠ B ∧ w.heap.size < g ∧ tr.ownBlock ≠ some g ∧ w'.heap[g]? = some (.cells cs 5 fz) ∧ cs[0]? = some (.int .u8 92) ∧ cs[1]? = some (.int .u8 (c : Int))
  nils : ∀ c, c ∉ specials.take n → F c = .slice none 0 0
theorem one_new (W : World) (x : Value) (t : TypeId) : ∀ j u, [x][j]? = some u → (W.alloc (.cells #[x] t)).cell? ((⟨W.heap.size, 0, none⟩ : Addr).add j) = some u := by
  intro j u hu
  have h0 : j = 0 := by
    cases j with
    | zero => rfl
    | succ j => simp at hu
  subst h0
  have e : (⟨W.heap.size, 0, none⟩ : Addr).add 0 = ⟨W.heap.size, 0, none⟩ := by unfold Addr.add; split <;> simp_all
  rw [e, cell_of_heap (hp_new _ _)]
  simpa using hu
theorem own_block {w : World} {base : Nat} {t : TypeId} {z : Nat} {v : Value} {n : Nat} {l : List Value} (h : w.ownsRow base t z v n l) {b : Nat} (hb : v.ownBlock = some b) : ∃ cs, w.heap[b]? = some (.cells cs t (0, 0)) := by
  rcases h.2 with ⟨rfl, _⟩ | ⟨g, cap, cur, rfl, _, hg, _⟩
  · cases hb
  · obtain rfl : g = b := Option.some.inj hb
    exact ⟨cur, hg⟩
theorem own_slice {w : World} {base : Nat} {t : TypeId} {z : Nat} {v : Value} {n : Nat} {l : List Value} (h : w.ownsRow base t z v n l) : ∃ sp k m, v = .slice sp k m := by
  rcases h.2 with ⟨rfl, _⟩ | ⟨g, cap, cur, rfl, _⟩
  · exact ⟨_, _, _, rfl⟩
  · exact ⟨_, _, _, rfl⟩
theorem own_chg1 {w w' : World} {base : Nat} {t : TypeId} {z : Nat} {v : Value} {n : Nat} {l : List Value} (h : w.ownsRow base t z v n l) (hb : ∀ g, v.ownBlock = some g → base ≤ g → g < w.heap.size → w'.heap[g]? = w.heap[g]?) : w'.ownsRow base t z v n l := by
  refine ⟨h.1, ?_⟩
  rcases h.2 with hn | ⟨g, cap, cur, hv, h1, hg, rest⟩
  · exact .inl hn
  · exact .inr ⟨g, cap, cur, hv, h1, (hb g (by rw [hv]; rfl) h1 (lt_of_heap hg)).trans hg, rest⟩
theorem bytes_chg (w : World) (s : ByteArray) : Chg [] w (Lib.bytesWorld w 5 s) :=
  ⟨rfl, rfl, rfl, by rw [Lib.bytesWorld_size]; omega, fun i hi _ => Lib.bytesWorld_at_old w 5 s i hi⟩
theorem specials_split : ∀ (n c : Nat), specials[n]? = some c → specials.take (n + 1) = specials.take n ++ [c] ∧ c ∉ specials.take n ∧ c < 256
  | 0, c, h => by cases h; decide
  | 1, c, h => by cases h; decide
  | 2, c, h => by cases h; decide
  | 3, c, h => by cases h; decide
  | n + 4, c, h => by simp [specials] at h
theorem build_step {w wr w3 : World} {B n : Nat} {F : Nat → Value} {tr v' : Value} {c : Nat} (hX : BuildAt w wr B n F tr) (hB : w.heap.size < B) (hc : specials[n]? = some c) (u : UInt8) (hu : u = UInt8.ofNat c) (hu2 : u.toNat = c) (o1 o2 : Obj)
    (hown : w3.ownsRow w.heap.size 9 1 v' (n + 1) ((specials.take n).map (fun c => .string ⟨#[UInt8.ofNat c]⟩) ++ [.string ⟨#[u]⟩])) (hgrow : ((wr.alloc o1).alloc o2).grownBy w3 tr.ownBlock) (cap : Nat) :
    BuildAt w ((Lib.bytesWorld (w3.setCell ⟨B, 256, none⟩ v') 5 ⟨#[92, u]⟩).setCell ⟨B, c, none⟩ (.slice (some ⟨w3.heap.size, 0, none⟩) 2 cap)) B (n + 1) (updV F c (.slice (some ⟨w3.heap.size, 0, none⟩) 2 cap)) v' := by
  obtain ⟨hs1, hs2, hs3⟩ := specials_split n c hc
  have hB2 : ((wr.alloc o1).alloc o2).heap[B]? = some (.cells (bsr F tr) 184 (0, 0)) := hp_alloc (hp_alloc hX.at_ _) _
  have hB3 : w3.heap[B]? = some (.cells (bsr F tr) 184 (0, 0)) := (hgrow.block _ (lt_of_heap hB2) (fun e => hX.apart e.symm)).trans hB2
  have hB4 : (w3.setCell ⟨B, 256, none⟩ v').heap[B]? = some (.cells (bsr F v') 184 (0, 0)) := by
    have := hp_set hB3 256 v'
    rw [bsr_set_last] at this
    exact this
  have hz4 : (w3.setCell ⟨B, 256, none⟩ v').heap.size = w3.heap.size := by simp [World.setCell]
  have hBlt : B < w3.heap.size := lt_of_heap hB3
  have hb := bytes_chg (w3.setCell ⟨B, 256, none⟩ v') ⟨#[92, u]⟩
  have hap : v'.ownBlock ≠ some B := fun e => by
    obtain ⟨cs, h⟩ := own_block hown e
    rw [hB3] at h
    cases h
  have hsz : wr.heap.size < w3.heap.size := by
    have := hgrow.size
    simp at this
    omega
  have hgc : Chg [] w w3 := by
    have h0 := (hX.chg.alloc o1).alloc o2
    refine ⟨hgrow.os.trans h0.os, hgrow.tape.trans h0.tape, hgrow.output.trans h0.output, Nat.le_trans h0.size hgrow.size, fun i hi hn => (hgrow.block i (Nat.lt_of_lt_of_le hi h0.size) (fun e => ?_)).trans (h0.block i hi hn)⟩
    have := (hX.own.lt i e.symm).1
    omega
  have other : ∀ g, g < w3.heap.size → g ≠ B → ((Lib.bytesWorld (w3.setCell ⟨B, 256, none⟩ v') 5 ⟨#[92, u]⟩).setCell ⟨B, c, none⟩ (.slice (some ⟨w3.heap.size, 0, none⟩) 2 cap)).heap[g]? = w3.heap[g]? := fun g h1 h2 => by
    rw [Below.heap_setCell _ ⟨B, c, none⟩ _ g h2, hb.block g (by rw [hz4]; exact h1) (by simp), Below.heap_setCell _ ⟨B, 256, none⟩ _ g h2]
  refine ⟨(((hgc.setCell (by simp; omega) _).trans hb).setCell (by simp; omega) _), ?_, ?_, hap, ?_, ?_⟩
  · have h := hp_set (hb.heap hB4 (by simp)) c (.slice (some ⟨w3.heap.size, 0, none⟩) 2 cap)
    rw [bsr_set _ _ _ _ hs3] at h
    exact h
  · rw [hs1, List.map_append, List.map_cons, List.map_nil, ← hu]
    exact own_chg1 hown (fun g h1 _ h3 => other g h3 (fun e => hap (by rw [h1, e])))
  · intro d hd
    rw [hs1, List.mem_append, List.mem_singleton] at hd
    by_cases hdc : d = c
    · subst hdc
      refine ⟨w3.heap.size, cap, Lib.bytesCells (w3.setCell ⟨B, 256, none⟩ v') 5 ⟨#[92, u]⟩, ((Lib.bytesCells (w3.setCell ⟨B, 256, none⟩ v') 5 ⟨#[92, u]⟩).size, (Lib.bytesCells (w3.setCell ⟨B, 256, none⟩ v') 5 ⟨#[92, u]⟩).size + 1), by simp [updV], by omega, by have := hX.chg.size; omega, fun e => by have := (hown.lt _ e).2; omega, ?_, ?_, ?_⟩
      · have h := Lib.bytesWorld_at_new (w3.setCell ⟨B, 256, none⟩ v') 5 ⟨#[92, u]⟩
        rw [hz4] at h
        exact hp_set_other h (by omega) _ _
      · show ((#[92, u] : Array UInt8).map (fun b => Value.int .u8 b.toNat) ++ _)[0]? = _
        rw [Array.getElem?_append_left (by simp)]
        simp
      · show ((#[92, u] : Array UInt8).map (fun b => Value.int .u8 b.toNat) ++ _)[1]? = _
        rw [Array.getElem?_append_left (by simp)]
        simp [hu2]
    · rcases hd with hd | hd
      · obtain ⟨g, cap', cs, fz, h1, h2, h3, h4, h5, h6⟩ := hX.reps d hd
        have hg2 : ((wr.alloc o1).alloc o2).heap[g]? = some (.cells cs 5 fz) := hp_alloc (hp_alloc h5 _) _
        have hg3 : w3.heap[g]? = some (.cells cs 5 fz) := (hgrow.block _ (lt_of_heap hg2) (fun e => h4 e.symm)).trans hg2
        refine ⟨g, cap', cs, fz, by simp [updV, hdc, h1], h2, h3, fun e => ?_, (other g (lt_of_heap hg3) h2).trans hg3, h6⟩
        obtain ⟨cs', h⟩ := own_block hown e
        rw [hg3] at h
        cases h
      · exact absurd hd hdc
  · intro d hd
    rw [hs1, List.mem_append, List.mem_singleton, not_or] at hd
    simp only [updV]
    rw [if_neg hd.2]
    exact hX.nils d hd.1
set_option maxRecDepth 100000 in
set_option maxHeartbeats 8000000 in
theorem build_calls (b g kk : Nat) (w : World) (hb : RpAt w b 0 1 .nilIface (.slice (some ⟨g, 0, none⟩) 8 kk)) (hg : OldAt w g) (hne : b ≠ g) :
    Calls Tryz.prog 71 #[.pointer (some ⟨b, 0, none⟩)] w fun e w' => ∃ B F tr, e = .returned (.iface 185 (.pointer (some ⟨B, 0, none⟩))) ∧ w.heap.size < B ∧ BuildAt w w' B 4 F tr := by
  have c4 : w.cell? ⟨b, 4, none⟩ = some (.slice (some ⟨g, 0, none⟩) 8 kk) := cell_of_heap hb 4
  obtain ⟨cur, hg1, hg2⟩ := hg
  have hgl : g < w.heap.size := lt_of_heap hg1
  have o0 : w.cell? ⟨g, 0, none⟩ = some (.string ⟨#[42]⟩) := (cell_of_heap hg1 0).trans (hg2 0 (by omega))
  have o1 : w.cell? ⟨g, 1, none⟩ = some (.string ⟨#[92, 42]⟩) := (cell_of_heap hg1 1).trans (hg2 1 (by omega))
  have o2 : w.cell? ⟨g, 2, none⟩ = some (.string ⟨#[63]⟩) := (cell_of_heap hg1 2).trans (hg2 2 (by omega))
  have o3 : w.cell? ⟨g, 3, none⟩ = some (.string ⟨#[92, 63]⟩) := (cell_of_heap hg1 3).trans (hg2 3 (by omega))
  have o4 : w.cell? ⟨g, 4, none⟩ = some (.string ⟨#[91]⟩) := (cell_of_heap hg1 4).trans (hg2 4 (by omega))
  have o5 : w.cell? ⟨g, 5, none⟩ = some (.string ⟨#[92, 91]⟩) := (cell_of_heap hg1 5).trans (hg2 5 (by omega))
  have o6 : w.cell? ⟨g, 6, none⟩ = some (.string ⟨#[92]⟩) := (cell_of_heap hg1 6).trans (hg2 6 (by omega))
  have o7 : w.cell? ⟨g, 7, none⟩ = some (.string ⟨#[92, 92]⟩) := (cell_of_heap hg1 7).trans (hg2 7 (by omega))
  have HB := Asd.mk hb
  clear hb hg1 hg2
  go_enter Tryz.func71, Tryz.ntmps71
  go_wp2
  go_loopg [4, 5] 5 (fun gk v4 v5 wr => w = wr ∧ ∃ n : Nat, n ≤ 4 ∧ gk = 5 - n ∧ v5 = .int .i64 ((2 * n : Nat) : Int) ∧ v4 = .bool (decide (n = 0)))
  case atStart => exact ⟨rfl, 0, by omega, rfl, rfl, rfl⟩
  case round =>
    obtain ⟨rfl, n, hn, rfl, rfl, rfl⟩ := hrel
    rcases (show n = 0 ∨ n = 1 ∨ n = 2 ∨ n = 3 ∨ n = 4 by omega) with rfl | rfl | rfl | rfl | rfl
    · go_wp2
      go_roundg 4
      case rel => exact ⟨rfl, 1, by omega, rfl, rfl, rfl⟩
      case measure => omega
    · go_wp2
      go_roundg 3
      case rel => exact ⟨rfl, 2, by omega, rfl, rfl, rfl⟩
      case measure => omega
    · go_wp2
      go_roundg 2
      case rel => exact ⟨rfl, 3, by omega, rfl, rfl, rfl⟩
      case measure => omega
    · go_wp2
      go_roundg 1
      case rel => exact ⟨rfl, 4, by omega, rfl, rfl, rfl⟩
      case measure => omega
    · have hmk := make4 w
      have hst := store184 (w.alloc (.cells four 9)) (w.heap.size + 1) (by simp) w.heap.size 0 4
      go_wp2
      clear hmk hst
      go_loopg [12] 5 (fun gk v12 wx => ∃ (n : Nat) (F : Nat → Value) (tr : Value), n ≤ 4 ∧ gk = 5 - n ∧ v12 = .int .i64 (6 - 2 * (n : Int)) ∧ Asd (BuildAt w wx (w.heap.size + 1) n F tr))
      case atStart =>
        have ho : (w.alloc (.cells four 9)).ownsRow w.heap.size 9 1 (.slice (some ⟨w.heap.size, 0, none⟩) 0 4) 0 [] := World.ownsRow_made w four 4 (Nat.le_refl _) (by decide) (by decide)
        have hz : (w.alloc (.cells four 9)).heap.size = w.heap.size + 1 := by simp
        have hn := hp_new (w.alloc (.cells four 9)) (.cells (bsr nilF (.slice (some ⟨w.heap.size, 0, none⟩) 0 4)) 184)
        rw [hz] at hn
        exact ⟨0, nilF, _, by omega, rfl, rfl, ⟨⟨((Chg.refl _ _).alloc _).alloc _, hn, ho.alloc _, by simp [Value.ownBlock], fun c hc => by simp at hc, fun c _ => rfl⟩⟩⟩
      case round =>
        obtain ⟨n, F, tr, hn, rfl, rfl, HX⟩ := hrel
        rcases (show n = 0 ∨ n = 1 ∨ n = 2 ∨ n = 3 ∨ n = 4 by omega) with rfl | rfl | rfl | rfl | rfl
        · have q6 : wr.cell? ⟨g, 6, none⟩ = some (.string ⟨#[92]⟩) := (HX.out.chg.below.cell (p := ⟨g, 6, none⟩) hgl).trans o6
          have q7 : wr.cell? ⟨g, 7, none⟩ = some (.string ⟨#[92, 92]⟩) := (HX.out.chg.below.cell (p := ⟨g, 7, none⟩) hgl).trans o7
          have qb : wr.cell? ⟨w.heap.size + 1, 92, none⟩ = some (.slice none 0 0) := by
            rw [cell_of_heap HX.out.at_ 92, bsr_at _ _ _ (by omega), HX.out.nils 92 (by simp [specials])]
          have qt : wr.cell? ⟨w.heap.size + 1, 256, none⟩ = some tr := (cell_of_heap HX.out.at_ 256).trans (bsr_last _ _)
          clear o0 o1 o2 o3 o4 o5 o6 o7 c4
          have hb0 : ∀ h, ((⟨#[92]⟩ : ByteArray)[0]'h).toNat = 92 := fun _ => rfl
          have heq : ∀ W : World, (binOp .eql 35 (.slice none 0 0) (.slice none 0 0)).run Tryz.prog W = .ok (.bool true) W := fun W => Lib.run_eql_slice_nil W 35 5 none 0 0 0 0 Tryz.underlying35
          have hs1 : wr.heap.size + 1 = (wr.alloc (.cells #[.int .u8 92] 5)).heap.size := by simp
          have hcb : (convert 35 9 (.slice (some ⟨wr.heap.size, 0, none⟩) 1 1)).run Tryz.prog (wr.alloc (.cells #[.int .u8 92] 5)) = .ok (.string ⟨#[92]⟩) (wr.alloc (.cells #[.int .u8 92] 5)) :=
            run_convert_bytes_back _ 35 9 5 ⟨wr.heap.size, 0, none⟩ 1 [92] Tryz.underlying35 Tryz.underlying5 Tryz.underlying9 (fun j hj => by
              refine one_new wr (.int .u8 92) 5 j _ ?_
              have : j = 0 := by simpa using hj
              subst this
              rfl)
          have hcs : ∀ W : World, (convert 9 35 (.string ⟨#[92, 92]⟩)).run Tryz.prog W = .ok (.slice (some ⟨W.heap.size, 0, none⟩) 2 (grownCap W 2 0 5)) (Lib.bytesWorld W 5 ⟨#[92, 92]⟩) := fun W => Lib.run_convert_string_bytes W 9 35 5 ⟨#[92, 92]⟩ Tryz.underlying9 Tryz.underlying35 Tryz.underlying5
          go_wp2_with (first | (refine wpList_build41 rfl _ (wr.heap.size + 1) (by simp) (.tmp 122) rfl rfl ?_; simp only [Act.put, List.setIfInBounds_toArray, List.set_cons_zero, List.set_cons_succ]) | (at_builtin; obtain ⟨ie, h1, h2, h3, h4⟩ := info9';  refine wpList_append_own _ rfl _ _ 41 rfl w.heap.size 9 ie _ 1 16 Tryz.underlying41 h1 h2 h3 h4 rfl (by decide) _ _ _ rfl ((HX.out.own.alloc _).alloc _) ⟨wr.heap.size + 1, 0, none⟩ 1 1 [.string ⟨#[92]⟩] rfl rfl (by rw [hs1]; exact one_new _ _ _) (fun u hu => by simp at hu; subst hu; rfl) (by decide) (by decide) (by have := HX.out.chg.size; simp; omega) ?_; intro v' w3 hown' hgrow3 hnil3; clear h1 h2 h3 h4 hnil3; obtain ⟨sp, sl, sc, hv'⟩ := own_slice hown'; subst hv'; have q3 : w3.heap[w.heap.size + 1]? = some (.cells (bsr F tr) 184 (0, 0)) := (hgrow3.block _ (lt_of_heap (hp_alloc (hp_alloc HX.out.at_ _) _)) (fun e => HX.out.apart e.symm)).trans (hp_alloc (hp_alloc HX.out.at_ _) _); have q3c := (cell_of_heap q3 256).trans (bsr_last _ _); have q3f := frozen_of_heap q3 256; have q5 := (bytes_chg (w3.setCell ⟨w.heap.size + 1, 256, none⟩ (.slice sp sl sc)) ⟨#[92, 92]⟩).heap (hp_set q3 256 (.slice sp sl sc)) (by simp); have q5c : (Lib.bytesWorld (w3.setCell ⟨w.heap.size + 1, 256, none⟩ (.slice sp sl sc)) 5 ⟨#[92, 92]⟩).cell? ⟨w.heap.size + 1, 92, none⟩ = some (.slice none 0 0) := by { rw [cell_of_heap q5, bsr_set_last, bsr_at _ _ _ (by omega), HX.out.nils 92 (by simp [specials])] }; have q5f := frozen_of_heap q5 92; replace q3 := Asd.mk q3; replace q5 := Asd.mk q5; simp only [Act.put, List.setIfInBounds_toArray, List.set_cons_zero, List.set_cons_succ]))
          go_roundg 4
          case rel => exact ⟨1, _, _, by omega, by omega, by go_num, ⟨build_step HX.out (by omega) rfl 92 rfl rfl _ _ hown' hgrow3 _⟩⟩
          case measure => omega
        · have q6 : wr.cell? ⟨g, 4, none⟩ = some (.string ⟨#[91]⟩) := (HX.out.chg.below.cell (p := ⟨g, 4, none⟩) hgl).trans o4
          have q7 : wr.cell? ⟨g, 5, none⟩ = some (.string ⟨#[92, 91]⟩) := (HX.out.chg.below.cell (p := ⟨g, 5, none⟩) hgl).trans o5
          have qb : wr.cell? ⟨w.heap.size + 1, 91, none⟩ = some (.slice none 0 0) := by
            rw [cell_of_heap HX.out.at_ 91, bsr_at _ _ _ (by omega), HX.out.nils 91 (by simp [specials])]
          have qt : wr.cell? ⟨w.heap.size + 1, 256, none⟩ = some tr := (cell_of_heap HX.out.at_ 256).trans (bsr_last _ _)
          clear o0 o1 o2 o3 o4 o5 o6 o7 c4
          have hb0 : ∀ h, ((⟨#[91]⟩ : ByteArray)[0]'h).toNat = 91 := fun _ => rfl
          have heq : ∀ W : World, (binOp .eql 35 (.slice none 0 0) (.slice none 0 0)).run Tryz.prog W = .ok (.bool true) W := fun W => Lib.run_eql_slice_nil W 35 5 none 0 0 0 0 Tryz.underlying35
          have hs1 : wr.heap.size + 1 = (wr.alloc (.cells #[.int .u8 91] 5)).heap.size := by simp
          have hcb : (convert 35 9 (.slice (some ⟨wr.heap.size, 0, none⟩) 1 1)).run Tryz.prog (wr.alloc (.cells #[.int .u8 91] 5)) = .ok (.string ⟨#[91]⟩) (wr.alloc (.cells #[.int .u8 91] 5)) :=
            run_convert_bytes_back _ 35 9 5 ⟨wr.heap.size, 0, none⟩ 1 [91] Tryz.underlying35 Tryz.underlying5 Tryz.underlying9 (fun j hj => by
              refine one_new wr (.int .u8 91) 5 j _ ?_
              have : j = 0 := by simpa using hj
              subst this
              rfl)
          have hcs : ∀ W : World, (convert 9 35 (.string ⟨#[92, 91]⟩)).run Tryz.prog W = .ok (.slice (some ⟨W.heap.size, 0, none⟩) 2 (grownCap W 2 0 5)) (Lib.bytesWorld W 5 ⟨#[92, 91]⟩) := fun W => Lib.run_convert_string_bytes W 9 35 5 ⟨#[92, 91]⟩ Tryz.underlying9 Tryz.underlying35 Tryz.underlying5
          go_wp2_with (first | (refine wpList_build41 rfl _ (wr.heap.size + 1) (by simp) (.tmp 122) rfl rfl ?_; simp only [Act.put, List.setIfInBounds_toArray, List.set_cons_zero, List.set_cons_succ]) | (at_builtin; obtain ⟨ie, h1, h2, h3, h4⟩ := info9';  refine wpList_append_own _ rfl _ _ 41 rfl w.heap.size 9 ie _ 1 16 Tryz.underlying41 h1 h2 h3 h4 rfl (by decide) _ _ _ rfl ((HX.out.own.alloc _).alloc _) ⟨wr.heap.size + 1, 0, none⟩ 1 1 [.string ⟨#[91]⟩] rfl rfl (by rw [hs1]; exact one_new _ _ _) (fun u hu => by simp at hu; subst hu; rfl) (by decide) (by decide) (by have := HX.out.chg.size; simp; omega) ?_; intro v' w3 hown' hgrow3 hnil3; clear h1 h2 h3 h4 hnil3; obtain ⟨sp, sl, sc, hv'⟩ := own_slice hown'; subst hv'; have q3 : w3.heap[w.heap.size + 1]? = some (.cells (bsr F tr) 184 (0, 0)) := (hgrow3.block _ (lt_of_heap (hp_alloc (hp_alloc HX.out.at_ _) _)) (fun e => HX.out.apart e.symm)).trans (hp_alloc (hp_alloc HX.out.at_ _) _); have q3c := (cell_of_heap q3 256).trans (bsr_last _ _); have q3f := frozen_of_heap q3 256; have q5 := (bytes_chg (w3.setCell ⟨w.heap.size + 1, 256, none⟩ (.slice sp sl sc)) ⟨#[92, 91]⟩).heap (hp_set q3 256 (.slice sp sl sc)) (by simp); have q5c : (Lib.bytesWorld (w3.setCell ⟨w.heap.size + 1, 256, none⟩ (.slice sp sl sc)) 5 ⟨#[92, 91]⟩).cell? ⟨w.heap.size + 1, 91, none⟩ = some (.slice none 0 0) := by { rw [cell_of_heap q5, bsr_set_last, bsr_at _ _ _ (by omega), HX.out.nils 91 (by simp [specials])] }; have q5f := frozen_of_heap q5 91; replace q3 := Asd.mk q3; replace q5 := Asd.mk q5; simp only [Act.put, List.setIfInBounds_toArray, List.set_cons_zero, List.set_cons_succ]))
          go_roundg 3
          case rel => exact ⟨2, _, _, by omega, by omega, by go_num, ⟨build_step HX.out (by omega) rfl 91 rfl rfl _ _ hown' hgrow3 _⟩⟩
          case measure => omega
        · have q6 : wr.cell? ⟨g, 2, none⟩ = some (.string ⟨#[63]⟩) := (HX.out.chg.below.cell (p := ⟨g, 2, none⟩) hgl).trans o2
          have q7 : wr.cell? ⟨g, 3, none⟩ = some (.string ⟨#[92, 63]⟩) := (HX.out.chg.below.cell (p := ⟨g, 3, none⟩) hgl).trans o3
          have qb : wr.cell? ⟨w.heap.size + 1, 63, none⟩ = some (.slice none 0 0) := by
            rw [cell_of_heap HX.out.at_ 63, bsr_at _ _ _ (by omega), HX.out.nils 63 (by simp [specials])]
          have qt : wr.cell? ⟨w.heap.size + 1, 256, none⟩ = some tr := (cell_of_heap HX.out.at_ 256).trans (bsr_last _ _)
          clear o0 o1 o2 o3 o4 o5 o6 o7 c4
          have hb0 : ∀ h, ((⟨#[63]⟩ : ByteArray)[0]'h).toNat = 63 := fun _ => rfl
          have heq : ∀ W : World, (binOp .eql 35 (.slice none 0 0) (.slice none 0 0)).run Tryz.prog W = .ok (.bool true) W := fun W => Lib.run_eql_slice_nil W 35 5 none 0 0 0 0 Tryz.underlying35
          have hs1 : wr.heap.size + 1 = (wr.alloc (.cells #[.int .u8 63] 5)).heap.size := by simp
          have hcb : (convert 35 9 (.slice (some ⟨wr.heap.size, 0, none⟩) 1 1)).run Tryz.prog (wr.alloc (.cells #[.int .u8 63] 5)) = .ok (.string ⟨#[63]⟩) (wr.alloc (.cells #[.int .u8 63] 5)) :=
            run_convert_bytes_back _ 35 9 5 ⟨wr.heap.size, 0, none⟩ 1 [63] Tryz.underlying35 Tryz.underlying5 Tryz.underlying9 (fun j hj => by
              refine one_new wr (.int .u8 63) 5 j _ ?_
              have : j = 0 := by simpa using hj
              subst this
              rfl)
          have hcs : ∀ W : World, (convert 9 35 (.string ⟨#[92, 63]⟩)).run Tryz.prog W = .ok (.slice (some ⟨W.heap.size, 0, none⟩) 2 (grownCap W 2 0 5)) (Lib.bytesWorld W 5 ⟨#[92, 63]⟩) := fun W => Lib.run_convert_string_bytes W 9 35 5 ⟨#[92, 63]⟩ Tryz.underlying9 Tryz.underlying35 Tryz.underlying5
          go_wp2_with (first | (refine wpList_build41 rfl _ (wr.heap.size + 1) (by simp) (.tmp 122) rfl rfl ?_; simp only [Act.put, List.setIfInBounds_toArray, List.set_cons_zero, List.set_cons_succ]) | (at_builtin; obtain ⟨ie, h1, h2, h3, h4⟩ := info9';  refine wpList_append_own _ rfl _ _ 41 rfl w.heap.size 9 ie _ 1 16 Tryz.underlying41 h1 h2 h3 h4 rfl (by decide) _ _ _ rfl ((HX.out.own.alloc _).alloc _) ⟨wr.heap.size + 1, 0, none⟩ 1 1 [.string ⟨#[63]⟩] rfl rfl (by rw [hs1]; exact one_new _ _ _) (fun u hu => by simp at hu; subst hu; rfl) (by decide) (by decide) (by have := HX.out.chg.size; simp; omega) ?_; intro v' w3 hown' hgrow3 hnil3; clear h1 h2 h3 h4 hnil3; obtain ⟨sp, sl, sc, hv'⟩ := own_slice hown'; subst hv'; have q3 : w3.heap[w.heap.size + 1]? = some (.cells (bsr F tr) 184 (0, 0)) := (hgrow3.block _ (lt_of_heap (hp_alloc (hp_alloc HX.out.at_ _) _)) (fun e => HX.out.apart e.symm)).trans (hp_alloc (hp_alloc HX.out.at_ _) _); have q3c := (cell_of_heap q3 256).trans (bsr_last _ _); have q3f := frozen_of_heap q3 256; have q5 := (bytes_chg (w3.setCell ⟨w.heap.size + 1, 256, none⟩ (.slice sp sl sc)) ⟨#[92, 63]⟩).heap (hp_set q3 256 (.slice sp sl sc)) (by simp); have q5c : (Lib.bytesWorld (w3.setCell ⟨w.heap.size + 1, 256, none⟩ (.slice sp sl sc)) 5 ⟨#[92, 63]⟩).cell? ⟨w.heap.size + 1, 63, none⟩ = some (.slice none 0 0) := by { rw [cell_of_heap q5, bsr_set_last, bsr_at _ _ _ (by omega), HX.out.nils 63 (by simp [specials])] }; have q5f := frozen_of_heap q5 63; replace q3 := Asd.mk q3; replace q5 := Asd.mk q5; simp only [Act.put, List.setIfInBounds_toArray, List.set_cons_zero, List.set_cons_succ]))
          go_roundg 2
          case rel => exact ⟨3, _, _, by omega, by omega, by go_num, ⟨build_step HX.out (by omega) rfl 63 rfl rfl _ _ hown' hgrow3 _⟩⟩
          case measure => omega
        · have q6 : wr.cell? ⟨g, 0, none⟩ = some (.string ⟨#[42]⟩) := (HX.out.chg.below.cell (p := ⟨g, 0, none⟩) hgl).trans o0
          have q7 : wr.cell? ⟨g, 1, none⟩ = some (.string ⟨#[92, 42]⟩) := (HX.out.chg.below.cell (p := ⟨g, 1, none⟩) hgl).trans o1
          have qb : wr.cell? ⟨w.heap.size + 1, 42, none⟩ = some (.slice none 0 0) := by
            rw [cell_of_heap HX.out.at_ 42, bsr_at _ _ _ (by omega), HX.out.nils 42 (by simp [specials])]
          have qt : wr.cell? ⟨w.heap.size + 1, 256, none⟩ = some tr := (cell_of_heap HX.out.at_ 256).trans (bsr_last _ _)
          clear o0 o1 o2 o3 o4 o5 o6 o7 c4
          have hb0 : ∀ h, ((⟨#[42]⟩ : ByteArray)[0]'h).toNat = 42 := fun _ => rfl
          have heq : ∀ W : World, (binOp .eql 35 (.slice none 0 0) (.slice none 0 0)).run Tryz.prog W = .ok (.bool true) W := fun W => Lib.run_eql_slice_nil W 35 5 none 0 0 0 0 Tryz.underlying35
          have hs1 : wr.heap.size + 1 = (wr.alloc (.cells #[.int .u8 42] 5)).heap.size := by simp
          have hcb : (convert 35 9 (.slice (some ⟨wr.heap.size, 0, none⟩) 1 1)).run Tryz.prog (wr.alloc (.cells #[.int .u8 42] 5)) = .ok (.string ⟨#[42]⟩) (wr.alloc (.cells #[.int .u8 42] 5)) :=
            run_convert_bytes_back _ 35 9 5 ⟨wr.heap.size, 0, none⟩ 1 [42] Tryz.underlying35 Tryz.underlying5 Tryz.underlying9 (fun j hj => by
              refine one_new wr (.int .u8 42) 5 j _ ?_
              have : j = 0 := by simpa using hj
              subst this
              rfl)
          have hcs : ∀ W : World, (convert 9 35 (.string ⟨#[92, 42]⟩)).run Tryz.prog W = .ok (.slice (some ⟨W.heap.size, 0, none⟩) 2 (grownCap W 2 0 5)) (Lib.bytesWorld W 5 ⟨#[92, 42]⟩) := fun W => Lib.run_convert_string_bytes W 9 35 5 ⟨#[92, 42]⟩ Tryz.underlying9 Tryz.underlying35 Tryz.underlying5
          go_wp2_with (first | (refine wpList_build41 rfl _ (wr.heap.size + 1) (by simp) (.tmp 122) rfl rfl ?_; simp only [Act.put, List.setIfInBounds_toArray, List.set_cons_zero, List.set_cons_succ]) | (at_builtin; obtain ⟨ie, h1, h2, h3, h4⟩ := info9';  refine wpList_append_own _ rfl _ _ 41 rfl w.heap.size 9 ie _ 1 16 Tryz.underlying41 h1 h2 h3 h4 rfl (by decide) _ _ _ rfl ((HX.out.own.alloc _).alloc _) ⟨wr.heap.size + 1, 0, none⟩ 1 1 [.string ⟨#[42]⟩] rfl rfl (by rw [hs1]; exact one_new _ _ _) (fun u hu => by simp at hu; subst hu; rfl) (by decide) (by decide) (by have := HX.out.chg.size; simp; omega) ?_; intro v' w3 hown' hgrow3 hnil3; clear h1 h2 h3 h4 hnil3; obtain ⟨sp, sl, sc, hv'⟩ := own_slice hown'; subst hv'; have q3 : w3.heap[w.heap.size + 1]? = some (.cells (bsr F tr) 184 (0, 0)) := (hgrow3.block _ (lt_of_heap (hp_alloc (hp_alloc HX.out.at_ _) _)) (fun e => HX.out.apart e.symm)).trans (hp_alloc (hp_alloc HX.out.at_ _) _); have q3c := (cell_of_heap q3 256).trans (bsr_last _ _); have q3f := frozen_of_heap q3 256; have q5 := (bytes_chg (w3.setCell ⟨w.heap.size + 1, 256, none⟩ (.slice sp sl sc)) ⟨#[92, 42]⟩).heap (hp_set q3 256 (.slice sp sl sc)) (by simp); have q5c : (Lib.bytesWorld (w3.setCell ⟨w.heap.size + 1, 256, none⟩ (.slice sp sl sc)) 5 ⟨#[92, 42]⟩).cell? ⟨w.heap.size + 1, 42, none⟩ = some (.slice none 0 0) := by { rw [cell_of_heap q5, bsr_set_last, bsr_at _ _ _ (by omega), HX.out.nils 42 (by simp [specials])] }; have q5f := frozen_of_heap q5 42; replace q3 := Asd.mk q3; replace q5 := Asd.mk q5; simp only [Act.put, List.setIfInBounds_toArray, List.set_cons_zero, List.set_cons_succ]))
          go_roundg 1
          case rel => exact ⟨4, _, _, by omega, by omega, by go_num, ⟨build_step HX.out (by omega) rfl 42 rfl rfl _ _ hown' hgrow3 _⟩⟩
          case measure => omega
        · go_wp2
          go_ret
          exact ⟨_, _, _, rfl, by omega, HX.out⟩
end Go.Proofs.YtgkifphfibcfdaaGreatDoor.G
/- The table of classes that classes() lays: names and functions. -/
namespace Go.Proofs.YtgkifphfibcfdaaGreatDoor.G
open Go.RowKit Go.Proofs.YtgkifphfibcfdaaGreatDoor.B
set_option linter.unusedVariables false

def clsCells : Array Value := #[.string ⟨#[97, 108, 112, 104, 97]⟩, .func (.func 91) #[] #[], .string ⟨#[100, 105, 103, 105, 116]⟩, .func (.func 94) #[] #[], .string ⟨#[97, 108, 110, 117, 109]⟩, .func (.func 95) #[] #[],
  .string ⟨#[117, 112, 112, 101, 114]⟩, .func (.func 92) #[] #[], .string ⟨#[108, 111, 119, 101, 114]⟩, .func (.func 93) #[] #[], .string ⟨#[120, 100, 105, 103, 105, 116]⟩, .func (.func 96) #[] #[],
  .string ⟨#[115, 112, 97, 99, 101]⟩, .func (.func 97) #[] #[], .string ⟨#[98, 108, 97, 110, 107]⟩, .func (.func 98) #[] #[], .string ⟨#[112, 117, 110, 99, 116]⟩, .func (.func 99) #[] #[],
  .string ⟨#[112, 114, 105, 110, 116]⟩, .func (.func 101) #[] #[], .string ⟨#[103, 114, 97, 112, 104]⟩, .func (.func 100) #[] #[], .string ⟨#[99, 110, 116, 114, 108]⟩, .func (.func 102) #[] #[]]
set_option maxHeartbeats 1000000 in
theorem classes_calls (w : World) : Calls Tryz.prog 80 #[] w fun e w' => e = .returned (.slice (some ⟨w.heap.size, 0, none⟩) 12 12) ∧ w' = w.alloc (.cells clsCells 170) := by
  go_enter Tryz.func80, Tryz.ntmps80
  go_wp2
  go_ret
  exact ⟨rfl, rfl⟩
end Go.Proofs.YtgkifphfibcfdaaGreatDoor.G
/- The reader of a pattern: starts, byte. -/
namespace Go.Proofs.YtgkifphfibcfdaaGreatDoor.G
open Go.RowKit Go.Proofs.YtgkifphfibcfdaaGreatDoor.B
set_option linter.unusedVariables false

def startsB (s p : ByteArray) : Bool := decide (p.size ≤ s.size) && ((s.extract 0 p.size).toList == p.toList)
set_option maxHeartbeats 1000000 in
theorem hasPrefix_calls (s p : ByteArray) (w : World) (hs : s.size ≤ 9223372036854775807) (hp : p.size ≤ 9223372036854775807) :
    Calls Tryz.prog 64 #[.string s, .string p] w fun e w' => e = .returned (.bool (startsB s p)) ∧ w' = w := by
  by_cases h : p.size ≤ s.size
  · have h1 : decide (p.size ≤ s.size) = true := decide_eq_true h
    have hh : startsB s p = ((s.extract 0 p.size).toList == p.toList) := by unfold startsB; rw [h1]; rfl
    have HH := Lib.hid hh
    clear hh
    go_enter Tryz.func64, Tryz.ntmps64
    go_wp2
    go_ret
    exact ⟨by rw [HH.out]; rfl, rfl⟩
  · have h1 : decide (p.size ≤ s.size) = false := decide_eq_false h
    have hh : startsB s p = false := by unfold startsB; rw [h1]; rfl
    have HH := Lib.hid hh
    clear hh
    go_enter Tryz.func64, Tryz.ntmps64
    go_wp2
    go_ret
    exact ⟨by rw [HH.out]; rfl, rfl⟩

/-- The reader in memory: its text, its place. -/
def RdAt (w : World) (b : Nat) (s : ByteArray) (i : Nat) : Prop := w.heap[b]? = some (.cells #[.string s, .int .i64 (i : Int)] 63 (0, 0))
theorem RdAt.c0 {w : World} {b : Nat} {s : ByteArray} {i : Nat} (h : RdAt w b s i) : w.cell? ⟨b, 0, none⟩ = some (.string s) := cell_of_heap h 0
theorem RdAt.c1 {w : World} {b : Nat} {s : ByteArray} {i : Nat} (h : RdAt w b s i) : w.cell? ⟨b, 1, none⟩ = some (.int .i64 (i : Int)) := cell_of_heap h 1
theorem RdAt.f1 {w : World} {b : Nat} {s : ByteArray} {i : Nat} (h : RdAt w b s i) : w.frozen? ⟨b, 1, none⟩ = false := frozen_of_heap h 1

def startsAt (s : ByteArray) (i : Nat) (p : ByteArray) : Bool := startsB (s.extract i s.size) p
set_option maxHeartbeats 1000000 in
theorem starts_calls (b : Nat) (s : ByteArray) (i : Nat) (p : ByteArray) (w : World) (hb : RdAt w b s i) (hi : i ≤ s.size) (hs : s.size ≤ 1048576) (hp : p.size ≤ 1048576) :
    Calls Tryz.prog 45 #[.pointer (some ⟨b, 0, none⟩), .string p] w fun e w' => e = .returned (.bool (startsAt s i p)) ∧ ∃ n, w' = w.drewN n := by
  have h0 := hb.c0
  have h1 := hb.c1
  clear hb
  go_enter Tryz.func45, Tryz.ntmps45
  go_wp2
  go_quiet ((go_at_call 64; exact Calls.quiet_of_same (hasPrefix_calls _ _ _ (by simp; omega) (by omega))))
  go_wp2
  go_ret
  exact ⟨rfl, _, rfl⟩

def bs1 (c : UInt8) : ByteArray := ⟨#[c]⟩
/-- A byte of a text, as a number. -/
def bn (s : ByteArray) (i : Nat) : Nat := if h : i < s.size then (s[i]'h).toNat else 0
theorem bn_le (s : ByteArray) (i : Nat) : bn s i ≤ 255 := by
  unfold bn
  split
  · have := UInt8.toNat_lt (s[i]); omega
  · omega
/-- The place of the byte that is taken: behind a backslash, if one stands there. -/
def bytePlace (s : ByteArray) (i : Nat) : Nat := if startsAt s i ⟨#[92]⟩ = true then i + 1 else i
theorem startsAt_in {s : ByteArray} {i : Nat} {c : UInt8} (h : startsAt s i ⟨#[c]⟩ = true) : i < s.size := by
  unfold startsAt startsB at h
  simp only [Bool.and_eq_true, decide_eq_true_eq, ByteArray.size_extract] at h
  have : (⟨#[c]⟩ : ByteArray).size = 1 := rfl
  omega
set_option maxHeartbeats 1000000 in
theorem byte_yes (b : Nat) (s : ByteArray) (i : Nat) (w : World) (hb : RdAt w b s i) (hi : i ≤ s.size) (hs : s.size ≤ 1048576) (hin : bytePlace s i < s.size) :
    Calls Tryz.prog 28 #[.pointer (some ⟨b, 0, none⟩)] w fun e w' => e = .returned (.tuple #[.int .u8 (bn s (bytePlace s i) : Int), .bool true]) ∧ Chg [b] w w' ∧ RdAt w' b s (bytePlace s i + 1) := by
  have HB := Asd.mk hb
  have hj : bytePlace s i = if startsAt s i ⟨#[92]⟩ = true then i + 1 else i := rfl
  obtain ⟨j, hjj⟩ : ∃ j, bytePlace s i = j := ⟨_, rfl⟩
  rw [hjj] at hin hj ⊢
  have hbt : (s[j]'hin).toNat = bn s j := by unfold bn; rw [dif_pos hin]
  have h0 := hb.c0
  have h1 := hb.c1
  have f1 := hb.f1
  clear hb hjj
  cases he : startsAt s i ⟨#[92]⟩ with
  | true =>
    rw [he, if_pos rfl] at hj
    subst hj
    have HT := Lib.hid hbt
    have HE := Lib.hid he
    clear he hbt
    go_enter Tryz.func28, Tryz.ntmps28
    go_wp2_with (go_at_call 45; refine (starts_calls b s i _ _ HB.out hi hs (by decide)).mono ?_; rw [HE.out]; rintro e w' ⟨rfl, n, rfl⟩)
    go_quiet (fail)
    go_wp2
    have k1 : IntKind.i64.wrap ((i : Int) + 1) = (i : Int) + 1 := w64 (by omega) (by omega)
    have k2 : 0 ≤ (i : Int) + 1 := by omega
    have k3 : ((i : Int) + 1).toNat = i + 1 := by omega
    go_quiet (fail)
    go_wp2
    go_ret2
    refine ⟨by rw [← HT.out]; rfl, (((((Chg.refl _ _).drewN _).setCell (by simp) _).drewN _).setCell (by simp) _).drewN _, ?_⟩
    exact hp_drewN (hp_set (hp_drewN (hp_set (hp_drewN HB.out _) _ _) _) _ _) _
  | false =>
    rw [he, if_neg (by decide)] at hj
    have hj2 := hj.symm
    subst hj2
    clear hj
    have HT := Lib.hid hbt
    have HE := Lib.hid he
    clear he hbt
    go_enter Tryz.func28, Tryz.ntmps28
    go_wp2_with (go_at_call 45; refine (starts_calls b s i _ _ HB.out hi hs (by decide)).mono ?_; rw [HE.out]; rintro e w' ⟨rfl, n, rfl⟩)
    go_quiet (fail)
    go_wp2
    have k1 : IntKind.i64.wrap (i : Int) = (i : Int) := w64 (by omega) (by omega)
    have k2 : 0 ≤ (i : Int) := by omega
    have k3 : ((i : Int)).toNat = i := by omega
    go_quiet (fail)
    go_wp2
    go_ret2
    refine ⟨by rw [← HT.out]; rfl, (((Chg.refl _ _).drewN _).setCell (by simp) _).drewN _, ?_⟩
    exact hp_drewN (hp_set (hp_drewN HB.out _) _ _) _
set_option maxHeartbeats 1000000 in
theorem byte_no (b : Nat) (s : ByteArray) (i : Nat) (w : World) (hb : RdAt w b s i) (hi : i ≤ s.size) (hs : s.size ≤ 1048576) (hin : s.size ≤ bytePlace s i) :
    Calls Tryz.prog 28 #[.pointer (some ⟨b, 0, none⟩)] w fun e w' => e = .returned (.tuple #[.int .u8 0, .bool false]) ∧ Chg [b] w w' ∧ RdAt w' b s (bytePlace s i) := by
  have HB := Asd.mk hb
  have hj : bytePlace s i = if startsAt s i ⟨#[92]⟩ = true then i + 1 else i := rfl
  obtain ⟨j, hjj⟩ : ∃ j, bytePlace s i = j := ⟨_, rfl⟩
  rw [hjj] at hin hj ⊢
  have h0 := hb.c0
  have h1 := hb.c1
  have f1 := hb.f1
  clear hb hjj
  cases he : startsAt s i ⟨#[92]⟩ with
  | true =>
    rw [he, if_pos rfl] at hj
    subst hj
    have HE := Lib.hid he
    clear he
    go_enter Tryz.func28, Tryz.ntmps28
    go_wp2_with (go_at_call 45; refine (starts_calls b s i _ _ HB.out hi hs (by decide)).mono ?_; rw [HE.out]; rintro e w' ⟨rfl, n, rfl⟩)
    go_quiet (fail)
    go_wp2
    go_ret2
    refine ⟨rfl, ((((Chg.refl _ _).drewN _).setCell (by simp) _).drewN _), ?_⟩
    exact hp_drewN (hp_set (hp_drewN HB.out _) _ _) _
  | false =>
    rw [he, if_neg (by decide)] at hj
    have hj2 := hj.symm
    subst hj2
    clear hj
    have HE := Lib.hid he
    clear he
    go_enter Tryz.func28, Tryz.ntmps28
    go_wp2_with (go_at_call 45; refine (starts_calls b s i _ _ HB.out hi hs (by decide)).mono ?_; rw [HE.out]; rintro e w' ⟨rfl, n, rfl⟩)
    go_quiet (fail)
    go_wp2
    go_ret2
    refine ⟨rfl, ((Chg.refl _ _).drewN _).drewN _, ?_⟩
    exact hp_drewN (hp_drewN HB.out _) _
end Go.Proofs.YtgkifphfibcfdaaGreatDoor.G
/- The contracts of the library that this claim uses: laid by the kit's tools (lay-shelf, lay-plain) at this program; the others left out. -/
namespace Go.Proofs
open Go.Shelf
def Tryz.lays103_ren : Go.Shelf.Ren := ⟨fun | 103 => 59 | 210 => 76 | 206 => 79 | n => n, fun | 9 => 9 | 4 => 4 | 24 => 139 | 3 => 3 | n => n, fun | n => n⟩
theorem Tryz.lays103 : Go.Proofs.Lays.n103 Tryz.prog Tryz.lays103_ren := {
  mixed := by kernel_rfl
  f103 := Tryz.func59.trans (congrArg some (by kernel_rfl))
  f206 := Tryz.func79.trans (congrArg some (by kernel_rfl))
  f210 := Tryz.func76.trans (congrArg some (by kernel_rfl))
  t3 := Tryz.underlying3
  a3 := Tryz.isAgg3
  z3 := Tryz.sizeOf3
  v3 := Tryz.zeroValue3
  t4 := Tryz.underlying4
  a4 := Tryz.isAgg4
  z4 := Tryz.sizeOf4
  v4 := Tryz.zeroValue4
  t9 := Tryz.underlying9
  a9 := Tryz.isAgg9
  z9 := Tryz.sizeOf9
  v9 := Tryz.zeroValue9
  t24 := Tryz.underlying139
  a24 := Tryz.isAgg139
  z24 := Tryz.sizeOf139
  v24 := Tryz.zeroValue139 }
open Go.RowKit in
theorem Tryz.strings_CutPrefix (s p : ByteArray) (w : World) :
    Calls Tryz.prog 59 #[.string s, .string p] w fun e w' => e = .returned (.tuple #[.string ⟨(Lib.trimPrefix s.data.toList p.data.toList).toArray⟩, .bool (Lib.hasPrefix s.data.toList p.data.toList)]) ∧ w' = w := Any.strings_CutPrefix Tryz.lays103 s p w
def Tryz.lays104_ren : Go.Shelf.Ren := ⟨fun | 104 => 60 | 211 => 77 | 207 => 75 | n => n, fun | 9 => 9 | 4 => 4 | 24 => 139 | 3 => 3 | n => n, fun | n => n⟩
theorem Tryz.lays104 : Go.Proofs.Lays.n104 Tryz.prog Tryz.lays104_ren := {
  mixed := by kernel_rfl
  f104 := Tryz.func60.trans (congrArg some (by kernel_rfl))
  f207 := Tryz.func75.trans (congrArg some (by kernel_rfl))
  f211 := Tryz.func77.trans (congrArg some (by kernel_rfl))
  t3 := Tryz.underlying3
  a3 := Tryz.isAgg3
  z3 := Tryz.sizeOf3
  v3 := Tryz.zeroValue3
  t4 := Tryz.underlying4
  a4 := Tryz.isAgg4
  z4 := Tryz.sizeOf4
  v4 := Tryz.zeroValue4
  t9 := Tryz.underlying9
  a9 := Tryz.isAgg9
  z9 := Tryz.sizeOf9
  v9 := Tryz.zeroValue9
  t24 := Tryz.underlying139
  a24 := Tryz.isAgg139
  z24 := Tryz.sizeOf139
  v24 := Tryz.zeroValue139 }
open Go.RowKit in
theorem Tryz.strings_CutSuffix (s p : ByteArray) (w : World) (hs : s.size ≤ 9223372036854775807) :
    Calls Tryz.prog 60 #[.string s, .string p] w fun e w' => e = .returned (.tuple #[.string ⟨(Lib.trimSuffix s.data.toList p.data.toList).toArray⟩, .bool (Lib.hasSuffix s.data.toList p.data.toList)]) ∧ w' = w := Any.strings_CutSuffix Tryz.lays104 s p w hs
def Tryz.lays144_ren : Go.Shelf.Ren := ⟨fun | 144 => 61 | 143 => 74 | 219 => 90 | 217 => 110 | 225 => 111 | 224 => 112 | 267 => 113 | 266 => 123 | 314 => 124 | n => n, fun | 9 => 9 | 4 => 4 | 3 => 3 | 5 => 5 | 46 => 205 | 146 => 219 | 51 => 124 | n => n, fun | 1 => 1 | n => n⟩
theorem Tryz.lays144 : Go.Proofs.Lays.n144 Tryz.prog Tryz.lays144_ren := {
  mixed := by kernel_rfl
  f143 := Tryz.func74.trans (congrArg some (by kernel_rfl))
  f144 := Tryz.func61.trans (congrArg some (by kernel_rfl))
  f217 := Tryz.func110.trans (congrArg some (by kernel_rfl))
  f219 := Tryz.func90.trans (congrArg some (by kernel_rfl))
  f224 := Tryz.func112.trans (congrArg some (by kernel_rfl))
  f225 := Tryz.func111.trans (congrArg some (by kernel_rfl))
  f266 := Tryz.func123.trans (congrArg some (by kernel_rfl))
  f267 := Tryz.func113.trans (congrArg some (by kernel_rfl))
  f314 := Tryz.func124.trans (congrArg some (by kernel_rfl))
  t3 := Tryz.underlying3
  a3 := Tryz.isAgg3
  z3 := Tryz.sizeOf3
  v3 := Tryz.zeroValue3
  t4 := Tryz.underlying4
  a4 := Tryz.isAgg4
  z4 := Tryz.sizeOf4
  v4 := Tryz.zeroValue4
  t5 := Tryz.underlying5
  a5 := Tryz.isAgg5
  z5 := Tryz.sizeOf5
  v5 := Tryz.zeroValue5
  t9 := Tryz.underlying9
  a9 := Tryz.isAgg9
  z9 := Tryz.sizeOf9
  v9 := Tryz.zeroValue9
  t46 := Tryz.underlying205
  a46 := Tryz.isAgg205
  z46 := Tryz.sizeOf205
  v46 := Tryz.zeroValue205
  t51 := Tryz.underlying124
  a51 := Tryz.isAgg124
  z51 := Tryz.sizeOf124
  v51 := Tryz.zeroValue124
  t146 := Tryz.underlying219
  a146 := Tryz.isAgg219
  z146 := Tryz.sizeOf219
  v146 := Tryz.zeroValue219
  g1 := by kernel_rfl }
open Go.RowKit Go.Lib in
theorem Tryz.strings_Contains_one (s : ByteArray) (c : UInt8) (w : World) :
    Calls Tryz.prog 61 #[.string s, .string ⟨#[c]⟩] w fun e w' => e = .returned (.bool (decide (0 ≤ Lib.indexByte s.data.toList c))) ∧ w' = w := Any.strings_Contains_one Tryz.lays144 s c w
def Tryz.lays100_ren : Go.Shelf.Ren := ⟨fun | 100 => 58 | 207 => 75 | n => n, fun | 9 => 9 | 4 => 4 | 3 => 3 | n => n, fun | n => n⟩
theorem Tryz.lays100 : Go.Proofs.Lays.n100 Tryz.prog Tryz.lays100_ren := {
  mixed := by kernel_rfl
  f100 := Tryz.func58.trans (congrArg some (by kernel_rfl))
  f207 := Tryz.func75.trans (congrArg some (by kernel_rfl))
  t3 := Tryz.underlying3
  a3 := Tryz.isAgg3
  z3 := Tryz.sizeOf3
  v3 := Tryz.zeroValue3
  t4 := Tryz.underlying4
  a4 := Tryz.isAgg4
  z4 := Tryz.sizeOf4
  v4 := Tryz.zeroValue4
  t9 := Tryz.underlying9
  a9 := Tryz.isAgg9
  z9 := Tryz.sizeOf9
  v9 := Tryz.zeroValue9 }
open Go.RowKit Go.Lib in
theorem Tryz.strings_HasSuffix (s p : ByteArray) (w : World) (hs : s.size ≤ 9223372036854775807) :
    Calls Tryz.prog 58 #[.string s, .string p] w fun e w' => e = .returned (.bool (Lib.hasSuffix s.data.toList p.data.toList)) ∧ w' = w := Any.strings_HasSuffix Tryz.lays100 s p w hs
def Tryz.lays101_ren : Go.Shelf.Ren := ⟨fun | 101 => 62 | 208 => 78 | 206 => 79 | n => n, fun | 9 => 9 | 4 => 4 | 3 => 3 | n => n, fun | n => n⟩
theorem Tryz.lays101 : Go.Proofs.Lays.n101 Tryz.prog Tryz.lays101_ren := {
  mixed := by kernel_rfl
  f101 := Tryz.func62.trans (congrArg some (by kernel_rfl))
  f206 := Tryz.func79.trans (congrArg some (by kernel_rfl))
  f208 := Tryz.func78.trans (congrArg some (by kernel_rfl))
  t3 := Tryz.underlying3
  a3 := Tryz.isAgg3
  z3 := Tryz.sizeOf3
  v3 := Tryz.zeroValue3
  t4 := Tryz.underlying4
  a4 := Tryz.isAgg4
  z4 := Tryz.sizeOf4
  v4 := Tryz.zeroValue4
  t9 := Tryz.underlying9
  a9 := Tryz.isAgg9
  z9 := Tryz.sizeOf9
  v9 := Tryz.zeroValue9 }
open Go.RowKit Go.Lib in
theorem Tryz.strings_TrimPrefix (s p : ByteArray) (w : World) :
    Calls Tryz.prog 62 #[.string s, .string p] w fun e w' => e = .returned (.string ⟨(Lib.trimPrefix s.data.toList p.data.toList).toArray⟩) ∧ w' = w := Any.strings_TrimPrefix Tryz.lays101 s p w
def Tryz.lays146_ren : Go.Shelf.Ren := ⟨fun | 146 => 34 | 221 => 57 | 268 => 72 | 138 => 73 | 143 => 74 | 195 => 87 | 197 => 88 | 218 => 89 | 219 => 90 | 260 => 109 | 217 => 110 | 225 => 111 | 224 => 112 | 267 => 113 | 266 => 123 | 314 => 124 | n => n, fun | 9 => 9 | 31 => 41 | 3 => 3 | 4 => 4 | 0 => 0 | 105 => 187 | 21 => 21 | 5 => 5 | 46 => 205 | 119 => 179 | 139 => 218 | 138 => 217 | 146 => 219 | 51 => 124 | n => n, fun | 1 => 1 | 3 => 2 | 4 => 3 | n => n⟩
theorem Tryz.lays146 : Go.Proofs.Lays.n146 Tryz.prog Tryz.lays146_ren := {
  mixed := by kernel_rfl
  f138 := Tryz.func73.trans (congrArg some (by kernel_rfl))
  f143 := Tryz.func74.trans (congrArg some (by kernel_rfl))
  f146 := Tryz.func34.trans (congrArg some (by kernel_rfl))
  f195 := Tryz.func87.trans (congrArg some (by kernel_rfl))
  f197 := Tryz.func88.trans (congrArg some (by kernel_rfl))
  f217 := Tryz.func110.trans (congrArg some (by kernel_rfl))
  f218 := Tryz.func89.trans (congrArg some (by kernel_rfl))
  f219 := Tryz.func90.trans (congrArg some (by kernel_rfl))
  f221 := Tryz.func57.trans (congrArg some (by kernel_rfl))
  f224 := Tryz.func112.trans (congrArg some (by kernel_rfl))
  f225 := Tryz.func111.trans (congrArg some (by kernel_rfl))
  f260 := Tryz.func109.trans (congrArg some (by kernel_rfl))
  f266 := Tryz.func123.trans (congrArg some (by kernel_rfl))
  f267 := Tryz.func113.trans (congrArg some (by kernel_rfl))
  f268 := Tryz.func72.trans (congrArg some (by kernel_rfl))
  f314 := Tryz.func124.trans (congrArg some (by kernel_rfl))
  t0 := Tryz.underlying0
  a0 := Tryz.isAgg0
  z0 := Tryz.sizeOf0
  v0 := Tryz.zeroValue0
  t3 := Tryz.underlying3
  a3 := Tryz.isAgg3
  z3 := Tryz.sizeOf3
  v3 := Tryz.zeroValue3
  t4 := Tryz.underlying4
  a4 := Tryz.isAgg4
  z4 := Tryz.sizeOf4
  v4 := Tryz.zeroValue4
  t5 := Tryz.underlying5
  a5 := Tryz.isAgg5
  z5 := Tryz.sizeOf5
  v5 := Tryz.zeroValue5
  t9 := Tryz.underlying9
  a9 := Tryz.isAgg9
  z9 := Tryz.sizeOf9
  v9 := Tryz.zeroValue9
  t21 := Tryz.underlying21
  a21 := Tryz.isAgg21
  z21 := Tryz.sizeOf21
  v21 := Tryz.zeroValue21
  t31 := Tryz.underlying41
  a31 := Tryz.isAgg41
  z31 := Tryz.sizeOf41
  v31 := Tryz.zeroValue41
  t46 := Tryz.underlying205
  a46 := Tryz.isAgg205
  z46 := Tryz.sizeOf205
  v46 := Tryz.zeroValue205
  t51 := Tryz.underlying124
  a51 := Tryz.isAgg124
  z51 := Tryz.sizeOf124
  v51 := Tryz.zeroValue124
  t105 := Tryz.underlying187
  a105 := Tryz.isAgg187
  z105 := Tryz.sizeOf187
  v105 := Tryz.zeroValue187
  t119 := Tryz.underlying179
  a119 := Tryz.isAgg179
  z119 := Tryz.sizeOf179
  t138 := Tryz.underlying217
  a138 := Tryz.isAgg217
  z138 := Tryz.sizeOf217
  v138 := Tryz.zeroValue217
  t139 := Tryz.underlying218
  a139 := Tryz.isAgg218
  z139 := Tryz.sizeOf218
  v139 := Tryz.zeroValue218
  t146 := Tryz.underlying219
  a146 := Tryz.isAgg219
  z146 := Tryz.sizeOf219
  v146 := Tryz.zeroValue219
  g1 := by kernel_rfl
  g3 := by kernel_rfl
  g4 := by kernel_rfl }
open Go.RowKit Go.Lib in
theorem Tryz.strings_Split (s sep : ByteArray) (m : Int) (w : World) (hs : s.size < 4294967281) (hm : w.cell? ⟨1, 0, none⟩ = some (.int .i64 m)) (h1 : 1 ≤ sep.size) :
    Calls Tryz.prog 34 #[.string s, .string sep] w fun e w' =>
      e = .returned (.slice (some ⟨w.heap.size, 0, none⟩) (Lib.countB s sep + 1) (Lib.countB s sep + 1)) ∧ w' = w.alloc (.cells ((Lib.splitB sep 0 (Lib.countB s sep) s).map Value.string).toArray 9) := Any.strings_Split Tryz.lays146 (by kernel_rfl) s sep m w hs hm h1
def Tryz.lays229_ren : Go.Shelf.Ren := ⟨fun | 229 => 40 | n => n, fun | 9 => 9 | 40 => 97 | 31 => 41 | 152 => 144 | 3 => 3 | 0 => 0 | 4 => 4 | 21 => 21 | 154 => 146 | n => n, fun | n => n⟩
theorem Tryz.lays229 : Go.Proofs.Lays.n229 Tryz.prog Tryz.lays229_ren := {
  mixed := by kernel_rfl
  f229 := Tryz.func40.trans (congrArg some (by kernel_rfl))
  t0 := Tryz.underlying0
  a0 := Tryz.isAgg0
  z0 := Tryz.sizeOf0
  v0 := Tryz.zeroValue0
  t3 := Tryz.underlying3
  a3 := Tryz.isAgg3
  z3 := Tryz.sizeOf3
  v3 := Tryz.zeroValue3
  t4 := Tryz.underlying4
  a4 := Tryz.isAgg4
  z4 := Tryz.sizeOf4
  v4 := Tryz.zeroValue4
  t9 := Tryz.underlying9
  a9 := Tryz.isAgg9
  z9 := Tryz.sizeOf9
  v9 := Tryz.zeroValue9
  t21 := Tryz.underlying21
  a21 := Tryz.isAgg21
  z21 := Tryz.sizeOf21
  v21 := Tryz.zeroValue21
  t31 := Tryz.underlying41
  a31 := Tryz.isAgg41
  z31 := Tryz.sizeOf41
  v31 := Tryz.zeroValue41
  t40 := Tryz.underlying97
  a40 := Tryz.isAgg97
  z40 := Tryz.sizeOf97
  v40 := Tryz.zeroValue97
  t152 := Tryz.underlying144
  a152 := Tryz.isAgg144
  z152 := Tryz.sizeOf144
  v152 := Tryz.zeroValue144
  t154 := Tryz.underlying146
  a154 := Tryz.isAgg146
  z154 := Tryz.sizeOf146
  v154 := Tryz.zeroValue146 }
open Go.RowKit Go.Lib in
theorem Tryz.strings_FieldsFunc_runes (g : Nat) (lb : Array Value) (eg : ∀ args w, (callFunc g args).run Tryz.prog w = .ok (.enter g args) w) (p : Nat → Bool) (s : ByteArray) (w : World) (hs : s.size ≤ 4294967296) (hp : PredAtRunes Tryz.prog g lb p w) :
    Calls Tryz.prog 40 #[.string s, .func (.func g) #[] lb] w fun e w' => ∃ A, e = .returned (.slice (some ⟨A, 0, none⟩) (Lib.goFieldsP p s).length (Lib.goFieldsP p s).length) ∧ w.heap.size ≤ A ∧
      w'.ownsRow w.heap.size 9 1 (.slice (some ⟨A, 0, none⟩) (Lib.goFieldsP p s).length (Lib.goFieldsP p s).length) (Lib.goFieldsP p s).length ((Lib.goFieldsP p s).map Value.string) ∧ Below w.heap.size w w' := Any.strings_FieldsFunc_runes Tryz.lays229 g lb eg p s w hs hp (by kernel_rfl) (by kernel_rfl)
end Go.Proofs
