/- Tree's closure: all that stands at and below a path is put behind the slice that it captures. The walk. (Printed by tree.py.) -/
import Derived.Test.YthojofeocjmglaaGreatDoorDk9
import Derived.Test.YthojofeocjmglaaGreatDoorDk12
import Derived.OrdersHeld
namespace Go.Proofs.YthojofeocjmglaaGreatDoor.I
open Go.RowKit Go.Proofs.YthojofeocjmglaaGreatDoor.B Go.Sort
set_option linter.unusedVariables false
/-- The captured slice and the closure's own variable, while it goes. -/
structure Wk (w0 : World) (o k base : Nat) (w : World) (E : List Ent) (v : Value) : Prop where
  chg : Chg [] w0 w
  out : w.heap[o]? = some (.cells #[v] 39 (0, 0))
  fn : w.heap[k]? = some (.cells #[(Value.func (.func 81) #[] #[(.pointer (some ⟨o, 0, none⟩)), (.pointer (some ⟨k, 0, none⟩))])] 130 (0, 0))
  own : w.ownsRow base 64 3 v E.length (flatE E)
/-- What turns: the captured slice's cell, its row, new blocks. -/
structure Tr (o : Nat) (w : World) (v : Value) (w' : World) (v' : Value) : Prop where
  fr : ∀ i, i < w.heap.size → i ≠ o → v.ownBlock ≠ some i → w'.heap[i]? = w.heap[i]?
  lies : ∀ g, v'.ownBlock = some g → v.ownBlock = some g ∨ w.heap.size ≤ g
  size : w.heap.size ≤ w'.heap.size
theorem Tr.refl (o : Nat) (w : World) (v : Value) : Tr o w v w v := ⟨fun _ _ _ _ => rfl, fun _ h => .inl h, Nat.le_refl _⟩
theorem Tr.trans {o : Nat} {w w1 w2 : World} {v v1 v2 : Value} (h : Tr o w v w1 v1) (h' : Tr o w1 v1 w2 v2) : Tr o w v w2 v2 := by
  refine ⟨fun i hi ho hv => ?_, fun g hg => ?_, Nat.le_trans h.size h'.size⟩
  · rw [h'.fr i (Nat.lt_of_lt_of_le hi h.size) ho (fun e => ?_)]
    · exact h.fr i hi ho hv
    · rcases h.lies i e with h1 | h1
      · exact hv h1
      · omega
  · rcases h'.lies g hg with h1 | h1
    · exact h.lies g h1
    · exact .inr (Nat.le_trans h.size h1)
theorem own_block {w : World} {base : Nat} {t : TypeId} {z : Nat} {v : Value} {n : Nat} {xs : List Value} (h : w.ownsRow base t z v n xs) {g : Nat} (hg : v.ownBlock = some g) : base ≤ g ∧ ∃ cur, w.heap[g]? = some (.cells cur t (0, 0)) := by
  rcases h.2 with ⟨rfl, _⟩ | ⟨g', cap, cur, rfl, hb, hh, _⟩
  · cases hg
  · have : g' = g := by simpa [Value.ownBlock] using hg
    subst this
    exact ⟨hb, cur, hh⟩
theorem own_ne {w : World} {base : Nat} {t : TypeId} {z : Nat} {v : Value} {n : Nat} {xs : List Value} (h : w.ownsRow base t z v n xs) {i : Nat} {cs : Array Value} {t' : TypeId} {fz : Nat × Nat} (hi : w.heap[i]? = some (.cells cs t' fz)) (ht : t ≠ t') : v.ownBlock ≠ some i := fun e => by
  obtain ⟨_, cur, hg⟩ := own_block h e
  rw [hi] at hg
  cases hg
  exact ht rfl
theorem Tr.chg {o : Nat} {w w' : World} {v : Value} (h : Chg [] w w') : Tr o w v w' v := ⟨fun i hi _ _ => h.block i hi (by simp), fun _ h => .inl h, h.size⟩
theorem Wk.keep {w0 : World} {o k base : Nat} {w w' : World} {E : List Ent} {v : Value} (h : Wk w0 o k base w E v) (hC : Chg [] w w') : Wk w0 o k base w' E v := by
  refine ⟨h.chg.trans hC, hC.heap h.out (by simp), hC.heap h.fn (by simp), h.own.1, ?_⟩
  rcases h.own.2 with h2 | ⟨g, cap, cur, hv, hb, hg, hr⟩
  · exact .inl h2
  · exact .inr ⟨g, cap, cur, hv, hb, hC.heap hg (by simp), hr⟩
theorem Chg.grown {L : List Nat} {a b c : World} {row : Option Nat} (h : Chg L a b) (k : b.grownBy c row) (hr : ∀ g, row = some g → g < a.heap.size → g ∈ L) : Chg L a c :=
  ⟨k.os.trans h.os, k.tape.trans h.tape, k.output.trans h.output, Nat.le_trans h.size k.size, fun i hi hn =>
    (k.block i (Nat.lt_of_lt_of_le hi h.size) (fun e => hn (hr i e.symm hi))).trans (h.block i hi hn)⟩
theorem app_done {w0 w w' : World} {o k base g' cap : Nat} {v : Value} {E : List Ent} {x : Ent} (hW : Wk w0 o k base w E v) (ho : w0.heap.size ≤ o) (hk : w0.heap.size ≤ k) (hb : w0.heap.size ≤ base) (hok : o ≠ k)
    (hown : w'.ownsRow base 64 3 (.slice (some ⟨g', 0, none⟩) (E.length + 1) cap) (E ++ [x]).length (flatE (E ++ [x]))) (hgrow : (w.drew.alloc (.cells (entC x) 64)).grownBy w' v.ownBlock) (hlie : v.ownBlock = some g' ∨ g' = (w.drew.alloc (.cells (entC x) 64)).heap.size) :
    Wk w0 o k base (w'.setCell ⟨o, 0, none⟩ (.slice (some ⟨g', 0, none⟩) (E.length + 1) cap)) (E ++ [x]) (.slice (some ⟨g', 0, none⟩) (E.length + 1) cap) ∧ Tr o w v (w'.setCell ⟨o, 0, none⟩ (.slice (some ⟨g', 0, none⟩) (E.length + 1) cap)) (.slice (some ⟨g', 0, none⟩) (E.length + 1) cap) := by
  have hC1 : Chg [] w (w.drew.alloc (.cells (entC x) 64)) := ((Chg.refl _ _).drew).alloc _
  have h1 := hW.keep hC1
  have hno := own_ne h1.own h1.out (by decide)
  have hnk := own_ne h1.own h1.fn (by decide)
  have G : ∀ {i : Nat} {ob : Obj}, (w.drew.alloc (.cells (entC x) 64)).heap[i]? = some ob → v.ownBlock ≠ some i → w'.heap[i]? = some ob := fun h hn => (hgrow.block _ (lt_of_heap h) (fun e => hn e.symm)).trans h
  have hout := G h1.out hno
  have hfn := G h1.fn hnk
  have hls : ∀ i, i ≠ o → (w'.setCell ⟨o, 0, none⟩ (.slice (some ⟨g', 0, none⟩) (E.length + 1) cap)).heap[i]? = w'.heap[i]? := fun i hi => Below.heap_setCell w' ⟨o, 0, none⟩ _ i hi
  have hgo : g' ≠ o := fun e => by
    subst e
    obtain ⟨_, cur, hg⟩ := own_block hown rfl
    rw [hout] at hg
    exact absurd hg (by simp)
  have hsz : w.heap.size ≤ w'.heap.size := Nat.le_trans hC1.size hgrow.size
  have hlt := lt_of_heap h1.out
  refine ⟨⟨?_, hp_set hout 0 _, by rw [hls k (Ne.symm hok)]; exact hfn, hown.1, ?_⟩, ?_, ?_, ?_⟩
  · exact (Chg.grown h1.chg hgrow (fun g e hg => by have := (own_block h1.own e).1; omega)).setCell (fun h => absurd (show o < w0.heap.size from h) (by omega)) _
  · rcases hown.2 with ⟨h2, _⟩ | ⟨g, c, cur, hv, hbb, hg, hr⟩
    · cases h2
    · have e : g' = g := by
        simp only [Value.slice.injEq, Option.some.injEq, Addr.mk.injEq] at hv
        exact hv.1.1
      subst e
      exact .inr ⟨g', c, cur, hv, hbb, by rw [hls g' hgo]; exact hg, hr⟩
  · intro i hi hio hv
    rw [hls i hio, hgrow.block i (Nat.lt_of_lt_of_le hi hC1.size) (fun e => hv e.symm)]
    exact hC1.block i hi (by simp)
  · intro g hg
    have e : g' = g := by simpa [Value.ownBlock] using hg
    subst e
    rcases hlie with h2 | h2
    · exact .inl h2
    · rw [h2]; exact .inr hC1.size
  · show w.heap.size ≤ (w'.heap.modify _ _).size
    simpa using hsz
theorem wp_gen {P : Program} {c : Code} {Q : Exit → Act → World → Prop} {a : Act} {w : World} (F : Act → Act → World → Prop) (key : ∀ (K : Exit → Act → World → Prop) (A : Act), A = a → (∀ ch (B : Act) (d : Tmp) (u : Value) W, K (.panic ch) (B.put (some d) u) W → K (.panic ch) B W) → (∀ A' W', F A A' W' → K .normal A' W') → c.wp P K A w) (hp : ∀ ch (B : Act) (d : Tmp) (u : Value) W, Q (.panic ch) (B.put (some d) u) W → Q (.panic ch) B W) (h : ∀ A' W', F a A' W' → Q .normal A' W') : c.wp P Q a w := key Q a rfl hp h
theorem ev_same (a : Act) (t : Tmp) (v : Value) (h : t < a.tmps.size) : (a.put (some t) v).eval (.tmp t) = v := by simp [Act.put, Act.eval, h]
theorem ev_ne (a : Act) (t u : Tmp) (v : Value) (h : t ≠ u) : (a.put (some t) v).eval (.tmp u) = a.eval (.tmp u) := by simp [Act.put, Act.eval, h]
theorem sz_put (a : Act) (d : Option Tmp) (v : Value) : (a.put d v).tmps.size = a.tmps.size := by cases d <;> simp [Act.put]
theorem put_comm (a : Act) (t u : Tmp) (x y : Value) (h : t ≠ u) : (a.put (some t) x).put (some u) y = (a.put (some u) y).put (some t) x := by
  simp only [Act.put]
  congr 1
  exact Array.setIfInBounds_comm _ _ h
theorem any_opaque {P : Program} {md : Region.Mode} {ops : Array Oper} {Q : Exit → Act → World → Prop} {S : World → Prop} {fuel : Nat} {listed : Array Bool} {a : Act} {w : World} (h : ∀ B, B = a → wpAnyH P md ops Q S fuel listed B w) : wpAnyH P md ops Q S fuel listed a w := h _ rfl
theorem ex_move {P : Program} {ev : Operand → Value} {x : Operand} {v : Value} {d : Option Tmp} {t g y z} (h : ev x = v) (w : World) : (execOp ev (⟨d, .move x, t, g, y, z⟩ : Oper)).run P w = .ok (.value v) w := by
  simp [execOp, h]
theorem ex_nil {P : Program} {ev : Operand → Value} {x : Operand} {p : Addr} {d : Option Tmp} {t g y z} (h : ev x = .pointer (some p)) (w : World) : (execOp ev (⟨d, .nilCheck x, t, g, y, z⟩ : Oper)).run P w = .ok (.value (.pointer (some p))) w := by
  simp [execOp, h]
theorem ex_fld0 {ev : Operand → Value} {x : Operand} {b : Nat} {d : Option Tmp} {t g y z} (h : ev x = .pointer (some ⟨b, 0, none⟩)) (w : World) : (execOp ev (⟨d, .fieldAddr 133 x 0, t, g, y, z⟩ : Oper)).run Tryz.prog w = .ok (.value (.pointer (some ⟨b, 0, none⟩))) w := by
  simp only [execOp, h]
  go_simp
theorem ex_fld1 {ev : Operand → Value} {x : Operand} {b : Nat} {d : Option Tmp} {t g y z} (h : ev x = .pointer (some ⟨b, 0, none⟩)) (w : World) : (execOp ev (⟨d, .fieldAddr 133 x 1, t, g, y, z⟩ : Oper)).run Tryz.prog w = .ok (.value (.pointer (some ⟨b, 1, none⟩))) w := by
  simp only [execOp, h]
  go_simp
theorem ex_loadI {ev : Operand → Value} {x : Operand} {b i : Nat} {v : Value} {d : Option Tmp} {t g y z} (h : ev x = .pointer (some ⟨b, i, none⟩)) (w : World) (hc : w.cell? ⟨b, i, none⟩ = some v) : (execOp ev (⟨d, .load 3 x, t, g, y, z⟩ : Oper)).run Tryz.prog w = .ok (.value v) w := by
  simp only [execOp, h]
  go_simp
theorem ex_loadS {ev : Operand → Value} {x : Operand} {b i : Nat} {v : Value} {d : Option Tmp} {t g y z} (h : ev x = .pointer (some ⟨b, i, none⟩)) (w : World) (hc : w.cell? ⟨b, i, none⟩ = some v) : (execOp ev (⟨d, .load 9 x, t, g, y, z⟩ : Oper)).run Tryz.prog w = .ok (.value v) w := by
  simp only [execOp, h]
  go_simp
theorem ex_loadE {ev : Operand → Value} {x : Operand} {b : Nat} {v : Value} {d : Option Tmp} {t g y z} (h : ev x = .pointer (some ⟨b, 0, none⟩)) (w : World) (hc : w.cell? ⟨b, 0, none⟩ = some v) : (execOp ev (⟨d, .load 39 x, t, g, y, z⟩ : Oper)).run Tryz.prog w = .ok (.value v) w := by
  simp only [execOp, h]
  go_simp
theorem ex_build {ev : Operand → Value} {x y z : Operand} {s s2 : ByteArray} {kk : Int} {d : Option Tmp} {t g p q} (h1 : ev x = .string s) (h2 : ev y = .int .i64 kk) (h3 : ev z = .string s2) (w : World) : (execOp ev (⟨d, .build 64 #[(0, x), (1, y), (2, z)], t, g, p, q⟩ : Oper)).run Tryz.prog w = .ok (.value (.agg #[.string s, .int .i64 kk, .string s2])) w := by
  simp only [execOp, List.map_toArray, List.map_cons, List.map_nil, h1, h2, h3]
  go_simp
  try rfl
theorem wp_loadE {o : Oper} {a : Act} {w : World} {K : Act → World → Prop} {Q : Exit → Act → World → Prop} (p : Operand) (ho : o.op = .load 39 p) (b : Nat) (v : Value) (hp : a.eval p = .pointer (some ⟨b, 0, none⟩)) (hc : w.cell? ⟨b, 0, none⟩ = some v) (h : K (a.put o.dst v) w) : o.wp Tryz.prog a w K Q := by
  obtain ⟨d, op, t, g, y, z⟩ := o
  simp only at ho
  subst ho
  unfold Oper.wp
  rw [ex_loadE hp w hc]
  exact h
theorem wp_storeE {o : Oper} {a : Act} {w : World} {K : Act → World → Prop} {Q : Exit → Act → World → Prop} (p x : Operand) (ho : o.op = .store 39 p x) (hd : o.dst = none) (b : Nat) (u : Value) (sp : Option Addr) (n m : Nat) (hp : a.eval p = .pointer (some ⟨b, 0, none⟩)) (hx : a.eval x = .slice sp n m) (hc : w.cell? ⟨b, 0, none⟩ = some u) (hf : w.frozen? ⟨b, 0, none⟩ = false)
    (h : K a (w.setCell ⟨b, 0, none⟩ (.slice sp n m))) : o.wp Tryz.prog a w K Q := by
  obtain ⟨d, op, t, g, y, z⟩ := o
  simp only at ho hd
  subst ho hd
  unfold Oper.wp
  simp only [execOp, hp, hx]
  go_simp
  exact h
theorem own_tr {w wx : World} {o b n : Nat} {t : TypeId} {v vx vN : Value} {xs : List Value} (h : w.ownsRow b t 1 vN n xs) (ho : o < b) (hv : ∀ g, v.ownBlock = some g → g < b) (hT : Tr o w v wx vx) : wx.ownsRow b t 1 vN n xs := by
  refine ⟨h.1, ?_⟩
  rcases h.2 with h2 | ⟨g, cap, cur, hvN, hb, hg, hr⟩
  · exact .inl h2
  · exact .inr ⟨g, cap, cur, hvN, hb, (hT.fr g (lt_of_heap hg) (by omega) (fun e => by have := hv g e; omega)).trans hg, hr⟩
theorem strL_cell {w : World} {A : Option Addr} {n c : Nat} {l : List ByteArray} (h : StrL w (.slice A n c) l) {i : Nat} (hi : i < l.length) : ∃ a, A = some a ∧ w.cell? (a.add i) = some (.string (l[i]'hi)) := by
  obtain ⟨A', c', hv, h1⟩ := h
  have e : A = A' := by simp only [Value.slice.injEq] at hv; exact hv.1
  subst e
  exact h1 i hi
theorem part_len {l : List Nm} {f : Nm → List Ent} {i : Nat} (hi : i < l.length) : ((l.take i).flatMap f).length + (f (l[i]'hi)).length ≤ (l.flatMap f).length := by
  have h1 : l = l.take i ++ l[i] :: l.drop (i + 1) := by
    rw [← List.drop_eq_getElem_cons hi, List.take_append_drop]
  have h2 : (l.flatMap f).length = ((l.take i ++ l[i] :: l.drop (i + 1)).flatMap f).length := by rw [← h1]
  rw [h2, List.flatMap_append, List.flatMap_cons, List.length_append, List.length_append]
  omega
theorem part_next {l : List Nm} {f : Nm → List Ent} {i : Nat} (hi : i < l.length) : (l.take (i + 1)).flatMap f = (l.take i).flatMap f ++ f (l[i]'hi) := by
  rw [List.take_succ_eq_append_getElem hi, List.flatMap_append]
  simp
set_option maxRecDepth 100000 in
set_option maxHeartbeats 64000000 in
theorem walk_calls (w0 : World) (L : List Nat) (t : Nat) (fs : FS) (by' nd : Nat) (A0 M : Pth → Nat) (hT : TabAt w0 L t fs by' nd A0 M) (hg : FsOk fs) (hr : Room fs by' nd) (o k base : Nat) (ho : w0.heap.size ≤ o) (hk : w0.heap.size ≤ k) (hb : w0.heap.size ≤ base) (hok : o ≠ k) : ∀ (m : Nat) (p : Pth) (x : Nd) (w : World) (E : List Ent) (v : Value), p.length + m = 65 → fs.at p = some x → Wk w0 o k base w E v → base ≤ w.heap.size → E.length + (treeL fs m p).length ≤ 200000 →
    Calls Tryz.prog 81 #[(.pointer (some ⟨A0 p, 0, none⟩)), .string (tx p), (.pointer (some ⟨o, 0, none⟩)), (.pointer (some ⟨k, 0, none⟩))] w fun e w' => e = .returned (.tuple #[]) ∧ ∃ v', Wk w0 o k base w' (E ++ treeL fs m p) v' ∧ Tr o w v w' v'
  | 0, p, x, w, E, v, hl, hx, _, _, _ => by
    have := (hg.okp p x hx).1
    omega
  | m + 1, p, x, w, E, v, hl, hx, hW, hbs, hlen => by
    have IH := Asd.mk (walk_calls w0 L t fs by' nd A0 M hT hg hr o k base ho hk hb hok m)
    have HT := Asd.mk hT
    have HG := Asd.mk (And.intro hg hr)
    have HW := Asd.mk hW
    have HX := Asd.mk hx
    have HL := Asd.mk hl
    obtain ⟨s, hs⟩ : ∃ s, tx p = s := ⟨_, rfl⟩
    have hxe : entF fs p = ((s, x.kind, x.text) : Ent) := by unfold entF; rw [hx, hs]; rfl
    rw [treeL_succ, hxe] at hlen
    have HTL := Asd.mk (show treeL fs (m + 1) p = ((s, x.kind, x.text) : Ent) :: (kidsF fs p).flatMap (fun k => treeL fs m (p ++ [k])) by rw [treeL_succ, hxe])
    have hEl : E.length ≤ 200000 := by omega
    have HLen := Asd.mk (show E.length + ((kidsF fs p).flatMap (fun k => treeL fs m (p ++ [k]))).length + 1 ≤ 200000 by simp only [List.length_cons] at hlen; omega)
    have HS := Asd.mk hs
    have hsz : s.size ≤ 4096 := by rw [← hs]; exact tx_size (hg.okp p x hx)
    have hnode := (hT.keep0 hW.chg).node p x hx
    obtain ⟨mv, hmv⟩ : ∃ mv, (if x.kind = 2 then Value.map (some (M p)) else .map none) = mv := ⟨_, rfl⟩
    rw [hmv] at hnode
    have HN := Asd.mk hnode
    have HNo := Asd.mk (show A0 p ≠ o from fun e => by have h1 := hT.bl _ (hT.aL p x hx).1; omega)
    have HBl := Asd.mk hT.bl
    rw [hs]
    clear hT hg hr hW hx hl hxe hlen hnode hmv hs
    (go_enter Tryz.func81, Tryz.ntmps81)
    go_wp2
    refine wp_gen (F := fun A A' W' => ∃ (g' cap : Nat) (x10 x11 x12 x13 x14 x15 x16 x17 x18 x19 x9 x20 : Value), A' = (((((((((((((A.put (some 10) x10).put (some 11) x11).put (some 12) x12).put (some 13) x13).put (some 14) x14).put (some 15) x15).put (some 16) x16).put (some 17) x17).put (some 18) x18).put (some 19) x19).put (some 9) x9).put (some 20) x20).put (some 21) (.slice (some ⟨g', 0, none⟩) (E.length + 1) cap)) ∧ Asd (Wk w0 o k base W' (E ++ [((s, x.kind, x.text) : Ent)]) (.slice (some ⟨g', 0, none⟩) (E.length + 1) cap)) ∧ Asd (Tr o w v W' (.slice (some ⟨g', 0, none⟩) (E.length + 1) cap))) (fun K A hA hKp hK => ?_) (fun _ _ _ _ _ h => h) (fun A' W' hF => ?_)
    · have e0 : A.eval (.tmp 0) = (.pointer (some ⟨A0 p, 0, none⟩)) := by rw [hA]; rfl
      have e1 : A.eval (.tmp 1) = (.string s) := by rw [hA]; rfl
      have e2 : A.eval (.tmp 2) = (.pointer (some ⟨o, 0, none⟩)) := by rw [hA]; rfl
      have hsz : A.tmps.size = 46 := by rw [hA]; rfl
      clear hA
      have hWd : Wk w0 o k base w.drew E v := HW.out.keep ((Chg.refl _ _).drew)
      have hno : A0 p ≠ o := HNo.out
      refine wp_region_held_drew (S := fun w' => w'.heap[A0 p]? = some (.cells #[.int .i64 (x.kind : Int), .string x.text, mv] 133 (0, 0))) (by kernel_rfl) (hp_drew HN.out) (fun hHeld => ?_)
      refine wpAnyH_take (i := 1) (oi := ⟨some 10, .move (.tmp 1), _, _, _, _⟩) (v := (.string s)) rfl (by kernel_rfl) (by kernel_rfl) (by kernel_rfl) (fun _ _ _ h => hKp _ _ _ _ _ h) (Or.inl ⟨by rfl, fun w' hw' => ex_move e1 _⟩) (by assumption) ?_
      refine any_opaque (fun A10 hA10 => ?_)
      replace hA10 : A10 = A.put (some 10) (.string s) := hA10
      have s10 : A10.tmps.size = 46 := by rw [hA10, sz_put]; exact hsz
      have e0_10 : A10.eval (.tmp 0) = (.pointer (some ⟨A0 p, 0, none⟩)) := by rw [hA10, ev_ne _ _ _ _ (by decide)]; exact e0
      have e2_10 : A10.eval (.tmp 2) = (.pointer (some ⟨o, 0, none⟩)) := by rw [hA10, ev_ne _ _ _ _ (by decide)]; exact e2
      have e10_10 : A10.eval (.tmp 10) = (.string s) := by rw [hA10]; exact ev_same _ _ _ (by rw [hsz]; decide)
      try simp only [List.setIfInBounds_toArray, List.set_cons_zero, List.set_cons_succ]
      refine wpAnyH_take (i := 2) (oi := ⟨some 11, .move (.tmp 0), _, _, _, _⟩) (v := (.pointer (some ⟨A0 p, 0, none⟩))) rfl (by kernel_rfl) (by kernel_rfl) (by kernel_rfl) (fun _ _ _ h => hKp _ _ _ _ _ h) (Or.inl ⟨by rfl, fun w' hw' => ex_move e0_10 _⟩) (by assumption) ?_
      refine any_opaque (fun A11 hA11 => ?_)
      replace hA11 : A11 = A10.put (some 11) (.pointer (some ⟨A0 p, 0, none⟩)) := hA11
      have s11 : A11.tmps.size = 46 := by rw [hA11, sz_put]; exact s10
      have e0_11 : A11.eval (.tmp 0) = (.pointer (some ⟨A0 p, 0, none⟩)) := by rw [hA11, ev_ne _ _ _ _ (by decide)]; exact e0_10
      have e2_11 : A11.eval (.tmp 2) = (.pointer (some ⟨o, 0, none⟩)) := by rw [hA11, ev_ne _ _ _ _ (by decide)]; exact e2_10
      have e10_11 : A11.eval (.tmp 10) = (.string s) := by rw [hA11, ev_ne _ _ _ _ (by decide)]; exact e10_10
      have e11_11 : A11.eval (.tmp 11) = (.pointer (some ⟨A0 p, 0, none⟩)) := by rw [hA11]; exact ev_same _ _ _ (by rw [s10]; decide)
      try simp only [List.setIfInBounds_toArray, List.set_cons_zero, List.set_cons_succ]
      refine wpAnyH_take (i := 3) (oi := ⟨some 12, .nilCheck (.tmp 11), _, _, _, _⟩) (v := (.pointer (some ⟨A0 p, 0, none⟩))) rfl (by kernel_rfl) (by kernel_rfl) (by kernel_rfl) (fun _ _ _ h => hKp _ _ _ _ _ h) (Or.inl ⟨by rfl, fun w' hw' => ex_nil e11_11 _⟩) (by assumption) ?_
      refine any_opaque (fun A12 hA12 => ?_)
      replace hA12 : A12 = A11.put (some 12) (.pointer (some ⟨A0 p, 0, none⟩)) := hA12
      have s12 : A12.tmps.size = 46 := by rw [hA12, sz_put]; exact s11
      have e0_12 : A12.eval (.tmp 0) = (.pointer (some ⟨A0 p, 0, none⟩)) := by rw [hA12, ev_ne _ _ _ _ (by decide)]; exact e0_11
      have e2_12 : A12.eval (.tmp 2) = (.pointer (some ⟨o, 0, none⟩)) := by rw [hA12, ev_ne _ _ _ _ (by decide)]; exact e2_11
      have e10_12 : A12.eval (.tmp 10) = (.string s) := by rw [hA12, ev_ne _ _ _ _ (by decide)]; exact e10_11
      have e12_12 : A12.eval (.tmp 12) = (.pointer (some ⟨A0 p, 0, none⟩)) := by rw [hA12]; exact ev_same _ _ _ (by rw [s11]; decide)
      try simp only [List.setIfInBounds_toArray, List.set_cons_zero, List.set_cons_succ]
      refine wpAnyH_take (i := 4) (oi := ⟨some 13, .fieldAddr 133 (.tmp 12) 0, _, _, _, _⟩) (v := (.pointer (some ⟨A0 p, 0, none⟩))) rfl (by kernel_rfl) (by kernel_rfl) (by kernel_rfl) (fun _ _ _ h => hKp _ _ _ _ _ h) (Or.inl ⟨by rfl, fun w' hw' => ex_fld0 e12_12 _⟩) (by assumption) ?_
      refine any_opaque (fun A13 hA13 => ?_)
      replace hA13 : A13 = A12.put (some 13) (.pointer (some ⟨A0 p, 0, none⟩)) := hA13
      have s13 : A13.tmps.size = 46 := by rw [hA13, sz_put]; exact s12
      have e0_13 : A13.eval (.tmp 0) = (.pointer (some ⟨A0 p, 0, none⟩)) := by rw [hA13, ev_ne _ _ _ _ (by decide)]; exact e0_12
      have e2_13 : A13.eval (.tmp 2) = (.pointer (some ⟨o, 0, none⟩)) := by rw [hA13, ev_ne _ _ _ _ (by decide)]; exact e2_12
      have e10_13 : A13.eval (.tmp 10) = (.string s) := by rw [hA13, ev_ne _ _ _ _ (by decide)]; exact e10_12
      have e13_13 : A13.eval (.tmp 13) = (.pointer (some ⟨A0 p, 0, none⟩)) := by rw [hA13]; exact ev_same _ _ _ (by rw [s12]; decide)
      try simp only [List.setIfInBounds_toArray, List.set_cons_zero, List.set_cons_succ]
      refine wpAnyH_take (i := 5) (oi := ⟨some 14, .load 3 (.tmp 13), _, _, _, _⟩) (v := (.int .i64 (x.kind : Int))) rfl (by kernel_rfl) (by kernel_rfl) (by kernel_rfl) (fun _ _ _ h => hKp _ _ _ _ _ h) (Or.inl ⟨by rfl, fun w' hw' => ex_loadI e13_13 _ (cell_of_heap hw' 0)⟩) (by assumption) ?_
      refine any_opaque (fun A14 hA14 => ?_)
      replace hA14 : A14 = A13.put (some 14) (.int .i64 (x.kind : Int)) := hA14
      have s14 : A14.tmps.size = 46 := by rw [hA14, sz_put]; exact s13
      have e0_14 : A14.eval (.tmp 0) = (.pointer (some ⟨A0 p, 0, none⟩)) := by rw [hA14, ev_ne _ _ _ _ (by decide)]; exact e0_13
      have e2_14 : A14.eval (.tmp 2) = (.pointer (some ⟨o, 0, none⟩)) := by rw [hA14, ev_ne _ _ _ _ (by decide)]; exact e2_13
      have e10_14 : A14.eval (.tmp 10) = (.string s) := by rw [hA14, ev_ne _ _ _ _ (by decide)]; exact e10_13
      have e14_14 : A14.eval (.tmp 14) = (.int .i64 (x.kind : Int)) := by rw [hA14]; exact ev_same _ _ _ (by rw [s13]; decide)
      try simp only [List.setIfInBounds_toArray, List.set_cons_zero, List.set_cons_succ]
      refine wpAnyH_take (i := 6) (oi := ⟨some 15, .move (.tmp 0), _, _, _, _⟩) (v := (.pointer (some ⟨A0 p, 0, none⟩))) rfl (by kernel_rfl) (by kernel_rfl) (by kernel_rfl) (fun _ _ _ h => hKp _ _ _ _ _ h) (Or.inl ⟨by rfl, fun w' hw' => ex_move e0_14 _⟩) (by assumption) ?_
      refine any_opaque (fun A15 hA15 => ?_)
      replace hA15 : A15 = A14.put (some 15) (.pointer (some ⟨A0 p, 0, none⟩)) := hA15
      have s15 : A15.tmps.size = 46 := by rw [hA15, sz_put]; exact s14
      have e2_15 : A15.eval (.tmp 2) = (.pointer (some ⟨o, 0, none⟩)) := by rw [hA15, ev_ne _ _ _ _ (by decide)]; exact e2_14
      have e10_15 : A15.eval (.tmp 10) = (.string s) := by rw [hA15, ev_ne _ _ _ _ (by decide)]; exact e10_14
      have e14_15 : A15.eval (.tmp 14) = (.int .i64 (x.kind : Int)) := by rw [hA15, ev_ne _ _ _ _ (by decide)]; exact e14_14
      have e15_15 : A15.eval (.tmp 15) = (.pointer (some ⟨A0 p, 0, none⟩)) := by rw [hA15]; exact ev_same _ _ _ (by rw [s14]; decide)
      try simp only [List.setIfInBounds_toArray, List.set_cons_zero, List.set_cons_succ]
      refine wpAnyH_take (i := 7) (oi := ⟨some 16, .nilCheck (.tmp 15), _, _, _, _⟩) (v := (.pointer (some ⟨A0 p, 0, none⟩))) rfl (by kernel_rfl) (by kernel_rfl) (by kernel_rfl) (fun _ _ _ h => hKp _ _ _ _ _ h) (Or.inl ⟨by rfl, fun w' hw' => ex_nil e15_15 _⟩) (by assumption) ?_
      refine any_opaque (fun A16 hA16 => ?_)
      replace hA16 : A16 = A15.put (some 16) (.pointer (some ⟨A0 p, 0, none⟩)) := hA16
      have s16 : A16.tmps.size = 46 := by rw [hA16, sz_put]; exact s15
      have e2_16 : A16.eval (.tmp 2) = (.pointer (some ⟨o, 0, none⟩)) := by rw [hA16, ev_ne _ _ _ _ (by decide)]; exact e2_15
      have e10_16 : A16.eval (.tmp 10) = (.string s) := by rw [hA16, ev_ne _ _ _ _ (by decide)]; exact e10_15
      have e14_16 : A16.eval (.tmp 14) = (.int .i64 (x.kind : Int)) := by rw [hA16, ev_ne _ _ _ _ (by decide)]; exact e14_15
      have e16_16 : A16.eval (.tmp 16) = (.pointer (some ⟨A0 p, 0, none⟩)) := by rw [hA16]; exact ev_same _ _ _ (by rw [s15]; decide)
      try simp only [List.setIfInBounds_toArray, List.set_cons_zero, List.set_cons_succ]
      refine wpAnyH_take (i := 8) (oi := ⟨some 17, .fieldAddr 133 (.tmp 16) 1, _, _, _, _⟩) (v := (.pointer (some ⟨A0 p, 1, none⟩))) rfl (by kernel_rfl) (by kernel_rfl) (by kernel_rfl) (fun _ _ _ h => hKp _ _ _ _ _ h) (Or.inl ⟨by rfl, fun w' hw' => ex_fld1 e16_16 _⟩) (by assumption) ?_
      refine any_opaque (fun A17 hA17 => ?_)
      replace hA17 : A17 = A16.put (some 17) (.pointer (some ⟨A0 p, 1, none⟩)) := hA17
      have s17 : A17.tmps.size = 46 := by rw [hA17, sz_put]; exact s16
      have e2_17 : A17.eval (.tmp 2) = (.pointer (some ⟨o, 0, none⟩)) := by rw [hA17, ev_ne _ _ _ _ (by decide)]; exact e2_16
      have e10_17 : A17.eval (.tmp 10) = (.string s) := by rw [hA17, ev_ne _ _ _ _ (by decide)]; exact e10_16
      have e14_17 : A17.eval (.tmp 14) = (.int .i64 (x.kind : Int)) := by rw [hA17, ev_ne _ _ _ _ (by decide)]; exact e14_16
      have e17_17 : A17.eval (.tmp 17) = (.pointer (some ⟨A0 p, 1, none⟩)) := by rw [hA17]; exact ev_same _ _ _ (by rw [s16]; decide)
      try simp only [List.setIfInBounds_toArray, List.set_cons_zero, List.set_cons_succ]
      refine wpAnyH_take (i := 9) (oi := ⟨some 18, .load 9 (.tmp 17), _, _, _, _⟩) (v := (.string x.text)) rfl (by kernel_rfl) (by kernel_rfl) (by kernel_rfl) (fun _ _ _ h => hKp _ _ _ _ _ h) (Or.inl ⟨by rfl, fun w' hw' => ex_loadS e17_17 _ (cell_of_heap hw' 1)⟩) (by assumption) ?_
      refine any_opaque (fun A18 hA18 => ?_)
      replace hA18 : A18 = A17.put (some 18) (.string x.text) := hA18
      have s18 : A18.tmps.size = 46 := by rw [hA18, sz_put]; exact s17
      have e2_18 : A18.eval (.tmp 2) = (.pointer (some ⟨o, 0, none⟩)) := by rw [hA18, ev_ne _ _ _ _ (by decide)]; exact e2_17
      have e10_18 : A18.eval (.tmp 10) = (.string s) := by rw [hA18, ev_ne _ _ _ _ (by decide)]; exact e10_17
      have e14_18 : A18.eval (.tmp 14) = (.int .i64 (x.kind : Int)) := by rw [hA18, ev_ne _ _ _ _ (by decide)]; exact e14_17
      have e18_18 : A18.eval (.tmp 18) = (.string x.text) := by rw [hA18]; exact ev_same _ _ _ (by rw [s17]; decide)
      try simp only [List.setIfInBounds_toArray, List.set_cons_zero, List.set_cons_succ]
      refine wpAnyH_take (i := 10) (oi := ⟨some 19, .build 64 #[(0, .tmp 10), (1, .tmp 14), (2, .tmp 18)], _, _, _, _⟩) (v := (.agg (entC ((s, x.kind, x.text) : Ent)))) rfl (by kernel_rfl) (by kernel_rfl) (by kernel_rfl) (fun _ _ _ h => hKp _ _ _ _ _ h) (Or.inl ⟨by rfl, fun w' hw' => ex_build e10_18 e14_18 e18_18 _⟩) (by assumption) ?_
      refine any_opaque (fun A19 hA19 => ?_)
      replace hA19 : A19 = A18.put (some 19) (.agg (entC ((s, x.kind, x.text) : Ent))) := hA19
      have s19 : A19.tmps.size = 46 := by rw [hA19, sz_put]; exact s18
      have e2_19 : A19.eval (.tmp 2) = (.pointer (some ⟨o, 0, none⟩)) := by rw [hA19, ev_ne _ _ _ _ (by decide)]; exact e2_18
      have e19_19 : A19.eval (.tmp 19) = (.agg (entC ((s, x.kind, x.text) : Ent))) := by rw [hA19]; exact ev_same _ _ _ (by rw [s18]; decide)
      try simp only [List.setIfInBounds_toArray, List.set_cons_zero, List.set_cons_succ]
      refine wpAnyH_ready (rs := [0, 11]) (by kernel_rfl) (by simp) ?_
      refine AllReadyH.cons (o := ⟨some 9, .load 39 (.tmp 2), _, _, _, _⟩) rfl (fun J hJ => ?_) (AllReadyH.cons (o := ⟨some 20, .buildSlice 39 1 #[(0, .tmp 19)], _, _, _, _⟩) rfl (fun J hJ => ?_) AllReadyH.nil)
      · rw [if_pos (by rfl)]
        refine wp_loadE (.tmp 2) rfl o v e2_19 (cell_of_heap hWd.out 0) ?_
        refine hJ.out _ _ (by assumption) (fun _ => ?_)
        clear hJ J
        refine any_opaque (fun A9a hA9a => ?_)
        replace hA9a : A9a = A19.put (some 9) v := hA9a
        have s9a : A9a.tmps.size = 46 := by rw [hA9a, sz_put]; exact s19
        have e2_9a : A9a.eval (.tmp 2) = (.pointer (some ⟨o, 0, none⟩)) := by rw [hA9a, ev_ne _ _ _ _ (by decide)]; exact e2_19
        have e19_9a : A9a.eval (.tmp 19) = (.agg (entC ((s, x.kind, x.text) : Ent))) := by rw [hA9a, ev_ne _ _ _ _ (by decide)]; exact e19_19
        have e9_9a : A9a.eval (.tmp 9) = v := by rw [hA9a]; exact ev_same _ _ _ (by rw [s19]; decide)
        try simp only [List.setIfInBounds_toArray, List.set_cons_zero, List.set_cons_succ]
        refine wpAnyH_ready (rs := [11]) (by kernel_rfl) (by simp) ?_
        refine AllReadyH.cons (o := ⟨some 20, .buildSlice 39 1 #[(0, .tmp 19)], _, _, _, _⟩) rfl (fun J hJ => ?_) AllReadyH.nil
        rw [if_pos (by rfl)]
        refine wp_build_ent ((s, x.kind, x.text) : Ent) (.tmp 19) rfl e19_9a ?_
        have hS1 := hp_alloc hHeld (.cells (entC ((s, x.kind, x.text) : Ent)) 64)
        have hW1 := hWd.keep ((Chg.refl _ _).alloc (.cells (entC ((s, x.kind, x.text) : Ent)) 64))
        have hn1 := hp_new w.drew (.cells (entC ((s, x.kind, x.text) : Ent)) 64)
        refine hJ.out _ _ hS1 (fun _ => ?_)
        clear hJ J
        refine any_opaque (fun A20a hA20a => ?_)
        replace hA20a : A20a = A9a.put (some 20) (.slice (some ⟨w.drew.heap.size, 0, none⟩) 1 1) := hA20a
        have s20a : A20a.tmps.size = 46 := by rw [hA20a, sz_put]; exact s9a
        have e2_20a : A20a.eval (.tmp 2) = (.pointer (some ⟨o, 0, none⟩)) := by rw [hA20a, ev_ne _ _ _ _ (by decide)]; exact e2_9a
        have e9_20a : A20a.eval (.tmp 9) = v := by rw [hA20a, ev_ne _ _ _ _ (by decide)]; exact e9_9a
        have e20_20a : A20a.eval (.tmp 20) = (.slice (some ⟨w.drew.heap.size, 0, none⟩) 1 1) := by rw [hA20a]; exact ev_same _ _ _ (by rw [s9a]; decide)
        try simp only [List.setIfInBounds_toArray, List.set_cons_zero, List.set_cons_succ]
        refine wpAnyH_ready (rs := [12]) (by kernel_rfl) (by simp) ?_
        refine AllReadyH.cons (o := ⟨some 21, .call { callee := .builtin .append, args := #[.tmp 9, .tmp 20], argTypes := #[39, 39] }, _, _, _, _⟩) rfl (fun J hJ => ?_) AllReadyH.nil
        rw [if_pos (by rfl)]
        have hsz1 : w0.heap.size ≤ w.drew.heap.size := hWd.chg.size
        refine wp_append_ent ((s, x.kind, x.text) : Ent) (.tmp 9) (.tmp 20) rfl base v E e9_20a hW1.own w.drew.heap.size e20_20a hn1 (by omega) (Nat.le_trans hbs (((Chg.refl [] w).drew.alloc _).size)) ?_
        intro g' cap w' hown' hgrow hlie
        have hS2 : w'.heap[A0 p]? = some (.cells #[.int .i64 (x.kind : Int), .string x.text, mv] 133 (0, 0)) := (hgrow.block _ (lt_of_heap hS1) (fun e => own_ne hW1.own hS1 (by decide) e.symm)).trans hS1
        have hO2 : w'.heap[o]? = some (.cells #[v] 39 (0, 0)) := (hgrow.block _ (lt_of_heap hW1.out) (fun e => own_ne hW1.own hW1.out (by decide) e.symm)).trans hW1.out
        obtain ⟨hD1, hD2⟩ := app_done HW.out ho hk hb hok hown' hgrow hlie
        refine hJ.out _ _ hS2 (fun _ => ?_)
        clear hJ J
        refine any_opaque (fun A21a hA21a => ?_)
        replace hA21a : A21a = A20a.put (some 21) (.slice (some ⟨g', 0, none⟩) (E.length + 1) cap) := hA21a
        have s21a : A21a.tmps.size = 46 := by rw [hA21a, sz_put]; exact s20a
        have e2_21a : A21a.eval (.tmp 2) = (.pointer (some ⟨o, 0, none⟩)) := by rw [hA21a, ev_ne _ _ _ _ (by decide)]; exact e2_20a
        have e21_21a : A21a.eval (.tmp 21) = (.slice (some ⟨g', 0, none⟩) (E.length + 1) cap) := by rw [hA21a]; exact ev_same _ _ _ (by rw [s20a]; decide)
        try simp only [List.setIfInBounds_toArray, List.set_cons_zero, List.set_cons_succ]
        refine wpAnyH_ready (rs := [13]) (by kernel_rfl) (by simp) ?_
        refine AllReadyH.cons (o := ⟨none, .store 39 (.tmp 2) (.tmp 21), _, _, _, _⟩) rfl (fun J hJ => ?_) AllReadyH.nil
        rw [if_pos (by rfl)]
        refine wp_storeE (.tmp 2) (.tmp 21) rfl rfl o v (some ⟨g', 0, none⟩) (E.length + 1) cap e2_21a e21_21a (cell_of_heap hO2 0) (frozen_of_heap hO2 0) ?_
        refine hJ.out _ _ (hp_set_other hS2 (fun e => by have := own_ne hW1.own hS1 (by decide); exact hno e) _ _) (fun _ => ?_)
        refine wpAnyH_done (by kernel_rfl) ?_ _
        exact hK _ _ ⟨g', cap, _, _, _, _, _, _, _, _, _, _, _, _, by rw [hA21a, hA20a, hA9a, hA19, hA18, hA17, hA16, hA15, hA14, hA13, hA12, hA11, hA10], ⟨hD1⟩, ⟨hD2⟩⟩
      · rw [if_pos (by rfl)]
        refine wp_build_ent ((s, x.kind, x.text) : Ent) (.tmp 19) rfl e19_19 ?_
        have hS1 := hp_alloc hHeld (.cells (entC ((s, x.kind, x.text) : Ent)) 64)
        have hW1 := hWd.keep ((Chg.refl _ _).alloc (.cells (entC ((s, x.kind, x.text) : Ent)) 64))
        have hn1 := hp_new w.drew (.cells (entC ((s, x.kind, x.text) : Ent)) 64)
        refine hJ.out _ _ hS1 (fun _ => ?_)
        clear hJ J
        refine any_opaque (fun A20b hA20b => ?_)
        replace hA20b : A20b = A19.put (some 20) (.slice (some ⟨w.drew.heap.size, 0, none⟩) 1 1) := hA20b
        have s20b : A20b.tmps.size = 46 := by rw [hA20b, sz_put]; exact s19
        have e2_20b : A20b.eval (.tmp 2) = (.pointer (some ⟨o, 0, none⟩)) := by rw [hA20b, ev_ne _ _ _ _ (by decide)]; exact e2_19
        have e20_20b : A20b.eval (.tmp 20) = (.slice (some ⟨w.drew.heap.size, 0, none⟩) 1 1) := by rw [hA20b]; exact ev_same _ _ _ (by rw [s19]; decide)
        try simp only [List.setIfInBounds_toArray, List.set_cons_zero, List.set_cons_succ]
        refine wpAnyH_ready (rs := [0]) (by kernel_rfl) (by simp) ?_
        refine AllReadyH.cons (o := ⟨some 9, .load 39 (.tmp 2), _, _, _, _⟩) rfl (fun J hJ => ?_) AllReadyH.nil
        rw [if_pos (by rfl)]
        refine wp_loadE (.tmp 2) rfl o v e2_20b (cell_of_heap hW1.out 0) ?_
        refine hJ.out _ _ (by assumption) (fun _ => ?_)
        clear hJ J
        refine any_opaque (fun A9b hA9b => ?_)
        replace hA9b : A9b = A20b.put (some 9) v := hA9b
        have s9b : A9b.tmps.size = 46 := by rw [hA9b, sz_put]; exact s20b
        have e2_9b : A9b.eval (.tmp 2) = (.pointer (some ⟨o, 0, none⟩)) := by rw [hA9b, ev_ne _ _ _ _ (by decide)]; exact e2_20b
        have e20_9b : A9b.eval (.tmp 20) = (.slice (some ⟨w.drew.heap.size, 0, none⟩) 1 1) := by rw [hA9b, ev_ne _ _ _ _ (by decide)]; exact e20_20b
        have e9_9b : A9b.eval (.tmp 9) = v := by rw [hA9b]; exact ev_same _ _ _ (by rw [s20b]; decide)
        try simp only [List.setIfInBounds_toArray, List.set_cons_zero, List.set_cons_succ]
        refine wpAnyH_ready (rs := [12]) (by kernel_rfl) (by simp) ?_
        refine AllReadyH.cons (o := ⟨some 21, .call { callee := .builtin .append, args := #[.tmp 9, .tmp 20], argTypes := #[39, 39] }, _, _, _, _⟩) rfl (fun J hJ => ?_) AllReadyH.nil
        rw [if_pos (by rfl)]
        have hsz1 : w0.heap.size ≤ w.drew.heap.size := hWd.chg.size
        refine wp_append_ent ((s, x.kind, x.text) : Ent) (.tmp 9) (.tmp 20) rfl base v E e9_9b hW1.own w.drew.heap.size e20_9b hn1 (by omega) (Nat.le_trans hbs (((Chg.refl [] w).drew.alloc _).size)) ?_
        intro g' cap w' hown' hgrow hlie
        have hS2 : w'.heap[A0 p]? = some (.cells #[.int .i64 (x.kind : Int), .string x.text, mv] 133 (0, 0)) := (hgrow.block _ (lt_of_heap hS1) (fun e => own_ne hW1.own hS1 (by decide) e.symm)).trans hS1
        have hO2 : w'.heap[o]? = some (.cells #[v] 39 (0, 0)) := (hgrow.block _ (lt_of_heap hW1.out) (fun e => own_ne hW1.own hW1.out (by decide) e.symm)).trans hW1.out
        obtain ⟨hD1, hD2⟩ := app_done HW.out ho hk hb hok hown' hgrow hlie
        refine hJ.out _ _ hS2 (fun _ => ?_)
        clear hJ J
        refine any_opaque (fun A21b hA21b => ?_)
        replace hA21b : A21b = A9b.put (some 21) (.slice (some ⟨g', 0, none⟩) (E.length + 1) cap) := hA21b
        have s21b : A21b.tmps.size = 46 := by rw [hA21b, sz_put]; exact s9b
        have e2_21b : A21b.eval (.tmp 2) = (.pointer (some ⟨o, 0, none⟩)) := by rw [hA21b, ev_ne _ _ _ _ (by decide)]; exact e2_9b
        have e21_21b : A21b.eval (.tmp 21) = (.slice (some ⟨g', 0, none⟩) (E.length + 1) cap) := by rw [hA21b]; exact ev_same _ _ _ (by rw [s9b]; decide)
        try simp only [List.setIfInBounds_toArray, List.set_cons_zero, List.set_cons_succ]
        refine wpAnyH_ready (rs := [13]) (by kernel_rfl) (by simp) ?_
        refine AllReadyH.cons (o := ⟨none, .store 39 (.tmp 2) (.tmp 21), _, _, _, _⟩) rfl (fun J hJ => ?_) AllReadyH.nil
        rw [if_pos (by rfl)]
        refine wp_storeE (.tmp 2) (.tmp 21) rfl rfl o v (some ⟨g', 0, none⟩) (E.length + 1) cap e2_21b e21_21b (cell_of_heap hO2 0) (frozen_of_heap hO2 0) ?_
        refine hJ.out _ _ (hp_set_other hS2 (fun e => by have := own_ne hW1.own hS1 (by decide); exact hno e) _ _) (fun _ => ?_)
        refine wpAnyH_done (by kernel_rfl) ?_ _
        exact hK _ _ ⟨g', cap, _, _, _, _, _, _, _, _, _, _, _, _, by rw [hA21b, hA9b, hA20b, put_comm _ 20 9 _ _ (by decide), hA19, hA18, hA17, hA16, hA15, hA14, hA13, hA12, hA11, hA10], ⟨hD1⟩, ⟨hD2⟩⟩
    obtain ⟨g', cap, x10, x11, x12, x13, x14, x15, x16, x17, x18, x19, x9, x20, rfl, HW1, HT1⟩ := hF
    simp only [Act.put, List.setIfInBounds_toArray, List.set_cons_zero, List.set_cons_succ]
    have HNc := Asd.mk (names_calls L t fs by' nd A0 M HG.out.1 HG.out.2 p x W' HX.out (HT.out.keep0 HW1.out.chg))
    obtain ⟨v1, hv1⟩ : ∃ v1, Value.slice (some ⟨g', 0, none⟩) (E.length + 1) cap = v1 := ⟨_, rfl⟩
    rw [hv1] at HW1 HT1
    clear hv1 HW HN HNo hbs hsz hEl
    go_wp2_with fail
    refine HNc.out.mono ?_
    rintro e w2 ⟨⟨vN, rfl, l, hl1, hl2, hl3⟩, hC2⟩
    obtain ⟨hk1, hk2⟩ := kids_sort HG.out.1.nodup hl1 hl2
    rw [hk1, hk2] at hl3
    have HW2 := Asd.mk (HW1.out.keep hC2)
    have HT2 := Asd.mk (HT1.out.trans (Tr.chg hC2))
    have HV1 := Asd.mk (show ∀ g, v1.ownBlock = some g → g < W'.heap.size from fun g hg => by
      obtain ⟨_, cur, h⟩ := own_block HW1.out.own hg
      exact lt_of_heap h)
    have HOl := Asd.mk (show o < W'.heap.size from lt_of_heap HW1.out.out)
    have HKO := Asd.mk hl3
    obtain ⟨A1, c1, hvN, _⟩ := strL_of_own (L := (kidsF fs p).map nb) (by rw [List.length_map, List.map_map]; exact hl3)
    rw [List.length_map] at hvN
    subst hvN
    obtain ⟨n, hn⟩ : ∃ n, (kidsF fs p).length = n := ⟨_, rfl⟩
    rw [hn] at HKO ⊢
    have HNn := Asd.mk hn
    have HB2 := Asd.mk (show base ≤ w2.heap.size from by
      have h1 := HW2.out.own
      obtain ⟨hx1, hx2⟩ := h1
      rcases hx2 with ⟨_, h3⟩ | ⟨g, c, cur, _, hb2, hg2, _⟩
      · rw [List.length_append] at h3; simp at h3
      · exact Nat.le_trans hb2 (Nat.le_of_lt (lt_of_heap hg2)))
    have hcn : n ≤ c1 := by
      rcases HKO.out.2 with ⟨h3, _⟩ | ⟨g, c, cur, h3, _, _, h4, _⟩
      · simp only [Value.slice.injEq] at h3; omega
      · simp only [Value.slice.injEq] at h3; omega
    have hn2 : n ≤ 200000 := by
      have h1 := nodup_len' (m := fs.map (·.1)) (l := (kidsF fs p).map fun k => p ++ [k]) (List.pairwise_map.2 ((nodup_kidsF HG.out.1.nodup p).imp fun h e => h (snoc_inj e).2)) (fun r hr => by
        obtain ⟨k, hk, rfl⟩ := List.mem_map.1 hr
        exact (at_mem (by simp)).1 (mem_kidsF.1 hk))
      have := HG.out.2.n
      have := HG.out.2.count
      rw [List.length_map, List.length_map, hn] at h1
      omega
    clear hl1 hl2 hl3 hk1 hk2 hC2 hn HNc HW1 HT1 l
    go_wp2
    go_loopg [25] (n + 1) (fun gk v25 wx => ∃ (i : Nat) (vx : Value), i ≤ n ∧ gk = n + 1 - i ∧ v25 = .int .i64 (i : Int) ∧ Asd (Wk w0 o k base wx (E ++ [((s, x.kind, x.text) : Ent)] ++ ((kidsF fs p).take i).flatMap (fun k => treeL fs m (p ++ [k]))) vx) ∧ Asd (Tr o w2 v1 wx vx))
    case atStart => exact ⟨0, v1, by omega, rfl, rfl, ⟨by rw [List.take_zero, List.flatMap_nil, List.append_nil]; exact HW2.out⟩, ⟨Tr.refl _ _ _⟩⟩
    case round =>
      obtain ⟨i, vx, hi, rfl, rfl, HWx, HTx⟩ := hrel
      by_cases hlt : i < n
      · have k1 : (i : Int) < (n : Int) := by omega
        have hil : i < (kidsF fs p).length := by rw [HNn.out]; exact hlt
        obtain ⟨kk, hkk⟩ : ∃ kk, (kidsF fs p)[i] = kk := ⟨_, rfl⟩
        have hSt := strL_of_own (L := (kidsF fs p).map nb) (own_tr (by rw [List.length_map, List.map_map, HNn.out]; exact HKO.out) HOl.out HV1.out HTx.out)
        obtain ⟨a, hA1, hcell⟩ := strL_cell hSt (i := i) (by rw [List.length_map]; exact hil)
        rw [List.getElem_map, hkk] at hcell
        subst hA1
        have hin := mem_kidsF.1 (show kk ∈ kidsF fs p by rw [← hkk]; exact List.getElem_mem hil)
        obtain ⟨xk, hxk⟩ := Option.ne_none_iff_exists'.1 hin
        obtain ⟨y, hy1, hy2⟩ := HG.out.1.up p kk hin
        have hkd : x.kind = 2 := by rw [HX.out] at hy1; cases hy1; exact hy2
        have hTw := HT.out.keep0 HWx.out.chg
        have hnd := hTw.node p x HX.out
        rw [if_pos hkd] at hnd
        have n2 := cell_of_heap hnd 2
        have hlook := look_kid (HT.out.keep0 HWx.out.chg.drew) HX.out hkd kk
        rw [show kidA fs A0 (p ++ [kk]) = some ⟨A0 (p ++ [kk]), 0, none⟩ by unfold kidA; rw [hxk]; rfl] at hlook
        have fnc := cell_of_heap HWx.out.fn 0
        have hln := part_len (f := (fun k => treeL fs m (p ++ [k]))) hil
        rw [hkk] at hln
        have HC := Asd.mk (IH.out (p ++ [kk]) xk _ _ vx (by have := HL.out; rw [List.length_append]; simp; omega) hxk (HWx.out.keep ((Chg.refl _ _).drew)) (Nat.le_trans HB2.out HTx.out.size) (by
          have := HLen.out
          simp only [List.length_append, List.length_cons, List.length_nil]
          omega))
        have hnx := part_next (f := (fun k => treeL fs m (p ++ [k]))) hil
        rw [hkk] at hnx
        have HNX := Asd.mk hnx
        have hkz : kk.length ≤ 255 := by
          have h1 := (HG.out.1.okp _ xk hxk).2.2
          rw [List.all_append, Bool.and_eq_true] at h1
          have h2 := (bad_ok (n := kk)).1 (by simpa using h1.2)
          exact h2.2.1
        have hnz : (nb kk).size ≤ 255 := by rw [nb_size]; exact hkz
        clear hSt hin hy1 hy2 hkd hTw hnd hln hnx hkk hil hkz hxk
        by_cases hp : p = []
        · have hs0 : s = ⟨#[]⟩ := by rw [← HS.out, hp]; rfl
          rw [show tx (p ++ [kk]) = nb kk by rw [hp]; rfl] at HC
          obtain ⟨U, hU⟩ : ∃ U, nb kk = U := ⟨_, rfl⟩
          rw [hU] at HC hcell hlook hnz
          subst hs0
          clear hp hU
          go_upto_region 7 with fail
          go_still_tail 8, (by kernel_rfl)
          go_wp2_with fail
          refine HC.out.mono ?_
          rintro e w5 ⟨rfl, v5, hW5, hT5⟩
          have HW5 := Asd.mk (show Wk w0 o k base w5 (E ++ [((⟨#[]⟩, x.kind, x.text) : Ent)] ++ ((kidsF fs p).take (i + 1)).flatMap (fun k => treeL fs m (p ++ [k]))) v5 by rw [HNX.out, ← List.append_assoc]; exact hW5)
          have HT5 := Asd.mk (HTx.out.trans ((Tr.chg ((Chg.refl _ _).drew)).trans hT5))
          clear hW5 hT5 HC HNX HWx HTx hcell hlook fnc n2
          go_wp2
          go_roundg (n + 1 - (i + 1))
          case rel => exact ⟨i + 1, v5, by omega, by omega, by go_num, HW5, HT5⟩
          case measure => omega
        · have hs0 : (s.toList == []) = false := by
            rw [← HS.out]
            refine beq_eq_false_iff_ne.2 fun e => tx_ne hp (HG.out.1.okp p x HX.out) ?_
            exact toList_inj (by rw [e, ByteArray.toList_eq])
          have hsz : s.size ≤ 4096 := by rw [← HS.out]; exact tx_size (HG.out.1.okp p x HX.out)
          rw [tx_below hp, HS.out] at HC
          obtain ⟨N, hN⟩ : ∃ N, nb kk = N := ⟨_, rfl⟩
          rw [hN] at HC hcell hlook hnz
          obtain ⟨S1, hS1⟩ : ∃ S1, s ++ ⟨#[47]⟩ = S1 := ⟨_, rfl⟩
          have hz1 : S1.size ≤ 4097 := by rw [← hS1, ByteArray.size_append]; have : (⟨#[47]⟩ : ByteArray).size = 1 := rfl; omega
          obtain ⟨U, hU⟩ : ∃ U, S1 ++ N = U := ⟨_, rfl⟩
          rw [hS1, hU] at HC
          clear hp hN
          go_upto_region 7 with fail
          clear hS1 hU hz1 hsz hs0
          go_still_tail 8, (by kernel_rfl)
          go_wp2_with fail
          refine HC.out.mono ?_
          rintro e w5 ⟨rfl, v5, hW5, hT5⟩
          have HW5 := Asd.mk (show Wk w0 o k base w5 (E ++ [((s, x.kind, x.text) : Ent)] ++ ((kidsF fs p).take (i + 1)).flatMap (fun k => treeL fs m (p ++ [k]))) v5 by rw [HNX.out, ← List.append_assoc]; exact hW5)
          have HT5 := Asd.mk (HTx.out.trans ((Tr.chg ((Chg.refl _ _).drew)).trans hT5))
          clear hW5 hT5 HC HNX HWx HTx hcell hlook fnc n2
          go_wp2
          go_roundg (n + 1 - (i + 1))
          case rel => exact ⟨i + 1, v5, by omega, by omega, by go_num, HW5, HT5⟩
          case measure => omega
      · have k1 : ¬ (i : Int) < (n : Int) := by omega
        obtain rfl : i = n := by omega
        have HFin := Asd.mk (show E ++ [((s, x.kind, x.text) : Ent)] ++ ((kidsF fs p).take i).flatMap (fun k => treeL fs m (p ++ [k])) = E ++ treeL fs (m + 1) p by
          rw [List.take_of_length_le (by rw [HNn.out]; exact Nat.le_refl _), HTL.out]
          simp)
        clear hlt
        go_wp2
        refine bodyPost_end (results_none rfl _ _ _) rfl ?_
        exact ⟨rfl, vx, by rw [← HFin.out]; exact HWx.out, HT2.out.trans HTx.out⟩
end Go.Proofs.YthojofeocjmglaaGreatDoor.I
