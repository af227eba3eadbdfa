/- Words on worlds: which old blocks have turned; a block's cells; for walks that go from call to call. No program in sight. -/
import Derived.WalkKit
import Derived.Handy
import Derived.Deep.Draws
import Derived.Deep.QuietTactic
import Derived.BigQuiet
import Derived.Deep.RegionHeld3
import Derived.StillTailTactics
import Derived.Lib.Hide
namespace Go.Proofs.YtgkifphfibcfdaaGreatDoor.B
open Go.RowKit

/-- A fact that the walk's simp doesn't look into. -/
structure Asd (p : Prop) : Prop where mk :: (out : p)

/-- Of the old blocks only those of L have turned. -/
structure Chg (L : List Nat) (w w' : World) : Prop where
  os : w'.os = w.os
  tape : w'.tape = w.tape
  output : w'.output = w.output
  size : w.heap.size ≤ w'.heap.size
  block : ∀ i, i < w.heap.size → i ∉ L → w'.heap[i]? = w.heap[i]?

theorem Chg.refl (L : List Nat) (w : World) : Chg L w w := ⟨rfl, rfl, rfl, Nat.le_refl _, fun _ _ _ => rfl⟩
/-- What turns later: of the same blocks, or of newer ones. -/
theorem Chg.step {L M : List Nat} {a b c : World} (h : Chg L a b) (k : Chg M b c) (hM : ∀ i ∈ M, i < a.heap.size → i ∈ L) : Chg L a c :=
  ⟨k.os.trans h.os, k.tape.trans h.tape, k.output.trans h.output, Nat.le_trans h.size k.size, fun i hi hn =>
    (k.block i (Nat.lt_of_lt_of_le hi h.size) (fun hm => hn (hM i hm hi))).trans (h.block i hi hn)⟩
theorem Chg.trans {L : List Nat} {a b c : World} (h : Chg L a b) (k : Chg L b c) : Chg L a c := h.step k (fun _ hi _ => hi)
theorem Chg.mono {L M : List Nat} {a b : World} (h : Chg L a b) (hM : ∀ i ∈ L, i < a.heap.size → i ∈ M) : Chg M a b :=
  ⟨h.os, h.tape, h.output, h.size, fun i hi hn => h.block i hi (fun hl => hn (hM i hl hi))⟩
theorem Chg.drewN {L : List Nat} {a b : World} (h : Chg L a b) (n : Nat) : Chg L a (b.drewN n) := ⟨h.os, h.tape, h.output, h.size, h.block⟩
theorem Chg.drew {L : List Nat} {a b : World} (h : Chg L a b) : Chg L a b.drew := ⟨h.os, h.tape, h.output, h.size, h.block⟩
theorem Chg.alloc {L : List Nat} {a b : World} (h : Chg L a b) (o : Obj) : Chg L a (b.alloc o) :=
  ⟨h.os, h.tape, h.output, Nat.le_trans h.size (by simp), fun i hi hn => (Below.heap_alloc b o i (Nat.lt_of_lt_of_le hi h.size)).trans (h.block i hi hn)⟩
theorem Chg.setCell {L : List Nat} {a b : World} (h : Chg L a b) {p : Addr} (hp : p.block < a.heap.size → p.block ∈ L) (u : Value) : Chg L a (b.setCell p u) :=
  ⟨h.os, h.tape, h.output, by simpa [World.setCell] using h.size, fun i hi hn => (Below.heap_setCell b p u i (by rintro rfl; exact hn (hp hi))).trans (h.block i hi hn)⟩
theorem Chg.of_below {w w' : World} (h : Below w.heap.size w w') : Chg [] w w' := ⟨h.os, h.tape, h.output, h.size, fun i hi _ => h.block i hi⟩
theorem Chg.below {w w' : World} (h : Chg [] w w') : Below w.heap.size w w' := ⟨h.os, h.tape, h.output, h.size, fun i hi => h.block i hi (by simp)⟩
theorem Chg.heap {L : List Nat} {w w' : World} (h : Chg L w w') {i : Nat} {o : Obj} (hi : w.heap[i]? = some o) (hn : i ∉ L) : w'.heap[i]? = some o :=
  (h.block i (Array.getElem?_eq_some_iff.1 hi).1 hn).trans hi

theorem lt_of_heap {w : World} {b : Nat} {o : Obj} (h : w.heap[b]? = some o) : b < w.heap.size := (Array.getElem?_eq_some_iff.1 h).1
theorem cell_of_heap {w : World} {b : Nat} {cs : Array Value} {t : TypeId} {f : Nat × Nat} (h : w.heap[b]? = some (.cells cs t f)) (j : Nat) : w.cell? ⟨b, j, none⟩ = cs[j]? := by
  simp [World.cell?, h]
theorem frozen_of_heap {w : World} {b : Nat} {cs : Array Value} {t : TypeId} (h : w.heap[b]? = some (.cells cs t (0, 0))) (j : Nat) : w.frozen? ⟨b, j, none⟩ = false := by
  simp [World.frozen?, h]
theorem hp_set {w : World} {b : Nat} {cs : Array Value} {t : TypeId} {f : Nat × Nat} (h : w.heap[b]? = some (.cells cs t f)) (j : Nat) (v : Value) : (w.setCell ⟨b, j, none⟩ v).heap[b]? = some (.cells (cs.setIfInBounds j v) t f) := by
  simp only [World.setCell]
  rw [Array.getElem?_modify, if_pos rfl, h]
  simp
theorem hp_set_other {w : World} {b k : Nat} {o : Obj} (h : w.heap[k]? = some o) (hk : k ≠ b) (j : Nat) (v : Value) : (w.setCell ⟨b, j, none⟩ v).heap[k]? = some o :=
  (Below.heap_setCell w ⟨b, j, none⟩ v k hk).trans h
theorem hp_drewN {w : World} {k : Nat} {o : Obj} (h : w.heap[k]? = some o) (n : Nat) : (w.drewN n).heap[k]? = some o := h
theorem hp_drew {w : World} {k : Nat} {o : Obj} (h : w.heap[k]? = some o) : w.drew.heap[k]? = some o := h
theorem hp_alloc {w : World} {k : Nat} {o : Obj} (h : w.heap[k]? = some o) (u : Obj) : (w.alloc u).heap[k]? = some o := (Below.heap_alloc w u k (lt_of_heap h)).trans h
theorem hp_new (w : World) (o : Obj) : (w.alloc o).heap[w.heap.size]? = some o := by
  show (w.heap.push o)[w.heap.size]? = some o
  simp
/-- A callee that only draws, inside a region that draws: its answer's value known. -/
theorem quiet_v {P : Program} {f : FuncId} {args : Array Value} {w : World} {n : Nat} {u v : Bool}
    (h : Calls P f args (w.drewN n) fun e w' => e = .returned (.bool u) ∧ ∃ m, w' = (w.drewN n).drewN m) (e : u = v) : Calls P f args (w.drewN n) fun e w'' => e = .returned (.bool v) ∧ ∃ m, w'' = w.drewN m :=
  h.mono fun _ _ ⟨he, m, hm⟩ => ⟨by rw [he, e], n + m, by rw [hm, World.drewN_drewN]⟩
theorem quiet_same_v {P : Program} {f : FuncId} {args : Array Value} {w : World} {n : Nat} {u v : Bool}
    (h : Calls P f args (w.drewN n) fun e w' => e = .returned (.bool u) ∧ w' = w.drewN n) (e : u = v) : Calls P f args (w.drewN n) fun e w'' => e = .returned (.bool v) ∧ ∃ m, w'' = w.drewN m :=
  h.mono fun _ _ ⟨he, hm⟩ => ⟨by rw [he, e], n, hm⟩
theorem w64 {x : Int} (h : -9223372036854775808 ≤ x) (h1 : x ≤ 9223372036854775807) : IntKind.i64.wrap x = x := IntWalk.i64_in x ⟨h, h1⟩
/-- A callee that only draws, inside a region that has drawn. -/
theorem quiet_call {P : Program} {f : FuncId} {args : Array Value} {w : World} {a n : Nat} {v : Value}
    (h : Calls P f args (w.drewN (a + n)) fun e w' => e = .returned v ∧ ∃ m, w' = (w.drewN (a + n)).drewN m) : Calls P f args (w.drewN (a + n)) fun e w'' => e = .returned v ∧ ∃ m, w'' = w.drewN (a + m) :=
  h.mono fun _ _ ⟨he, m, hm⟩ => ⟨he, n + m, by rw [hm, World.drewN_drewN, Nat.add_assoc]⟩
end Go.Proofs.YtgkifphfibcfdaaGreatDoor.B
