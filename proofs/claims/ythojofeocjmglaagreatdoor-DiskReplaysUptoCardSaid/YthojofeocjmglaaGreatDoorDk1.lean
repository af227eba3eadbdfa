/- Merged out of these texts: Base, As, Num, Base2, MapP, ISpl. -/
import Derived.WalkKit
import Derived.Handy
import Derived.Deep.Draws
import Derived.Deep.QuietTactic
import Derived.BigQuiet
import Derived.Deep.RegionHeld3
import Derived.StillTailTactics
import Derived.Lib.Hide
import Derived.Test.YthojofeocjmglaaGreatDoorProg
import Derived.LaidEql
import Derived.Stop.Asserts
import Derived.RowKitTokens
import Derived.MapKept
import Derived.ChangeMaps5
import Derived.Maps.RangeRun
import Derived.Lib.SplitLaws
import Derived.Lib.CountLaws
import Derived.Lib.IndexLaws
/- Words on worlds: which old blocks have turned; a block's cells; for walks that go from call to call. No program in sight. -/
namespace Go.Proofs.YthojofeocjmglaaGreatDoor.B
open Go.RowKit

/-- A fact that the walk's simp doesn't look into. -/
structure Asd (p : Prop) : Prop where mk :: (out : p)

/-- Of the old blocks only those of L have turned. -/
structure Chg (L : List Nat) (w w' : World) : Prop where
  os : w'.os = w.os
  tape : w'.tape = w.tape
  output : w'.output = w.output
  size : w.heap.size ≤ w'.heap.size
  block : ∀ i, i < w.heap.size → i ∉ L → w'.heap[i]? = w.heap[i]?

theorem Chg.refl (L : List Nat) (w : World) : Chg L w w := ⟨rfl, rfl, rfl, Nat.le_refl _, fun _ _ _ => rfl⟩
/-- What turns later: of the same blocks, or of newer ones. -/
theorem Chg.step {L M : List Nat} {a b c : World} (h : Chg L a b) (k : Chg M b c) (hM : ∀ i ∈ M, i < a.heap.size → i ∈ L) : Chg L a c :=
  ⟨k.os.trans h.os, k.tape.trans h.tape, k.output.trans h.output, Nat.le_trans h.size k.size, fun i hi hn =>
    (k.block i (Nat.lt_of_lt_of_le hi h.size) (fun hm => hn (hM i hm hi))).trans (h.block i hi hn)⟩
theorem Chg.trans {L : List Nat} {a b c : World} (h : Chg L a b) (k : Chg L b c) : Chg L a c := h.step k (fun _ hi _ => hi)
theorem Chg.mono {L M : List Nat} {a b : World} (h : Chg L a b) (hM : ∀ i ∈ L, i < a.heap.size → i ∈ M) : Chg M a b :=
  ⟨h.os, h.tape, h.output, h.size, fun i hi hn => h.block i hi (fun hl => hn (hM i hl hi))⟩
theorem Chg.drewN {L : List Nat} {a b : World} (h : Chg L a b) (n : Nat) : Chg L a (b.drewN n) := ⟨h.os, h.tape, h.output, h.size, h.block⟩
theorem Chg.drew {L : List Nat} {a b : World} (h : Chg L a b) : Chg L a b.drew := ⟨h.os, h.tape, h.output, h.size, h.block⟩
theorem Chg.alloc {L : List Nat} {a b : World} (h : Chg L a b) (o : Obj) : Chg L a (b.alloc o) :=
  ⟨h.os, h.tape, h.output, Nat.le_trans h.size (by simp), fun i hi hn => (Below.heap_alloc b o i (Nat.lt_of_lt_of_le hi h.size)).trans (h.block i hi hn)⟩
theorem Chg.setCell {L : List Nat} {a b : World} (h : Chg L a b) {p : Addr} (hp : p.block < a.heap.size → p.block ∈ L) (u : Value) : Chg L a (b.setCell p u) :=
  ⟨h.os, h.tape, h.output, by simpa [World.setCell] using h.size, fun i hi hn => (Below.heap_setCell b p u i (by rintro rfl; exact hn (hp hi))).trans (h.block i hi hn)⟩
theorem Chg.of_below {w w' : World} (h : Below w.heap.size w w') : Chg [] w w' := ⟨h.os, h.tape, h.output, h.size, fun i hi _ => h.block i hi⟩
theorem Chg.below {w w' : World} (h : Chg [] w w') : Below w.heap.size w w' := ⟨h.os, h.tape, h.output, h.size, fun i hi => h.block i hi (by simp)⟩
theorem Chg.heap {L : List Nat} {w w' : World} (h : Chg L w w') {i : Nat} {o : Obj} (hi : w.heap[i]? = some o) (hn : i ∉ L) : w'.heap[i]? = some o :=
  (h.block i (Array.getElem?_eq_some_iff.1 hi).1 hn).trans hi

theorem lt_of_heap {w : World} {b : Nat} {o : Obj} (h : w.heap[b]? = some o) : b < w.heap.size := (Array.getElem?_eq_some_iff.1 h).1
theorem cell_of_heap {w : World} {b : Nat} {cs : Array Value} {t : TypeId} {f : Nat × Nat} (h : w.heap[b]? = some (.cells cs t f)) (j : Nat) : w.cell? ⟨b, j, none⟩ = cs[j]? := by
  simp [World.cell?, h]
theorem frozen_of_heap {w : World} {b : Nat} {cs : Array Value} {t : TypeId} (h : w.heap[b]? = some (.cells cs t (0, 0))) (j : Nat) : w.frozen? ⟨b, j, none⟩ = false := by
  simp [World.frozen?, h]
theorem hp_set {w : World} {b : Nat} {cs : Array Value} {t : TypeId} {f : Nat × Nat} (h : w.heap[b]? = some (.cells cs t f)) (j : Nat) (v : Value) : (w.setCell ⟨b, j, none⟩ v).heap[b]? = some (.cells (cs.setIfInBounds j v) t f) := by
  simp only [World.setCell]
  rw [Array.getElem?_modify, if_pos rfl, h]
  simp
theorem hp_set_other {w : World} {b k : Nat} {o : Obj} (h : w.heap[k]? = some o) (hk : k ≠ b) (j : Nat) (v : Value) : (w.setCell ⟨b, j, none⟩ v).heap[k]? = some o :=
  (Below.heap_setCell w ⟨b, j, none⟩ v k hk).trans h
theorem hp_drewN {w : World} {k : Nat} {o : Obj} (h : w.heap[k]? = some o) (n : Nat) : (w.drewN n).heap[k]? = some o := h
theorem hp_drew {w : World} {k : Nat} {o : Obj} (h : w.heap[k]? = some o) : w.drew.heap[k]? = some o := h
theorem hp_alloc {w : World} {k : Nat} {o : Obj} (h : w.heap[k]? = some o) (u : Obj) : (w.alloc u).heap[k]? = some o := (Below.heap_alloc w u k (lt_of_heap h)).trans h
theorem hp_new (w : World) (o : Obj) : (w.alloc o).heap[w.heap.size]? = some o := by
  show (w.heap.push o)[w.heap.size]? = some o
  simp
/-- A callee that only draws, inside a region that draws: its answer's value known. -/
theorem quiet_v {P : Program} {f : FuncId} {args : Array Value} {w : World} {n : Nat} {u v : Bool}
    (h : Calls P f args (w.drewN n) fun e w' => e = .returned (.bool u) ∧ ∃ m, w' = (w.drewN n).drewN m) (e : u = v) : Calls P f args (w.drewN n) fun e w'' => e = .returned (.bool v) ∧ ∃ m, w'' = w.drewN m :=
  h.mono fun _ _ ⟨he, m, hm⟩ => ⟨by rw [he, e], n + m, by rw [hm, World.drewN_drewN]⟩
theorem quiet_same_v {P : Program} {f : FuncId} {args : Array Value} {w : World} {n : Nat} {u v : Bool}
    (h : Calls P f args (w.drewN n) fun e w' => e = .returned (.bool u) ∧ w' = w.drewN n) (e : u = v) : Calls P f args (w.drewN n) fun e w'' => e = .returned (.bool v) ∧ ∃ m, w'' = w.drewN m :=
  h.mono fun _ _ ⟨he, hm⟩ => ⟨by rw [he, e], n, hm⟩
theorem w64 {x : Int} (h : -9223372036854775808 ≤ x) (h1 : x ≤ 9223372036854775807) : IntKind.i64.wrap x = x := IntWalk.i64_in x ⟨h, h1⟩
/-- A callee that only draws, inside a region that has drawn. -/
theorem quiet_call {P : Program} {f : FuncId} {args : Array Value} {w : World} {a n : Nat} {v : Value}
    (h : Calls P f args (w.drewN (a + n)) fun e w' => e = .returned v ∧ ∃ m, w' = (w.drewN (a + n)).drewN m) : Calls P f args (w.drewN (a + n)) fun e w'' => e = .returned v ∧ ∃ m, w'' = w.drewN (a + m) :=
  h.mono fun _ _ ⟨he, m, hm⟩ => ⟨he, n + m, by rw [hm, World.drewN_drewN, Nat.add_assoc]⟩
end Go.Proofs.YthojofeocjmglaaGreatDoor.B
/- errors.As at the target *Errno, by its own text: a nil error; an Errno. Turned from the kit's worked text ToyasAs.lean to this seat. -/
namespace Go.Proofs.YthojofeocjmglaaGreatDoor.I
open Go.RowKit Go.Extern.Stop Go.Stop Go.Extern

/-- errors.As(nil, target). -/
theorem as_nil (t : Value) (w : World) :
    Calls Tryz.prog 43 #[.nilIface, t] w fun e w' => e = .returned (.bool false) ∧ w' = w := by
  go_enter Tryz.func43, Tryz.ntmps43
  go_wp2
  go_ret
  exact ⟨rfl, rfl⟩


theorem As.valueOf27 (t : Addr) (w : World) : (ReflectliteValue.unpack (.iface 90 (.pointer (some t)))).run Tryz.prog w
    = .ok (.agg #[.pointer (some ⟨4, 90, none⟩), .pointer (some ⟨w.heap.size, 0, none⟩), .int .u64 150]) (w.alloc (.cells #[.pointer (some t)] 90)) := by kernel_rfl
theorem As.type27 (a : Addr) (w : World) : (ReflectliteValue.methodAny (ReflectliteValue.valueError "reflectlite.Value.Type" 0) (fun t _ _ _ => ReflectliteType.toType t) #[.agg #[.pointer (some ⟨4, 90, none⟩), .pointer (some a), .int .u64 150]]).run Tryz.prog w
    = .ok (.iface 170 (.agg #[.pointer (some ⟨4, 90, none⟩)])) w := by kernel_rfl
theorem As.methodKind (h : Value) (w : World) : (Go.method 372 170 (.agg #[h]) "Kind").run Tryz.prog w = .ok (208, h) w := by kernel_rfl
theorem As.kind27 (w : World) : ((ReflectliteType.abiMethod fun t => (fun a : Nat => Value.int IntKind.u8 (a : Int)) <$> Rtype.kind t) #[.pointer (some ⟨4, 90, none⟩)]).run Tryz.prog w = .ok (.int .u8 22) w := by kernel_rfl
theorem As.kind25 (w : World) : ((ReflectliteType.abiMethod fun t => (fun a : Nat => Value.int IntKind.u8 (a : Int)) <$> Rtype.kind t) #[.pointer (some ⟨4, 88, none⟩)]).run Tryz.prog w = .ok (.int .u8 2) w := by kernel_rfl

/-! ### THE ENTRIES THAT READ OR WRITE MEMORY: laws with a premise on the cell (after Derived/Lib/ReflectliteSlice.lean's manner: each unfolding a lemma of its own, by rfl) -/
theorem rlm (z : Sem Value) (f : TypeId → Addr → Nat → Nat → Sem Value) (v : Value) :
    ReflectliteValue.method z f #[v] = (do match ← ReflectliteValue.parts v with | none => z | some (t, a, fl) => f t a fl (fl % 32)) := rfl
theorem As.parts27 (a : Addr) (w : World) : (ReflectliteValue.parts (.agg #[.pointer (some ⟨4, 90, none⟩), .pointer (some a), .int .u64 150])).run Tryz.prog w = .ok (some (90, a, 150)) w := by kernel_rfl
/-- (Value).IsNil at the Value of a **p.E that is not nil. -/
theorem As.isNil27 (a p : Addr) (W : World) (ha : W.cell? a = some (.pointer (some p))) :
    (ReflectliteValue.method (ReflectliteValue.valueError "reflectlite.Value.IsNil" 0) ReflectliteValue.isNil #[.agg #[.pointer (some ⟨4, 90, none⟩), .pointer (some a), .int .u64 150]]).run Tryz.prog W = .ok (.bool false) W := by
  rw [rlm]
  simp only [Sem.run_bind, As.parts27, Result.andThen]
  simp [ReflectliteValue.isNil, loadVar, isAgg, underlying, Tryz.underlying90, ha, Result.andThen]

theorem As.methodElem (h : Value) (w : World) : (Go.method 372 170 (.agg #[h]) "Elem").run Tryz.prog w = .ok (218, .agg #[h]) w := by kernel_rfl
theorem As.methodImplements (h : Value) (w : World) : (Go.method 372 170 (.agg #[h]) "Implements").run Tryz.prog w = .ok (219, .agg #[h]) w := by kernel_rfl
theorem As.methodAssignableTo (h : Value) (w : World) : (Go.method 372 170 (.agg #[h]) "AssignableTo").run Tryz.prog w = .ok (216, .agg #[h]) w := by kernel_rfl
theorem As.elem27 (w : World) : (ReflectliteType.method ReflectliteType.elem #[.agg #[.pointer (some ⟨4, 90, none⟩)]]).run Tryz.prog w = .ok (.iface 170 (.agg #[.pointer (some ⟨4, 88, none⟩)])) w := by kernel_rfl
theorem As.implements25 (w : World) : (ReflectliteType.relation "Implements" ReflectliteType.implements_ #[.agg #[.pointer (some ⟨4, 88, none⟩)], .iface 170 (.agg #[.pointer (some ⟨4, 27, none⟩)])]).run Tryz.prog w = .ok (.bool true) w := by kernel_rfl
theorem As.typeOf25 (v : Value) (w : World) : (ReflectliteType.typeOf #[.iface 88 v]).run Tryz.prog w = .ok (.iface 170 (.agg #[.pointer (some ⟨4, 88, none⟩)])) w := by kernel_rfl
theorem As.assignable25 (w : World) : (ReflectliteType.relation "AssignableTo" ReflectliteType.assignableTo #[.agg #[.pointer (some ⟨4, 88, none⟩)], .iface 170 (.agg #[.pointer (some ⟨4, 88, none⟩)])]).run Tryz.prog w = .ok (.bool true) w := by kernel_rfl
theorem As.valueOf25 (e : Int) (w : World) : (ReflectliteValue.unpack (.iface 88 (.int .i64 e))).run Tryz.prog w
    = .ok (.agg #[.pointer (some ⟨4, 88, none⟩), .pointer (some ⟨w.heap.size, 0, none⟩), .int .u64 130]) (w.alloc (.cells #[.int .i64 e] 88)) := by kernel_rfl

theorem As.elemOf27 (w : World) : (Rtype.elem? 90).run Tryz.prog w = .ok (some 88) w := by kernel_rfl
theorem As.mk25 (p : Addr) (w : World) : (ReflectliteValue.mk 88 p ReflectliteValue.flagAddr).run Tryz.prog w = .ok (.agg #[.pointer (some ⟨4, 88, none⟩), .pointer (some p), .int .u64 386]) w := by kernel_rfl
/-- (Value).Elem at the Value of a **p.E that is not nil: the Value of the *p.E variable that it points to, addressable. -/
theorem As.elemV27 (a p : Addr) (W : World) (ha : W.cell? a = some (.pointer (some p))) :
    (ReflectliteValue.method (ReflectliteValue.valueError "reflectlite.Value.Elem" 0) ReflectliteValue.elem #[.agg #[.pointer (some ⟨4, 90, none⟩), .pointer (some a), .int .u64 150]]).run Tryz.prog W
      = .ok (.agg #[.pointer (some ⟨4, 88, none⟩), .pointer (some p), .int .u64 386]) W := by
  rw [rlm]
  simp only [Sem.run_bind, As.parts27, Result.andThen]
  simp [ReflectliteValue.elem, loadVar, isAgg, underlying, Tryz.underlying90, ha, Result.andThen, As.elemOf27, As.mk25]
theorem rls (v x : Value) : ReflectliteValue.set #[v, x] = (do
    let (some (dst, a, fl), some (src, b, _)) := (← ReflectliteValue.parts v, ← ReflectliteValue.parts x)
      | unsupported (.noEntry "extern/(internal/reflectlite.Value).Set.zeroValue")
    if fl / ReflectliteValue.flagAddr % 2 == 0 then unsupported (.noEntry "extern/(internal/reflectlite.Value).Set.unaddressable")
    let val ← loadVar src b
    if ← Rtype.directlyAssignable dst src then storeVar dst a val
    else if ← Rtype.implements dst src then
      if (← Rtype.kind src) == 20 then
        match val with
        | .nilIface => unsupported (.noEntry "extern/reflectlite: a nil value of one interface type handed on as a value of another")
        | _ => storeVar dst a val
      else storeVar dst a (.iface src val)
    else panicString ("reflectlite.Set: value of type " ++ (← Rtype.spelt src) ++ " is not assignable to type " ++ (← Rtype.spelt dst))
    pure (.tuple #[])) := rfl
theorem As.parts25a (a : Addr) (w : World) : (ReflectliteValue.parts (.agg #[.pointer (some ⟨4, 88, none⟩), .pointer (some a), .int .u64 386])).run Tryz.prog w = .ok (some (88, a, 386)) w := by kernel_rfl
theorem As.parts25 (a : Addr) (w : World) : (ReflectliteValue.parts (.agg #[.pointer (some ⟨4, 88, none⟩), .pointer (some a), .int .u64 130])).run Tryz.prog w = .ok (some (88, a, 130)) w := by kernel_rfl
theorem As.direct25 (w : World) : (Rtype.directlyAssignable 88 88).run Tryz.prog w = .ok true w := by kernel_rfl
theorem As.size25 (w : World) : (sizeOf 88).run Tryz.prog w = .ok 1 w := by kernel_rfl
/-- (Value).Set: the *p.E variable at 'ta' gets what the Value's own variable 'b' holds. -/
theorem As.set25 (ta b : Addr) (e : Int) (old : Value) (W : World) (hb : W.cell? b = some (.int .i64 e)) (ht : W.cell? ta = some old) (hf : W.frozen? ta = false) :
    (ReflectliteValue.set #[.agg #[.pointer (some ⟨4, 88, none⟩), .pointer (some ta), .int .u64 386], .agg #[.pointer (some ⟨4, 88, none⟩), .pointer (some b), .int .u64 130]]).run Tryz.prog W
      = .ok (.tuple #[]) (W.setCell ta (.int .i64 e)) := by
  rw [rls]
  simp only [Sem.run_bind, As.parts25a, As.parts25, Result.andThen]
  simp [ReflectliteValue.flagAddr, loadVar, isAgg, underlying, Tryz.underlying88, hb, Result.andThen, As.direct25, storeVar, Value.cells, storeCells, Addr.add]
  rw [run_store Tryz.prog W ta _ _ (by rfl)]
  simp [ht, hf]

set_option maxHeartbeats 4000000 in
theorem as_hit (e : Int) (t : Addr) (old : Value) (w : World) (hg : w.cell? ⟨0, 0, none⟩ = some (.iface 170 (.agg #[.pointer (some ⟨4, 27, none⟩)]))) (ht0 : w.cell? t = some old) (hf0 : w.frozen? t = false) :
    Calls Tryz.prog 43 #[.iface 88 (.int .i64 e), .iface 90 (.pointer (some t))] w fun ev w' => ev = .returned (.bool true) ∧ w' = ((((w.alloc (.cells #[.pointer (some t)] 90)).alloc (.cells #[.pointer (some ⟨4, 90, none⟩), .pointer (some ⟨w.heap.size, 0, none⟩), .int .u64 150] 137)).alloc (.cells #[.pointer (some ⟨4, 90, none⟩), .pointer (some ⟨w.heap.size, 0, none⟩), .int .u64 150] 137)).alloc (.cells #[.int .i64 e] 88)).setCell t (.int .i64 e) := by
  have h6 := @run_callFunc_extern Tryz.prog 83 _ (fun args => ReflectliteValue.unpack (args.getD 0 (.tuple #[]))) Tryz.func83 (by kernel_rfl) (by kernel_rfl) (by kernel_rfl) (by kernel_rfl)
  have h7 := @run_callFunc_extern Tryz.prog 84 _ (ReflectliteValue.methodAny (ReflectliteValue.valueError "reflectlite.Value.Type" 0) (fun t _ _ _ => ReflectliteType.toType t)) Tryz.func84 (by kernel_rfl) (by kernel_rfl) (by kernel_rfl) (by kernel_rfl)
  have h8 := @run_callFunc_extern Tryz.prog 85 _ (ReflectliteValue.method (ReflectliteValue.valueError "reflectlite.Value.IsNil" 0) ReflectliteValue.isNil) Tryz.func85 (by kernel_rfl) (by kernel_rfl) (by kernel_rfl) (by kernel_rfl)
  have h27 := @run_callFunc_extern Tryz.prog 208 _ (ReflectliteType.abiMethod fun t => do pure (.int .u8 (← Rtype.kind t))) Tryz.func208 (by kernel_rfl) (by kernel_rfl) (by kernel_rfl) (by kernel_rfl)
  have h37 := @run_callFunc_extern Tryz.prog 218 _ (ReflectliteType.method ReflectliteType.elem) Tryz.func218 (by kernel_rfl) (by kernel_rfl) (by kernel_rfl) (by kernel_rfl)
  have h38 := @run_callFunc_extern Tryz.prog 219 _ (ReflectliteType.relation "Implements" ReflectliteType.implements_) Tryz.func219 (by kernel_rfl) (by kernel_rfl) (by kernel_rfl) (by kernel_rfl)
  have h10 := @run_callFunc_extern Tryz.prog 118 _ ReflectliteType.typeOf Tryz.func118 (by kernel_rfl) (by kernel_rfl) (by kernel_rfl) (by kernel_rfl)
  have h35 := @run_callFunc_extern Tryz.prog 216 _ (ReflectliteType.relation "AssignableTo" ReflectliteType.assignableTo) Tryz.func216 (by kernel_rfl) (by kernel_rfl) (by kernel_rfl) (by kernel_rfl)
  have h11 := @run_callFunc_extern Tryz.prog 119 _ (ReflectliteValue.method (ReflectliteValue.valueError "reflectlite.Value.Elem" 0) ReflectliteValue.elem) Tryz.func119 (by kernel_rfl) (by kernel_rfl) (by kernel_rfl) (by kernel_rfl)
  have h12 := @run_callFunc_extern Tryz.prog 120 _ ReflectliteValue.set Tryz.func120 (by kernel_rfl) (by kernel_rfl) (by kernel_rfl) (by kernel_rfl)
  have tO := As.typeOf25
  have mA := As.methodAssignableTo
  have a25 := As.assignable25
  have v25 := As.valueOf25
  have f6 := As.valueOf27
  have f7 := As.type27
  have mK := As.methodKind
  have mE := As.methodElem
  have mI := As.methodImplements
  have k27 := As.kind27
  have k25 := As.kind25
  have e27 := As.elem27
  have i25 := As.implements25
  have n8 := As.isNil27 ⟨w.heap.size, 0, none⟩ t ((w.alloc (.cells #[.pointer (some t)] 90)).alloc (.cells #[.pointer (some ⟨4, 90, none⟩), .pointer (some ⟨w.heap.size, 0, none⟩), .int .u64 150] 137)) (by simp)
  have hlt : 0 < w.heap.size := by
    rcases Nat.eq_zero_or_pos w.heap.size with h0 | h
    · simp [World.cell?, h0] at hg
    · exact h
  have hg2 : ((w.alloc (.cells #[.pointer (some t)] 90)).alloc (.cells #[.pointer (some ⟨4, 90, none⟩), .pointer (some ⟨w.heap.size, 0, none⟩), .int .u64 150] 137)).cell? ⟨0, 0, none⟩ = some (.iface 170 (.agg #[.pointer (some ⟨4, 27, none⟩)])) := by
    rw [World.cell?_alloc_lt _ _ ⟨0, 0, none⟩ (by simp), World.cell?_alloc_lt _ _ ⟨0, 0, none⟩ hlt]; exact hg
  have htl : t.block < w.heap.size := by
    rcases Nat.lt_or_ge t.block w.heap.size with h | h
    · exact h
    · simp [World.cell?, Array.getElem?_eq_none h] at ht0
  have el := As.elemV27 ⟨w.heap.size, 0, none⟩ t (((w.alloc (.cells #[.pointer (some t)] 90)).alloc (.cells #[.pointer (some ⟨4, 90, none⟩), .pointer (some ⟨w.heap.size, 0, none⟩), .int .u64 150] 137)).alloc (.cells #[.pointer (some ⟨4, 90, none⟩), .pointer (some ⟨w.heap.size, 0, none⟩), .int .u64 150] 137)) (by rw [World.cell?_alloc_lt _ _ ⟨w.heap.size, 0, none⟩ (by simp; omega)]; simp)
  have st := As.set25 t ⟨w.heap.size + 1 + 1 + 1, 0, none⟩ e old ((((w.alloc (.cells #[.pointer (some t)] 90)).alloc (.cells #[.pointer (some ⟨4, 90, none⟩), .pointer (some ⟨w.heap.size, 0, none⟩), .int .u64 150] 137)).alloc (.cells #[.pointer (some ⟨4, 90, none⟩), .pointer (some ⟨w.heap.size, 0, none⟩), .int .u64 150] 137)).alloc (.cells #[.int .i64 e] 88))
    (by rw [World.cell?_alloc_at _ _ _ _ (by simp)]; rfl)
    (by rw [World.cell?_alloc_lt _ _ t (by simp; omega), World.cell?_alloc_lt _ _ t (by simp; omega), World.cell?_alloc_lt _ _ t (by simp; omega), World.cell?_alloc_lt _ _ t htl]; exact ht0)
    (by rw [World.frozen?_alloc_old _ _ t (by simp; omega), World.frozen?_alloc_old _ _ t (by simp; omega), World.frozen?_alloc_old _ _ t (by simp; omega), World.frozen?_alloc_old _ _ t (Nat.ne_of_lt htl)]; exact hf0)
  go_enter Tryz.func43, Tryz.ntmps43
  go_wp2
  refine wp_loop_rounds 1 ?_
  rw [rounds_succ]
  go_wp2
  go_ret
  exact ⟨rfl, rfl⟩
end Go.Proofs.YthojofeocjmglaaGreatDoor.I
/- The number of an error: nil, an Errno. -/
namespace Go.Proofs.YthojofeocjmglaaGreatDoor.I
open Go.RowKit Go.Proofs.YthojofeocjmglaaGreatDoor.B
set_option linter.unusedVariables false
/-- errors.errorType as the program's start lays it. -/
def ErrType (w : World) : Prop := w.cell? ⟨0, 0, none⟩ = some (.iface 170 (.agg #[.pointer (some ⟨4, 27, none⟩)]))
theorem ErrType.chg {w w' : World} (h : ErrType w) (hc : Chg [] w w') : ErrType w' := (hc.below.cell (p := ⟨0, 0, none⟩) (World.block_lt_of_cell? w _ h)).trans h
theorem num_nil (w : World) : Calls Tryz.prog 21 #[.nilIface] w fun e w' => e = .returned (.int .i64 0) ∧ Chg [] w w' := by
  go_enter Tryz.func21, Tryz.ntmps21
  go_wp2
  go_ret
  exact ⟨rfl, (Chg.refl _ _).alloc _⟩
set_option maxHeartbeats 2000000 in
theorem num_errno (n : Int) (w : World) (hg : ErrType w) : Calls Tryz.prog 21 #[.iface 88 (.int .i64 n)] w fun e w' => e = .returned (.int .i64 n) ∧ Chg [] w w' := by
  have hlt : 0 < w.heap.size := World.block_lt_of_cell? w _ hg
  have hg1 := Asd.mk (show (w.alloc (.cells #[.int .i64 0] 88)).cell? ⟨0, 0, none⟩ = some (.iface 170 (.agg #[.pointer (some ⟨4, 27, none⟩)])) by rw [World.cell?_alloc_lt _ _ ⟨0, 0, none⟩ hlt]; exact hg)
  have ht1 := Asd.mk (show (w.alloc (.cells #[.int .i64 0] 88)).cell? ⟨w.heap.size, 0, none⟩ = some (.int .i64 0) by rw [World.cell?_alloc_at _ _ _ _ rfl]; rfl)
  have hf1 := Asd.mk (show (w.alloc (.cells #[.int .i64 0] 88)).frozen? ⟨w.heap.size, 0, none⟩ = false by rw [World.frozen?_alloc_at _ _ _ _ rfl])
  clear hg
  go_enter Tryz.func21, Tryz.ntmps21
  go_wp2_with fail
  refine (as_hit n ⟨w.heap.size, 0, none⟩ (.int .i64 0) _ hg1.out ht1.out hf1.out).mono ?_
  rintro e w' ⟨rfl, rfl⟩
  go_wp2
  go_ret
  exact ⟨rfl, (((((Chg.refl _ _).alloc _).alloc _).alloc _).alloc _).alloc _⟩
end Go.Proofs.YthojofeocjmglaaGreatDoor.I
/- More words on worlds: a whole row that is stored; a result that is a row and a flag. -/
namespace Go.Proofs.YthojofeocjmglaaGreatDoor.B
open Go.RowKit
theorem hp_setRow_other {w : World} {k g : Nat} {cs : Array Value} (h : k ≠ g) : (w.setRow g cs).heap[k]? = w.heap[k]? := by
  simp only [World.setRow]
  rw [Array.getElem?_modify, if_neg (fun e => h e.symm)]
theorem Chg.setRow {L : List Nat} {a b : World} (h : Chg L a b) {g : Nat} (hp : g < a.heap.size → g ∈ L) (cs : Array Value) : Chg L a (b.setRow g cs) :=
  ⟨h.os, h.tape, h.output, by simpa [World.setRow] using h.size, fun i hi hn => (hp_setRow_other (by rintro rfl; exact hn (hp hi))).trans (h.block i hi hn)⟩
theorem results_row_tmp {P : Program} {fn : Func} {p u : Tmp} {ty : TypeId} (h : fn.results = #[.cell p ty, .tmp u]) (tmps : Array Value) (w : World) (g : Nat) (t : TypeId) (cs : Array Value) (fr : Nat × Nat) (d : TypeDesc)
    (hp : tmps.getD p undef = .pointer (some ⟨g, 0, none⟩)) (hg : w.heap[g]? = some (.cells cs t fr))
    (hu : P.underlying ty = some d) (hd : (match d with | .struct _ | .array _ _ => true | _ => false) = true) (hi : (P.info? ty).map (·.size) = some cs.size) :
    (results fn tmps).run P w = .ok (.tuple #[.agg cs, tmps.getD u undef]) w := by
  have hp' : tmps[p]?.getD undef = .pointer (some ⟨g, 0, none⟩) := by simpa using hp
  simp [results, h, hp', asAddr, run_loadVar_row w g t ty cs fr d hg hu hd hi]
end Go.Proofs.YthojofeocjmglaaGreatDoor.B
/- Maps of a string's key whose elements are pointers: what a look-up, a store at a new key, a delete run to; the frame. No program in sight. -/
namespace Go.Proofs.YthojofeocjmglaaGreatDoor.B
open Go.RowKit
open Go.ChangeMaps (setBlock)
open Go.MapKept (bytes_beq heap_set)
set_option linter.unusedVariables false
/-- A name: its bytes. -/
abbrev Nm := List UInt8
def nb (n : Nm) : ByteArray := ⟨n.toArray⟩
theorem nb_list (s : ByteArray) : nb s.data.toList = s := by
  apply ByteArray.ext
  simp [nb]
theorem list_nb (n : Nm) : (nb n).data.toList = n := by simp [nb]
theorem nb_inj {a b : Nm} (h : nb a = nb b) : a = b := by rw [← list_nb a, h, list_nb]
theorem nb_size (n : Nm) : (nb n).size = n.length := by show n.toArray.size = _; simp
/-- A map's entries, as names and elements, in the order in which they were laid. -/
structure MKids (es : Array MapEntry) (clock : Nat) (K : List (Nm × Value)) : Prop where
  ents : es.toList.map (fun e => (e.key, e.val)) = K.map fun x => (Value.string (nb x.1), x.2)
  keys : (K.map (·.1)).Nodup
  older : ∀ e ∈ es.toList, e.born < clock
  born : (es.toList.map (·.born)).Nodup
theorem kids_nil (clock : Nat) : MKids #[] clock [] := ⟨rfl, by simp, by simp, by simp⟩
def findK (s : Nm) : List (Nm × Value) → Nat → Option (Nat × Value)
  | [], _ => none
  | (n, v) :: r, i => if n = s then some (i, v) else findK s r (i + 1)
theorem same_name (a : ByteArray) (n : Nm) : Instr.sameNow .string (.string a) (.string (nb n)) = some (decide (n = a.data.toList)) := by
  show some (a == nb n) = _
  congr 1
  apply Bool.eq_iff_iff.2
  rw [bytes_beq, decide_eq_true_eq]
  constructor
  · rintro rfl; rw [list_nb]
  · rintro rfl; rw [nb_list]
theorem findNow_kids (s : ByteArray) : ∀ (l : List MapEntry) (K : List (Nm × Value)) (i : Nat), l.map (fun e => (e.key, e.val)) = K.map (fun x => (Value.string (nb x.1), x.2)) → Instr.findNow .string (.string s) l i = some (findK s.data.toList K i)
  | [], [], i, _ => rfl
  | [], _ :: _, i, h => by simp at h
  | _ :: _, [], i, h => by simp at h
  | e :: l, (n, v) :: K, i, h => by
    simp only [List.map_cons, List.cons.injEq, Prod.mk.injEq] at h
    obtain ⟨⟨h1, h2⟩, h3⟩ := h
    simp only [Instr.findNow, findK]
    rw [h1, same_name]
    by_cases hn : n = s.data.toList
    · rw [if_pos hn, decide_eq_true hn]
      simp only
      rw [h2]
    · rw [if_neg hn, decide_eq_false hn]
      exact findNow_kids s l K (i + 1) h3
theorem findK_some {s : Nm} : ∀ {K : List (Nm × Value)} {i j : Nat} {v : Value}, findK s K i = some (j, v) → ∃ k, j = i + k ∧ K[k]? = some (s, v)
  | [], i, j, v, h => by simp [findK] at h
  | (n, u) :: K, i, j, v, h => by
    simp only [findK] at h
    by_cases hn : n = s
    · rw [if_pos hn] at h
      simp only [Option.some.injEq, Prod.mk.injEq] at h
      exact ⟨0, by omega, by simp [hn, h.2]⟩
    · rw [if_neg hn] at h
      obtain ⟨k, h1, h2⟩ := findK_some h
      exact ⟨k + 1, by omega, by simpa using h2⟩
theorem findK_look (s : Nm) : ∀ (K : List (Nm × Value)) (i : Nat), (findK s K i).map (·.2) = K.lookup s
  | [], i => rfl
  | (n, u) :: K, i => by
    simp only [findK, List.lookup_cons]
    by_cases hn : n = s
    · rw [if_pos hn, hn]; simp
    · rw [if_neg hn, findK_look s K (i + 1)]
      have : (s == n) = false := by simp; exact fun e => hn e.symm
      rw [this]
theorem findK_none {s : Nm} {K : List (Nm × Value)} {i : Nat} (h : K.lookup s = none) : findK s K i = none := by
  have := findK_look s K i
  rw [h] at this
  cases hf : findK s K i with
  | none => rfl
  | some x => rw [hf] at this; cases this
theorem look_mem {s : Nm} {v : Value} : ∀ {K : List (Nm × Value)}, K.lookup s = some v → (s, v) ∈ K
  | [], h => by simp at h
  | (n, u) :: K, h => by
    rw [List.lookup_cons] at h
    by_cases hn : s = n
    · subst hn
      simp at h
      simp [h]
    · have : (s == n) = false := by simp [hn]
      rw [this] at h
      exact List.mem_cons_of_mem _ (look_mem h)
theorem mem_look {s : Nm} {v : Value} : ∀ {K : List (Nm × Value)}, (K.map (·.1)).Nodup → (s, v) ∈ K → K.lookup s = some v
  | [], _, h => by cases h
  | (n, u) :: K, hd, h => by
    simp only [List.map_cons, List.nodup_cons] at hd
    rw [List.lookup_cons]
    rcases List.mem_cons.1 h with h2 | h2
    · simp only [Prod.mk.injEq] at h2
      rw [h2.1, h2.2]; simp
    · have : (s == n) = false := by
        simp only [beq_eq_false_iff_ne]
        rintro rfl
        exact hd.1 (List.mem_map.2 ⟨(s, v), h2, rfl⟩)
      rw [this]
      exact mem_look hd.2 h2
theorem look_none {s : Nm} : ∀ {K : List (Nm × Value)}, K.lookup s = none ↔ ∀ v, (s, v) ∉ K
  | [] => by simp
  | (n, u) :: K => by
    rw [List.lookup_cons]
    by_cases hn : s = n
    · subst hn
      simp only [beq_self_eq_true, reduceCtorEq, false_iff]
      exact fun h => h u (by simp)
    · have : (s == n) = false := by simp [hn]
      rw [this]
      simp only
      rw [look_none (K := K)]
      simp [hn]
variable {P : Program}
/-- 'm[k]' at a map that is there. -/
theorem run_look {w : World} {t kt et : TypeId} {b clock : Nat} {es : Array MapEntry} {K : List (Nm × Value)} (ht : P.underlying t = some (.map kt et)) (hk : P.underlying kt = some .string)
    (hz : (zeroValue et).run P w = .ok (.pointer none) w) (hb : w.heap[b]? = some (.map es clock)) (hK : MKids es clock K) (s : ByteArray) :
    (Instr.lookup t (.map (some b)) (.string s) false).run P w = .ok ((K.lookup s.data.toList).getD (.pointer none)) w := by
  have hf := MapKept.run_findKey (P := P) (w := w) hk (findNow_kids s es.toList K 0 hK.ents)
  have hl := findK_look s.data.toList K 0
  simp only [Instr.lookup, Sem.run_bind, Sem.run_pure, run_underlying ht, MapKept.run_getObj_map (P := P) hb, Result.andThen, MapKept.run_checkKey (P := P) hk (k := .string s) trivial, hf]
  cases hx : findK s.data.toList K 0 with
  | none =>
    rw [hx] at hl
    simp only [Option.map_none] at hl
    rw [← hl]
    simp only [Sem.run_bind, Sem.run_pure, hz, Result.andThen]
    rfl
  | some x =>
    obtain ⟨j, v⟩ := x
    rw [hx] at hl
    simp only [Option.map_some] at hl
    rw [← hl]
    rfl
/-- 'm[k]' at a nil map. -/
theorem run_look_nil {w : World} {t kt et : TypeId} (ht : P.underlying t = some (.map kt et)) (hk : P.underlying kt = some .string)
    (hz : (zeroValue et).run P w = .ok (.pointer none) w) (s : ByteArray) : (Instr.lookup t (.map none) (.string s) false).run P w = .ok (.pointer none) w := by
  have hf := MapKept.run_findKey (P := P) (w := w) (l := []) (k := .string s) (a := none) hk rfl
  simp only [Instr.lookup, Sem.run_bind, run_underlying ht, Result.andThen, MapKept.run_checkKey (P := P) hk (k := .string s) trivial, hf, hz, Sem.run_pure]
  rfl
/-- 'm[k] = v' at a key that is not there. -/
theorem run_upd {w : World} {t kt et : TypeId} {b clock : Nat} {es : Array MapEntry} {K : List (Nm × Value)} (ht : P.underlying t = some (.map kt et)) (hk : P.underlying kt = some .string)
    (hb : w.heap[b]? = some (.map es clock)) (hK : MKids es clock K) (s : ByteArray) (v : Value) (hn : K.lookup s.data.toList = none) :
    (Instr.mapUpdate t (.map (some b)) (.string s) v).run P w = .ok () (setBlock w b (.map (es.push ⟨.string s, v, clock⟩) (clock + 1))) ∧ MKids (es.push ⟨.string s, v, clock⟩) (clock + 1) (K ++ [(s.data.toList, v)]) := by
  have hf := MapKept.run_findKey (P := P) (w := w) hk (findNow_kids s es.toList K 0 hK.ents)
  rw [findK_none hn] at hf
  refine ⟨?_, ?_, ?_, ?_, ?_⟩
  · simp only [Instr.mapUpdate, Sem.run_bind, run_underlying ht, MapKept.run_getObj_map (P := P) hb, Result.andThen, MapKept.run_checkKey (P := P) hk (k := .string s) trivial, hf, MapKept.run_setObj_map (P := P) _ hb]
    rfl
  · rw [Array.toList_push, List.map_append, List.map_append, hK.ents]
    simp [nb_list]
  · rw [List.map_append, List.nodup_append]
    refine ⟨hK.keys, by simp, ?_⟩
    intro a ha b hb e
    simp only [List.map_cons, List.map_nil, List.mem_cons, List.mem_nil_iff, or_false] at hb
    rw [e, hb] at ha
    obtain ⟨x, hx, hxe⟩ := List.mem_map.1 ha
    exact look_none.1 hn x.2 (by rw [← hxe]; exact hx)
  · intro e he
    rw [Array.toList_push, List.mem_append] at he
    rcases he with he | he
    · have := hK.older e he; omega
    · simp at he; rw [he]; simp
  · rw [Array.toList_push, List.map_append, List.nodup_append]
    refine ⟨hK.born, by simp, ?_⟩
    intro a ha b hb e
    obtain ⟨x, hx, hxe⟩ := List.mem_map.1 ha
    simp at hb
    have := hK.older x hx
    omega
theorem map_eraseIdx {α β : Type} (f : α → β) : ∀ (l : List α) (j : Nat), (l.eraseIdx j).map f = (l.map f).eraseIdx j
  | [], j => by simp
  | x :: l, 0 => by simp
  | x :: l, j + 1 => by
    simp only [List.eraseIdx_cons_succ, List.map_cons]
    rw [map_eraseIdx f l j]
theorem eraseIdx_filter {s : Nm} {v : Value} : ∀ {K : List (Nm × Value)} {j : Nat}, (K.map (·.1)).Nodup → K[j]? = some (s, v) → K.eraseIdx j = K.filter (fun x => decide (x.1 ≠ s))
  | [], j, _, h => by simp at h
  | (n, u) :: K, 0, hd, h => by
    simp only [List.getElem?_cons_zero, Option.some.injEq, Prod.mk.injEq] at h
    simp only [List.map_cons, List.nodup_cons] at hd
    rw [List.eraseIdx_cons_zero, List.filter_cons_of_neg (by simp [h.1])]
    rw [List.filter_eq_self.2]
    intro x hx
    simp only [decide_eq_true_eq]
    rintro e
    exact hd.1 (List.mem_map.2 ⟨x, hx, by rw [e, h.1]⟩)
  | (n, u) :: K, j + 1, hd, h => by
    simp only [List.map_cons, List.nodup_cons] at hd
    rw [List.getElem?_cons_succ] at h
    rw [List.eraseIdx_cons_succ, eraseIdx_filter hd.2 h, List.filter_cons_of_pos]
    simp only [decide_eq_true_eq]
    rintro rfl
    exact hd.1 (List.mem_map.2 ⟨_, List.mem_of_getElem? h, rfl⟩)
/-- 'delete(m, k)' at a key that is there. -/
theorem run_del {w : World} {t k2 kt et ty : TypeId} {b clock : Nat} {es : Array MapEntry} {K : List (Nm × Value)} (ht : P.underlying t = some (.map kt et)) (hk : P.underlying kt = some .string)
    (hb : w.heap[b]? = some (.map es clock)) (hK : MKids es clock K) (s : ByteArray) (v : Value) (hn : K.lookup s.data.toList = some v) :
    ∃ es', (Builtin.delete_ #[t, k2] ty #[.map (some b), .string s]).run P w = .ok (.tuple #[]) (setBlock w b (.map es' clock)) ∧ MKids es' clock (K.filter fun x => decide (x.1 ≠ s.data.toList)) := by
  have hf := MapKept.run_findKey (P := P) (w := w) hk (findNow_kids s es.toList K 0 hK.ents)
  have hl := findK_look s.data.toList K 0
  rw [hn] at hl
  cases hx : findK s.data.toList K 0 with
  | none => rw [hx] at hl; cases hl
  | some x =>
    obtain ⟨j0, u⟩ := x
    rw [hx] at hl hf
    obtain ⟨j, hj, hjK⟩ := findK_some hx
    obtain rfl : j0 = j := by omega
    have hlen : es.toList.length = K.length := by
      have := congrArg List.length hK.ents
      simpa using this
    have hjl : j0 < es.size := by
      have := (List.getElem?_eq_some_iff.1 hjK).1
      simp at hlen
      omega
    have he : (es.eraseIdxIfInBounds j0).toList = es.toList.eraseIdx j0 := by
      unfold Array.eraseIdxIfInBounds
      rw [dif_pos hjl, Array.toList_eraseIdx]
    have hsub : (es.toList.eraseIdx j0).Sublist es.toList := List.eraseIdx_sublist _ _
    refine ⟨es.eraseIdxIfInBounds j0, ?_, ?_, ?_, ?_, ?_⟩
    · simp only [Builtin.delete_, Sem.run_bind, List.getElem?_toArray, List.getElem?_cons_zero, List.getElem?_cons_succ, run_underlying ht, MapKept.run_getObj_map (P := P) hb, Result.andThen, MapKept.run_checkKey (P := P) hk (k := .string s) trivial, hf, MapKept.run_setObj_map (P := P) _ hb]
      rfl
    · rw [he, ← eraseIdx_filter hK.keys hjK]
      rw [map_eraseIdx, hK.ents, map_eraseIdx]
    · exact (List.filter_sublist.map _).nodup hK.keys
    · intro e h
      rw [he] at h
      exact hK.older e (hsub.subset h)
    · rw [he]
      exact (hsub.map _).nodup hK.born
theorem hp_setBlock {w : World} {b : Nat} {o o' : Obj} (h : w.heap[b]? = some o) : (setBlock w b o').heap[b]? = some o' := (heap_set h).1
theorem hp_setBlock_other {w : World} {b i : Nat} {o o' : Obj} (h : w.heap[i]? = some o) (hi : i ≠ b) : (setBlock w b o').heap[i]? = some o := by
  show (w.heap.setIfInBounds b o')[i]? = _
  rw [Array.getElem?_setIfInBounds_ne (Ne.symm hi)]
  exact h
theorem Chg.setBlock {L : List Nat} {a b : World} (h : Chg L a b) {g : Nat} (hp : g < a.heap.size → g ∈ L) (o : Obj) : Chg L a (Go.ChangeMaps.setBlock b g o) :=
  ⟨h.os, h.tape, h.output, by
    show a.heap.size ≤ (b.heap.setIfInBounds g o).size
    simpa using h.size, fun i hi hn => by
    show (b.heap.setIfInBounds g o)[i]? = _
    rw [Array.getElem?_setIfInBounds_ne (by rintro rfl; exact hn (hp hi))]
    exact h.block i hi hn⟩
end Go.Proofs.YthojofeocjmglaaGreatDoor.B
/- A text's pieces at one byte, as lists of bytes; the library's Split at one byte. No program in sight. -/
namespace Go.Proofs.YthojofeocjmglaaGreatDoor.B
open Go.RowKit
set_option linter.unusedVariables false
def glue (x : List UInt8) : List (List UInt8) → List (List UInt8)
  | p :: r => (x ++ p) :: r
  | [] => [x]
def spL (c : UInt8) : List UInt8 → List (List UInt8)
  | [] => [[]]
  | b :: l => if b = c then [] :: spL c l else glue [b] (spL c l)
theorem glue_nil (l : List (List UInt8)) (h : l ≠ []) : glue [] l = l := by
  cases l with
  | nil => exact absurd rfl h
  | cons p r => rfl
theorem spL_ne (c : UInt8) : ∀ l, spL c l ≠ []
  | [] => by simp [spL]
  | b :: l => by
    simp only [spL]
    split
    · simp
    · cases spL c l <;> simp [glue]
theorem toList_extract (s : ByteArray) (a b : Nat) : (s.extract a b).data.toList = (s.data.toList.drop a).take (b - a) := by
  simp only [ByteArray.data_extract, Array.toList_extract, List.extract_eq_take_drop]
theorem spL_no {c : UInt8} : ∀ {l : List UInt8}, c ∉ l → spL c l = [l]
  | [], _ => rfl
  | b :: l, h => by
    simp only [List.mem_cons, not_or] at h
    simp only [spL]
    rw [if_neg (fun e => h.1 e.symm), spL_no h.2]
    rfl
theorem spL_cut {c : UInt8} : ∀ {a b : List UInt8}, c ∉ a → spL c (a ++ c :: b) = a :: spL c b
  | [], b, _ => by simp [spL]
  | x :: a, b, h => by
    simp only [List.mem_cons, not_or] at h
    simp only [List.cons_append, spL]
    rw [if_neg (fun e => h.1 e.symm), spL_cut h.2]
    rfl
theorem spL_len (c : UInt8) : ∀ l : List UInt8, 1 < (spL c l).length ↔ c ∈ l
  | [] => by simp [spL]
  | b :: l => by
    simp only [spL]
    have hne := spL_ne c l
    by_cases hb : b = c
    · rw [if_pos hb]
      subst hb
      have : 0 < (spL b l).length := List.length_pos_iff.2 hne
      simp
      omega
    · rw [if_neg hb]
      have ih := spL_len c l
      have hg : (glue [b] (spL c l)).length = (spL c l).length := by
        cases hs : spL c l with
        | nil => exact absurd hs hne
        | cons p r => rfl
      rw [hg, ih]
      simp
      exact fun e => absurd e.symm hb
theorem bytes_of_lists {A B : List ByteArray} (h : A.map (·.data.toList) = B.map (·.data.toList)) : A = B := by
  have hinj : ∀ x y : ByteArray, x.data.toList = y.data.toList → x = y := fun x y h => ByteArray.ext (Array.toList_inj.1 h)
  induction A generalizing B with
  | nil => cases B with | nil => rfl | cons b r => simp at h
  | cons a r ih =>
    cases B with
    | nil => simp at h
    | cons b q =>
      simp only [List.map_cons, List.cons.injEq] at h
      rw [hinj _ _ h.1, ih h.2]
theorem countB_one (s : ByteArray) (c : UInt8) : Lib.countB s ⟨#[c]⟩ = s.data.toList.count c := by
  unfold Lib.countB
  rw [show (⟨#[c]⟩ : ByteArray).data.toList = [c] from rfl, Lib.count_one]
theorem indexB_one (s : ByteArray) (c : UInt8) : Lib.indexB s ⟨#[c]⟩ = Lib.indexByte s.data.toList c := by
  unfold Lib.indexB
  rw [show (⟨#[c]⟩ : ByteArray).data.toList = [c] from rfl, Lib.index_one]
theorem split_spl (c : UInt8) : ∀ (n : Nat) (s : ByteArray), s.data.toList.count c = n → (Lib.splitB ⟨#[c]⟩ 0 n s).map (·.data.toList) = spL c s.data.toList
  | 0, s, h => by
    rw [List.count_eq_zero] at h
    rw [spL_no h]
    rfl
  | n + 1, s, h => by
    have hl : s.data.toList.length = s.size := by simp
    have hcB := countB_one s c
    have hmem : c ∈ s.data.toList := List.count_pos_iff.1 (by omega)
    have hge := Lib.indexByte_ge s.data.toList c
    have hne : Lib.indexByte s.data.toList c ≠ -1 := fun e => by
      obtain ⟨k, hk⟩ := List.getElem?_of_mem hmem
      exact Lib.indexByte_none e k hk
    obtain ⟨i, hi⟩ : ∃ i : Nat, Lib.indexByte s.data.toList c = i := ⟨(Lib.indexByte s.data.toList c).toNat, by omega⟩
    obtain ⟨h1, h2⟩ := Lib.indexByte_some hi
    have hlt : i < s.data.toList.length := (List.getElem?_eq_some_iff.1 h1).1
    have hb := indexB_one s c
    rw [hi] at hb
    have hsplit : s.data.toList = s.data.toList.take i ++ c :: s.data.toList.drop (i + 1) := by
      rw [List.getElem?_eq_getElem hlt] at h1
      conv => lhs; rw [← List.take_append_drop i s.data.toList, List.drop_eq_getElem_cons hlt, Option.some.inj h1]
    have hno : c ∉ s.data.toList.take i := fun hm => by
      obtain ⟨k, hk⟩ := List.getElem?_of_mem hm
      have hki : k < i := by
        have := (List.getElem?_eq_some_iff.1 hk).1
        rw [List.length_take] at this
        omega
      rw [List.getElem?_take_of_lt hki] at hk
      exact h2 k hki hk
    have hz : (⟨#[c]⟩ : ByteArray).size = 1 := rfl
    have hcount : (s.extract (i + 1) s.size).data.toList.count c = n := by
      have := Lib.countB_hit s ⟨#[c]⟩ i (by rw [hz]; omega) hb
      rw [hcB, hz, countB_one] at this
      omega
    unfold Lib.splitB
    rw [hb, if_neg (by simp), List.map_cons, hz, Int.toNat_natCast, split_spl c n _ hcount, Nat.add_zero, toList_extract, toList_extract]
    have ht2 : (s.data.toList.drop (i + 1)).take (s.size - (i + 1)) = s.data.toList.drop (i + 1) := List.take_of_length_le (by rw [List.length_drop]; omega)
    rw [Nat.sub_zero, List.drop_zero, ht2]
    conv => rhs; rw [hsplit]
    rw [spL_cut hno]
theorem spL_join (c : UInt8) : ∀ a b : List UInt8, spL c (a ++ c :: b) = spL c a ++ spL c b
  | [], b => by simp [spL]
  | x :: a, b => by
    have ih := spL_join c a b
    simp only [List.cons_append, spL]
    rw [ih]
    by_cases h : x = c
    · rw [if_pos h, if_pos h]; rfl
    · rw [if_neg h, if_neg h]
      cases hs : spL c a with
      | nil => exact absurd hs (spL_ne c a)
      | cons p r => rfl
theorem split_names (c : UInt8) (s : ByteArray) : (Lib.splitB ⟨#[c]⟩ 0 (Lib.countB s ⟨#[c]⟩) s).map (·.data.toList) = spL c s.data.toList := split_spl c _ s (countB_one s c).symm
theorem split_nb (c : UInt8) (s : ByteArray) : Lib.splitB ⟨#[c]⟩ 0 (Lib.countB s ⟨#[c]⟩) s = (spL c s.data.toList).map nb := by
  rw [← split_names, List.map_map]
  conv => lhs; rw [← List.map_id (Lib.splitB ⟨#[c]⟩ 0 (Lib.countB s ⟨#[c]⟩) s)]
  exact List.map_congr_left fun x _ => (nb_list x).symm
theorem split_len (c : UInt8) (s : ByteArray) : Lib.countB s ⟨#[c]⟩ + 1 = (spL c s.data.toList).length := by
  rw [← split_names c s, List.length_map, Lib.splitB_all ⟨#[c]⟩ (show 1 ≤ (⟨#[c]⟩ : ByteArray).size from Nat.le_refl 1) 0 _ s rfl]
theorem spL_mem (c : UInt8) : ∀ {l p : List UInt8}, p ∈ spL c l → c ∉ p
  | [], p, h => by simp [spL] at h; rw [h]; simp
  | b :: l, p, h => by
    simp only [spL] at h
    by_cases hb : b = c
    · rw [if_pos hb] at h
      rcases List.mem_cons.1 h with rfl | h
      · simp
      · exact spL_mem c h
    · rw [if_neg hb] at h
      have ih := fun q (hq : q ∈ spL c l) => spL_mem c hq
      cases hs : spL c l with
      | nil => exact absurd hs (spL_ne c l)
      | cons q r =>
        rw [hs] at h ih
        simp only [glue] at h
        rcases List.mem_cons.1 h with rfl | h
        · have := ih q (by simp)
          simp [this, Ne.symm hb]
        · exact ih p (by simp [h])
/-- The pieces put together again. -/
def joinL (c : UInt8) : List (List UInt8) → List UInt8
  | [] => []
  | [p] => p
  | p :: q :: r => p ++ c :: joinL c (q :: r)
theorem joinL_glue (c : UInt8) (x : List UInt8) : ∀ {l : List (List UInt8)}, l ≠ [] → joinL c (glue x l) = x ++ joinL c l
  | [], h => absurd rfl h
  | [p], _ => rfl
  | p :: q :: r, _ => by simp [glue, joinL]
theorem join_spL (c : UInt8) : ∀ l : List UInt8, joinL c (spL c l) = l
  | [] => rfl
  | b :: l => by
    simp only [spL]
    by_cases hb : b = c
    · rw [if_pos hb]
      have ih := join_spL c l
      cases hs : spL c l with
      | nil => exact absurd hs (spL_ne c l)
      | cons q r =>
        rw [hs] at ih
        simp only [joinL]
        rw [ih, hb]
        rfl
    · rw [if_neg hb, joinL_glue c [b] (spL_ne c l), join_spL c l]
      rfl
theorem spL_join_all (c : UInt8) : ∀ {p : List (List UInt8)}, p ≠ [] → (∀ n ∈ p, c ∉ n) → spL c (joinL c p) = p
  | [], h, _ => absurd rfl h
  | [n], _, h => spL_no (h n (by simp))
  | n :: m :: r, _, h => by
    simp only [joinL]
    rw [spL_cut (h n (by simp)), spL_join_all c (by simp) (fun q hq => h q (List.mem_cons_of_mem _ hq))]
end Go.Proofs.YthojofeocjmglaaGreatDoor.B
