/- Merged out of these texts: FSDef, IKit, Tab, IShelf, NameW. -/
import Derived.Test.YtiijbecklkccfaaDoorDp1
import Derived.Deep.CutRange
import Derived.Deep.CutBlock
import Derived.Deep.LoopGhost
import Derived.Deep.WholeRow
import Derived.Lib.QuietBelow
import Derived.Scope
import Derived.WalkMore
import Derived.Test.YtiijbecklkccfaaDoorChecked
import Derived.Shelf.Small.Utf8
import Derived.Shelf.Small.Bits
import Derived.Shelf.Small.Strs
import Derived.Shelf.Utf8.RuneCount
import Derived.Shelf.Strconv.Itoa0
import Derived.Shelf.Strings.Search1
import Derived.Shelf.Strings.Search2
import Derived.Shelf.Strings.Search3
import Derived.Shelf.Strings.Count
import Derived.Shelf.LaysM
import Derived.Shelf.Strings.Shaped
import Derived.Shelf.Sort.Plain
import Derived.Shelf.Strings.Prefix
import Derived.Shelf.Strings.Split
import Derived.Shelf.Strings.SplitShaped
import Derived.Shelf.Unicode.Decode
import Derived.Shelf.Strings.Runes
import Derived.Shelf.Strings.RuneCount
import Derived.Shelf.Strings.IndexAny
import Derived.Shelf.Strings.AsciiSet
import Derived.Shelf.Strings.IndexAnyAll
import Derived.Shelf.Strings.Explode
import Derived.Shelf.Unicode.DecodeSlow
import Derived.Shelf.Unicode.DecodeAny
import Derived.Shelf.Slices.In.SortNone
import Derived.Test.YtiijbecklkccfaaDoorProg
import Derived.Lib.OthersKept
import Derived.Laws.RangeAny
import Derived.Lib.DecodeN
/- A file system, plainly: all that stands in it but the root, by path; what a path's parts are; the way to a path. No program in sight. -/
namespace Go.Proofs.YtiijbecklkccfaaDoor.B
open Go.RowKit
set_option linter.unusedVariables false
/-- A path: its names. -/
abbrev Pth := List Nm
/-- What stands somewhere: 1 a file, 2 a directory, 3 a link. -/
structure Nd where
  kind : Nat
  text : ByteArray
abbrev FS := List (Pth × Nd)
def rootN : Nd := ⟨2, ⟨#[]⟩⟩
/-- What stands at a path. -/
def FS.at (fs : FS) (p : Pth) : Option Nd := if p = [] then some rootN else fs.lookup p
theorem at_root (fs : FS) : fs.at [] = some rootN := rfl
theorem at_ne (fs : FS) {p : Pth} (h : p ≠ []) : fs.at p = fs.lookup p := by unfold FS.at; rw [if_neg h]
/-- May something be called so? -/
def okNm (n : Nm) : Bool := decide (n ≠ [] ∧ n.length ≤ 255 ∧ n ≠ [46] ∧ n ≠ [46, 46] ∧ (47 : UInt8) ∉ n ∧ (0 : UInt8) ∉ n)
/-- A path's parts; the error's number. -/
def partsF (s : ByteArray) : Except Nat Pth :=
  if 4096 < s.size then .error 2
  else if s.size = 0 then .ok []
  else if (spL 47 s.data.toList).all okNm = false then .error 30
  else if 64 < (spL 47 s.data.toList).length then .error 2
  else .ok (spL 47 s.data.toList)
/-- The error of the way to a path, from a directory on. -/
def wayFrom (fs : FS) : Pth → Pth → Option Nat
  | _, [] => none
  | _, [_] => none
  | d, n :: m :: r => match fs.at (d ++ [n]) with
    | none => some 200
    | some x => if x.kind = 1 then some 203 else if x.kind = 3 then some 204 else wayFrom fs (d ++ [n]) (m :: r)
def wayE (fs : FS) (p : Pth) : Option Nat := wayFrom fs [] p
/-- The bytes of all texts. -/
def usedF (fs : FS) : Nat := (fs.map fun x => x.2.text.size).sum
/-- A file system as calls make it: no path twice, none of them empty; what has something below it is a directory. -/
structure FsOk (fs : FS) : Prop where
  nodup : (fs.map (·.1)).Nodup
  ne : ∀ x ∈ fs, x.1 ≠ []
  up : ∀ p n, fs.at (p ++ [n]) ≠ none → ∃ x, fs.at p = some x ∧ x.kind = 2
  kind : ∀ p x, fs.at p = some x → x.kind = 1 ∨ x.kind = 2 ∨ x.kind = 3
  dirs : ∀ p x, fs.at p = some x → x.kind = 2 → x.text = ⟨#[]⟩
  small : ∀ p x, fs.at p = some x → x.text.size ≤ 4194304
  okp : ∀ p x, fs.at p = some x → p.length ≤ 64 ∧ (joinL 47 p).length ≤ 4096 ∧ p.all okNm = true
theorem lookup_mem {p : Pth} {x : Nd} : ∀ {fs : FS}, fs.lookup p = some x → (p, x) ∈ fs
  | [], h => by simp at h
  | (q, y) :: fs, h => by
    rw [List.lookup_cons] at h
    by_cases hq : p = q
    · subst hq
      simp at h
      simp [h]
    · have : (p == q) = false := by simp [hq]
      rw [this] at h
      exact List.mem_cons_of_mem _ (lookup_mem h)
theorem mem_lookup {p : Pth} {x : Nd} : ∀ {fs : FS}, (fs.map (·.1)).Nodup → (p, x) ∈ fs → fs.lookup p = some x
  | [], _, h => by cases h
  | (q, y) :: fs, hd, h => by
    simp only [List.map_cons, List.nodup_cons] at hd
    rw [List.lookup_cons]
    rcases List.mem_cons.1 h with h2 | h2
    · simp only [Prod.mk.injEq] at h2
      rw [h2.1, h2.2]; simp
    · have : (p == q) = false := by
        simp only [beq_eq_false_iff_ne]
        rintro rfl
        exact hd.1 (List.mem_map.2 ⟨(p, x), h2, rfl⟩)
      rw [this]
      exact mem_lookup hd.2 h2
theorem fsOk_nil : FsOk [] := by
  refine ⟨by simp, by simp, ?_, ?_, ?_, ?_, ?_⟩
  · intro p n h
    rw [at_ne _ (by simp)] at h
    exact absurd rfl h
  · intro p x h
    unfold FS.at at h
    split at h
    · cases h; exact .inr (.inl rfl)
    · simp at h
  · intro p x h _
    unfold FS.at at h
    split at h
    · cases h; rfl
    · simp at h
  · intro p x h
    unfold FS.at at h
    split at h
    · cases h; show 0 ≤ 4194304; omega
    · simp at h
  · intro p x h
    unfold FS.at at h
    split at h
    · rename_i hp; rw [hp]; simp [joinL]
    · simp at h
/-- What stands at a beginning of a path at which something stands. -/
theorem FsOk.prefix {fs : FS} (h : FsOk fs) : ∀ {q p : Pth}, fs.at (p ++ q) ≠ none → q ≠ [] → ∃ x, fs.at p = some x ∧ x.kind = 2
  | [], p, _, hq => absurd rfl hq
  | [n], p, ha, _ => h.up p n ha
  | n :: m :: r, p, ha, _ => by
    have e : p ++ n :: m :: r = (p ++ [n]) ++ m :: r := by simp
    rw [e] at ha
    obtain ⟨x, hx, _⟩ := h.prefix ha (by simp)
    exact h.up p n (by rw [hx]; simp)
/-- A way that is clear ends in a directory. -/
theorem way_dir {fs : FS} (hg : FsOk fs) : ∀ {r d : Pth}, wayFrom fs d r = none → (∃ x, fs.at d = some x ∧ x.kind = 2) → r ≠ [] → ∃ x, fs.at (d ++ r.dropLast) = some x ∧ x.kind = 2
  | [], _, _, _, h => absurd rfl h
  | [n], d, _, hd, _ => by simpa using hd
  | n :: m :: r, d, h, hd, _ => by
    simp only [wayFrom] at h
    cases hx : fs.at (d ++ [n]) with
    | none => rw [hx] at h; cases h
    | some x =>
      rw [hx] at h
      simp only at h
      split at h
      · cases h
      · split at h
        · cases h
        · rename_i h1 h3
          have hk := hg.kind _ _ hx
          have := way_dir hg (d := d ++ [n]) h ⟨x, hx, by omega⟩ (by simp)
          simpa using this
end Go.Proofs.YtiijbecklkccfaaDoor.B
/- Words that all walks of this folder use. No program in sight. -/
namespace Go.Proofs.YtiijbecklkccfaaDoor.B
open Go.RowKit Go.Sort
/-- The world of a walk, under a name. -/
theorem wp_opaque2 {P : Program} {c : Code} {Q : Exit → Act → World → Prop} {a : Act} {w : World} (h : ∀ W, W = w → c.wp P Q a W) : c.wp P Q a w := h _ rfl
theorem chg_regrown (w : World) (d : Nat) (os : Array Obj) : Chg [] w (grow (redrawn w d) os) := Chg.of_below (below_regrown w d os)
theorem inBlock_ret (id : Nat) (Q : Exit → Act → World → Prop) (a : Act) (w : World) : Exit.inBlock id Q .ret a w = Q .ret a w := rfl
theorem then_ret (n : Act → World → Prop) (Q : Exit → Act → World → Prop) (a : Act) (w : World) : Exit.then n Q .ret a w = Q .ret a w := rfl
end Go.Proofs.YtiijbecklkccfaaDoor.B
/- A file system in memory: the table's cells, the nodes', the directories' maps; what a look-up in a directory gives. -/
namespace Go.Proofs.YtiijbecklkccfaaDoor.I
open Go.RowKit Go.Proofs.YtiijbecklkccfaaDoor.B Go.Sort
set_option linter.unusedVariables false
/-- A callee of a region that draws: its contract, in every world of the class. -/
theorem quiet_of {f : FuncId} {args : Array Value} {w : World} {v : Value} (h : ∀ W, Chg [] w W → Calls Tryd.prog f args W fun e w' => e = .returned v ∧ Chg [] W w') (d : Nat) (os : Array Obj) :
    Calls Tryd.prog f args (grow (redrawn w d) os) fun e w'' => e = .returned v ∧ ∃ p : Regrown, w'' = grow (redrawn w p.d) p.os :=
  Calls.regrown_of ((h _ (chg_regrown w d os)).mono fun e w' ⟨h1, h2⟩ => ⟨h1, h2.below⟩)
/-- What a directory's map holds at a name. -/
def kidA (fs : FS) (A : Pth → Nat) (p : Pth) : Option Addr := (fs.at p).map fun _ => ⟨A p, 0, none⟩
def dirA (A : Pth → Nat) (p : Pth) : Option Addr := if p = [] then none else some ⟨A p.dropLast, 0, none⟩
def lastS (p : Pth) : ByteArray := if p = [] then ⟨#[]⟩ else nb (p.getLastD [])
/-- Where a file system lies: at each path's node, at each directory's map; all in the blocks L. -/
structure TabAt (w : World) (L : List Nat) (t : Nat) (fs : FS) (by' nd : Nat) (A M : Pth → Nat) : Prop where
  tab : w.heap[t]? = some (.cells #[(.pointer (some ⟨A [], 0, none⟩)), .int .i64 (by' : Int), .int .i64 (nd : Int), .int .i64 (usedF fs : Int), .int .i64 (fs.length : Int)] 40 (0, 0))
  node : ∀ p x, fs.at p = some x → w.heap[A p]? = some (.cells #[.int .i64 (x.kind : Int), .string x.text, if x.kind = 2 then .map (some (M p)) else .map none] 52 (0, 0))
  kids : ∀ p x, fs.at p = some x → x.kind = 2 → ∃ es clock K, w.heap[M p]? = some (.map es clock) ∧ MKids es clock K ∧ ∀ n, K.lookup n = (fs.at (p ++ [n])).map fun _ => (.pointer (some ⟨A (p ++ [n]), 0, none⟩))
  tL : t ∈ L
  bl : ∀ i ∈ L, i < w.heap.size
  aL : ∀ p x, fs.at p = some x → A p ∈ L ∧ (x.kind = 2 → M p ∈ L)
  injA : ∀ p q x y, fs.at p = some x → fs.at q = some y → A p = A q → p = q
  injM : ∀ p q x y, fs.at p = some x → fs.at q = some y → x.kind = 2 → y.kind = 2 → M p = M q → p = q
theorem TabAt.keep {w w' : World} {L K : List Nat} {t by' nd : Nat} {fs : FS} {A M : Pth → Nat} (h : TabAt w L t fs by' nd A M) (hc : Chg K w w') (hd : ∀ i ∈ L, i ∉ K) : TabAt w' L t fs by' nd A M := by
  refine ⟨hc.heap h.tab (hd _ h.tL), fun p x hx => hc.heap (h.node p x hx) (hd _ (h.aL p x hx).1), fun p x hx hk => ?_, h.tL, fun i hi => Nat.lt_of_lt_of_le (h.bl i hi) hc.size, h.aL, h.injA, h.injM⟩
  obtain ⟨es, clock, K', h1, h2, h3⟩ := h.kids p x hx hk
  exact ⟨es, clock, K', hc.heap h1 (hd _ ((h.aL p x hx).2 hk)), h2, h3⟩
theorem TabAt.keep0 {w w' : World} {L : List Nat} {t by' nd : Nat} {fs : FS} {A M : Pth → Nat} (h : TabAt w L t fs by' nd A M) (hc : Chg [] w w') : TabAt w' L t fs by' nd A M := h.keep hc (by simp)
theorem TabAt.lt {w : World} {L : List Nat} {t by' nd : Nat} {fs : FS} {A M : Pth → Nat} (h : TabAt w L t fs by' nd A M) {p : Pth} {x : Nd} (hx : fs.at p = some x) : A p < w.heap.size := lt_of_heap (h.node p x hx)
/-- The zero of *node. -/
theorem zero_node (w : World) : (zeroValue 37).run Tryd.prog w = .ok (.pointer none) w := by kernel_rfl
/-- A look-up in a directory. -/
theorem look_kid {w : World} {L : List Nat} {t by' nd : Nat} {fs : FS} {A M : Pth → Nat} (h : TabAt w L t fs by' nd A M) {p : Pth} {x : Nd} (hx : fs.at p = some x) (hk : x.kind = 2) (n : Nm) :
    (Instr.lookup 50 (.map (some (M p))) (.string (nb n)) false).run Tryd.prog w = .ok (.pointer (kidA fs A (p ++ [n]))) w := by
  obtain ⟨es, clock, K, h1, h2, h3⟩ := h.kids p x hx hk
  have := run_look (P := Tryd.prog) Tryd.underlying50 Tryd.underlying9 (zero_node w) h1 h2 (nb n)
  rw [this, list_nb, h3]
  unfold kidA
  cases fs.at (p ++ [n]) <;> rfl
/-- A row of names in memory. -/
def NmR (w : World) (g o : Nat) (l : List Nm) : Prop := ∃ cs, w.heap[g]? = some (.cells cs 9 (0, 0)) ∧ ∀ i, (hi : i < l.length) → cs[o + i]? = some (.string (nb (l[i]'hi)))
theorem NmR.keep {w w' : World} {g o : Nat} {l : List Nm} {K : List Nat} (h : NmR w g o l) (hc : Chg K w w') (hg : g ∉ K) : NmR w' g o l := by
  obtain ⟨cs, h1, h2⟩ := h
  exact ⟨cs, hc.heap h1 hg, h2⟩
theorem NmR.cell {w : World} {g o : Nat} {l : List Nm} (h : NmR w g o l) {i : Nat} (hi : i < l.length) : w.cell? ⟨g, o + i, none⟩ = some (.string (nb (l[i]'hi))) := by
  obtain ⟨cs, h1, h2⟩ := h
  rw [cell_of_heap h1]
  exact h2 i hi
end Go.Proofs.YtiijbecklkccfaaDoor.I
/- The contracts of the library that this claim uses: laid by the kit's tools (lay-shelf, lay-plain) at this program; the others left out. -/
namespace Go.Proofs
open Go.Shelf
def Tryd.lays119_ren : Go.Shelf.Ren := ⟨fun | 119 => 74 | n => n, fun | 21 => 21 | 4 => 4 | n => n, fun | n => n⟩
theorem Tryd.lays119 : Go.Proofs.Lays.n119 Tryd.prog Tryd.lays119_ren := {
  mixed := by kernel_rfl
  f119 := Tryd.func74.trans (congrArg some (by kernel_rfl))
  t4 := Tryd.underlying4
  a4 := Tryd.isAgg4
  z4 := Tryd.sizeOf4
  v4 := Tryd.zeroValue4
  t21 := Tryd.underlying21
  a21 := Tryd.isAgg21
  z21 := Tryd.sizeOf21
  v21 := Tryd.zeroValue21 }
theorem Tryd.utf8_ValidRune (r : Int) (w : World) :
    Calls Tryd.prog 74 #[.int .i32 r] w fun e w' => e = .returned (.bool (Lib.validRune r)) ∧ w' = w := Any.utf8_ValidRune Tryd.lays119 r w
def Tryd.lays137_ren : Go.Shelf.Ren := ⟨fun | 137 => 73 | 217 => 69 | 266 => 81 | n => n, fun | 9 => 9 | 5 => 5 | 3 => 3 | n => n, fun | n => n⟩
theorem Tryd.lays137 : Go.Proofs.Lays.n137 Tryd.prog Tryd.lays137_ren := {
  mixed := by kernel_rfl
  f137 := Tryd.func73.trans (congrArg some (by kernel_rfl))
  f217 := Tryd.func69.trans (congrArg some (by kernel_rfl))
  f266 := Tryd.func81.trans (congrArg some (by kernel_rfl))
  t3 := Tryd.underlying3
  a3 := Tryd.isAgg3
  z3 := Tryd.sizeOf3
  v3 := Tryd.zeroValue3
  t5 := Tryd.underlying5
  a5 := Tryd.isAgg5
  z5 := Tryd.sizeOf5
  v5 := Tryd.zeroValue5
  t9 := Tryd.underlying9
  a9 := Tryd.isAgg9
  z9 := Tryd.sizeOf9
  v9 := Tryd.zeroValue9 }
open Go.RowKit in
theorem Tryd.strings_IndexByte (s : ByteArray) (c : Int) (w : World) :
    Calls Tryd.prog 73 #[.string s, .int .u8 c] w fun e w' => e = .returned (.int .i64 (Lib.indexByte s.data.toList c.toNat.toUInt8)) ∧ w' = w := Any.strings_IndexByte Tryd.lays137 s c w
def Tryd.lays190_ren : Go.Shelf.Ren := ⟨fun | 190 => 42 | 125 => 48 | 258 => 47 | 128 => 66 | 129 => 67 | 302 => 57 | 303 => 58 | 304 => 59 | 305 => 60 | 306 => 61 | 307 => 62 | 308 => 63 | 309 => 64 | 310 => 65 | 333 => 75 | 329 => 76 | 330 => 77 | 334 => 78 | 335 => 79 | 336 => 80 | 344 => 83 | n => n, fun | 31 => 46 | 9 => 9 | 3 => 3 | 46 => 99 | 0 => 0 | 51 => 120 | 53 => 122 | 4 => 4 | 183 => 113 | 182 => 112 | 131 => 117 | 5 => 5 | 218 => 126 | 222 => 130 | 228 => 139 | 229 => 61 | n => n, fun | n => n⟩
theorem Tryd.lays190 : Go.Proofs.Lays.n190 Tryd.prog Tryd.lays190_ren := {
  mixed := by kernel_rfl
  f125 := Tryd.func48.trans (congrArg some (by kernel_rfl))
  f128 := Tryd.func66.trans (congrArg some (by kernel_rfl))
  f129 := Tryd.func67.trans (congrArg some (by kernel_rfl))
  f190 := Tryd.func42.trans (congrArg some (by kernel_rfl))
  f258 := Tryd.func47.trans (congrArg some (by kernel_rfl))
  f302 := Tryd.func57.trans (congrArg some (by kernel_rfl))
  f303 := Tryd.func58.trans (congrArg some (by kernel_rfl))
  f304 := Tryd.func59.trans (congrArg some (by kernel_rfl))
  f305 := Tryd.func60.trans (congrArg some (by kernel_rfl))
  f306 := Tryd.func61.trans (congrArg some (by kernel_rfl))
  f307 := Tryd.func62.trans (congrArg some (by kernel_rfl))
  f308 := Tryd.func63.trans (congrArg some (by kernel_rfl))
  f309 := Tryd.func64.trans (congrArg some (by kernel_rfl))
  f310 := Tryd.func65.trans (congrArg some (by kernel_rfl))
  f329 := Tryd.func76.trans (congrArg some (by kernel_rfl))
  f330 := Tryd.func77.trans (congrArg some (by kernel_rfl))
  f333 := Tryd.func75.trans (congrArg some (by kernel_rfl))
  f334 := Tryd.func78.trans (congrArg some (by kernel_rfl))
  f335 := Tryd.func79.trans (congrArg some (by kernel_rfl))
  f336 := Tryd.func80.trans (congrArg some (by kernel_rfl))
  f344 := Tryd.func83.trans (congrArg some (by kernel_rfl))
  t0 := Tryd.underlying0
  a0 := Tryd.isAgg0
  z0 := Tryd.sizeOf0
  v0 := Tryd.zeroValue0
  t3 := Tryd.underlying3
  a3 := Tryd.isAgg3
  z3 := Tryd.sizeOf3
  v3 := Tryd.zeroValue3
  t4 := Tryd.underlying4
  a4 := Tryd.isAgg4
  z4 := Tryd.sizeOf4
  v4 := Tryd.zeroValue4
  t5 := Tryd.underlying5
  a5 := Tryd.isAgg5
  z5 := Tryd.sizeOf5
  v5 := Tryd.zeroValue5
  t9 := Tryd.underlying9
  a9 := Tryd.isAgg9
  z9 := Tryd.sizeOf9
  v9 := Tryd.zeroValue9
  t31 := Tryd.underlying46
  a31 := Tryd.isAgg46
  z31 := Tryd.sizeOf46
  v31 := Tryd.zeroValue46
  t46 := Tryd.underlying99
  a46 := Tryd.isAgg99
  z46 := Tryd.sizeOf99
  v46 := Tryd.zeroValue99
  t51 := Tryd.underlying120
  a51 := Tryd.isAgg120
  z51 := Tryd.sizeOf120
  v51 := Tryd.zeroValue120
  t53 := Tryd.underlying122
  a53 := Tryd.isAgg122
  z53 := Tryd.sizeOf122
  v53 := Tryd.zeroValue122
  t131 := Tryd.underlying117
  a131 := Tryd.isAgg117
  z131 := Tryd.sizeOf117
  v131 := Tryd.zeroValue117
  t182 := Tryd.underlying112
  a182 := Tryd.isAgg112
  z182 := Tryd.sizeOf112
  v182 := Tryd.zeroValue112
  t183 := Tryd.underlying113
  a183 := Tryd.isAgg113
  z183 := Tryd.sizeOf113
  v183 := Tryd.zeroValue113
  t218 := Tryd.underlying126
  a218 := Tryd.isAgg126
  z218 := Tryd.sizeOf126
  v218 := Tryd.zeroValue126
  t222 := Tryd.underlying130
  a222 := Tryd.isAgg130
  z222 := Tryd.sizeOf130
  v222 := Tryd.zeroValue130
  t228 := Tryd.underlying139
  a228 := Tryd.isAgg139
  z228 := Tryd.sizeOf139
  v228 := Tryd.zeroValue139
  t229 := Tryd.underlying61
  a229 := Tryd.isAgg61
  z229 := Tryd.sizeOf61
  v229 := Tryd.zeroValue61 }
open Go.Sort Go.RowKit in
theorem Tryd.slices_Sort_string (blk off cap : Nat) (ss : List (List UInt8)) (w : World) (hH : Holds encStr w blk off ss.toArray) (hblk : blk < w.heap.size) (hsz : ss.length < 4611686018427387904) :
    Calls Tryd.prog 42 #[.slice (some ⟨blk, off, none⟩) ss.length cap] w fun e w' =>
      e = .returned (.tuple #[]) ∧ ∃ n os, w' = grow (putRow encStr (Sort.ahead w n) blk off (ss.mergeSort fun x y => decide (x ≤ y)).toArray) os := Any.slices_Sort_string Tryd.lays190 blk off cap ss w hH hblk hsz
def Tryd.lays99_ren : Go.Shelf.Ren := ⟨fun | 99 => 29 | 206 => 38 | n => n, fun | 9 => 9 | 4 => 4 | 3 => 3 | n => n, fun | n => n⟩
theorem Tryd.lays99 : Go.Proofs.Lays.n99 Tryd.prog Tryd.lays99_ren := {
  mixed := by kernel_rfl
  f99 := Tryd.func29.trans (congrArg some (by kernel_rfl))
  f206 := Tryd.func38.trans (congrArg some (by kernel_rfl))
  t3 := Tryd.underlying3
  a3 := Tryd.isAgg3
  z3 := Tryd.sizeOf3
  v3 := Tryd.zeroValue3
  t4 := Tryd.underlying4
  a4 := Tryd.isAgg4
  z4 := Tryd.sizeOf4
  v4 := Tryd.zeroValue4
  t9 := Tryd.underlying9
  a9 := Tryd.isAgg9
  z9 := Tryd.sizeOf9
  v9 := Tryd.zeroValue9 }
open Go.RowKit Go.Lib in
theorem Tryd.strings_HasPrefix (s p : ByteArray) (w : World) :
    Calls Tryd.prog 29 #[.string s, .string p] w fun e w' => e = .returned (.bool (Lib.hasPrefix s.data.toList p.data.toList)) ∧ w' = w := Any.strings_HasPrefix Tryd.lays99 s p w
def Tryd.lays146_ren : Go.Shelf.Ren := ⟨fun | 146 => 27 | 221 => 36 | 268 => 43 | 138 => 44 | 143 => 45 | 195 => 49 | 197 => 50 | 218 => 51 | 219 => 52 | 260 => 68 | 217 => 69 | 225 => 70 | 224 => 71 | 267 => 72 | 266 => 81 | 314 => 82 | n => n, fun | 9 => 9 | 31 => 46 | 3 => 3 | 4 => 4 | 0 => 0 | 105 => 101 | 21 => 21 | 5 => 5 | 46 => 99 | 119 => 133 | 139 => 136 | 138 => 135 | 146 => 137 | 51 => 120 | n => n, fun | 1 => 1 | 3 => 2 | 4 => 3 | n => n⟩
theorem Tryd.lays146 : Go.Proofs.Lays.n146 Tryd.prog Tryd.lays146_ren := {
  mixed := by kernel_rfl
  f138 := Tryd.func44.trans (congrArg some (by kernel_rfl))
  f143 := Tryd.func45.trans (congrArg some (by kernel_rfl))
  f146 := Tryd.func27.trans (congrArg some (by kernel_rfl))
  f195 := Tryd.func49.trans (congrArg some (by kernel_rfl))
  f197 := Tryd.func50.trans (congrArg some (by kernel_rfl))
  f217 := Tryd.func69.trans (congrArg some (by kernel_rfl))
  f218 := Tryd.func51.trans (congrArg some (by kernel_rfl))
  f219 := Tryd.func52.trans (congrArg some (by kernel_rfl))
  f221 := Tryd.func36.trans (congrArg some (by kernel_rfl))
  f224 := Tryd.func71.trans (congrArg some (by kernel_rfl))
  f225 := Tryd.func70.trans (congrArg some (by kernel_rfl))
  f260 := Tryd.func68.trans (congrArg some (by kernel_rfl))
  f266 := Tryd.func81.trans (congrArg some (by kernel_rfl))
  f267 := Tryd.func72.trans (congrArg some (by kernel_rfl))
  f268 := Tryd.func43.trans (congrArg some (by kernel_rfl))
  f314 := Tryd.func82.trans (congrArg some (by kernel_rfl))
  t0 := Tryd.underlying0
  a0 := Tryd.isAgg0
  z0 := Tryd.sizeOf0
  v0 := Tryd.zeroValue0
  t3 := Tryd.underlying3
  a3 := Tryd.isAgg3
  z3 := Tryd.sizeOf3
  v3 := Tryd.zeroValue3
  t4 := Tryd.underlying4
  a4 := Tryd.isAgg4
  z4 := Tryd.sizeOf4
  v4 := Tryd.zeroValue4
  t5 := Tryd.underlying5
  a5 := Tryd.isAgg5
  z5 := Tryd.sizeOf5
  v5 := Tryd.zeroValue5
  t9 := Tryd.underlying9
  a9 := Tryd.isAgg9
  z9 := Tryd.sizeOf9
  v9 := Tryd.zeroValue9
  t21 := Tryd.underlying21
  a21 := Tryd.isAgg21
  z21 := Tryd.sizeOf21
  v21 := Tryd.zeroValue21
  t31 := Tryd.underlying46
  a31 := Tryd.isAgg46
  z31 := Tryd.sizeOf46
  v31 := Tryd.zeroValue46
  t46 := Tryd.underlying99
  a46 := Tryd.isAgg99
  z46 := Tryd.sizeOf99
  v46 := Tryd.zeroValue99
  t51 := Tryd.underlying120
  a51 := Tryd.isAgg120
  z51 := Tryd.sizeOf120
  v51 := Tryd.zeroValue120
  t105 := Tryd.underlying101
  a105 := Tryd.isAgg101
  z105 := Tryd.sizeOf101
  v105 := Tryd.zeroValue101
  t119 := Tryd.underlying133
  a119 := Tryd.isAgg133
  z119 := Tryd.sizeOf133
  t138 := Tryd.underlying135
  a138 := Tryd.isAgg135
  z138 := Tryd.sizeOf135
  v138 := Tryd.zeroValue135
  t139 := Tryd.underlying136
  a139 := Tryd.isAgg136
  z139 := Tryd.sizeOf136
  v139 := Tryd.zeroValue136
  t146 := Tryd.underlying137
  a146 := Tryd.isAgg137
  z146 := Tryd.sizeOf137
  v146 := Tryd.zeroValue137
  g1 := by kernel_rfl
  g3 := by kernel_rfl
  g4 := by kernel_rfl }
open Go.RowKit Go.Lib in
theorem Tryd.strings_Split (s sep : ByteArray) (m : Int) (w : World) (hs : s.size < 4294967281) (hm : w.cell? ⟨1, 0, none⟩ = some (.int .i64 m)) (h1 : 1 ≤ sep.size) :
    Calls Tryd.prog 27 #[.string s, .string sep] w fun e w' =>
      e = .returned (.slice (some ⟨w.heap.size, 0, none⟩) (Lib.countB s sep + 1) (Lib.countB s sep + 1)) ∧ w' = w.alloc (.cells ((Lib.splitB sep 0 (Lib.countB s sep) s).map Value.string).toArray 9) := Any.strings_Split Tryd.lays146 (by kernel_rfl) s sep m w hs hm h1
def Tryd.lays152_ren : Go.Shelf.Ren := ⟨fun | 152 => 53 | 137 => 73 | 119 => 74 | 224 => 71 | 225 => 70 | 217 => 69 | 266 => 81 | n => n, fun | 9 => 9 | 21 => 21 | 3 => 3 | 4 => 4 | 5 => 5 | 0 => 0 | 46 => 99 | n => n, fun | n => n⟩
theorem Tryd.lays152 : Go.Proofs.Lays.n152 Tryd.prog Tryd.lays152_ren := {
  mixed := by kernel_rfl
  f119 := Tryd.func74.trans (congrArg some (by kernel_rfl))
  f137 := Tryd.func73.trans (congrArg some (by kernel_rfl))
  f152 := Tryd.func53.trans (congrArg some (by kernel_rfl))
  f217 := Tryd.func69.trans (congrArg some (by kernel_rfl))
  f224 := Tryd.func71.trans (congrArg some (by kernel_rfl))
  f225 := Tryd.func70.trans (congrArg some (by kernel_rfl))
  f266 := Tryd.func81.trans (congrArg some (by kernel_rfl))
  t0 := Tryd.underlying0
  a0 := Tryd.isAgg0
  z0 := Tryd.sizeOf0
  v0 := Tryd.zeroValue0
  t3 := Tryd.underlying3
  a3 := Tryd.isAgg3
  z3 := Tryd.sizeOf3
  v3 := Tryd.zeroValue3
  t4 := Tryd.underlying4
  a4 := Tryd.isAgg4
  z4 := Tryd.sizeOf4
  v4 := Tryd.zeroValue4
  t5 := Tryd.underlying5
  a5 := Tryd.isAgg5
  z5 := Tryd.sizeOf5
  v5 := Tryd.zeroValue5
  t9 := Tryd.underlying9
  a9 := Tryd.isAgg9
  z9 := Tryd.sizeOf9
  v9 := Tryd.zeroValue9
  t21 := Tryd.underlying21
  a21 := Tryd.isAgg21
  z21 := Tryd.sizeOf21
  v21 := Tryd.zeroValue21
  t46 := Tryd.underlying99
  a46 := Tryd.isAgg99
  z46 := Tryd.sizeOf99
  v46 := Tryd.zeroValue99 }
open Go.RowKit Go.Lib in
theorem Tryd.strings_IndexRune_ascii (s : ByteArray) (r : Int) (w : World) (h0 : 0 ≤ r) (h1 : r < 128) :
    Calls Tryd.prog 53 #[.string s, .int .i32 r] w fun e w' => e = .returned (.int .i64 (Lib.indexByte s.data.toList r.toNat.toUInt8)) ∧ w' = w := Any.strings_IndexRune_ascii Tryd.lays152 s r w h0 h1
def Tryd.lays226_ren : Go.Shelf.Ren := ⟨fun | 226 => 54 | n => n, fun | 3 => 3 | 4 => 4 | n => n, fun | n => n⟩
theorem Tryd.lays226 : Go.Proofs.Lays.n226 Tryd.prog Tryd.lays226_ren := {
  mixed := by kernel_rfl
  f226 := Tryd.func54.trans (congrArg some (by kernel_rfl))
  t3 := Tryd.underlying3
  a3 := Tryd.isAgg3
  z3 := Tryd.sizeOf3
  v3 := Tryd.zeroValue3
  t4 := Tryd.underlying4
  a4 := Tryd.isAgg4
  z4 := Tryd.sizeOf4
  v4 := Tryd.zeroValue4 }
open Go.RowKit Go.Lib in
theorem Tryd.strings_shouldUseASCIISet (n : Int) (w : World) :
    Calls Tryd.prog 54 #[.int .i64 n] w fun e w' => e = .returned (.bool (decide (8 < n))) ∧ w' = w := Any.strings_shouldUseASCIISet Tryd.lays226 n w
def Tryd.lays153_ren : Go.Shelf.Ren := ⟨fun | 153 => 46 | 152 => 53 | 226 => 54 | 227 => 55 | 228 => 56 | 137 => 73 | 119 => 74 | 224 => 71 | 225 => 70 | 217 => 69 | 266 => 81 | n => n, fun | 9 => 9 | 3 => 3 | 4 => 4 | 5 => 5 | 21 => 21 | 117 => 108 | 116 => 107 | 0 => 0 | 46 => 99 | 124 => 125 | n => n, fun | n => n⟩
theorem Tryd.lays153 : Go.Proofs.Lays.n153 Tryd.prog Tryd.lays153_ren := {
  mixed := by kernel_rfl
  f119 := Tryd.func74.trans (congrArg some (by kernel_rfl))
  f137 := Tryd.func73.trans (congrArg some (by kernel_rfl))
  f152 := Tryd.func53.trans (congrArg some (by kernel_rfl))
  f153 := Tryd.func46.trans (congrArg some (by kernel_rfl))
  f217 := Tryd.func69.trans (congrArg some (by kernel_rfl))
  f224 := Tryd.func71.trans (congrArg some (by kernel_rfl))
  f225 := Tryd.func70.trans (congrArg some (by kernel_rfl))
  f226 := Tryd.func54.trans (congrArg some (by kernel_rfl))
  f227 := Tryd.func55.trans (congrArg some (by kernel_rfl))
  f228 := Tryd.func56.trans (congrArg some (by kernel_rfl))
  f266 := Tryd.func81.trans (congrArg some (by kernel_rfl))
  t0 := Tryd.underlying0
  a0 := Tryd.isAgg0
  z0 := Tryd.sizeOf0
  v0 := Tryd.zeroValue0
  t3 := Tryd.underlying3
  a3 := Tryd.isAgg3
  z3 := Tryd.sizeOf3
  v3 := Tryd.zeroValue3
  t4 := Tryd.underlying4
  a4 := Tryd.isAgg4
  z4 := Tryd.sizeOf4
  v4 := Tryd.zeroValue4
  t5 := Tryd.underlying5
  a5 := Tryd.isAgg5
  z5 := Tryd.sizeOf5
  v5 := Tryd.zeroValue5
  t9 := Tryd.underlying9
  a9 := Tryd.isAgg9
  z9 := Tryd.sizeOf9
  v9 := Tryd.zeroValue9
  t21 := Tryd.underlying21
  a21 := Tryd.isAgg21
  z21 := Tryd.sizeOf21
  v21 := Tryd.zeroValue21
  t46 := Tryd.underlying99
  a46 := Tryd.isAgg99
  z46 := Tryd.sizeOf99
  v46 := Tryd.zeroValue99
  t116 := Tryd.underlying107
  a116 := Tryd.isAgg107
  z116 := Tryd.sizeOf107
  t117 := Tryd.underlying108
  a117 := Tryd.isAgg108
  z117 := Tryd.sizeOf108
  v117 := Tryd.zeroValue108
  t124 := Tryd.underlying125
  a124 := Tryd.isAgg125
  z124 := Tryd.sizeOf125
  v124 := Tryd.zeroValue125 }
open Go.RowKit Go.Lib in
theorem Tryd.strings_IndexAny_long (hv116 : ∀ w, (zeroValue 107).run Tryd.prog w = .ok (.agg (Array.replicate 256 (.bool false))) w) (s chars : ByteArray) (w : World) (h2 : 2 ≤ chars.size) (h8 : 8 < s.size) (hs : s.size < 4294967281) (hcs : chars.size < 4294967281) (hascii : ∀ (j : Nat) b, chars.data.toList[j]? = some b → b.toNat < 128) :
    Calls Tryd.prog 46 #[.string s, .string chars] w fun e w' => e = .returned (.int .i64 (Lib.indexAny s.data.toList chars.data.toList)) ∧ w' = ((w.alloc (.cells (Lib.setCells chars.data.toList) 107)).alloc (.cells (Lib.setCells chars.data.toList) 107)) := Any.strings_IndexAny_long Tryd.lays153 hv116 (by kernel_rfl) s chars w h2 h8 hs hcs hascii
open Go.RowKit Go.Sort in
theorem Tryd.slices_Sort_string_none (p : Option Addr) (cap : Nat) (w : World) :
    Calls Tryd.prog 42 #[.slice p 0 cap] w fun e w' => e = .returned (.tuple #[]) ∧ w' = w := Any.slices_Sort_string_none Tryd.lays190 p cap w

end Go.Proofs
/- Has a text a slash or a zero byte: the library's ContainsAny at all bytes; the program's Name. -/
namespace Go.Proofs.YtiijbecklkccfaaDoor.I
open Go.RowKit Go.Proofs.YtiijbecklkccfaaDoor.B Go.Sort
set_option linter.unusedVariables false
/-- The bytes that no name has. -/
def sz : ByteArray := ⟨#[47, 0]⟩
set_option maxRecDepth 100000 in
set_option maxHeartbeats 8000000 in
theorem indexrune_bad (w : World) : Calls Tryd.prog 53 #[.string ⟨#[47, 0]⟩, .int .i32 65533] w fun e w' => e = .returned (.int .i64 (-1)) ∧ Chg [] w w' := by
  have hr := fun (w : World) => run_range_string (P := Tryd.prog) w 9 ⟨#[47, 0]⟩ Tryd.underlying9
  go_enter Tryd.func53, Tryd.ntmps53
  go_wp2
  go_loopg [5, 6] 2 (fun g _ _ wx => ∃ i : Nat, i + g = 2 ∧ wx = w.iter ⟨#[47, 0]⟩ i)
  case atStart => exact ⟨0, rfl, rfl⟩
  case round =>
    obtain ⟨i, hi, rfl⟩ := hrel
    have hsz : (⟨#[47, 0]⟩ : ByteArray).size = 2 := rfl
    match gk, hi with
    | 0, hi =>
      obtain rfl : i = 2 := by omega
      have hnx := fun ty => run_next_end (P := Tryd.prog) w ⟨#[47, 0]⟩ 2 ty (by rw [hsz]; omega)
      go_wp2
      go_ret
      exact ⟨rfl, (Chg.refl _ _).alloc _⟩
    | 1, hi =>
      obtain rfl : i = 1 := by omega
      have hnx := fun ty => run_next_ascii (P := Tryd.prog) w ⟨#[47, 0]⟩ 1 ty (by rw [hsz]; omega) (by show (0 : UInt8).toNat < 128; decide)
      rw [show ((⟨#[47, 0]⟩ : ByteArray)[1]'(by rw [hsz]; omega)).toNat = 0 from rfl] at hnx
      go_wp2
      go_roundg 0
      case measure => omega
      case rel => exact ⟨2, rfl, rfl⟩
    | 2, hi =>
      obtain rfl : i = 0 := by omega
      have hnx := fun ty => run_next_ascii (P := Tryd.prog) w ⟨#[47, 0]⟩ 0 ty (by rw [hsz]; omega) (by show (47 : UInt8).toNat < 128; decide)
      rw [show ((⟨#[47, 0]⟩ : ByteArray)[0]'(by rw [hsz]; omega)).toNat = 47 from rfl] at hnx
      go_wp2
      go_roundg 1
      case measure => omega
      case rel => exact ⟨1, rfl, rfl⟩
    | g + 3, hi => omega
theorem conv_rune (c : Int) (W : World) : (convert 21 9 (.int .i32 c)).run Tryd.prog W = .ok (.string (Utf8.encode c)) W := by kernel_rfl
theorem encode_two {c : Nat} (h1 : 128 ≤ c) (h2 : c < 2048) : ∃ x y : UInt8, Utf8.encode (c : Int) = ⟨#[x, y]⟩ ∧ 128 ≤ y.toNat := by
  have hv : Utf8.valid (c : Int) = true := by unfold Utf8.valid; simp; omega
  refine ⟨UInt8.ofNat (0xC0 + c / 64), UInt8.ofNat (0x80 + c % 64), ?_, ?_⟩
  · unfold Utf8.encode
    simp only [hv, if_true, Int.toNat_natCast]
    rw [if_neg (by omega), if_pos h2]
  · rw [UInt8.toNat_ofNat']
    omega
theorem encode_more {c : Nat} (h2 : 2048 ≤ c) (hv : Lib.validRune (c : Int) = true) : (Utf8.encode (c : Int)).size = 3 ∨ (Utf8.encode (c : Int)).size = 4 := by
  unfold Utf8.encode
  simp only
  split
  · simp only [Int.toNat_natCast]
    rw [if_neg (by omega), if_neg (by omega)]
    split
    · exact .inl rfl
    · exact .inr rfl
  · exact .inl rfl
set_option maxRecDepth 100000 in
set_option maxHeartbeats 8000000 in
theorem indexrune_far (c : Nat) (h1 : 128 ≤ c) (hv : Lib.validRune (c : Int) = true) (hn : c ≠ 65533) (w : World) : Calls Tryd.prog 53 #[.string ⟨#[47, 0]⟩, .int .i32 (c : Int)] w fun e w' => e = .returned (.int .i64 (-1)) ∧ Chg [] w w' := by
  have t1 : ¬ ((c : Int) < 128) := by omega
  have t2 : ((c : Int) == 65533) = false := by simp; omega
  have HV := Asd.mk hv
  have hcv := fun W => conv_rune (c : Int) W
  by_cases h2 : c < 2048
  · obtain ⟨x, y, hE, hy⟩ := encode_two h1 h2
    rw [hE] at hcv
    have t3 : ((0 : Int) == (y.toNat : Int)) = false := by simp; omega
    have t4 : ((0 : Int) != (y.toNat : Int)) = true := by simp; omega
    clear hv hE h1 h2
    go_enter Tryd.func53, Tryd.ntmps53
    go_wp2_with fail
    refine (Tryd.utf8_ValidRune (c : Int) w).mono ?_
    rintro e w1 ⟨rfl, rfl⟩
    rw [HV.out]
    go_wp2
    refine wp_scope_straight ?_
    go_wp2
    go_loopg [9, 10] 1 (fun gk v9 v10 wx => w1 = wx ∧ gk = 1 ∧ v9 = .int .i64 1 ∧ v10 = .int .i64 0)
    case atStart => exact ⟨rfl, rfl, rfl, rfl⟩
    case round =>
      obtain ⟨rfl, rfl, rfl, rfl⟩ := hrel
      go_wp2
      first | refine wp_scope_straight ?_ | skip
      go_upto_region 6 with fail
      go_quiet (fail)
      have t5 : (((((⟨#[47, 0]⟩ : ByteArray)[1]'(by decide)).toNat : Nat) : Int) != (((⟨#[x, y]⟩ : ByteArray)[1]'(by show 1 < 2; omega)).toNat : Nat)) = true := t4
      have kw : IntKind.i64.wrap 2 = 2 := by decide
      have hib := fun (W : World) => show Calls Tryd.prog 73 #[.string ByteArray.empty, .int .u8 ((((⟨#[x, y]⟩ : ByteArray)[1]'(by show 1 < 2; omega)).toNat : Nat) : Int)] W fun e w' => e = .returned (.int .i64 (-1)) ∧ w' = W from Tryd.strings_IndexByte ByteArray.empty _ W
      go_upto_region 7 with fail
      have cI := quiet_of (w := w1.drewN nq) (fun W (hW : Chg [] (w1.drewN nq) W) => (hib W).mono fun e w' h => ⟨h.1, by rw [h.2]; exact Chg.refl _ _⟩)
      refine wp_region_quiet_below (by kernel_rfl) (by kernel_rfl) ?_
      repeat (quiet_step ((go_at_call 73; exact cI _ _)))
      refine wpQuiet_nil ?_
      rintro w' ⟨q, rfl⟩
      go_wp2
      rw [Exit.noGoto_ret, inBlock_ret, then_ret, inBlock_ret, then_ret, Exit.noGoto_ret]
      go_ret
      exact ⟨rfl, ((Chg.refl _ _).drewN nq).trans (chg_regrown _ _ _)⟩
  · have hE := encode_more (show 2048 ≤ c by omega) hv
    obtain ⟨E, hEe⟩ : ∃ E, Utf8.encode (c : Int) = E := ⟨_, rfl⟩
    rw [hEe] at hE hcv
    clear hv h1 h2 hEe
    rcases hE with hk | hk
    · go_enter Tryd.func53, Tryd.ntmps53
      go_wp2_with fail
      refine (Tryd.utf8_ValidRune (c : Int) w).mono ?_
      rintro e w1 ⟨rfl, rfl⟩
      rw [HV.out]
      go_wp2
      refine wp_scope_straight ?_
      go_wp2
      go_loopg [9, 10] 1 (fun gk v9 v10 wx => w1 = wx ∧ gk = 1 ∧ v9 = .int .i64 2 ∧ v10 = .int .i64 0)
      case atStart => exact ⟨rfl, rfl, rfl, rfl⟩
      case round =>
        obtain ⟨rfl, rfl, rfl, rfl⟩ := hrel
        go_wp2
        rw [Exit.noGoto_ret]
        go_ret
        exact ⟨rfl, Chg.refl _ _⟩
    · go_enter Tryd.func53, Tryd.ntmps53
      go_wp2_with fail
      refine (Tryd.utf8_ValidRune (c : Int) w).mono ?_
      rintro e w1 ⟨rfl, rfl⟩
      rw [HV.out]
      go_wp2
      refine wp_scope_straight ?_
      go_wp2
      go_loopg [9, 10] 1 (fun gk v9 v10 wx => w1 = wx ∧ gk = 1 ∧ v9 = .int .i64 3 ∧ v10 = .int .i64 0)
      case atStart => exact ⟨rfl, rfl, rfl, rfl⟩
      case round =>
        obtain ⟨rfl, rfl, rfl, rfl⟩ := hrel
        go_wp2
        rw [Exit.noGoto_ret]
        go_ret
        exact ⟨rfl, Chg.refl _ _⟩
/-- Has a text a slash or a zero byte? -/
def badB (l : List UInt8) : Bool := l.any fun b => b == 47 || b == 0
theorem contains_bad (b : UInt8) : (⟨#[47, 0]⟩ : ByteArray).data.toList.contains b = (b == 47 || b == 0) := by
  show ([47, 0] : List UInt8).contains b = _
  rw [List.contains_cons, List.contains_cons]
  simp only [List.contains_nil, Bool.or_false]
def bnI (s : ByteArray) (i : Nat) : Nat := if h : i < s.size then (s[i]'h).toNat else 0
theorem get_bnI {s : ByteArray} {i : Nat} (h : i < s.size) : (s.get! i).toNat = bnI s i := by
  unfold bnI
  rw [dif_pos h]
  have : s.get! i = s[i] := by
    show s.data[i]! = s.data[i]
    exact getElem!_pos s.data i h
  rw [this]
theorem dec_wide {s : ByteArray} {pos : Nat} (h : pos < s.size) (hb : 128 ≤ bnI s pos) : 128 ≤ (Utf8.decode s pos).1 ∧ Lib.validRune ((Utf8.decode s pos).1 : Int) = true ∧ 1 ≤ (Utf8.decode s pos).2 ∧ pos + (Utf8.decode s pos).2 ≤ s.size ∧ ∀ k, pos ≤ k → k < pos + (Utf8.decode s pos).2 → 128 ≤ bnI s k := by
  have hv : ∀ r : Nat, (r < 55296 ∨ 57343 < r ∧ r ≤ 1114111) → Lib.validRune (r : Int) = true := fun r hr => by
    unfold Lib.validRune
    exact decide_eq_true (by omega)
  rw [Lib.decode_at, get_bnI h]
  have hlt : ∀ k, (s.get! k).toNat < 256 := fun k => (s.get! k).toNat_lt
  have q1 := hlt (pos + 1); have q2 := hlt (pos + 2); have q3 := hlt (pos + 3)
  have q0 : bnI s pos < 256 := by rw [← get_bnI h]; exact hlt pos
  have c1 : ∀ j, j < s.size - pos → (s.get! (pos + j)).toNat / 64 = 2 → 128 ≤ bnI s (pos + j) := fun j hj h2 => by
    rw [get_bnI (by omega)] at h2
    omega
  have one : (128 ≤ 65533 ∧ Lib.validRune ((65533 : Nat) : Int) = true ∧ 1 ≤ 1 ∧ pos + 1 ≤ s.size ∧ ∀ k, pos ≤ k → k < pos + 1 → 128 ≤ bnI s k) := ⟨by omega, hv _ (by omega), Nat.le_refl _, h, fun k k1 k2 => by
    obtain rfl : k = pos := by omega
    exact hb⟩
  unfold Lib.decodeN
  rw [if_neg (by omega)]
  split
  · rename_i e1
    split
    · rename_i e2
      refine ⟨e2, hv _ (by simp only; omega), by simp, by simp only; omega, fun k k1 k2 => ?_⟩
      simp only at k2
      rcases (show k = pos ∨ k = pos + 1 by omega) with rfl | rfl
      · exact hb
      · exact c1 1 (by omega) e1.2.2
    · exact one
  · split
    · rename_i e1
      split
      · rename_i e2
        refine ⟨by simp only; omega, hv _ (by simp only; omega), by simp, by simp only; omega, fun k k1 k2 => ?_⟩
        simp only at k2
        rcases (show k = pos ∨ k = pos + 1 ∨ k = pos + 2 by omega) with rfl | rfl | rfl
        · exact hb
        · exact c1 1 (by omega) e1.2.1.2
        · exact c1 2 (by omega) e1.2.2.2
      · exact one
    · split
      · rename_i e1
        split
        · rename_i e2
          refine ⟨by simp only; omega, hv _ (by simp only; omega), by simp, by simp only; omega, fun k k1 k2 => ?_⟩
          simp only at k2
          rcases (show k = pos ∨ k = pos + 1 ∨ k = pos + 2 ∨ k = pos + 3 by omega) with rfl | rfl | rfl | rfl
          · exact hb
          · exact c1 1 (by omega) e1.2.1.2
          · exact c1 2 (by omega) e1.2.2.1.2
          · exact c1 3 (by omega) e1.2.2.2.2
        · exact one
      · exact one
theorem indexAny_bad : ∀ l : List UInt8, decide (0 ≤ Lib.indexAny l (⟨#[47, 0]⟩ : ByteArray).data.toList) = badB l
  | [] => rfl
  | b :: l => by
    have ih := indexAny_bad l
    unfold badB at ih ⊢
    rw [List.any_cons, ← ih, ← contains_bad b]
    have hge := Lib.indexAny_ge (⟨#[47, 0]⟩ : ByteArray).data.toList l
    show decide (0 ≤ if (⟨#[47, 0]⟩ : ByteArray).data.toList.contains b then (0 : Int) else if Lib.indexAny l (⟨#[47, 0]⟩ : ByteArray).data.toList == -1 then -1 else Lib.indexAny l (⟨#[47, 0]⟩ : ByteArray).data.toList + 1) = _
    cases (⟨#[47, 0]⟩ : ByteArray).data.toList.contains b with
    | true => rfl
    | false =>
      simp only [Bool.false_eq_true, if_false, Bool.false_or]
      by_cases h : Lib.indexAny l (⟨#[47, 0]⟩ : ByteArray).data.toList = -1
      · rw [h]; rfl
      · rw [show (Lib.indexAny l (⟨#[47, 0]⟩ : ByteArray).data.toList == -1) = false from beq_eq_false_iff_ne.2 h]
        rw [if_neg (show ¬ (false = true) by decide)]
        generalize Lib.indexAny l (⟨#[47, 0]⟩ : ByteArray).data.toList = a at hge h ⊢
        apply decide_eq_decide.2
        constructor <;> intro _ <;> omega
theorem Chg.iterAt {L : List Nat} {a b : World} (h : Chg L a b) {k : Nat} (hk : k < a.heap.size → k ∈ L) (s : ByteArray) (pos : Nat) : Chg L a (b.iterAt k s pos) :=
  ⟨h.os, h.tape, h.output, by
    show a.heap.size ≤ (b.heap.setIfInBounds k _).size
    simpa using h.size, fun i hi hn => by
    show (b.heap.setIfInBounds k _)[i]? = _
    rw [Array.getElem?_setIfInBounds_ne (by rintro rfl; exact hn (hk hi))]
    exact h.block i hi hn⟩
theorem bad_all {s : ByteArray} (h : ∀ j, j < s.size → bnI s j ≠ 47 ∧ bnI s j ≠ 0) : badB s.data.toList = false := by
  unfold badB
  rw [List.any_eq_false]
  intro b hb
  obtain ⟨i, hi, he⟩ := List.getElem_of_mem hb
  have hi2 : i < s.size := by simpa using hi
  have h1 := h i hi2
  have h2 : bnI s i = b.toNat := by
    unfold bnI
    rw [dif_pos hi2, ← he]
    rfl
  rw [h2] at h1
  simp only [Bool.or_eq_true, beq_iff_eq, not_or]
  exact ⟨fun e => h1.1 (by rw [e]; rfl), fun e => h1.2 (by rw [e]; rfl)⟩
theorem bad_one {s : ByteArray} {j : Nat} (hj : j < s.size) (h : bnI s j = 47 ∨ bnI s j = 0) : badB s.data.toList = true := by
  unfold badB
  rw [List.any_eq_true]
  have hl : j < s.data.toList.length := by simpa using hj
  refine ⟨s.data.toList[j], List.getElem_mem hl, ?_⟩
  have h2 : bnI s j = (s.data.toList[j]).toNat := by
    unfold bnI
    rw [dif_pos hj]
    rfl
  rw [h2] at h
  simp only [Bool.or_eq_true, beq_iff_eq]
  rcases h with h | h
  · exact .inl (UInt8.toNat_inj.1 h)
  · exact .inr (UInt8.toNat_inj.1 h)
theorem decide_ascii_bnI {s : ByteArray} {pos : Nat} (h : pos < s.size) (hb : bnI s pos < 128) : Utf8.decode s pos = (bnI s pos, 1) := by
  have e : bnI s pos = (s[pos]'h).toNat := by unfold bnI; rw [dif_pos h]
  rw [e] at hb ⊢
  exact decode_ascii s pos h hb
theorem index_sz {r : Nat} (h : r < 128) : Lib.indexByte (⟨#[47, 0]⟩ : ByteArray).data.toList ((r : Int)).toNat.toUInt8 = if r = 47 then 0 else if r = 0 then 1 else -1 := by
  have h2 : ((r : Int)).toNat.toUInt8.toNat = r := by
    rw [Int.toNat_natCast, Nat.toUInt8_eq, UInt8.toNat_ofNat']
    omega
  generalize ((r : Int)).toNat.toUInt8 = c at h2
  subst h2
  by_cases h47 : c = 47
  · subst h47; rfl
  · by_cases h0 : c = 0
    · subst h0; rfl
    · rw [if_neg (fun e => h47 (UInt8.toNat_inj.1 (e.trans rfl : c.toNat = (47 : UInt8).toNat))), if_neg (fun e => h0 (UInt8.toNat_inj.1 (e.trans rfl : c.toNat = (0 : UInt8).toNat)))]
      show Lib.indexByte [47, 0] c = -1
      simp [Lib.indexByte, Ne.symm h47, Ne.symm h0]
end Go.Proofs.YtiijbecklkccfaaDoor.I
