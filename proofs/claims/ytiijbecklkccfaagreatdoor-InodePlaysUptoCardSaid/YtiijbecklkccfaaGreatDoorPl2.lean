/- Merged out of these texts: FSDef, IKit, Tab, IShelf, NameW. -/
import Derived.Test.YtiijbecklkccfaaGreatDoorPl1
import Derived.Deep.CutRange
import Derived.Deep.CutBlock
import Derived.Deep.LoopGhost
import Derived.Deep.WholeRow
import Derived.Lib.QuietBelow
import Derived.Scope
import Derived.WalkMore
import Derived.Test.YtiijbecklkccfaaGreatDoorChecked
import Derived.Shelf.Small.Utf8
import Derived.Shelf.Small.Bits
import Derived.Shelf.Small.Strs
import Derived.Shelf.Utf8.RuneCount
import Derived.Shelf.Strconv.Itoa0
import Derived.Shelf.Strings.Search1
import Derived.Shelf.Strings.Search2
import Derived.Shelf.Strings.Search3
import Derived.Shelf.Strings.Count
import Derived.Shelf.LaysM
import Derived.Shelf.Strings.Shaped
import Derived.Shelf.Sort.Plain
import Derived.Shelf.Strings.Prefix
import Derived.Shelf.Strings.Split
import Derived.Shelf.Strings.SplitShaped
import Derived.Shelf.Unicode.Decode
import Derived.Shelf.Strings.Runes
import Derived.Shelf.Strings.RuneCount
import Derived.Shelf.Strings.IndexAny
import Derived.Shelf.Strings.AsciiSet
import Derived.Shelf.Strings.IndexAnyAll
import Derived.Shelf.Strings.Explode
import Derived.Shelf.Unicode.DecodeSlow
import Derived.Shelf.Unicode.DecodeAny
import Derived.Shelf.Slices.In.SortNone
import Derived.Test.YtiijbecklkccfaaGreatDoorProg
import Derived.Lib.OthersKept
import Derived.Laws.RangeAny
import Derived.Lib.DecodeN
/- A file system, plainly: all that stands in it but the root, by path; what a path's parts are; the way to a path. No program in sight. -/
namespace Go.Proofs.YtiijbecklkccfaaGreatDoor.B
open Go.RowKit
set_option linter.unusedVariables false
/-- A path: its names. -/
abbrev Pth := List Nm
/-- What stands somewhere: 1 a file, 2 a directory, 3 a link. -/
structure Nd where
  kind : Nat
  text : ByteArray
abbrev FS := List (Pth × Nd)
def rootN : Nd := ⟨2, ⟨#[]⟩⟩
/-- What stands at a path. -/
def FS.at (fs : FS) (p : Pth) : Option Nd := if p = [] then some rootN else fs.lookup p
theorem at_root (fs : FS) : fs.at [] = some rootN := rfl
theorem at_ne (fs : FS) {p : Pth} (h : p ≠ []) : fs.at p = fs.lookup p := by unfold FS.at; rw [if_neg h]
/-- May something be called so? -/
def okNm (n : Nm) : Bool := decide (n ≠ [] ∧ n.length ≤ 255 ∧ n ≠ [46] ∧ n ≠ [46, 46] ∧ (47 : UInt8) ∉ n ∧ (0 : UInt8) ∉ n)
/-- A path's parts; the error's number. -/
def partsF (s : ByteArray) : Except Nat Pth :=
  if 4096 < s.size then .error 2
  else if s.size = 0 then .ok []
  else if (spL 47 s.data.toList).all okNm = false then .error 30
  else if 64 < (spL 47 s.data.toList).length then .error 2
  else .ok (spL 47 s.data.toList)
/-- The error of the way to a path, from a directory on. -/
def wayFrom (fs : FS) : Pth → Pth → Option Nat
  | _, [] => none
  | _, [_] => none
  | d, n :: m :: r => match fs.at (d ++ [n]) with
    | none => some 200
    | some x => if x.kind = 1 then some 203 else if x.kind = 3 then some 204 else wayFrom fs (d ++ [n]) (m :: r)
def wayE (fs : FS) (p : Pth) : Option Nat := wayFrom fs [] p
/-- The bytes of all texts. -/
def usedF (fs : FS) : Nat := (fs.map fun x => x.2.text.size).sum
/-- A file system as calls make it: no path twice, none of them empty; what has something below it is a directory. -/
structure FsOk (fs : FS) : Prop where
  nodup : (fs.map (·.1)).Nodup
  ne : ∀ x ∈ fs, x.1 ≠ []
  up : ∀ p n, fs.at (p ++ [n]) ≠ none → ∃ x, fs.at p = some x ∧ x.kind = 2
  kind : ∀ p x, fs.at p = some x → x.kind = 1 ∨ x.kind = 2 ∨ x.kind = 3
  dirs : ∀ p x, fs.at p = some x → x.kind = 2 → x.text = ⟨#[]⟩
  small : ∀ p x, fs.at p = some x → x.text.size ≤ 4194304
  okp : ∀ p x, fs.at p = some x → p.length ≤ 64 ∧ (joinL 47 p).length ≤ 4096 ∧ p.all okNm = true
theorem lookup_mem {p : Pth} {x : Nd} : ∀ {fs : FS}, fs.lookup p = some x → (p, x) ∈ fs
  | [], h => by simp at h
  | (q, y) :: fs, h => by
    rw [List.lookup_cons] at h
    by_cases hq : p = q
    · subst hq
      simp at h
      simp [h]
    · have : (p == q) = false := by simp [hq]
      rw [this] at h
      exact List.mem_cons_of_mem _ (lookup_mem h)
theorem mem_lookup {p : Pth} {x : Nd} : ∀ {fs : FS}, (fs.map (·.1)).Nodup → (p, x) ∈ fs → fs.lookup p = some x
  | [], _, h => by cases h
  | (q, y) :: fs, hd, h => by
    simp only [List.map_cons, List.nodup_cons] at hd
    rw [List.lookup_cons]
    rcases List.mem_cons.1 h with h2 | h2
    · simp only [Prod.mk.injEq] at h2
      rw [h2.1, h2.2]; simp
    · have : (p == q) = false := by
        simp only [beq_eq_false_iff_ne]
        rintro rfl
        exact hd.1 (List.mem_map.2 ⟨(p, x), h2, rfl⟩)
      rw [this]
      exact mem_lookup hd.2 h2
theorem fsOk_nil : FsOk [] := by
  refine ⟨by simp, by simp, ?_, ?_, ?_, ?_, ?_⟩
  · intro p n h
    rw [at_ne _ (by simp)] at h
    exact absurd rfl h
  · intro p x h
    unfold FS.at at h
    split at h
    · cases h; exact .inr (.inl rfl)
    · simp at h
  · intro p x h _
    unfold FS.at at h
    split at h
    · cases h; rfl
    · simp at h
  · intro p x h
    unfold FS.at at h
    split at h
    · cases h; show 0 ≤ 4194304; omega
    · simp at h
  · intro p x h
    unfold FS.at at h
    split at h
    · rename_i hp; rw [hp]; simp [joinL]
    · simp at h
/-- What stands at a beginning of a path at which something stands. -/
theorem FsOk.prefix {fs : FS} (h : FsOk fs) : ∀ {q p : Pth}, fs.at (p ++ q) ≠ none → q ≠ [] → ∃ x, fs.at p = some x ∧ x.kind = 2
  | [], p, _, hq => absurd rfl hq
  | [n], p, ha, _ => h.up p n ha
  | n :: m :: r, p, ha, _ => by
    have e : p ++ n :: m :: r = (p ++ [n]) ++ m :: r := by simp
    rw [e] at ha
    obtain ⟨x, hx, _⟩ := h.prefix ha (by simp)
    exact h.up p n (by rw [hx]; simp)
/-- A way that is clear ends in a directory. -/
theorem way_dir {fs : FS} (hg : FsOk fs) : ∀ {r d : Pth}, wayFrom fs d r = none → (∃ x, fs.at d = some x ∧ x.kind = 2) → r ≠ [] → ∃ x, fs.at (d ++ r.dropLast) = some x ∧ x.kind = 2
  | [], _, _, _, h => absurd rfl h
  | [n], d, _, hd, _ => by simpa using hd
  | n :: m :: r, d, h, hd, _ => by
    simp only [wayFrom] at h
    cases hx : fs.at (d ++ [n]) with
    | none => rw [hx] at h; cases h
    | some x =>
      rw [hx] at h
      simp only at h
      split at h
      · cases h
      · split at h
        · cases h
        · rename_i h1 h3
          have hk := hg.kind _ _ hx
          have := way_dir hg (d := d ++ [n]) h ⟨x, hx, by omega⟩ (by simp)
          simpa using this
end Go.Proofs.YtiijbecklkccfaaGreatDoor.B
/- Words that all walks of this folder use. No program in sight. -/
namespace Go.Proofs.YtiijbecklkccfaaGreatDoor.B
open Go.RowKit Go.Sort
/-- The world of a walk, under a name. -/
theorem wp_opaque2 {P : Program} {c : Code} {Q : Exit → Act → World → Prop} {a : Act} {w : World} (h : ∀ W, W = w → c.wp P Q a W) : c.wp P Q a w := h _ rfl
theorem chg_regrown (w : World) (d : Nat) (os : Array Obj) : Chg [] w (grow (redrawn w d) os) := Chg.of_below (below_regrown w d os)
theorem inBlock_ret (id : Nat) (Q : Exit → Act → World → Prop) (a : Act) (w : World) : Exit.inBlock id Q .ret a w = Q .ret a w := rfl
theorem then_ret (n : Act → World → Prop) (Q : Exit → Act → World → Prop) (a : Act) (w : World) : Exit.then n Q .ret a w = Q .ret a w := rfl
end Go.Proofs.YtiijbecklkccfaaGreatDoor.B
/- A file system in memory: the table's cells, the nodes', the directories' maps; what a look-up in a directory gives. -/
namespace Go.Proofs.YtiijbecklkccfaaGreatDoor.I
open Go.RowKit Go.Proofs.YtiijbecklkccfaaGreatDoor.B Go.Sort
set_option linter.unusedVariables false
/-- A callee of a region that draws: its contract, in every world of the class. -/
theorem quiet_of {f : FuncId} {args : Array Value} {w : World} {v : Value} (h : ∀ W, Chg [] w W → Calls Tryz.prog f args W fun e w' => e = .returned v ∧ Chg [] W w') (d : Nat) (os : Array Obj) :
    Calls Tryz.prog f args (grow (redrawn w d) os) fun e w'' => e = .returned v ∧ ∃ p : Regrown, w'' = grow (redrawn w p.d) p.os :=
  Calls.regrown_of ((h _ (chg_regrown w d os)).mono fun e w' ⟨h1, h2⟩ => ⟨h1, h2.below⟩)
/-- What a directory's map holds at a name. -/
def kidA (fs : FS) (A : Pth → Nat) (p : Pth) : Option Addr := (fs.at p).map fun _ => ⟨A p, 0, none⟩
def dirA (A : Pth → Nat) (p : Pth) : Option Addr := if p = [] then none else some ⟨A p.dropLast, 0, none⟩
def lastS (p : Pth) : ByteArray := if p = [] then ⟨#[]⟩ else nb (p.getLastD [])
/-- Where a file system lies: at each path's node, at each directory's map; all in the blocks L. -/
structure TabAt (w : World) (L : List Nat) (t : Nat) (fs : FS) (by' nd : Nat) (A M : Pth → Nat) : Prop where
  tab : w.heap[t]? = some (.cells #[(.pointer (some ⟨A [], 0, none⟩)), .int .i64 (by' : Int), .int .i64 (nd : Int), .int .i64 (usedF fs : Int), .int .i64 (fs.length : Int)] 75 (0, 0))
  node : ∀ p x, fs.at p = some x → w.heap[A p]? = some (.cells #[.int .i64 (x.kind : Int), .string x.text, if x.kind = 2 then .map (some (M p)) else .map none] 85 (0, 0))
  kids : ∀ p x, fs.at p = some x → x.kind = 2 → ∃ es clock K, w.heap[M p]? = some (.map es clock) ∧ MKids es clock K ∧ ∀ n, K.lookup n = (fs.at (p ++ [n])).map fun _ => (.pointer (some ⟨A (p ++ [n]), 0, none⟩))
  tL : t ∈ L
  bl : ∀ i ∈ L, i < w.heap.size
  aL : ∀ p x, fs.at p = some x → A p ∈ L ∧ (x.kind = 2 → M p ∈ L)
  injA : ∀ p q x y, fs.at p = some x → fs.at q = some y → A p = A q → p = q
  injM : ∀ p q x y, fs.at p = some x → fs.at q = some y → x.kind = 2 → y.kind = 2 → M p = M q → p = q
theorem TabAt.keep {w w' : World} {L K : List Nat} {t by' nd : Nat} {fs : FS} {A M : Pth → Nat} (h : TabAt w L t fs by' nd A M) (hc : Chg K w w') (hd : ∀ i ∈ L, i ∉ K) : TabAt w' L t fs by' nd A M := by
  refine ⟨hc.heap h.tab (hd _ h.tL), fun p x hx => hc.heap (h.node p x hx) (hd _ (h.aL p x hx).1), fun p x hx hk => ?_, h.tL, fun i hi => Nat.lt_of_lt_of_le (h.bl i hi) hc.size, h.aL, h.injA, h.injM⟩
  obtain ⟨es, clock, K', h1, h2, h3⟩ := h.kids p x hx hk
  exact ⟨es, clock, K', hc.heap h1 (hd _ ((h.aL p x hx).2 hk)), h2, h3⟩
theorem TabAt.keep0 {w w' : World} {L : List Nat} {t by' nd : Nat} {fs : FS} {A M : Pth → Nat} (h : TabAt w L t fs by' nd A M) (hc : Chg [] w w') : TabAt w' L t fs by' nd A M := h.keep hc (by simp)
theorem TabAt.lt {w : World} {L : List Nat} {t by' nd : Nat} {fs : FS} {A M : Pth → Nat} (h : TabAt w L t fs by' nd A M) {p : Pth} {x : Nd} (hx : fs.at p = some x) : A p < w.heap.size := lt_of_heap (h.node p x hx)
/-- The zero of *node. -/
theorem zero_node (w : World) : (zeroValue 72).run Tryz.prog w = .ok (.pointer none) w := by kernel_rfl
/-- A look-up in a directory. -/
theorem look_kid {w : World} {L : List Nat} {t by' nd : Nat} {fs : FS} {A M : Pth → Nat} (h : TabAt w L t fs by' nd A M) {p : Pth} {x : Nd} (hx : fs.at p = some x) (hk : x.kind = 2) (n : Nm) :
    (Instr.lookup 83 (.map (some (M p))) (.string (nb n)) false).run Tryz.prog w = .ok (.pointer (kidA fs A (p ++ [n]))) w := by
  obtain ⟨es, clock, K, h1, h2, h3⟩ := h.kids p x hx hk
  have := run_look (P := Tryz.prog) Tryz.underlying83 Tryz.underlying9 (zero_node w) h1 h2 (nb n)
  rw [this, list_nb, h3]
  unfold kidA
  cases fs.at (p ++ [n]) <;> rfl
/-- A row of names in memory. -/
def NmR (w : World) (g o : Nat) (l : List Nm) : Prop := ∃ cs, w.heap[g]? = some (.cells cs 9 (0, 0)) ∧ ∀ i, (hi : i < l.length) → cs[o + i]? = some (.string (nb (l[i]'hi)))
theorem NmR.keep {w w' : World} {g o : Nat} {l : List Nm} {K : List Nat} (h : NmR w g o l) (hc : Chg K w w') (hg : g ∉ K) : NmR w' g o l := by
  obtain ⟨cs, h1, h2⟩ := h
  exact ⟨cs, hc.heap h1 hg, h2⟩
theorem NmR.cell {w : World} {g o : Nat} {l : List Nm} (h : NmR w g o l) {i : Nat} (hi : i < l.length) : w.cell? ⟨g, o + i, none⟩ = some (.string (nb (l[i]'hi))) := by
  obtain ⟨cs, h1, h2⟩ := h
  rw [cell_of_heap h1]
  exact h2 i hi
end Go.Proofs.YtiijbecklkccfaaGreatDoor.I
/- The contracts of the library that this claim uses: laid by the kit's tools (lay-shelf, lay-plain) at this program; the others left out. -/
namespace Go.Proofs
open Go.Shelf
def Tryz.lays119_ren : Go.Shelf.Ren := ⟨fun | 119 => 131 | n => n, fun | 21 => 21 | 4 => 4 | n => n, fun | n => n⟩
theorem Tryz.lays119 : Go.Proofs.Lays.n119 Tryz.prog Tryz.lays119_ren := {
  mixed := by kernel_rfl
  f119 := Tryz.func131.trans (congrArg some (by kernel_rfl))
  t4 := Tryz.underlying4
  a4 := Tryz.isAgg4
  z4 := Tryz.sizeOf4
  v4 := Tryz.zeroValue4
  t21 := Tryz.underlying21
  a21 := Tryz.isAgg21
  z21 := Tryz.sizeOf21
  v21 := Tryz.zeroValue21 }
theorem Tryz.utf8_ValidRune (r : Int) (w : World) :
    Calls Tryz.prog 131 #[.int .i32 r] w fun e w' => e = .returned (.bool (Lib.validRune r)) ∧ w' = w := Any.utf8_ValidRune Tryz.lays119 r w
def Tryz.lays137_ren : Go.Shelf.Ren := ⟨fun | 137 => 130 | 217 => 115 | 266 => 127 | n => n, fun | 9 => 9 | 5 => 5 | 3 => 3 | n => n, fun | n => n⟩
theorem Tryz.lays137 : Go.Proofs.Lays.n137 Tryz.prog Tryz.lays137_ren := {
  mixed := by kernel_rfl
  f137 := Tryz.func130.trans (congrArg some (by kernel_rfl))
  f217 := Tryz.func115.trans (congrArg some (by kernel_rfl))
  f266 := Tryz.func127.trans (congrArg some (by kernel_rfl))
  t3 := Tryz.underlying3
  a3 := Tryz.isAgg3
  z3 := Tryz.sizeOf3
  v3 := Tryz.zeroValue3
  t5 := Tryz.underlying5
  a5 := Tryz.isAgg5
  z5 := Tryz.sizeOf5
  v5 := Tryz.zeroValue5
  t9 := Tryz.underlying9
  a9 := Tryz.isAgg9
  z9 := Tryz.sizeOf9
  v9 := Tryz.zeroValue9 }
open Go.RowKit in
theorem Tryz.strings_IndexByte (s : ByteArray) (c : Int) (w : World) :
    Calls Tryz.prog 130 #[.string s, .int .u8 c] w fun e w' => e = .returned (.int .i64 (Lib.indexByte s.data.toList c.toNat.toUInt8)) ∧ w' = w := Any.strings_IndexByte Tryz.lays137 s c w
def Tryz.lays144_ren : Go.Shelf.Ren := ⟨fun | 144 => 66 | 143 => 85 | 219 => 105 | 217 => 115 | 225 => 116 | 224 => 117 | 267 => 118 | 266 => 127 | 314 => 128 | n => n, fun | 9 => 9 | 4 => 4 | 3 => 3 | 5 => 5 | 46 => 131 | 146 => 182 | 51 => 158 | n => n, fun | 1 => 1 | n => n⟩
theorem Tryz.lays144 : Go.Proofs.Lays.n144 Tryz.prog Tryz.lays144_ren := {
  mixed := by kernel_rfl
  f143 := Tryz.func85.trans (congrArg some (by kernel_rfl))
  f144 := Tryz.func66.trans (congrArg some (by kernel_rfl))
  f217 := Tryz.func115.trans (congrArg some (by kernel_rfl))
  f219 := Tryz.func105.trans (congrArg some (by kernel_rfl))
  f224 := Tryz.func117.trans (congrArg some (by kernel_rfl))
  f225 := Tryz.func116.trans (congrArg some (by kernel_rfl))
  f266 := Tryz.func127.trans (congrArg some (by kernel_rfl))
  f267 := Tryz.func118.trans (congrArg some (by kernel_rfl))
  f314 := Tryz.func128.trans (congrArg some (by kernel_rfl))
  t3 := Tryz.underlying3
  a3 := Tryz.isAgg3
  z3 := Tryz.sizeOf3
  v3 := Tryz.zeroValue3
  t4 := Tryz.underlying4
  a4 := Tryz.isAgg4
  z4 := Tryz.sizeOf4
  v4 := Tryz.zeroValue4
  t5 := Tryz.underlying5
  a5 := Tryz.isAgg5
  z5 := Tryz.sizeOf5
  v5 := Tryz.zeroValue5
  t9 := Tryz.underlying9
  a9 := Tryz.isAgg9
  z9 := Tryz.sizeOf9
  v9 := Tryz.zeroValue9
  t46 := Tryz.underlying131
  a46 := Tryz.isAgg131
  z46 := Tryz.sizeOf131
  v46 := Tryz.zeroValue131
  t51 := Tryz.underlying158
  a51 := Tryz.isAgg158
  z51 := Tryz.sizeOf158
  v51 := Tryz.zeroValue158
  t146 := Tryz.underlying182
  a146 := Tryz.isAgg182
  z146 := Tryz.sizeOf182
  v146 := Tryz.zeroValue182
  g1 := by kernel_rfl }
open Go.RowKit Go.Lib in
theorem Tryz.strings_Contains_one (s : ByteArray) (c : UInt8) (w : World) :
    Calls Tryz.prog 66 #[.string s, .string ⟨#[c]⟩] w fun e w' => e = .returned (.bool (decide (0 ≤ Lib.indexByte s.data.toList c))) ∧ w' = w := Any.strings_Contains_one Tryz.lays144 s c w
def Tryz.lays190_ren : Go.Shelf.Ren := ⟨fun | 190 => 65 | 125 => 84 | 258 => 83 | 128 => 103 | 129 => 104 | 302 => 94 | 303 => 95 | 304 => 96 | 305 => 97 | 306 => 98 | 307 => 99 | 308 => 100 | 309 => 101 | 310 => 102 | 333 => 109 | 329 => 110 | 330 => 111 | 334 => 112 | 335 => 113 | 336 => 114 | 344 => 126 | n => n, fun | 31 => 42 | 9 => 9 | 3 => 3 | 46 => 131 | 0 => 0 | 51 => 158 | 53 => 160 | 4 => 4 | 183 => 151 | 182 => 150 | 131 => 155 | 5 => 5 | 218 => 162 | 222 => 166 | 228 => 180 | 229 => 37 | n => n, fun | n => n⟩
theorem Tryz.lays190 : Go.Proofs.Lays.n190 Tryz.prog Tryz.lays190_ren := {
  mixed := by kernel_rfl
  f125 := Tryz.func84.trans (congrArg some (by kernel_rfl))
  f128 := Tryz.func103.trans (congrArg some (by kernel_rfl))
  f129 := Tryz.func104.trans (congrArg some (by kernel_rfl))
  f190 := Tryz.func65.trans (congrArg some (by kernel_rfl))
  f258 := Tryz.func83.trans (congrArg some (by kernel_rfl))
  f302 := Tryz.func94.trans (congrArg some (by kernel_rfl))
  f303 := Tryz.func95.trans (congrArg some (by kernel_rfl))
  f304 := Tryz.func96.trans (congrArg some (by kernel_rfl))
  f305 := Tryz.func97.trans (congrArg some (by kernel_rfl))
  f306 := Tryz.func98.trans (congrArg some (by kernel_rfl))
  f307 := Tryz.func99.trans (congrArg some (by kernel_rfl))
  f308 := Tryz.func100.trans (congrArg some (by kernel_rfl))
  f309 := Tryz.func101.trans (congrArg some (by kernel_rfl))
  f310 := Tryz.func102.trans (congrArg some (by kernel_rfl))
  f329 := Tryz.func110.trans (congrArg some (by kernel_rfl))
  f330 := Tryz.func111.trans (congrArg some (by kernel_rfl))
  f333 := Tryz.func109.trans (congrArg some (by kernel_rfl))
  f334 := Tryz.func112.trans (congrArg some (by kernel_rfl))
  f335 := Tryz.func113.trans (congrArg some (by kernel_rfl))
  f336 := Tryz.func114.trans (congrArg some (by kernel_rfl))
  f344 := Tryz.func126.trans (congrArg some (by kernel_rfl))
  t0 := Tryz.underlying0
  a0 := Tryz.isAgg0
  z0 := Tryz.sizeOf0
  v0 := Tryz.zeroValue0
  t3 := Tryz.underlying3
  a3 := Tryz.isAgg3
  z3 := Tryz.sizeOf3
  v3 := Tryz.zeroValue3
  t4 := Tryz.underlying4
  a4 := Tryz.isAgg4
  z4 := Tryz.sizeOf4
  v4 := Tryz.zeroValue4
  t5 := Tryz.underlying5
  a5 := Tryz.isAgg5
  z5 := Tryz.sizeOf5
  v5 := Tryz.zeroValue5
  t9 := Tryz.underlying9
  a9 := Tryz.isAgg9
  z9 := Tryz.sizeOf9
  v9 := Tryz.zeroValue9
  t31 := Tryz.underlying42
  a31 := Tryz.isAgg42
  z31 := Tryz.sizeOf42
  v31 := Tryz.zeroValue42
  t46 := Tryz.underlying131
  a46 := Tryz.isAgg131
  z46 := Tryz.sizeOf131
  v46 := Tryz.zeroValue131
  t51 := Tryz.underlying158
  a51 := Tryz.isAgg158
  z51 := Tryz.sizeOf158
  v51 := Tryz.zeroValue158
  t53 := Tryz.underlying160
  a53 := Tryz.isAgg160
  z53 := Tryz.sizeOf160
  v53 := Tryz.zeroValue160
  t131 := Tryz.underlying155
  a131 := Tryz.isAgg155
  z131 := Tryz.sizeOf155
  v131 := Tryz.zeroValue155
  t182 := Tryz.underlying150
  a182 := Tryz.isAgg150
  z182 := Tryz.sizeOf150
  v182 := Tryz.zeroValue150
  t183 := Tryz.underlying151
  a183 := Tryz.isAgg151
  z183 := Tryz.sizeOf151
  v183 := Tryz.zeroValue151
  t218 := Tryz.underlying162
  a218 := Tryz.isAgg162
  z218 := Tryz.sizeOf162
  v218 := Tryz.zeroValue162
  t222 := Tryz.underlying166
  a222 := Tryz.isAgg166
  z222 := Tryz.sizeOf166
  v222 := Tryz.zeroValue166
  t228 := Tryz.underlying180
  a228 := Tryz.isAgg180
  z228 := Tryz.sizeOf180
  v228 := Tryz.zeroValue180
  t229 := Tryz.underlying37
  a229 := Tryz.isAgg37
  z229 := Tryz.sizeOf37
  v229 := Tryz.zeroValue37 }
open Go.Sort Go.RowKit in
theorem Tryz.slices_Sort_string (blk off cap : Nat) (ss : List (List UInt8)) (w : World) (hH : Holds encStr w blk off ss.toArray) (hblk : blk < w.heap.size) (hsz : ss.length < 4611686018427387904) :
    Calls Tryz.prog 65 #[.slice (some ⟨blk, off, none⟩) ss.length cap] w fun e w' =>
      e = .returned (.tuple #[]) ∧ ∃ n os, w' = grow (putRow encStr (Sort.ahead w n) blk off (ss.mergeSort fun x y => decide (x ≤ y)).toArray) os := Any.slices_Sort_string Tryz.lays190 blk off cap ss w hH hblk hsz
def Tryz.lays99_ren : Go.Shelf.Ren := ⟨fun | 99 => 82 | 206 => 93 | n => n, fun | 9 => 9 | 4 => 4 | 3 => 3 | n => n, fun | n => n⟩
theorem Tryz.lays99 : Go.Proofs.Lays.n99 Tryz.prog Tryz.lays99_ren := {
  mixed := by kernel_rfl
  f99 := Tryz.func82.trans (congrArg some (by kernel_rfl))
  f206 := Tryz.func93.trans (congrArg some (by kernel_rfl))
  t3 := Tryz.underlying3
  a3 := Tryz.isAgg3
  z3 := Tryz.sizeOf3
  v3 := Tryz.zeroValue3
  t4 := Tryz.underlying4
  a4 := Tryz.isAgg4
  z4 := Tryz.sizeOf4
  v4 := Tryz.zeroValue4
  t9 := Tryz.underlying9
  a9 := Tryz.isAgg9
  z9 := Tryz.sizeOf9
  v9 := Tryz.zeroValue9 }
open Go.RowKit Go.Lib in
theorem Tryz.strings_HasPrefix (s p : ByteArray) (w : World) :
    Calls Tryz.prog 82 #[.string s, .string p] w fun e w' => e = .returned (.bool (Lib.hasPrefix s.data.toList p.data.toList)) ∧ w' = w := Any.strings_HasPrefix Tryz.lays99 s p w
def Tryz.lays146_ren : Go.Shelf.Ren := ⟨fun | 146 => 80 | 221 => 91 | 268 => 106 | 138 => 107 | 143 => 85 | 195 => 119 | 197 => 120 | 218 => 121 | 219 => 105 | 260 => 129 | 217 => 115 | 225 => 116 | 224 => 117 | 267 => 118 | 266 => 127 | 314 => 128 | n => n, fun | 9 => 9 | 31 => 42 | 3 => 3 | 4 => 4 | 0 => 0 | 105 => 171 | 21 => 21 | 5 => 5 | 46 => 131 | 119 => 186 | 139 => 189 | 138 => 188 | 146 => 182 | 51 => 158 | n => n, fun | 1 => 1 | 3 => 2 | 4 => 3 | n => n⟩
theorem Tryz.lays146 : Go.Proofs.Lays.n146 Tryz.prog Tryz.lays146_ren := {
  mixed := by kernel_rfl
  f138 := Tryz.func107.trans (congrArg some (by kernel_rfl))
  f143 := Tryz.func85.trans (congrArg some (by kernel_rfl))
  f146 := Tryz.func80.trans (congrArg some (by kernel_rfl))
  f195 := Tryz.func119.trans (congrArg some (by kernel_rfl))
  f197 := Tryz.func120.trans (congrArg some (by kernel_rfl))
  f217 := Tryz.func115.trans (congrArg some (by kernel_rfl))
  f218 := Tryz.func121.trans (congrArg some (by kernel_rfl))
  f219 := Tryz.func105.trans (congrArg some (by kernel_rfl))
  f221 := Tryz.func91.trans (congrArg some (by kernel_rfl))
  f224 := Tryz.func117.trans (congrArg some (by kernel_rfl))
  f225 := Tryz.func116.trans (congrArg some (by kernel_rfl))
  f260 := Tryz.func129.trans (congrArg some (by kernel_rfl))
  f266 := Tryz.func127.trans (congrArg some (by kernel_rfl))
  f267 := Tryz.func118.trans (congrArg some (by kernel_rfl))
  f268 := Tryz.func106.trans (congrArg some (by kernel_rfl))
  f314 := Tryz.func128.trans (congrArg some (by kernel_rfl))
  t0 := Tryz.underlying0
  a0 := Tryz.isAgg0
  z0 := Tryz.sizeOf0
  v0 := Tryz.zeroValue0
  t3 := Tryz.underlying3
  a3 := Tryz.isAgg3
  z3 := Tryz.sizeOf3
  v3 := Tryz.zeroValue3
  t4 := Tryz.underlying4
  a4 := Tryz.isAgg4
  z4 := Tryz.sizeOf4
  v4 := Tryz.zeroValue4
  t5 := Tryz.underlying5
  a5 := Tryz.isAgg5
  z5 := Tryz.sizeOf5
  v5 := Tryz.zeroValue5
  t9 := Tryz.underlying9
  a9 := Tryz.isAgg9
  z9 := Tryz.sizeOf9
  v9 := Tryz.zeroValue9
  t21 := Tryz.underlying21
  a21 := Tryz.isAgg21
  z21 := Tryz.sizeOf21
  v21 := Tryz.zeroValue21
  t31 := Tryz.underlying42
  a31 := Tryz.isAgg42
  z31 := Tryz.sizeOf42
  v31 := Tryz.zeroValue42
  t46 := Tryz.underlying131
  a46 := Tryz.isAgg131
  z46 := Tryz.sizeOf131
  v46 := Tryz.zeroValue131
  t51 := Tryz.underlying158
  a51 := Tryz.isAgg158
  z51 := Tryz.sizeOf158
  v51 := Tryz.zeroValue158
  t105 := Tryz.underlying171
  a105 := Tryz.isAgg171
  z105 := Tryz.sizeOf171
  v105 := Tryz.zeroValue171
  t119 := Tryz.underlying186
  a119 := Tryz.isAgg186
  z119 := Tryz.sizeOf186
  t138 := Tryz.underlying188
  a138 := Tryz.isAgg188
  z138 := Tryz.sizeOf188
  v138 := Tryz.zeroValue188
  t139 := Tryz.underlying189
  a139 := Tryz.isAgg189
  z139 := Tryz.sizeOf189
  v139 := Tryz.zeroValue189
  t146 := Tryz.underlying182
  a146 := Tryz.isAgg182
  z146 := Tryz.sizeOf182
  v146 := Tryz.zeroValue182
  g1 := by kernel_rfl
  g3 := by kernel_rfl
  g4 := by kernel_rfl }
open Go.RowKit Go.Lib in
theorem Tryz.strings_Split (s sep : ByteArray) (m : Int) (w : World) (hs : s.size < 4294967281) (hm : w.cell? ⟨1, 0, none⟩ = some (.int .i64 m)) (h1 : 1 ≤ sep.size) :
    Calls Tryz.prog 80 #[.string s, .string sep] w fun e w' =>
      e = .returned (.slice (some ⟨w.heap.size, 0, none⟩) (Lib.countB s sep + 1) (Lib.countB s sep + 1)) ∧ w' = w.alloc (.cells ((Lib.splitB sep 0 (Lib.countB s sep) s).map Value.string).toArray 9) := Any.strings_Split Tryz.lays146 (by kernel_rfl) s sep m w hs hm h1
def Tryz.lays152_ren : Go.Shelf.Ren := ⟨fun | 152 => 122 | 137 => 130 | 119 => 131 | 224 => 117 | 225 => 116 | 217 => 115 | 266 => 127 | n => n, fun | 9 => 9 | 21 => 21 | 3 => 3 | 4 => 4 | 5 => 5 | 0 => 0 | 46 => 131 | n => n, fun | n => n⟩
theorem Tryz.lays152 : Go.Proofs.Lays.n152 Tryz.prog Tryz.lays152_ren := {
  mixed := by kernel_rfl
  f119 := Tryz.func131.trans (congrArg some (by kernel_rfl))
  f137 := Tryz.func130.trans (congrArg some (by kernel_rfl))
  f152 := Tryz.func122.trans (congrArg some (by kernel_rfl))
  f217 := Tryz.func115.trans (congrArg some (by kernel_rfl))
  f224 := Tryz.func117.trans (congrArg some (by kernel_rfl))
  f225 := Tryz.func116.trans (congrArg some (by kernel_rfl))
  f266 := Tryz.func127.trans (congrArg some (by kernel_rfl))
  t0 := Tryz.underlying0
  a0 := Tryz.isAgg0
  z0 := Tryz.sizeOf0
  v0 := Tryz.zeroValue0
  t3 := Tryz.underlying3
  a3 := Tryz.isAgg3
  z3 := Tryz.sizeOf3
  v3 := Tryz.zeroValue3
  t4 := Tryz.underlying4
  a4 := Tryz.isAgg4
  z4 := Tryz.sizeOf4
  v4 := Tryz.zeroValue4
  t5 := Tryz.underlying5
  a5 := Tryz.isAgg5
  z5 := Tryz.sizeOf5
  v5 := Tryz.zeroValue5
  t9 := Tryz.underlying9
  a9 := Tryz.isAgg9
  z9 := Tryz.sizeOf9
  v9 := Tryz.zeroValue9
  t21 := Tryz.underlying21
  a21 := Tryz.isAgg21
  z21 := Tryz.sizeOf21
  v21 := Tryz.zeroValue21
  t46 := Tryz.underlying131
  a46 := Tryz.isAgg131
  z46 := Tryz.sizeOf131
  v46 := Tryz.zeroValue131 }
open Go.RowKit Go.Lib in
theorem Tryz.strings_IndexRune_ascii (s : ByteArray) (r : Int) (w : World) (h0 : 0 ≤ r) (h1 : r < 128) :
    Calls Tryz.prog 122 #[.string s, .int .i32 r] w fun e w' => e = .returned (.int .i64 (Lib.indexByte s.data.toList r.toNat.toUInt8)) ∧ w' = w := Any.strings_IndexRune_ascii Tryz.lays152 s r w h0 h1
def Tryz.lays226_ren : Go.Shelf.Ren := ⟨fun | 226 => 123 | n => n, fun | 3 => 3 | 4 => 4 | n => n, fun | n => n⟩
theorem Tryz.lays226 : Go.Proofs.Lays.n226 Tryz.prog Tryz.lays226_ren := {
  mixed := by kernel_rfl
  f226 := Tryz.func123.trans (congrArg some (by kernel_rfl))
  t3 := Tryz.underlying3
  a3 := Tryz.isAgg3
  z3 := Tryz.sizeOf3
  v3 := Tryz.zeroValue3
  t4 := Tryz.underlying4
  a4 := Tryz.isAgg4
  z4 := Tryz.sizeOf4
  v4 := Tryz.zeroValue4 }
open Go.RowKit Go.Lib in
theorem Tryz.strings_shouldUseASCIISet (n : Int) (w : World) :
    Calls Tryz.prog 123 #[.int .i64 n] w fun e w' => e = .returned (.bool (decide (8 < n))) ∧ w' = w := Any.strings_shouldUseASCIISet Tryz.lays226 n w
def Tryz.lays153_ren : Go.Shelf.Ren := ⟨fun | 153 => 108 | 152 => 122 | 226 => 123 | 227 => 124 | 228 => 125 | 137 => 130 | 119 => 131 | 224 => 117 | 225 => 116 | 217 => 115 | 266 => 127 | n => n, fun | 9 => 9 | 3 => 3 | 4 => 4 | 5 => 5 | 21 => 21 | 117 => 177 | 116 => 176 | 0 => 0 | 46 => 131 | 124 => 185 | n => n, fun | n => n⟩
theorem Tryz.lays153 : Go.Proofs.Lays.n153 Tryz.prog Tryz.lays153_ren := {
  mixed := by kernel_rfl
  f119 := Tryz.func131.trans (congrArg some (by kernel_rfl))
  f137 := Tryz.func130.trans (congrArg some (by kernel_rfl))
  f152 := Tryz.func122.trans (congrArg some (by kernel_rfl))
  f153 := Tryz.func108.trans (congrArg some (by kernel_rfl))
  f217 := Tryz.func115.trans (congrArg some (by kernel_rfl))
  f224 := Tryz.func117.trans (congrArg some (by kernel_rfl))
  f225 := Tryz.func116.trans (congrArg some (by kernel_rfl))
  f226 := Tryz.func123.trans (congrArg some (by kernel_rfl))
  f227 := Tryz.func124.trans (congrArg some (by kernel_rfl))
  f228 := Tryz.func125.trans (congrArg some (by kernel_rfl))
  f266 := Tryz.func127.trans (congrArg some (by kernel_rfl))
  t0 := Tryz.underlying0
  a0 := Tryz.isAgg0
  z0 := Tryz.sizeOf0
  v0 := Tryz.zeroValue0
  t3 := Tryz.underlying3
  a3 := Tryz.isAgg3
  z3 := Tryz.sizeOf3
  v3 := Tryz.zeroValue3
  t4 := Tryz.underlying4
  a4 := Tryz.isAgg4
  z4 := Tryz.sizeOf4
  v4 := Tryz.zeroValue4
  t5 := Tryz.underlying5
  a5 := Tryz.isAgg5
  z5 := Tryz.sizeOf5
  v5 := Tryz.zeroValue5
  t9 := Tryz.underlying9
  a9 := Tryz.isAgg9
  z9 := Tryz.sizeOf9
  v9 := Tryz.zeroValue9
  t21 := Tryz.underlying21
  a21 := Tryz.isAgg21
  z21 := Tryz.sizeOf21
  v21 := Tryz.zeroValue21
  t46 := Tryz.underlying131
  a46 := Tryz.isAgg131
  z46 := Tryz.sizeOf131
  v46 := Tryz.zeroValue131
  t116 := Tryz.underlying176
  a116 := Tryz.isAgg176
  z116 := Tryz.sizeOf176
  t117 := Tryz.underlying177
  a117 := Tryz.isAgg177
  z117 := Tryz.sizeOf177
  v117 := Tryz.zeroValue177
  t124 := Tryz.underlying185
  a124 := Tryz.isAgg185
  z124 := Tryz.sizeOf185
  v124 := Tryz.zeroValue185 }
open Go.RowKit Go.Lib in
theorem Tryz.strings_IndexAny_long (hv116 : ∀ w, (zeroValue 176).run Tryz.prog w = .ok (.agg (Array.replicate 256 (.bool false))) w) (s chars : ByteArray) (w : World) (h2 : 2 ≤ chars.size) (h8 : 8 < s.size) (hs : s.size < 4294967281) (hcs : chars.size < 4294967281) (hascii : ∀ (j : Nat) b, chars.data.toList[j]? = some b → b.toNat < 128) :
    Calls Tryz.prog 108 #[.string s, .string chars] w fun e w' => e = .returned (.int .i64 (Lib.indexAny s.data.toList chars.data.toList)) ∧ w' = ((w.alloc (.cells (Lib.setCells chars.data.toList) 176)).alloc (.cells (Lib.setCells chars.data.toList) 176)) := Any.strings_IndexAny_long Tryz.lays153 hv116 (by kernel_rfl) s chars w h2 h8 hs hcs hascii
open Go.RowKit Go.Sort in
theorem Tryz.slices_Sort_string_none (p : Option Addr) (cap : Nat) (w : World) :
    Calls Tryz.prog 65 #[.slice p 0 cap] w fun e w' => e = .returned (.tuple #[]) ∧ w' = w := Any.slices_Sort_string_none Tryz.lays190 p cap w

end Go.Proofs
/- Has a text a slash or a zero byte: the library's ContainsAny at all bytes; the program's Name. -/
namespace Go.Proofs.YtiijbecklkccfaaGreatDoor.I
open Go.RowKit Go.Proofs.YtiijbecklkccfaaGreatDoor.B Go.Sort
set_option linter.unusedVariables false
/-- The bytes that no name has. -/
def sz : ByteArray := ⟨#[47, 0]⟩
set_option maxRecDepth 100000 in
set_option maxHeartbeats 8000000 in
theorem indexrune_bad (w : World) : Calls Tryz.prog 122 #[.string ⟨#[47, 0]⟩, .int .i32 65533] w fun e w' => e = .returned (.int .i64 (-1)) ∧ Chg [] w w' := by
  have hr := fun (w : World) => run_range_string (P := Tryz.prog) w 9 ⟨#[47, 0]⟩ Tryz.underlying9
  go_enter Tryz.func122, Tryz.ntmps122
  go_wp2
  go_loopg [5, 6] 2 (fun g _ _ wx => ∃ i : Nat, i + g = 2 ∧ wx = w.iter ⟨#[47, 0]⟩ i)
  case atStart => exact ⟨0, rfl, rfl⟩
  case round =>
    obtain ⟨i, hi, rfl⟩ := hrel
    have hsz : (⟨#[47, 0]⟩ : ByteArray).size = 2 := rfl
    match gk, hi with
    | 0, hi =>
      obtain rfl : i = 2 := by omega
      have hnx := fun ty => run_next_end (P := Tryz.prog) w ⟨#[47, 0]⟩ 2 ty (by rw [hsz]; omega)
      go_wp2
      go_ret
      exact ⟨rfl, (Chg.refl _ _).alloc _⟩
    | 1, hi =>
      obtain rfl : i = 1 := by omega
      have hnx := fun ty => run_next_ascii (P := Tryz.prog) w ⟨#[47, 0]⟩ 1 ty (by rw [hsz]; omega) (by show (0 : UInt8).toNat < 128; decide)
      rw [show ((⟨#[47, 0]⟩ : ByteArray)[1]'(by rw [hsz]; omega)).toNat = 0 from rfl] at hnx
      go_wp2
      go_roundg 0
      case measure => omega
      case rel => exact ⟨2, rfl, rfl⟩
    | 2, hi =>
      obtain rfl : i = 0 := by omega
      have hnx := fun ty => run_next_ascii (P := Tryz.prog) w ⟨#[47, 0]⟩ 0 ty (by rw [hsz]; omega) (by show (47 : UInt8).toNat < 128; decide)
      rw [show ((⟨#[47, 0]⟩ : ByteArray)[0]'(by rw [hsz]; omega)).toNat = 47 from rfl] at hnx
      go_wp2
      go_roundg 1
      case measure => omega
      case rel => exact ⟨1, rfl, rfl⟩
    | g + 3, hi => omega
theorem conv_rune (c : Int) (W : World) : (convert 21 9 (.int .i32 c)).run Tryz.prog W = .ok (.string (Utf8.encode c)) W := by kernel_rfl
theorem encode_two {c : Nat} (h1 : 128 ≤ c) (h2 : c < 2048) : ∃ x y : UInt8, Utf8.encode (c : Int) = ⟨#[x, y]⟩ ∧ 128 ≤ y.toNat := by
  have hv : Utf8.valid (c : Int) = true := by unfold Utf8.valid; simp; omega
  refine ⟨UInt8.ofNat (0xC0 + c / 64), UInt8.ofNat (0x80 + c % 64), ?_, ?_⟩
  · unfold Utf8.encode
    simp only [hv, if_true, Int.toNat_natCast]
    rw [if_neg (by omega), if_pos h2]
  · rw [UInt8.toNat_ofNat']
    omega
theorem encode_more {c : Nat} (h2 : 2048 ≤ c) (hv : Lib.validRune (c : Int) = true) : (Utf8.encode (c : Int)).size = 3 ∨ (Utf8.encode (c : Int)).size = 4 := by
  unfold Utf8.encode
  simp only
  split
  · simp only [Int.toNat_natCast]
    rw [if_neg (by omega), if_neg (by omega)]
    split
    · exact .inl rfl
    · exact .inr rfl
  · exact .inl rfl
set_option maxRecDepth 100000 in
set_option maxHeartbeats 8000000 in
theorem indexrune_far (c : Nat) (h1 : 128 ≤ c) (hv : Lib.validRune (c : Int) = true) (hn : c ≠ 65533) (w : World) : Calls Tryz.prog 122 #[.string ⟨#[47, 0]⟩, .int .i32 (c : Int)] w fun e w' => e = .returned (.int .i64 (-1)) ∧ Chg [] w w' := by
  have t1 : ¬ ((c : Int) < 128) := by omega
  have t2 : ((c : Int) == 65533) = false := by simp; omega
  have HV := Asd.mk hv
  have hcv := fun W => conv_rune (c : Int) W
  by_cases h2 : c < 2048
  · obtain ⟨x, y, hE, hy⟩ := encode_two h1 h2
    rw [hE] at hcv
    have t3 : ((0 : Int) == (y.toNat : Int)) = false := by simp; omega
    have t4 : ((0 : Int) != (y.toNat : Int)) = true := by simp; omega
    clear hv hE h1 h2
    go_enter Tryz.func122, Tryz.ntmps122
    go_wp2_with fail
    refine (Tryz.utf8_ValidRune (c : Int) w).mono ?_
    rintro e w1 ⟨rfl, rfl⟩
    rw [HV.out]
    go_wp2
    refine wp_scope_straight ?_
    go_wp2
    go_loopg [9, 10] 1 (fun gk v9 v10 wx => w1 = wx ∧ gk = 1 ∧ v9 = .int .i64 1 ∧ v10 = .int .i64 0)
    case atStart => exact ⟨rfl, rfl, rfl, rfl⟩
    case round =>
      obtain ⟨rfl, rfl, rfl, rfl⟩ := hrel
      go_wp2
      first | refine wp_scope_straight ?_ | skip
      go_upto_region 6 with fail
      go_quiet (fail)
      have t5 : (((((⟨#[47, 0]⟩ : ByteArray)[1]'(by decide)).toNat : Nat) : Int) != (((⟨#[x, y]⟩ : ByteArray)[1]'(by show 1 < 2; omega)).toNat : Nat)) = true := t4
      have kw : IntKind.i64.wrap 2 = 2 := by decide
      have hib := fun (W : World) => show Calls Tryz.prog 130 #[.string ByteArray.empty, .int .u8 ((((⟨#[x, y]⟩ : ByteArray)[1]'(by show 1 < 2; omega)).toNat : Nat) : Int)] W fun e w' => e = .returned (.int .i64 (-1)) ∧ w' = W from Tryz.strings_IndexByte ByteArray.empty _ W
      go_upto_region 7 with fail
      have cI := quiet_of (w := w1.drewN nq) (fun W (hW : Chg [] (w1.drewN nq) W) => (hib W).mono fun e w' h => ⟨h.1, by rw [h.2]; exact Chg.refl _ _⟩)
      refine wp_region_quiet_below (by kernel_rfl) (by kernel_rfl) ?_
      repeat (quiet_step ((go_at_call 130; exact cI _ _)))
      refine wpQuiet_nil ?_
      rintro w' ⟨q, rfl⟩
      go_wp2
      rw [Exit.noGoto_ret, inBlock_ret, then_ret, inBlock_ret, then_ret, Exit.noGoto_ret]
      go_ret
      exact ⟨rfl, ((Chg.refl _ _).drewN nq).trans (chg_regrown _ _ _)⟩
  · have hE := encode_more (show 2048 ≤ c by omega) hv
    obtain ⟨E, hEe⟩ : ∃ E, Utf8.encode (c : Int) = E := ⟨_, rfl⟩
    rw [hEe] at hE hcv
    clear hv h1 h2 hEe
    rcases hE with hk | hk
    · go_enter Tryz.func122, Tryz.ntmps122
      go_wp2_with fail
      refine (Tryz.utf8_ValidRune (c : Int) w).mono ?_
      rintro e w1 ⟨rfl, rfl⟩
      rw [HV.out]
      go_wp2
      refine wp_scope_straight ?_
      go_wp2
      go_loopg [9, 10] 1 (fun gk v9 v10 wx => w1 = wx ∧ gk = 1 ∧ v9 = .int .i64 2 ∧ v10 = .int .i64 0)
      case atStart => exact ⟨rfl, rfl, rfl, rfl⟩
      case round =>
        obtain ⟨rfl, rfl, rfl, rfl⟩ := hrel
        go_wp2
        rw [Exit.noGoto_ret]
        go_ret
        exact ⟨rfl, Chg.refl _ _⟩
    · go_enter Tryz.func122, Tryz.ntmps122
      go_wp2_with fail
      refine (Tryz.utf8_ValidRune (c : Int) w).mono ?_
      rintro e w1 ⟨rfl, rfl⟩
      rw [HV.out]
      go_wp2
      refine wp_scope_straight ?_
      go_wp2
      go_loopg [9, 10] 1 (fun gk v9 v10 wx => w1 = wx ∧ gk = 1 ∧ v9 = .int .i64 3 ∧ v10 = .int .i64 0)
      case atStart => exact ⟨rfl, rfl, rfl, rfl⟩
      case round =>
        obtain ⟨rfl, rfl, rfl, rfl⟩ := hrel
        go_wp2
        rw [Exit.noGoto_ret]
        go_ret
        exact ⟨rfl, Chg.refl _ _⟩
/-- Has a text a slash or a zero byte? -/
def badB (l : List UInt8) : Bool := l.any fun b => b == 47 || b == 0
theorem contains_bad (b : UInt8) : (⟨#[47, 0]⟩ : ByteArray).data.toList.contains b = (b == 47 || b == 0) := by
  show ([47, 0] : List UInt8).contains b = _
  rw [List.contains_cons, List.contains_cons]
  simp only [List.contains_nil, Bool.or_false]
def bnI (s : ByteArray) (i : Nat) : Nat := if h : i < s.size then (s[i]'h).toNat else 0
theorem get_bnI {s : ByteArray} {i : Nat} (h : i < s.size) : (s.get! i).toNat = bnI s i := by
  unfold bnI
  rw [dif_pos h]
  have : s.get! i = s[i] := by
    show s.data[i]! = s.data[i]
    exact getElem!_pos s.data i h
  rw [this]
theorem dec_wide {s : ByteArray} {pos : Nat} (h : pos < s.size) (hb : 128 ≤ bnI s pos) : 128 ≤ (Utf8.decode s pos).1 ∧ Lib.validRune ((Utf8.decode s pos).1 : Int) = true ∧ 1 ≤ (Utf8.decode s pos).2 ∧ pos + (Utf8.decode s pos).2 ≤ s.size ∧ ∀ k, pos ≤ k → k < pos + (Utf8.decode s pos).2 → 128 ≤ bnI s k := by
  have hv : ∀ r : Nat, (r < 55296 ∨ 57343 < r ∧ r ≤ 1114111) → Lib.validRune (r : Int) = true := fun r hr => by
    unfold Lib.validRune
    exact decide_eq_true (by omega)
  rw [Lib.decode_at, get_bnI h]
  have hlt : ∀ k, (s.get! k).toNat < 256 := fun k => (s.get! k).toNat_lt
  have q1 := hlt (pos + 1); have q2 := hlt (pos + 2); have q3 := hlt (pos + 3)
  have q0 : bnI s pos < 256 := by rw [← get_bnI h]; exact hlt pos
  have c1 : ∀ j, j < s.size - pos → (s.get! (pos + j)).toNat / 64 = 2 → 128 ≤ bnI s (pos + j) := fun j hj h2 => by
    rw [get_bnI (by omega)] at h2
    omega
  have one : (128 ≤ 65533 ∧ Lib.validRune ((65533 : Nat) : Int) = true ∧ 1 ≤ 1 ∧ pos + 1 ≤ s.size ∧ ∀ k, pos ≤ k → k < pos + 1 → 128 ≤ bnI s k) := ⟨by omega, hv _ (by omega), Nat.le_refl _, h, fun k k1 k2 => by
    obtain rfl : k = pos := by omega
    exact hb⟩
  unfold Lib.decodeN
  rw [if_neg (by omega)]
  split
  · rename_i e1
    split
    · rename_i e2
      refine ⟨e2, hv _ (by simp only; omega), by simp, by simp only; omega, fun k k1 k2 => ?_⟩
      simp only at k2
      rcases (show k = pos ∨ k = pos + 1 by omega) with rfl | rfl
      · exact hb
      · exact c1 1 (by omega) e1.2.2
    · exact one
  · split
    · rename_i e1
      split
      · rename_i e2
        refine ⟨by simp only; omega, hv _ (by simp only; omega), by simp, by simp only; omega, fun k k1 k2 => ?_⟩
        simp only at k2
        rcases (show k = pos ∨ k = pos + 1 ∨ k = pos + 2 by omega) with rfl | rfl | rfl
        · exact hb
        · exact c1 1 (by omega) e1.2.1.2
        · exact c1 2 (by omega) e1.2.2.2
      · exact one
    · split
      · rename_i e1
        split
        · rename_i e2
          refine ⟨by simp only; omega, hv _ (by simp only; omega), by simp, by simp only; omega, fun k k1 k2 => ?_⟩
          simp only at k2
          rcases (show k = pos ∨ k = pos + 1 ∨ k = pos + 2 ∨ k = pos + 3 by omega) with rfl | rfl | rfl | rfl
          · exact hb
          · exact c1 1 (by omega) e1.2.1.2
          · exact c1 2 (by omega) e1.2.2.1.2
          · exact c1 3 (by omega) e1.2.2.2.2
        · exact one
      · exact one
theorem indexAny_bad : ∀ l : List UInt8, decide (0 ≤ Lib.indexAny l (⟨#[47, 0]⟩ : ByteArray).data.toList) = badB l
  | [] => rfl
  | b :: l => by
    have ih := indexAny_bad l
    unfold badB at ih ⊢
    rw [List.any_cons, ← ih, ← contains_bad b]
    have hge := Lib.indexAny_ge (⟨#[47, 0]⟩ : ByteArray).data.toList l
    show decide (0 ≤ if (⟨#[47, 0]⟩ : ByteArray).data.toList.contains b then (0 : Int) else if Lib.indexAny l (⟨#[47, 0]⟩ : ByteArray).data.toList == -1 then -1 else Lib.indexAny l (⟨#[47, 0]⟩ : ByteArray).data.toList + 1) = _
    cases (⟨#[47, 0]⟩ : ByteArray).data.toList.contains b with
    | true => rfl
    | false =>
      simp only [Bool.false_eq_true, if_false, Bool.false_or]
      by_cases h : Lib.indexAny l (⟨#[47, 0]⟩ : ByteArray).data.toList = -1
      · rw [h]; rfl
      · rw [show (Lib.indexAny l (⟨#[47, 0]⟩ : ByteArray).data.toList == -1) = false from beq_eq_false_iff_ne.2 h]
        rw [if_neg (show ¬ (false = true) by decide)]
        generalize Lib.indexAny l (⟨#[47, 0]⟩ : ByteArray).data.toList = a at hge h ⊢
        apply decide_eq_decide.2
        constructor <;> intro _ <;> omega
theorem Chg.iterAt {L : List Nat} {a b : World} (h : Chg L a b) {k : Nat} (hk : k < a.heap.size → k ∈ L) (s : ByteArray) (pos : Nat) : Chg L a (b.iterAt k s pos) :=
  ⟨h.os, h.tape, h.output, by
    show a.heap.size ≤ (b.heap.setIfInBounds k _).size
    simpa using h.size, fun i hi hn => by
    show (b.heap.setIfInBounds k _)[i]? = _
    rw [Array.getElem?_setIfInBounds_ne (by rintro rfl; exact hn (hk hi))]
    exact h.block i hi hn⟩
theorem bad_all {s : ByteArray} (h : ∀ j, j < s.size → bnI s j ≠ 47 ∧ bnI s j ≠ 0) : badB s.data.toList = false := by
  unfold badB
  rw [List.any_eq_false]
  intro b hb
  obtain ⟨i, hi, he⟩ := List.getElem_of_mem hb
  have hi2 : i < s.size := by simpa using hi
  have h1 := h i hi2
  have h2 : bnI s i = b.toNat := by
    unfold bnI
    rw [dif_pos hi2, ← he]
    rfl
  rw [h2] at h1
  simp only [Bool.or_eq_true, beq_iff_eq, not_or]
  exact ⟨fun e => h1.1 (by rw [e]; rfl), fun e => h1.2 (by rw [e]; rfl)⟩
theorem bad_one {s : ByteArray} {j : Nat} (hj : j < s.size) (h : bnI s j = 47 ∨ bnI s j = 0) : badB s.data.toList = true := by
  unfold badB
  rw [List.any_eq_true]
  have hl : j < s.data.toList.length := by simpa using hj
  refine ⟨s.data.toList[j], List.getElem_mem hl, ?_⟩
  have h2 : bnI s j = (s.data.toList[j]).toNat := by
    unfold bnI
    rw [dif_pos hj]
    rfl
  rw [h2] at h
  simp only [Bool.or_eq_true, beq_iff_eq]
  rcases h with h | h
  · exact .inl (UInt8.toNat_inj.1 h)
  · exact .inr (UInt8.toNat_inj.1 h)
theorem decide_ascii_bnI {s : ByteArray} {pos : Nat} (h : pos < s.size) (hb : bnI s pos < 128) : Utf8.decode s pos = (bnI s pos, 1) := by
  have e : bnI s pos = (s[pos]'h).toNat := by unfold bnI; rw [dif_pos h]
  rw [e] at hb ⊢
  exact decode_ascii s pos h hb
theorem index_sz {r : Nat} (h : r < 128) : Lib.indexByte (⟨#[47, 0]⟩ : ByteArray).data.toList ((r : Int)).toNat.toUInt8 = if r = 47 then 0 else if r = 0 then 1 else -1 := by
  have h2 : ((r : Int)).toNat.toUInt8.toNat = r := by
    rw [Int.toNat_natCast, Nat.toUInt8_eq, UInt8.toNat_ofNat']
    omega
  generalize ((r : Int)).toNat.toUInt8 = c at h2
  subst h2
  by_cases h47 : c = 47
  · subst h47; rfl
  · by_cases h0 : c = 0
    · subst h0; rfl
    · rw [if_neg (fun e => h47 (UInt8.toNat_inj.1 (e.trans rfl : c.toNat = (47 : UInt8).toNat))), if_neg (fun e => h0 (UInt8.toNat_inj.1 (e.trans rfl : c.toNat = (0 : UInt8).toNat)))]
      show Lib.indexByte [47, 0] c = -1
      simp [Lib.indexByte, Ne.symm h47, Ne.symm h0]
end Go.Proofs.YtiijbecklkccfaaGreatDoor.I
