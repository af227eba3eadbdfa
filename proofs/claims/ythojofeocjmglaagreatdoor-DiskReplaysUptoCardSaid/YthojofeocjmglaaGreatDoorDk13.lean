/- Merged out of these texts: ITree, Sys2, Again, QuoteF, DAt, DClos, TwinF. -/
import Derived.Test.YthojofeocjmglaaGreatDoorDkTreeW
import Derived.Laws.EntriesVeiled
import Derived.Test.YthojofeocjmglaaGreatDoorDk12
import Derived.Test.YthojofeocjmglaaGreatDoorDkAnewF
import Derived.Test.YthojofeocjmglaaGreatDoorDk1
import Derived.Test.YthojofeocjmglaaGreatDoorDk8
/- The program's Tree: the walk. -/
namespace Go.Proofs.YthojofeocjmglaaGreatDoor.I
open Go.RowKit Go.Proofs.YthojofeocjmglaaGreatDoor.B Go.Sort
set_option linter.unusedVariables false
/-- All that stands at and below a path at which something stands. -/
def treeF (fs : FS) (p : Pth) : List Ent := treeL fs (65 - p.length) p
def RowE (w : World) (b : Nat) (v : Value) (E : List Ent) : Prop := w.ownsRow b 64 3 v E.length (flatE E)
def TreePost (fs : FS) (b : Nat) (R : Except Nat Pth) (e : Ending) (w' : World) : Prop := match R with
  | .error n => e = .returned (.tuple #[.slice none 0 0, errV n])
  | .ok p => ∃ v, e = .returned (.tuple #[v, .nilIface]) ∧ RowE w' b v (treeF fs p)
set_option maxRecDepth 100000 in
set_option maxHeartbeats 16000000 in
theorem tree_calls (L : List Nat) (t : Nat) (fs : FS) (by' nd : Nat) (A M : Pth → Nat) (s : ByteArray) (w : World) (hT : TabAt w L t fs by' nd A M) (hg : FsOk fs) (hr : Room fs by' nd) (hm : MaxLenAt w) (hs : s.size ≤ 4294967280) :
    Calls Tryz.prog 42 #[(.pointer (some ⟨t, 0, none⟩)), .string s] w fun e w' => TreePost fs w.heap.size (thereE fs s) e w' ∧ Chg [] w w' := by
  have HP := Asd.mk (there_calls L t fs by' nd A M s w hT hg hm hs)
  have HT := Asd.mk hT
  obtain ⟨R, hR⟩ : ∃ R, thereE fs s = R := ⟨_, rfl⟩
  rw [hR] at HP ⊢
  cases R with
  | error n =>
    have HN := Asd.mk (thereE_pos hR)
    clear hR hT hg hr hm
    (go_enter Tryz.func42, Tryz.ntmps42)
    go_wp2_with fail
    refine HP.out.mono ?_
    rintro e w1 ⟨⟨d, l, k, rfl⟩, hC1⟩
    have HC1 := Asd.mk hC1
    clear hC1
    go_wp2
    go_ret2
    exact ⟨by show _ = Ending.returned (.tuple #[.slice none 0 0, errV n]); simp only [errV]; rw [if_neg HN.out]; rfl, HC1.out.alloc _⟩
  | ok p =>
    obtain ⟨x, hx⟩ := thereE_ok hR
    have hsp : s = tx p := by
      have h1 : partsF s = .ok p := by
        unfold thereE at hR
        split at hR
        · cases hR
        · rename_i q hq
          split at hR
          · cases hR; exact atE_parts hq
          · cases hR
      exact tx_parts h1
    have HG := Asd.mk (And.intro hg hr)
    have HX := Asd.mk hx
    have HSP := Asd.mk hsp
    obtain ⟨dp, hdp⟩ : ∃ d, dirA A p = d := ⟨_, rfl⟩
    obtain ⟨ls, hls⟩ : ∃ d, lastS p = d := ⟨_, rfl⟩
    have HPo := Asd.mk (show ∀ e, TherePost fs A (.ok p) e → e = .returned (.tuple #[.agg #[.pointer dp, .string ls, (.pointer (some ⟨A p, 0, none⟩))], .nilIface]) from fun e h => by rw [← hdp, ← hls]; exact h)
    clear hR hT hg hr hm hx hsp hdp hls
    (go_enter Tryz.func42, Tryz.ntmps42)
    go_wp2_with fail
    refine HP.out.mono ?_
    rintro e w1 ⟨hPo, hC1⟩
    have hPo2 := HPo.out e hPo
    subst hPo2
    have HC1 := Asd.mk hC1
    clear hC1 hPo HP HPo
    go_upto_region 4 with fail
    refine wp_opaque2 (fun W hW => ?_)
    have HCW := Asd.mk (show Chg [] w W by rw [hW]; exact HC1.out.alloc _)
    have HB := Asd.mk (show W.heap[w1.heap.size]? = some (.cells #[.pointer dp, .string ls, (.pointer (some ⟨A p, 0, none⟩))] 127 (0, 0)) by rw [hW]; exact hp_new _ _)
    obtain ⟨B, hB⟩ : ∃ B, w1.heap.size = B := ⟨_, rfl⟩
    rw [hB] at HB ⊢
    clear hW HC1 hB
    obtain ⟨o, ho⟩ : ∃ o, W.heap.size = o := ⟨_, rfl⟩
    go_upto_region 7 with fail
    refine wp_opaque2 (fun V hV => ?_)
    have HO := Asd.mk ho
    have HV1 := Asd.mk (show V.heap[o]? = some (.cells #[.slice none 0 0] 39 (0, 0)) by rw [hV, ← ho]; exact hp_alloc (hp_new W _) _)
    have HV2 := Asd.mk (show V.heap[o + 1]? = some (.cells #[.func (.func 81) #[] #[(.pointer (some ⟨o, 0, none⟩)), (.pointer (some ⟨o + 1, 0, none⟩))]] 130 (0, 0)) by
      have := hp_new (W.alloc (.cells #[.slice none 0 0] 39)) (.cells #[.func (.func 81) #[] #[(.pointer (some ⟨o, 0, none⟩)), (.pointer (some ⟨o + 1, 0, none⟩))]] 130)
      rw [World.size_alloc, ho] at this
      rw [hV]
      exact this)
    have HCV := Asd.mk (show Chg [] W V by rw [hV]; exact ((Chg.refl _ _).alloc _).alloc _)
    have HBV := Asd.mk (HCV.out.heap HB.out (by simp))
    have hK : Calls Tryz.prog 81 #[(.pointer (some ⟨A p, 0, none⟩)), .string s, (.pointer (some ⟨o, 0, none⟩)), (.pointer (some ⟨o + 1, 0, none⟩))] V fun e w' => e = .returned (.tuple #[]) ∧ ∃ v', Wk W o (o + 1) o w' ([] ++ treeL fs (65 - p.length) p) v' ∧ Tr o V (.slice none 0 0) w' v' := by
      rw [HSP.out]
      have hpl := (HG.out.1.okp p x HX.out).1
      have hll := treeL_len HG.out.1 (m := 65 - p.length) (p := p) (by rw [HX.out]; simp)
      have := HG.out.2.n
      have := HG.out.2.count
      exact walk_calls W L t fs by' nd A M (HT.out.keep0 HCW.out) HG.out.1 HG.out.2 o (o + 1) o (by omega) (by omega) (by omega) (by omega) (65 - p.length) p x V [] (.slice none 0 0) (by omega) HX.out ⟨HCV.out, HV1.out, HV2.out, rfl, .inl ⟨rfl, rfl⟩⟩ (Nat.le_of_lt (lt_of_heap HV1.out)) (by simp only [List.length_nil]; omega)
    have HK := Asd.mk hK
    have b2 := cell_of_heap HBV.out 2
    have f0 := cell_of_heap HV2.out 0
    clear hV hK ho HV1 HB
    go_wp2_with fail
    refine HK.out.mono ?_
    rintro e w5 ⟨rfl, v5, hW5, hT5⟩
    rw [List.nil_append] at hW5
    have HW5 := Asd.mk hW5
    have o0 := cell_of_heap hW5.out 0
    clear hW5 hT5 HK b2 f0
    go_wp2
    go_ret2
    exact ⟨⟨v5, rfl, own_mono (by exact HW5.out.own) (by rw [← HO.out]; exact HCW.out.size)⟩, HCW.out.trans HW5.out.chg⟩
end Go.Proofs.YthojofeocjmglaaGreatDoor.I
/- A file system made since some world, its blocks named: each call of the laws over it; what a row of entries or of names keeps. -/
namespace Go.Proofs.YthojofeocjmglaaGreatDoor.I
open Go.RowKit Go.Proofs.YthojofeocjmglaaGreatDoor.B Go.Sort
set_option linter.unusedVariables false
/-- A row of names. -/
def RowE1 (w : World) (b : Nat) (v : Value) (l : List Nm) : Prop := w.ownsRow b 9 1 v l.length (l.map fun n => Value.string (nb n))
def SysL (w W : World) (L : List Nat) (t : Nat) (fs : FS) (by' nd : Nat) : Prop := Chg [] w W ∧ FsOk fs ∧ Room fs by' nd ∧ (∀ i ∈ L, w.heap.size ≤ i) ∧ ∃ A M, TabAt W L t fs by' nd A M
theorem SysL.lt {w W : World} {L : List Nat} {t : Nat} {fs : FS} {by' nd : Nat} (h : SysL w W L t fs by' nd) : ∀ i ∈ L, i < W.heap.size := by
  obtain ⟨_, _, _, _, A, M, hT⟩ := h
  exact hT.bl
theorem SysL.chg {w W W' : World} {L : List Nat} {t : Nat} {fs : FS} {by' nd : Nat} {K : List Nat} (h : SysL w W L t fs by' nd) (hC : Chg K W W') (h1 : ∀ i ∈ L, i ∉ K) (h2 : ∀ i ∈ K, w.heap.size ≤ i) : SysL w W' L t fs by' nd := by
  obtain ⟨a, b, c, d, A, M, hT⟩ := h
  exact ⟨Chg.fresh ((a.mono (by simp)).trans hC) h2, b, c, d, A, M, hT.keep hC h1⟩
theorem SysL.chg0 {w W W' : World} {L : List Nat} {t : Nat} {fs : FS} {by' nd : Nat} (h : SysL w W L t fs by' nd) (hC : Chg [] W W') : SysL w W' L t fs by' nd := h.chg hC (by simp) (by simp)
theorem sysl_new (b n : Nat) (w W : World) (hC : Chg [] w W) (hb : b ≤ 2147483647) (hn : n ≤ 65536) :
    Calls Tryz.prog 32 #[.int .i64 (b : Int), .int .i64 (n : Int)] W fun e w' => ∃ t L, e = .returned (.tuple #[(.pointer (some ⟨t, 0, none⟩)), .nilIface]) ∧ SysL w w' L t [] b n ∧ Chg [] W w' ∧ ∀ i ∈ L, W.heap.size ≤ i := by
  refine (new_ok b n W hb hn).mono ?_
  rintro e w' ⟨t, L, A, M, rfl, h1, h2, h3⟩
  exact ⟨t, L, rfl, ⟨hC.trans h1, fsOk_nil, ⟨hb, hn, by unfold usedF; simp, by simp⟩, fun i hi => Nat.le_trans hC.size (h3 i hi), A, M, h2⟩, h1, h3⟩
variable {w W : World} {L : List Nat} {t : Nat} {fs : FS} {by' nd : Nat}
theorem there_root {fs : FS} (hg : FsOk fs) : thereE fs ⟨#[]⟩ = .ok [] := thereE_at hg (at_root fs) parts_empty
theorem list_root {fs : FS} (hg : FsOk fs) : listE fs ⟨#[]⟩ = .ok [] := by
  unfold listE
  rw [there_root hg]
  rfl
/-- The whole tree. -/
theorem sysl_tree (h : SysL w W L t fs by' nd) (hm : MaxLenAt w) :
    Calls Tryz.prog 42 #[(.pointer (some ⟨t, 0, none⟩)), .string ⟨#[]⟩] W fun e w' => (∃ v, e = .returned (.tuple #[v, .nilIface]) ∧ RowE w' W.heap.size v (treeF fs [])) ∧ Chg [] W w' := by
  obtain ⟨h1, h2, h3, h4, A, M, h5⟩ := h
  have := tree_calls L t fs by' nd A M ⟨#[]⟩ W h5 h2 h3 (hm.chg h1) (by decide)
  rw [there_root h2] at this
  exact this
theorem sysl_list (h : SysL w W L t fs by' nd) (hm : MaxLenAt w) :
    Calls Tryz.prog 57 #[(.pointer (some ⟨t, 0, none⟩)), .string ⟨#[]⟩] W fun e w' => (∃ v, e = .returned (.tuple #[v, .nilIface]) ∧ RowE1 w' W.heap.size v (kidsF fs [])) ∧ Chg [] W w' := by
  obtain ⟨h1, h2, h3, h4, A, M, h5⟩ := h
  have := list_calls L t fs by' nd A M ⟨#[]⟩ W h5 h2 h3 (hm.chg h1) (by decide)
  rw [list_root h2] at this
  refine this.mono ?_
  rintro e w' ⟨⟨v, rfl, l, h6, h7, h8⟩, h9⟩
  obtain ⟨k1, k2⟩ := kids_sort h2.nodup h6 h7
  rw [k1, k2] at h8
  exact ⟨⟨v, rfl, h8⟩, h9⟩
/-- A row's own block lies outside L. -/
def Off (v : Value) (L : List Nat) : Prop := ∀ g, v.ownBlock = some g → g ∉ L
theorem own_off {w w' : World} {b z n : Nat} {t : TypeId} {v : Value} {xs : List Value} {K : List Nat} (h : w.ownsRow b t z v n xs) (hC : Chg K w w') (hK : Off v K) : w'.ownsRow b t z v n xs := by
  refine ⟨h.1, ?_⟩
  rcases h.2 with h2 | ⟨g, cap, cur, hv, hb, hg, hr⟩
  · exact .inl h2
  · exact .inr ⟨g, cap, cur, hv, hb, hC.heap hg (hK g (by rw [hv]; rfl)), hr⟩
theorem off_new {w : World} {b z n : Nat} {t : TypeId} {v : Value} {xs : List Value} (h : w.ownsRow b t z v n xs) {L : List Nat} (hL : ∀ i ∈ L, i < b) : Off v L := fun g hg hi => by
  have := (own_block h hg).1
  have := hL g hi
  omega
theorem off_next {w : World} {b z n : Nat} {t : TypeId} {v : Value} {xs : List Value} (h : w.ownsRow b t z v n xs) {L L' : List Nat} (hO : Off v L) (hL : ∀ i ∈ L', i ∈ L ∨ w.heap.size ≤ i) : Off v L' := fun g hg hi => by
  obtain ⟨_, cur, hh⟩ := own_block h hg
  have := lt_of_heap hh
  rcases hL g hi with h1 | h1
  · exact hO g hg h1
  · omega
end Go.Proofs.YthojofeocjmglaaGreatDoor.I
/- The law's again: a file system made anew of the entries of a tree. The walk. -/
namespace Go.Proofs.YthojofeocjmglaaGreatDoor.I
open Go.RowKit Go.Proofs.YthojofeocjmglaaGreatDoor.B Go.Sort
set_option linter.unusedVariables false
theorem sysl_op {w W w' : World} {L : List Nat} {t : Nat} {fs : FS} {b n : Nat} {R : Nat × FS} {e : Ending} (h : SysL w W L t fs b n) (hp : OpPost W L t b n R e w') (hk : FsOk R.2 ∧ Room R.2 b n) : e = .returned (errV R.1) ∧ ∃ L', SysL w w' L' t R.2 b n ∧ Chg L W w' ∧ ∀ i ∈ L', i ∈ L ∨ W.heap.size ≤ i := by
  obtain ⟨h1, h2, h3, h4, A, M, h5⟩ := h
  obtain ⟨he, hC, L', A', M', h6, h7⟩ := hp
  exact ⟨he, L', ⟨Chg.fresh ((h1.mono (by simp)).trans hC) h4, hk.1, hk.2, fun i hi => by
    rcases h7 i hi with h | h
    · exact h4 i h
    · exact Nat.le_trans h1.size h, A', M', h6⟩, hC, h7⟩
section
variable {w W : World} {L : List Nat} {t : Nat} {fs : FS} {b n : Nat}
theorem sysl_make (s : ByteArray) (h : SysL w W L t fs b n) (hm : MaxLenAt w) (hs : s.size ≤ 4294967280) : Calls Tryz.prog 70 #[(.pointer (some ⟨t, 0, none⟩)), .string s] W fun e w' => e = .returned (errV (makeF fs b n s).1) ∧ ∃ L', SysL w w' L' t (makeF fs b n s).2 b n ∧ Chg L W w' ∧ ∀ i ∈ L', i ∈ L ∨ W.heap.size ≤ i := by
  obtain ⟨h1, h2, h3, h4, A, M, h5⟩ := id h
  exact (make_calls L t fs b n A M s W h5 h2 h3 (hm.chg h1) hs).mono fun e w' hp => sysl_op h hp (makeF_keep h2 h3 s)
theorem sysl_create (s : ByteArray) (h : SysL w W L t fs b n) (hm : MaxLenAt w) (hs : s.size ≤ 4294967280) : Calls Tryz.prog 64 #[(.pointer (some ⟨t, 0, none⟩)), .string s] W fun e w' => e = .returned (errV (createF fs b n s).1) ∧ ∃ L', SysL w w' L' t (createF fs b n s).2 b n ∧ Chg L W w' ∧ ∀ i ∈ L', i ∈ L ∨ W.heap.size ≤ i := by
  obtain ⟨h1, h2, h3, h4, A, M, h5⟩ := id h
  exact (create_calls L t fs b n A M s W h5 h2 h3 (hm.chg h1) hs).mono fun e w' hp => sysl_op h hp (createF_keep h2 h3 s)
theorem sysl_append (s z : ByteArray) (h : SysL w W L t fs b n) (hm : MaxLenAt w) (hs : s.size ≤ 4294967280) (hz : z.size ≤ 4294967280) : Calls Tryz.prog 67 #[(.pointer (some ⟨t, 0, none⟩)), .string s, .string z] W fun e w' => e = .returned (errV (appendF fs b s z).1) ∧ ∃ L', SysL w w' L' t (appendF fs b s z).2 b n ∧ Chg L W w' ∧ ∀ i ∈ L', i ∈ L ∨ W.heap.size ≤ i := by
  obtain ⟨h1, h2, h3, h4, A, M, h5⟩ := id h
  exact (append_calls L t fs b n A M s z W h5 h2 h3 (hm.chg h1) hs hz).mono fun e w' hp => sysl_op h hp (appendF_keep h2 h3 s z)
theorem sysl_link (g s : ByteArray) (h : SysL w W L t fs b n) (hm : MaxLenAt w) (hs : s.size ≤ 4294967280) : Calls Tryz.prog 72 #[(.pointer (some ⟨t, 0, none⟩)), .string g, .string s] W fun e w' => e = .returned (errV (linkF fs b n g s).1) ∧ ∃ L', SysL w w' L' t (linkF fs b n g s).2 b n ∧ Chg L W w' ∧ ∀ i ∈ L', i ∈ L ∨ W.heap.size ≤ i := by
  obtain ⟨h1, h2, h3, h4, A, M, h5⟩ := id h
  exact (link_calls L t fs b n A M g s W h5 h2 h3 (hm.chg h1) hs).mono fun e w' hp => sysl_op h hp (linkF_keep h2 h3 g s)
end
theorem ent_cells {w : World} {A : Option Addr} {n c : Nat} {E : List Ent} (h : EntL w (.slice A n c) E) {i : Nat} (hi : i < E.length) : ∃ g, A = some ⟨g, 0, none⟩ ∧
    w.cell? ⟨g, i * 3, none⟩ = some (.string (E[i]'hi).1) ∧ w.cell? ⟨g, i * 3 + 1, none⟩ = some (.int .i64 ((E[i]'hi).2.1 : Int)) ∧ w.cell? ⟨g, i * 3 + 2, none⟩ = some (.string (E[i]'hi).2.2) := by
  obtain ⟨A', c', hv, h1⟩ := h
  have e : A = A' := by simp only [Value.slice.injEq] at hv; exact hv.1
  subst e
  exact h1 i hi
theorem EntL.chg {w w' : World} {v : Value} {E : List Ent} (h : EntL w v E) (hC : Chg [] w w') : EntL w' v E := by
  obtain ⟨A, c, hv, h1⟩ := h
  have mv : ∀ {p : Addr} {u : Value}, w.cell? p = some u → w'.cell? p = some u := fun h => (hC.below.cell (World.block_lt_of_cell? w _ h)).trans h
  refine ⟨A, c, hv, fun i hi => ?_⟩
  obtain ⟨g, a, b, c, d⟩ := h1 i hi
  exact ⟨g, a, mv b, mv c, mv d⟩
end Go.Proofs.YthojofeocjmglaaGreatDoor.I
/- Quoting, plainly: a text between quotes, byte by byte; reading it back. No program in sight. -/
namespace Go.Proofs.YthojofeocjmglaaGreatDoor.B
open Go.RowKit
set_option linter.unusedVariables false
theorem all_u8 {p : UInt8 → Bool} (h : (List.range 256).all (fun n => p (UInt8.ofNat n)) = true) (c : UInt8) : p c = true := by
  have h1 := List.all_eq_true.1 h c.toNat (List.mem_range.2 c.toNat_lt)
  rwa [UInt8.ofNat_toNat] at h1
/-- The bytes that have a letter, and the letters. -/
def escT : List (UInt8 × UInt8) := [(7, 97), (8, 98), (9, 116), (10, 110), (11, 118), (12, 102), (13, 114), (34, 34), (92, 92)]
def escM : List (UInt8 × UInt8) := [(97, 7), (98, 8), (116, 9), (110, 10), (118, 11), (102, 12), (114, 13), (34, 34), (92, 92)]
def letterL (c : UInt8) : Option UInt8 := escT.lookup c
def meantL (l : UInt8) : Option UInt8 := escM.lookup l
def o1 (c : UInt8) : UInt8 := UInt8.ofNat (48 + c.toNat / 64)
def o2 (c : UInt8) : UInt8 := UInt8.ofNat (48 + c.toNat / 8 % 8)
def o3 (c : UInt8) : UInt8 := UInt8.ofNat (48 + c.toNat % 8)
def octB (c : UInt8) : List UInt8 := [92, o1 c, o2 c, o3 c]
def escB (c : UInt8) : List UInt8 := match letterL c with
  | some l => [92, l]
  | none => if c < 32 ∨ 127 ≤ c then octB c else [c]
def needB (c : UInt8) : Bool := decide (c < 33) || decide (127 ≤ c) || decide (c = 34) || decide (c = 92)
def needsL (l : List UInt8) : Bool := l.isEmpty || l.any needB
/-- A text between quotes. -/
def quotB (l : List UInt8) : List UInt8 := 34 :: (l.flatMap escB ++ [34])
def quoteL (l : List UInt8) : List UInt8 := if needsL l = true then quotB l else l
/-- An operation's text. -/
def toldL (word : List UInt8) (l : List (List UInt8)) : List UInt8 := word ++ l.flatMap fun s => 32 :: quotB s
theorem escB_len (c : UInt8) : 1 ≤ (escB c).length ∧ (escB c).length ≤ 4 := by
  have := all_u8 (p := fun c => decide (1 ≤ (escB c).length ∧ (escB c).length ≤ 4)) (by kernel_rfl) c
  simpa using this
theorem flat_len : ∀ l : List UInt8, (l.flatMap escB).length ≤ 4 * l.length
  | [] => by simp
  | c :: l => by
    have := flat_len l
    have := (escB_len c).2
    rw [List.flatMap_cons, List.length_append, List.length_cons]
    omega
theorem quotB_len (l : List UInt8) : 2 ≤ (quotB l).length ∧ (quotB l).length ≤ 4 * l.length + 2 := by
  have := flat_len l
  unfold quotB
  rw [List.length_cons, List.length_append, List.length_singleton]
  omega
theorem escB_no {c : UInt8} (h : needB c = false) : escB c = [c] := by
  have := all_u8 (p := fun c => needB c || decide (escB c = [c])) (by kernel_rfl) c
  rw [h] at this
  simpa using this
theorem flat_no : ∀ {l : List UInt8}, l.any needB = false → l.flatMap escB = l
  | [], _ => rfl
  | c :: l, h => by
    rw [List.any_cons, Bool.or_eq_false_iff] at h
    rw [List.flatMap_cons, escB_no h.1, flat_no h.2]
    rfl
/-- A text that needs no quotes, between quotes. -/
theorem quotB_no {l : List UInt8} (h : needsL l = false) : quotB l = 34 :: (l ++ [34]) := by
  unfold needsL at h
  rw [Bool.or_eq_false_iff] at h
  unfold quotB
  rw [flat_no h.2]
theorem needs_cons {c : UInt8} {l : List UInt8} (h : needsL (c :: l) = false) : c ≠ 34 := by
  rintro rfl
  unfold needsL at h
  rw [Bool.or_eq_false_iff, List.any_cons, Bool.or_eq_false_iff] at h
  exact absurd h.2.1 (by decide)
/-- Quoted, and between quotes if it was not. -/
theorem quoted_is (l : List UInt8) : ∃ c r, quoteL l = c :: r ∧ (c = 34 → quoteL l = quotB l) ∧ (c ≠ 34 → 34 :: (quoteL l ++ [34]) = quotB l) := by
  unfold quoteL
  split
  · exact ⟨34, _, rfl, fun _ => rfl, fun h => absurd rfl h⟩
  · rename_i h
    have h2 : needsL l = false := by simpa using h
    cases l with
    | nil => exact absurd h2 (by decide)
    | cons c r => exact ⟨c, r, rfl, fun e => absurd e (needs_cons h2), fun _ => (quotB_no h2).symm⟩
/-- The byte of three octal digits. -/
def octN (a b d : UInt8) : Option UInt8 :=
  if a < 48 ∨ 51 < a ∨ b < 48 ∨ 55 < b ∨ d < 48 ∨ 55 < d then none else some ((a - 48) * 64 + (b - 48) * 8 + (d - 48))
/-- What stands behind an opening quote: the text, and what is behind the closing one. -/
def unqN : Nat → List UInt8 → Option (List UInt8 × List UInt8)
  | 0, _ => none
  | _ + 1, [] => none
  | m + 1, c :: r =>
    if c = 34 then some ([], r)
    else if c = 10 then none
    else if c ≠ 92 then (unqN m r).map fun x => (c :: x.1, x.2)
    else match r with
      | [] => none
      | l :: r1 => match meantL l with
        | some y => (unqN m r1).map fun x => (y :: x.1, x.2)
        | none => match r1 with
          | b :: d :: r2 => match octN l b d with
            | some y => (unqN m r2).map fun x => (y :: x.1, x.2)
            | none => none
          | _ => none
theorem unq_esc (c : UInt8) (m : Nat) (r : List UInt8) : unqN (m + 1) (escB c ++ r) = (unqN m r).map fun x => (c :: x.1, x.2) := by
  have h := all_u8 (p := fun c => match letterL c with
    | some l => decide (meantL l = some c)
    | none => if c < 32 ∨ 127 ≤ c then decide (octN (o1 c) (o2 c) (o3 c) = some c) && decide (meantL (o1 c) = none) else decide (c ≠ 34 ∧ c ≠ 10 ∧ c ≠ 92)) (by kernel_rfl) c
  unfold escB
  cases hl : letterL c with
  | some l =>
    rw [hl] at h
    have h2 : meantL l = some c := by simpa using h
    simp only [List.cons_append, List.nil_append]
    conv => lhs; unfold unqN
    rw [if_neg (by decide), if_neg (by decide), if_neg (by decide)]
    simp only [h2]
  | none =>
    rw [hl] at h
    simp only at h ⊢
    by_cases hc : c < 32 ∨ 127 ≤ c
    · rw [if_pos hc] at h ⊢
      rw [Bool.and_eq_true] at h
      have h2 : octN (o1 c) (o2 c) (o3 c) = some c := by simpa using h.1
      have h3 : meantL (o1 c) = none := by simpa using h.2
      unfold octB
      simp only [List.cons_append, List.nil_append]
      conv => lhs; unfold unqN
      rw [if_neg (by decide), if_neg (by decide), if_neg (by decide)]
      simp only [h3, h2]
    · rw [if_neg hc] at h ⊢
      have h2 : c ≠ 34 ∧ c ≠ 10 ∧ c ≠ 92 := by simpa using h
      simp only [List.cons_append, List.nil_append]
      conv => lhs; unfold unqN
      rw [if_neg h2.1, if_neg h2.2.1, if_pos h2.2.2]
theorem unq_flat (rest : List UInt8) : ∀ (l : List UInt8) (m : Nat), l.length < m → unqN m (l.flatMap escB ++ 34 :: rest) = some (l, rest)
  | [], m + 1, _ => by
    unfold unqN
    simp
  | c :: l, m + 1, h => by
    rw [List.flatMap_cons, List.append_assoc, unq_esc, unq_flat rest l m (by simpa using h)]
    rfl
end Go.Proofs.YthojofeocjmglaaGreatDoor.B
/- The disk in memory: its own cells, its two file systems, its log of closures. -/
namespace Go.Proofs.YthojofeocjmglaaGreatDoor.I
open Go.RowKit Go.Proofs.YthojofeocjmglaaGreatDoor.B Go.Sort
set_option linter.unusedVariables false
/-- Has an operation two texts? -/
def twoO (k : Int) : Bool := decide (k = 3 ∨ k = 4 ∨ k = 5)
/-- The closure's function; what it captures; its word. -/
def fnK (k : Int) : FuncId := if k = 1 then 69 else if k = 2 then 63 else if k = 3 then 66 else if k = 4 then 71 else if k = 5 then 73 else 75
def capK (k : Int) (q q2 : Nat) : Array Value := if twoO k = true then #[(.pointer (some ⟨q, 0, none⟩)), (.pointer (some ⟨q2, 0, none⟩))] else #[(.pointer (some ⟨q, 0, none⟩))]
def wordK (k : Int) : List UInt8 := if k = 1 then [109, 97, 107, 101] else if k = 2 then [99, 114, 101, 97, 116, 101] else if k = 3 then [97, 112, 112, 101, 110, 100] else if k = 4 then [108, 105, 110, 107] else if k = 5 then [114, 101, 110, 97, 109, 101] else [114, 101, 109, 111, 118, 101]
def textsO (o : OpV) : List (List UInt8) := if twoO o.kind = true then [o.a.data.toList, o.b.data.toList] else [o.a.data.toList]
def toldO (o : OpV) : ByteArray := nb (toldL (wordK o.kind) (textsO o))
/-- An operation, as the log holds it. -/
structure EntAt (W : World) (Q : List Nat) (o : OpV) (x : Value × Value) : Prop where
  ex : ∃ q q2, x = (.func (.func (fnK o.kind)) #[] (capK o.kind q q2), .string (toldO o)) ∧ q ∈ Q ∧ W.heap[q]? = some (.cells #[.string o.a] 9 (0, 0)) ∧ (twoO o.kind = true → q2 ∈ Q ∧ W.heap[q2]? = some (.cells #[.string o.b] 9 (0, 0)))
  kind : 1 ≤ o.kind ∧ o.kind ≤ 6
  sa : o.a.size ≤ 4294967280
  sb : o.b.size ≤ 4294967280
theorem EntAt.keep {W W' : World} {Q K : List Nat} {o : OpV} {x : Value × Value} (h : EntAt W Q o x) (hC : Chg K W W') (hQ : ∀ i ∈ Q, i ∉ K) : EntAt W' Q o x := by
  obtain ⟨⟨q, q2, h1, h2, h3, h4⟩, hk, ha, hb⟩ := h
  exact ⟨⟨q, q2, h1, h2, hC.heap h3 (hQ q h2), fun ht => ⟨(h4 ht).1, hC.heap (h4 ht).2 (hQ _ (h4 ht).1)⟩⟩, hk, ha, hb⟩
theorem EntAt.more {W : World} {Q Q' : List Nat} {o : OpV} {x : Value × Value} (h : EntAt W Q o x) (hQ : ∀ i ∈ Q, i ∈ Q') : EntAt W Q' o x := by
  obtain ⟨⟨q, q2, h1, h2, h3, h4⟩, hk, ha, hb⟩ := h
  exact ⟨⟨q, q2, h1, hQ _ h2, h3, fun ht => ⟨hQ _ (h4 ht).1, (h4 ht).2⟩⟩, hk, ha, hb⟩
def flat2 (E : List (Value × Value)) : List Value := E.flatMap fun x => [x.1, x.2]
theorem flat2_snoc (E : List (Value × Value)) (x : Value × Value) : flat2 (E ++ [x]) = flat2 E ++ [x.1, x.2] := by simp [flat2]
theorem flat2_len (E : List (Value × Value)) : (flat2 E).length = E.length * 2 := by
  induction E with
  | nil => rfl
  | cons x E ih =>
    have : flat2 (x :: E) = [x.1, x.2] ++ flat2 E := by simp [flat2]
    rw [this, List.length_append, ih, List.length_cons]
    simp
    omega
theorem flat2_at : ∀ (E : List (Value × Value)) (i : Nat) (h : i < E.length), (flat2 E)[i * 2]? = some (E[i]'h).1 ∧ (flat2 E)[i * 2 + 1]? = some (E[i]'h).2
  | [], _, h => absurd h (by simp)
  | x :: E, 0, _ => by
    have : flat2 (x :: E) = x.1 :: x.2 :: flat2 E := by simp [flat2]
    rw [this]
    exact ⟨rfl, rfl⟩
  | x :: E, i + 1, h => by
    have e : flat2 (x :: E) = x.1 :: x.2 :: flat2 E := by simp [flat2]
    have := flat2_at E i (by simpa using h)
    rw [e, show (i + 1) * 2 = i * 2 + 1 + 1 by omega]
    simpa using this
/-- The log's row. -/
def RowC (W : World) (Q : List Nat) (base : Nat) (lv : Value) (l : List OpV) : Prop :=
  ∃ E : List (Value × Value), E.length = l.length ∧ W.ownsRow base 83 2 lv E.length (flat2 E) ∧ ∀ (i : Nat) (o : OpV) (x : Value × Value), l[i]? = some o → E[i]? = some x → EntAt W Q o x
theorem own_keep {w w' : World} {b z n : Nat} {t : TypeId} {v : Value} {xs : List Value} {K : List Nat} (h : w.ownsRow b t z v n xs) (hC : Chg K w w') (hK : ∀ g, v.ownBlock = some g → g ∉ K) : w'.ownsRow b t z v n xs := own_off h hC hK
theorem RowC.keep {W W' : World} {Q K : List Nat} {base : Nat} {lv : Value} {l : List OpV} (h : RowC W Q base lv l) (hC : Chg K W W') (hQ : ∀ i ∈ Q, i ∉ K) (hv : Off lv K) : RowC W' Q base lv l := by
  obtain ⟨E, h1, h2, h3⟩ := h
  exact ⟨E, h1, own_off h2 hC hv, fun i o x ho hx => (h3 i o x ho hx).keep hC hQ⟩
theorem RowC.nil (W : World) (Q : List Nat) (base : Nat) : RowC W Q base (.slice none 0 0) [] := ⟨[], rfl, World.ownsRow_nil _ _ _ _, fun i o x ho => by simp at ho⟩
/-- A disk in memory: K is what its calls may turn, Q what its closures read. -/
structure DiskAt (W : World) (K Q : List Nat) (base d b n : Nat) (D : DK) (tn ts : Nat) (lv : Value) (Ln Ls : List Nat) : Prop where
  blk : W.heap[d]? = some (.cells #[(.pointer (some ⟨tn, 0, none⟩)), (.pointer (some ⟨ts, 0, none⟩)), lv, .int .i64 (D.steps : Int), .int .i64 (D.fails : Int), .int .i64 (D.downs : Int), .int .i64 (D.keep : Int), .bool D.off] 76 (0, 0))
  now : ∃ A M, TabAt W Ln tn D.now b n A M
  safe : ∃ A M, TabAt W Ls ts D.safe b n A M
  row : RowC W Q base lv D.log
  dK : d ∈ K
  nK : ∀ i ∈ Ln, i ∈ K
  sK : ∀ i ∈ Ls, i ∈ K
  rK : ∀ g, lv.ownBlock = some g → g ∈ K
  dn : d ∉ Ln
  ds : d ∉ Ls
  apart : ∀ i ∈ Ln, i ∉ Ls
  rn : Off lv Ln
  rs : Off lv Ls
  rd : lv.ownBlock ≠ some d
  q : ∀ i ∈ Q, i < W.heap.size ∧ i ∉ K
  kl : ∀ i ∈ K, i < W.heap.size
theorem DiskAt.keep {W W' : World} {K Q J : List Nat} {base d b n : Nat} {D : DK} {tn ts : Nat} {lv : Value} {Ln Ls : List Nat} (h : DiskAt W K Q base d b n D tn ts lv Ln Ls) (hC : Chg J W W') (hK : ∀ i ∈ K, i ∉ J) (hQ : ∀ i ∈ Q, i ∉ J) : DiskAt W' K Q base d b n D tn ts lv Ln Ls := by
  obtain ⟨A, M, h1⟩ := h.now
  obtain ⟨A2, M2, h2⟩ := h.safe
  exact ⟨hC.heap h.blk (hK _ h.dK), ⟨A, M, h1.keep hC fun i hi => hK i (h.nK i hi)⟩, ⟨A2, M2, h2.keep hC fun i hi => hK i (h.sK i hi)⟩, h.row.keep hC hQ (fun g hg => hK g (h.rK g hg)), h.dK, h.nK, h.sK, h.rK, h.dn, h.ds, h.apart, h.rn, h.rs, h.rd,
    fun i hi => ⟨Nat.lt_of_lt_of_le (h.q i hi).1 hC.size, (h.q i hi).2⟩, fun i hi => Nat.lt_of_lt_of_le (h.kl i hi) hC.size⟩
theorem DiskAt.keep0 {W W' : World} {K Q : List Nat} {base d b n : Nat} {D : DK} {tn ts : Nat} {lv : Value} {Ln Ls : List Nat} (h : DiskAt W K Q base d b n D tn ts lv Ln Ls) (hC : Chg [] W W') : DiskAt W' K Q base d b n D tn ts lv Ln Ls := h.keep hC (by simp) (by simp)
/-- A disk that was made since some world. -/
def DiskS (w W : World) (K Q : List Nat) (d b n : Nat) (D : DK) : Prop := Chg [] w W ∧ (∀ i ∈ K, w.heap.size ≤ i) ∧ DOk b n D ∧ ∃ tn ts lv Ln Ls, DiskAt W K Q w.heap.size d b n D tn ts lv Ln Ls
theorem DiskS.chg {w W W' : World} {K Q J : List Nat} {d b n : Nat} {D : DK} (h : DiskS w W K Q d b n D) (hC : Chg J W W') (hJ : ∀ i ∈ J, w.heap.size ≤ i) (hK : ∀ i ∈ K, i ∉ J) (hQ : ∀ i ∈ Q, i ∉ J) : DiskS w W' K Q d b n D := by
  obtain ⟨h1, h2, h3, tn, ts, lv, Ln, Ls, h4⟩ := h
  exact ⟨Chg.fresh ((h1.mono (by simp)).trans hC) hJ, h2, h3, tn, ts, lv, Ln, Ls, h4.keep hC hK hQ⟩
theorem DiskS.chg0 {w W W' : World} {K Q : List Nat} {d b n : Nat} {D : DK} (h : DiskS w W K Q d b n D) (hC : Chg [] W W') : DiskS w W' K Q d b n D := h.chg hC (by simp) (by simp) (by simp)
/-- What an act leaves: the error, the disk, and what has turned. -/
def DPost (w W : World) (K Q : List Nat) (d b n : Nat) (R : Nat × DK) (e : Ending) (w' : World) : Prop :=
  e = .returned (errV R.1) ∧ ∃ K' Q', DiskS w w' K' Q' d b n R.2 ∧ Chg K W w' ∧ (∀ i ∈ K', i ∈ K ∨ W.heap.size ≤ i) ∧ (∀ i ∈ Q', i ∈ Q ∨ W.heap.size ≤ i)
end Go.Proofs.YthojofeocjmglaaGreatDoor.I
/- The closures that the log holds: what each does to a file system. (Printed by dclos.py.) -/
namespace Go.Proofs.YthojofeocjmglaaGreatDoor.I
open Go.RowKit Go.Proofs.YthojofeocjmglaaGreatDoor.B Go.Sort
set_option linter.unusedVariables false
set_option maxRecDepth 100000 in
set_option maxHeartbeats 16000000 in
theorem clos1 (L : List Nat) (t : Nat) (fs : FS) (b n : Nat) (A M : Pth → Nat) (s : ByteArray) (q : Nat) (w : World) (hT : TabAt w L t fs b n A M) (hg : FsOk fs) (hr : Room fs b n) (hm : MaxLenAt w) (hs : s.size ≤ 4294967280) (hq : w.heap[q]? = some (.cells #[.string s] 9 (0, 0))) :
    Calls Tryz.prog 69 #[(.pointer (some ⟨t, 0, none⟩)), (.pointer (some ⟨q, 0, none⟩))] w fun e w' => OpPost w L t b n (makeF fs b n s) e w' := by
  have H := Asd.mk (make_calls L t fs b n A M s w hT hg hr hm hs)
  have q0 := cell_of_heap hq 0
  clear hT hg hr hm hq
  (go_enter Tryz.func69, Tryz.ntmps69)
  go_wp2_with fail
  refine H.out.mono ?_
  rintro e w1 hP
  have he : e = .returned (errV (makeF fs b n s).1) := hP.1
  subst he
  have HP := Asd.mk hP
  clear hP H
  go_wp2
  go_ret
  exact HP.out
set_option maxRecDepth 100000 in
set_option maxHeartbeats 16000000 in
theorem clos2 (L : List Nat) (t : Nat) (fs : FS) (b n : Nat) (A M : Pth → Nat) (s : ByteArray) (q : Nat) (w : World) (hT : TabAt w L t fs b n A M) (hg : FsOk fs) (hr : Room fs b n) (hm : MaxLenAt w) (hs : s.size ≤ 4294967280) (hq : w.heap[q]? = some (.cells #[.string s] 9 (0, 0))) :
    Calls Tryz.prog 63 #[(.pointer (some ⟨t, 0, none⟩)), (.pointer (some ⟨q, 0, none⟩))] w fun e w' => OpPost w L t b n (createF fs b n s) e w' := by
  have H := Asd.mk (create_calls L t fs b n A M s w hT hg hr hm hs)
  have q0 := cell_of_heap hq 0
  clear hT hg hr hm hq
  (go_enter Tryz.func63, Tryz.ntmps63)
  go_wp2_with fail
  refine H.out.mono ?_
  rintro e w1 hP
  have he : e = .returned (errV (createF fs b n s).1) := hP.1
  subst he
  have HP := Asd.mk hP
  clear hP H
  go_wp2
  go_ret
  exact HP.out
set_option maxRecDepth 100000 in
set_option maxHeartbeats 16000000 in
theorem clos3 (L : List Nat) (t : Nat) (fs : FS) (b n : Nat) (A M : Pth → Nat) (s z : ByteArray) (q : Nat) (q2 : Nat) (w : World) (hT : TabAt w L t fs b n A M) (hg : FsOk fs) (hr : Room fs b n) (hm : MaxLenAt w) (hs : s.size ≤ 4294967280) (hz : z.size ≤ 4294967280) (hq : w.heap[q]? = some (.cells #[.string s] 9 (0, 0))) (hq2 : w.heap[q2]? = some (.cells #[.string z] 9 (0, 0))) :
    Calls Tryz.prog 66 #[(.pointer (some ⟨t, 0, none⟩)), (.pointer (some ⟨q, 0, none⟩)), (.pointer (some ⟨q2, 0, none⟩))] w fun e w' => OpPost w L t b n (appendF fs b s z) e w' := by
  have H := Asd.mk (append_calls L t fs b n A M s z w hT hg hr hm hs hz)
  have q0 := cell_of_heap hq 0
  have r0 := cell_of_heap hq2 0
  clear hq2
  clear hT hg hr hm hq
  (go_enter Tryz.func66, Tryz.ntmps66)
  go_wp2_with fail
  refine H.out.mono ?_
  rintro e w1 hP
  have he : e = .returned (errV (appendF fs b s z).1) := hP.1
  subst he
  have HP := Asd.mk hP
  clear hP H
  go_wp2
  go_ret
  exact HP.out
set_option maxRecDepth 100000 in
set_option maxHeartbeats 16000000 in
theorem clos4 (L : List Nat) (t : Nat) (fs : FS) (b n : Nat) (A M : Pth → Nat) (s z : ByteArray) (q : Nat) (q2 : Nat) (w : World) (hT : TabAt w L t fs b n A M) (hg : FsOk fs) (hr : Room fs b n) (hm : MaxLenAt w) (hs : s.size ≤ 4294967280) (hz : z.size ≤ 4294967280) (hq : w.heap[q]? = some (.cells #[.string s] 9 (0, 0))) (hq2 : w.heap[q2]? = some (.cells #[.string z] 9 (0, 0))) :
    Calls Tryz.prog 71 #[(.pointer (some ⟨t, 0, none⟩)), (.pointer (some ⟨q, 0, none⟩)), (.pointer (some ⟨q2, 0, none⟩))] w fun e w' => OpPost w L t b n (linkF fs b n s z) e w' := by
  have H := Asd.mk (link_calls L t fs b n A M s z w hT hg hr hm hz)
  have q0 := cell_of_heap hq 0
  have r0 := cell_of_heap hq2 0
  clear hq2
  clear hT hg hr hm hq
  (go_enter Tryz.func71, Tryz.ntmps71)
  go_wp2_with fail
  refine H.out.mono ?_
  rintro e w1 hP
  have he : e = .returned (errV (linkF fs b n s z).1) := hP.1
  subst he
  have HP := Asd.mk hP
  clear hP H
  go_wp2
  go_ret
  exact HP.out
set_option maxRecDepth 100000 in
set_option maxHeartbeats 16000000 in
theorem clos5 (L : List Nat) (t : Nat) (fs : FS) (b n : Nat) (A M : Pth → Nat) (s z : ByteArray) (q : Nat) (q2 : Nat) (w : World) (hT : TabAt w L t fs b n A M) (hg : FsOk fs) (hr : Room fs b n) (hm : MaxLenAt w) (hs : s.size ≤ 4294967280) (hz : z.size ≤ 4294967280) (hq : w.heap[q]? = some (.cells #[.string s] 9 (0, 0))) (hq2 : w.heap[q2]? = some (.cells #[.string z] 9 (0, 0))) :
    Calls Tryz.prog 73 #[(.pointer (some ⟨t, 0, none⟩)), (.pointer (some ⟨q, 0, none⟩)), (.pointer (some ⟨q2, 0, none⟩))] w fun e w' => OpPost w L t b n (renameF fs s z) e w' := by
  have H := Asd.mk (rename_calls L t fs b n A M s z w hT hg hr hm hs hz)
  have q0 := cell_of_heap hq 0
  have r0 := cell_of_heap hq2 0
  clear hq2
  clear hT hg hr hm hq
  (go_enter Tryz.func73, Tryz.ntmps73)
  go_wp2_with fail
  refine H.out.mono ?_
  rintro e w1 hP
  have he : e = .returned (errV (renameF fs s z).1) := hP.1
  subst he
  have HP := Asd.mk hP
  clear hP H
  go_wp2
  go_ret
  exact HP.out
set_option maxRecDepth 100000 in
set_option maxHeartbeats 16000000 in
theorem clos6 (L : List Nat) (t : Nat) (fs : FS) (b n : Nat) (A M : Pth → Nat) (s : ByteArray) (q : Nat) (w : World) (hT : TabAt w L t fs b n A M) (hg : FsOk fs) (hr : Room fs b n) (hm : MaxLenAt w) (hs : s.size ≤ 4294967280) (hq : w.heap[q]? = some (.cells #[.string s] 9 (0, 0))) :
    Calls Tryz.prog 75 #[(.pointer (some ⟨t, 0, none⟩)), (.pointer (some ⟨q, 0, none⟩))] w fun e w' => OpPost w L t b n (removeF fs s) e w' := by
  have H := Asd.mk (remove_calls L t fs b n A M s w hT hg hr hm hs)
  have q0 := cell_of_heap hq 0
  clear hT hg hr hm hq
  (go_enter Tryz.func75, Tryz.ntmps75)
  go_wp2_with fail
  refine H.out.mono ?_
  rintro e w1 hP
  have he : e = .returned (errV (removeF fs s).1) := hP.1
  subst he
  have HP := Asd.mk hP
  clear hP H
  go_wp2
  go_ret
  exact HP.out
/-- What an entry's func does. -/
theorem clos_calls {Q : List Nat} {o : OpV} {W0 : World} (L : List Nat) (t : Nat) (fs : FS) (b n : Nat) (A M : Pth → Nat) (f : FuncId) (C : Array Value) (u : Value) (hE : EntAt W0 Q o (.func (.func f) #[] C, u)) (w : World) (hK : ∀ i ∈ Q, w.heap[i]? = W0.heap[i]?) (hT : TabAt w L t fs b n A M) (hg : FsOk fs) (hr : Room fs b n) (hm : MaxLenAt w) :
    Calls Tryz.prog f (#[(.pointer (some ⟨t, 0, none⟩))] ++ C) w fun e w' => OpPost w L t b n (opF fs b n o) e w' := by
  obtain ⟨⟨q, q2, h1, h2, h3, h4⟩, ⟨k0, k1⟩, ha, hb⟩ := hE
  simp only [Prod.mk.injEq, Value.func.injEq, Fn.func.injEq, true_and] at h1
  obtain ⟨⟨rfl, rfl⟩, _⟩ := h1
  have hq := (hK q h2).trans h3
  have hq2 := fun ht => (hK q2 (h4 ht).1).trans (h4 ht).2
  obtain ⟨k, a, z⟩ := o
  simp only at k0 k1 hq hq2 ha hb ⊢
  have e : k = 1 ∨ k = 2 ∨ k = 3 ∨ k = 4 ∨ k = 5 ∨ k = 6 := by omega
  rcases e with rfl | rfl | rfl | rfl | rfl | rfl
  · exact clos1 L t fs b n A M a q w hT hg hr hm ha hq
  · exact clos2 L t fs b n A M a q w hT hg hr hm ha hq
  · exact clos3 L t fs b n A M a z q q2 w hT hg hr hm ha hb hq (hq2 rfl)
  · exact clos4 L t fs b n A M a z q q2 w hT hg hr hm ha hb hq (hq2 rfl)
  · exact clos5 L t fs b n A M a z q q2 w hT hg hr hm ha hb hq (hq2 rfl)
  · exact clos6 L t fs b n A M a q w hT hg hr hm ha hq
end Go.Proofs.YthojofeocjmglaaGreatDoor.I
/- A copy of what stands at and below a path, in memory. -/
namespace Go.Proofs.YthojofeocjmglaaGreatDoor.I
open Go.RowKit Go.Proofs.YthojofeocjmglaaGreatDoor.B Go.Sort
set_option linter.unusedVariables false
/-- Where the nodes at and below the paths of D lie, in blocks from lo on. -/
structure SubAt (w : World) (lo : Nat) (fs : FS) (D : Pth → Prop) (A M : Pth → Nat) : Prop where
  node : ∀ r x, D r → fs.at r = some x → w.heap[A r]? = some (.cells #[.int .i64 (x.kind : Int), .string x.text, if x.kind = 2 then .map (some (M r)) else .map none] 133 (0, 0))
  kids : ∀ r x, D r → fs.at r = some x → x.kind = 2 → ∃ es clock K, w.heap[M r]? = some (.map es clock) ∧ MKids es clock K ∧ ∀ n, K.lookup n = (fs.at (r ++ [n])).map fun _ => (.pointer (some ⟨A (r ++ [n]), 0, none⟩))
  aL : ∀ r x, D r → fs.at r = some x → lo ≤ A r ∧ (x.kind = 2 → lo ≤ M r)
  injA : ∀ r s x y, D r → D s → fs.at r = some x → fs.at s = some y → A r = A s → r = s
  injM : ∀ r s x y, D r → D s → fs.at r = some x → fs.at s = some y → x.kind = 2 → y.kind = 2 → M r = M s → r = s
theorem SubAt.chg {w w' : World} {lo : Nat} {fs : FS} {D : Pth → Prop} {A M : Pth → Nat} (h : SubAt w lo fs D A M) (hk : ∀ i, lo ≤ i → i < w.heap.size → w'.heap[i]? = w.heap[i]?) : SubAt w' lo fs D A M := by
  have mv : ∀ {i : Nat} {o : Obj}, lo ≤ i → w.heap[i]? = some o → w'.heap[i]? = some o := fun hl h => (hk _ hl (lt_of_heap h)).trans h
  refine ⟨fun r x hD hx => mv (h.aL r x hD hx).1 (h.node r x hD hx), fun r x hD hx h2 => ?_, h.aL, h.injA, h.injM⟩
  obtain ⟨es, c, K, k1, k2, k3⟩ := h.kids r x hD hx h2
  exact ⟨es, c, K, mv ((h.aL r x hD hx).2 h2) k1, k2, k3⟩
open Classical in
/-- One block of paths more. -/
theorem SubAt.add {w w' : World} {lo : Nat} {fs : FS} {D E : Pth → Prop} {A M A2 M2 : Pth → Nat} (h : SubAt w lo fs D A M) (hk : ∀ i, lo ≤ i → i < w.heap.size → w'.heap[i]? = w.heap[i]?) (h2 : SubAt w' w.heap.size fs E A2 M2) (hlo : lo ≤ w.heap.size) (hdis : ∀ r, D r → ¬ E r) (hkid : ∀ r n, D r → ¬ E (r ++ [n])) (hkid2 : ∀ r n, E r → E (r ++ [n])) :
    SubAt w' lo fs (fun r => D r ∨ E r) (fun r => if E r then A2 r else A r) (fun r => if E r then M2 r else M r) := by
  have h1 := h.chg hk
  have lt1 : ∀ r x, D r → fs.at r = some x → A r < w.heap.size := fun r x hD hx => lt_of_heap (h.node r x hD hx)
  have lt2 : ∀ r x, D r → fs.at r = some x → x.kind = 2 → M r < w.heap.size := fun r x hD hx hk2 => by
    obtain ⟨es, c, K, k1, _, _⟩ := h.kids r x hD hx hk2
    exact lt_of_heap k1
  have cs : ∀ r, D r ∨ E r → (E r) ∨ (D r ∧ ¬ E r) := fun r hr => hr.elim (fun h => .inr ⟨h, hdis r h⟩) .inl
  refine ⟨fun r x hr hx => ?_, fun r x hr hx hk2 => ?_, fun r x hr hx => ?_, fun r s x y hr hs hx hy e => ?_, fun r s x y hr hs hx hy kx ky e => ?_⟩
  · rcases cs r hr with hE | ⟨hD, hE⟩
    · simp only [if_pos hE]; exact h2.node r x hE hx
    · simp only [if_neg hE]; exact h1.node r x hD hx
  · rcases cs r hr with hE | ⟨hD, hE⟩
    · obtain ⟨es, c, K, k1, k2, k3⟩ := h2.kids r x hE hx hk2
      refine ⟨es, c, K, by simp only [if_pos hE]; exact k1, k2, fun n => ?_⟩
      simp only [if_pos (hkid2 r n hE)]
      exact k3 n
    · obtain ⟨es, c, K, k1, k2, k3⟩ := h1.kids r x hD hx hk2
      refine ⟨es, c, K, by simp only [if_neg hE]; exact k1, k2, fun n => ?_⟩
      simp only [if_neg (hkid r n hD)]
      exact k3 n
  · rcases cs r hr with hE | ⟨hD, hE⟩
    · simp only [if_pos hE]
      obtain ⟨a, b⟩ := h2.aL r x hE hx
      exact ⟨by omega, fun h => by have := b h; omega⟩
    · simp only [if_neg hE]; exact h.aL r x hD hx
  · rcases cs r hr with hE | ⟨hD, hE⟩ <;> rcases cs s hs with hF | ⟨hG, hF⟩
    · simp only [if_pos hE, if_pos hF] at e; exact h2.injA r s x y hE hF hx hy e
    · simp only [if_pos hE, if_neg hF] at e
      have := (h2.aL r x hE hx).1
      have := lt1 s y hG hy
      omega
    · simp only [if_neg hE, if_pos hF] at e
      have := (h2.aL s y hF hy).1
      have := lt1 r x hD hx
      omega
    · simp only [if_neg hE, if_neg hF] at e; exact h.injA r s x y hD hG hx hy e
  · rcases cs r hr with hE | ⟨hD, hE⟩ <;> rcases cs s hs with hF | ⟨hG, hF⟩
    · simp only [if_pos hE, if_pos hF] at e; exact h2.injM r s x y hE hF hx hy kx ky e
    · simp only [if_pos hE, if_neg hF] at e
      have := (h2.aL r x hE hx).2 kx
      have := lt2 s y hG hy ky
      omega
    · simp only [if_neg hE, if_pos hF] at e
      have := (h2.aL s y hF hy).2 ky
      have := lt2 r x hD hx kx
      omega
    · simp only [if_neg hE, if_neg hF] at e; exact h.injM r s x y hD hG hx hy kx ky e
/-- At or below p. -/
def Under (p : Pth) (r : Pth) : Prop := p <+: r
open Classical in
/-- The head laid on top of what lies below it. -/
theorem SubAt.top {w w' : World} {lo lo2 : Nat} {fs : FS} {p : Pth} {x : Nd} {D : Pth → Prop} {A M : Pth → Nat} {B mB : Nat} (h : SubAt w lo2 fs D A M) (hk : ∀ i, lo2 ≤ i → i < w.heap.size → w'.heap[i]? = w.heap[i]?) (hlo : lo ≤ lo2) (hx : fs.at p = some x)
    (hD : ∀ r, fs.at r ≠ none → (Under p r ↔ r = p ∨ D r)) (hpD : ¬ D p) (hB : lo ≤ B ∧ B < lo2) (hmB : x.kind = 2 → lo ≤ mB ∧ mB < lo2)
    (hn : w'.heap[B]? = some (.cells #[.int .i64 (x.kind : Int), .string x.text, if x.kind = 2 then .map (some mB) else .map none] 133 (0, 0)))
    (hkid : x.kind = 2 → ∃ es clock K, w'.heap[mB]? = some (.map es clock) ∧ MKids es clock K ∧ ∀ n, K.lookup n = (fs.at (p ++ [n])).map fun _ => (.pointer (some ⟨A (p ++ [n]), 0, none⟩))) (hDne : ∀ r n, D r → r ++ [n] ≠ p) :
    SubAt w' lo fs (Under p) (fun r => if r = p then B else A r) (fun r => if r = p then mB else M r) := by
  have h1 := h.chg hk
  have cs : ∀ r x, Under p r → fs.at r = some x → r = p ∨ (D r ∧ r ≠ p) := fun r x hr hx => by
    rcases (hD r (by rw [hx]; simp)).1 hr with h | h
    · exact .inl h
    · exact .inr ⟨h, fun e => hpD (e ▸ h)⟩
  have ne : ∀ n : Nm, p ++ [n] ≠ p := fun n => snoc_ne p n
  refine ⟨fun r y hr hy => ?_, fun r y hr hy hk2 => ?_, fun r y hr hy => ?_, fun r s y z hr hs hy hz e => ?_, fun r s y z hr hs hy hz ky kz e => ?_⟩
  · rcases cs r y hr hy with rfl | ⟨hr2, hne⟩
    · rw [hx] at hy; cases hy
      simp only [if_true]; exact hn
    · simp only [if_neg hne]; exact h1.node r y hr2 hy
  · rcases cs r y hr hy with rfl | ⟨hr2, hne⟩
    · rw [hx] at hy; cases hy
      obtain ⟨es, c, K, k1, k2, k3⟩ := hkid hk2
      refine ⟨es, c, K, by simp only [if_true]; exact k1, k2, fun n => ?_⟩
      simp only [if_neg (ne n)]
      exact k3 n
    · obtain ⟨es, c, K, k1, k2, k3⟩ := h1.kids r y hr2 hy hk2
      refine ⟨es, c, K, by simp only [if_neg hne]; exact k1, k2, fun n => ?_⟩
      simp only [if_neg (hDne r n hr2)]
      exact k3 n
  · rcases cs r y hr hy with rfl | ⟨hr2, hne⟩
    · rw [hx] at hy; cases hy
      simp only [if_true]; exact ⟨hB.1, fun h => (hmB h).1⟩
    · simp only [if_neg hne]
      obtain ⟨a, b⟩ := h.aL r y hr2 hy
      exact ⟨by omega, fun h => by have := b h; omega⟩
  · rcases cs r y hr hy with rfl | ⟨hr2, hne⟩ <;> rcases cs s z hs hz with rfl | ⟨hs2, hne2⟩
    · rfl
    · simp only [if_true, if_neg hne2] at e
      have := (h.aL s z hs2 hz).1
      omega
    · simp only [if_true, if_neg hne] at e
      have := (h.aL r y hr2 hy).1
      omega
    · simp only [if_neg hne, if_neg hne2] at e; exact h.injA r s y z hr2 hs2 hy hz e
  · rcases cs r y hr hy with rfl | ⟨hr2, hne⟩ <;> rcases cs s z hs hz with rfl | ⟨hs2, hne2⟩
    · rfl
    · simp only [if_true, if_neg hne2] at e
      have := (h.aL s z hs2 hz).2 kz
      rw [hx] at hy; cases hy
      have := (hmB ky).2
      omega
    · simp only [if_true, if_neg hne] at e
      have := (h.aL r y hr2 hy).2 ky
      rw [hx] at hz; cases hz
      have := (hmB kz).2
      omega
    · simp only [if_neg hne, if_neg hne2] at e; exact h.injM r s y z hr2 hs2 hy hz ky kz e
end Go.Proofs.YthojofeocjmglaaGreatDoor.I
