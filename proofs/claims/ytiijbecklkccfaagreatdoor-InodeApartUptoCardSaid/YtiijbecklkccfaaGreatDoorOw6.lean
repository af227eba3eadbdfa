/- Merged out of these texts: RemDef, LinkDef, Keep, Mv, TabMv, Gives, Rg. -/
import Derived.Test.YtiijbecklkccfaaGreatDoorOw5
import Derived.LaidEqlPtr
import Derived.WideLaws
import Derived.Test.YtiijbecklkccfaaGreatDoorOw1
import Derived.Maps.RangeRun
/- Remove: what it makes of a file system; a directory's map and how much it holds; pointers compared. -/
namespace Go.Proofs.YtiijbecklkccfaaGreatDoor.I
open Go.RowKit Go.Proofs.YtiijbecklkccfaaGreatDoor.B Go.Sort
set_option linter.unusedVariables false
/-- Does something stand in a directory? -/
def hasKids (fs : FS) (p : Pth) : Prop := ∃ k, fs.at (p ++ [k]) ≠ none
open Classical in
/-- Remove. -/
noncomputable def removeF (fs : FS) (s : ByteArray) : Nat × FS := match atE fs s with
  | .error n => (n, fs)
  | .ok p => if p = [] then (1, fs) else match fs.at p with
    | none => (200, fs)
    | some x => if hasKids fs p then (205, fs) else (0, delF fs p)
theorem info_node : (Tryz.prog.info? 85).map (·.size) = some 3 := by kernel_rfl
theorem info_node' : ∃ j, Tryz.prog.info? 85 = some j ∧ j.size ≠ 0 := by
  cases hj : Tryz.prog.info? 85 with
  | none => have := info_node; rw [hj] at this; cases this
  | some j =>
    have h := info_node
    rw [hj] at h
    simp only [Option.map_some, Option.some.injEq] at h
    exact ⟨j, rfl, by omega⟩
theorem eql_same (a : Addr) (w : World) : (binOp .eql 72 (.pointer (some a)) (.pointer (some a))).run Tryz.prog w = .ok (.bool true) w := by
  obtain ⟨j, h1, _⟩ := info_node'
  exact run_eql_ptr_same w a Tryz.underlying72 h1
theorem eql_other {a b : Nat} {ca cb : Array Value} {ta tb : TypeId} (w : World) (hne : a ≠ b) (ha : w.heap[a]? = some (.cells ca ta (0, 0))) (hb : w.heap[b]? = some (.cells cb tb (0, 0))) : (binOp .eql 72 (.pointer (some ⟨a, 0, none⟩)) (.pointer (some ⟨b, 0, none⟩))).run Tryz.prog w = .ok (.bool false) w := by
  obtain ⟨j, h1, h2⟩ := info_node'
  exact run_eql_ptr_other w Tryz.underlying72 h1 h2 (fun e => hne (by cases e; rfl)) ha hb
theorem eql_none (a : Addr) (w : World) : (binOp .eql 72 (.pointer none) (.pointer (some a))).run Tryz.prog w = .ok (.bool false) w := by
  have h : ∀ d : Nat, (Op.equalIn (d + 1) 72 (.pointer none) (.pointer (some a))).run Tryz.prog w = .ok false w := fun d => by
    simp [Op.equalIn, run_underlying Tryz.underlying72]
  simp only [binOp]
  simp [Op.equal, Op.maxDepth, h 9999]
theorem len_kids {b : Nat} {es : Array MapEntry} {clock : Nat} {w : World} (hb : w.heap[b]? = some (.map es clock)) : (Builtin.len_ #[83] 3 #[.map (some b)]).run Tryz.prog w = .ok (.int .i64 es.size) w := by
  simp [Builtin.len_, run_underlying Tryz.underlying83, MapKept.run_getObj_map hb, goInt]
theorem kids_len {w : World} {L : List Nat} {t by' nd : Nat} {fs : FS} {A M : Pth → Nat} (h : TabAt w L t fs by' nd A M) {p : Pth} {x : Nd} (hx : fs.at p = some x) (hk : x.kind = 2) : ∃ es clock, w.heap[M p]? = some (.map es clock) ∧ (hasKids fs p ↔ 0 < es.size) := by
  obtain ⟨es, clock, K, h1, h2, h3⟩ := h.kids p x hx hk
  refine ⟨es, clock, h1, ?_⟩
  have hl : es.size = K.length := by
    have := congrArg List.length h2.ents
    simpa using this
  rw [hl]
  constructor
  · rintro ⟨k, hk⟩
    cases hK : K with
    | nil =>
      have := h3 k
      rw [hK] at this
      simp only [List.lookup_nil] at this
      cases ha : fs.at (p ++ [k]) with
      | none => exact absurd ha hk
      | some z => rw [ha] at this; cases this
    | cons a b => simp
  · intro hlen
    cases hK : K with
    | nil => rw [hK] at hlen; simp at hlen
    | cons a b =>
      refine ⟨a.1, fun e => ?_⟩
      have := h3 a.1
      rw [hK, e, List.lookup_cons] at this
      simp at this
end Go.Proofs.YtiijbecklkccfaaGreatDoor.I
/- Link: what it makes of a file system. -/
namespace Go.Proofs.YtiijbecklkccfaaGreatDoor.I
open Go.RowKit Go.Proofs.YtiijbecklkccfaaGreatDoor.B Go.Sort
set_option linter.unusedVariables false
/-- Has a text a zero byte? -/
def nulB (s : ByteArray) : Bool := decide (0 ≤ Lib.indexByte s.data.toList 0)
/-- What no link may say. -/
def badT (s : ByteArray) : Prop := s.toList.isEmpty = true ∨ 4096 < s.size ∨ nulB s = true
open Classical in
/-- Link. -/
noncomputable def linkF (fs : FS) (by' nd : Nat) (g s : ByteArray) : Nat × FS := if badT g then (30, fs) else match atE fs s with
  | .error n => (n, fs)
  | .ok p => if (fs.at p).isSome = true then (201, fs) else putF fs by' nd p ⟨3, g⟩
end Go.Proofs.YtiijbecklkccfaaGreatDoor.I
/- What every call keeps: a file system as calls make it, within its room. -/
namespace Go.Proofs.YtiijbecklkccfaaGreatDoor.I
open Go.RowKit Go.Proofs.YtiijbecklkccfaaGreatDoor.B Go.Sort
set_option linter.unusedVariables false
/-- A path that may be. -/
def okP (p : Pth) : Prop := p.length ≤ 64 ∧ (joinL 47 p).length ≤ 4096 ∧ p.all okNm = true
/-- A node that may be. -/
def okN (x : Nd) : Prop := (x.kind = 1 ∨ x.kind = 2 ∨ x.kind = 3) ∧ (x.kind = 2 → x.text = ⟨#[]⟩) ∧ x.text.size ≤ 4194304
theorem not_mem {fs : FS} {p : Pth} (hd : (fs.map (·.1)).Nodup) (hp : p ≠ []) (h : fs.at p = none) : p ∉ fs.map (·.1) := by
  intro hm
  obtain ⟨⟨a, b⟩, hab, rfl⟩ := List.mem_map.1 hm
  rw [at_ne fs hp, mem_lookup hd hab] at h
  cases h
theorem fsOk_put {fs : FS} (hg : FsOk fs) {q : Pth} {n : Nm} {x y : Nd} (hq : fs.at q = some y) (hy : y.kind = 2) (hn : fs.at (q ++ [n]) = none) (hx : okN x) (hp : okP (q ++ [n])) : FsOk (fs ++ [(q ++ [n], x)]) := by
  have hne : q ++ [n] ≠ [] := by simp
  have A := at_put x hne hn
  refine ⟨?_, ?_, ?_, ?_, ?_, ?_, ?_⟩
  · rw [List.map_append, List.nodup_append]
    refine ⟨hg.nodup, by simp, ?_⟩
    intro a ha b hb
    simp only [List.map_cons, List.map_nil, List.mem_singleton] at hb
    rw [hb]
    rintro rfl
    exact not_mem hg.nodup hne hn ha
  · intro z hz
    rcases List.mem_append.1 hz with h | h
    · exact hg.ne z h
    · simp only [List.mem_singleton] at h
      rw [h]; exact hne
  · intro p m h
    rw [A] at h
    split at h
    · rename_i e
      obtain ⟨rfl, rfl⟩ := snoc_inj e
      refine ⟨y, ?_, hy⟩
      rw [A, if_neg (fun e => snoc_ne _ _ e.symm)]
      exact hq
    · obtain ⟨z, hz, hz2⟩ := hg.up p m h
      refine ⟨z, ?_, hz2⟩
      rw [A, if_neg (fun e => by rw [e, hn] at hz; cases hz)]
      exact hz
  · intro p z h
    rw [A] at h
    split at h
    · cases h; exact hx.1
    · exact hg.kind p z h
  · intro p z h
    rw [A] at h
    split at h
    · cases h; exact hx.2.1
    · exact hg.dirs p z h
  · intro p z h
    rw [A] at h
    split at h
    · cases h; exact hx.2.2
    · exact hg.small p z h
  · intro p z h
    rw [A] at h
    split at h
    · rename_i e; rw [e]; exact hp
    · exact hg.okp p z h
theorem fsOk_set {fs : FS} (hg : FsOk fs) {p : Pth} {x y : Nd} (hp : p ≠ []) (hy : fs.at p = some y) (hk : y.kind = 2 → x.kind = 2) (hx : okN x) : FsOk (setF fs p x) := by
  have A := at_set x hp hy
  have hm : (setF fs p x).map (·.1) = fs.map (·.1) := by
    unfold setF
    rw [List.map_map]
    refine List.map_congr_left fun z _ => ?_
    simp only [Function.comp]
    split
    · rename_i e; exact e.symm
    · rfl
  refine ⟨by rw [hm]; exact hg.nodup, ?_, ?_, ?_, ?_, ?_, ?_⟩
  · intro z hz
    have : z.1 ∈ fs.map (·.1) := by rw [← hm]; exact List.mem_map.2 ⟨z, hz, rfl⟩
    obtain ⟨u, hu, e⟩ := List.mem_map.1 this
    rw [← e]
    exact hg.ne u hu
  · intro r m h
    have h2 : fs.at (r ++ [m]) ≠ none := by
      rw [A] at h
      split at h
      · rename_i e; rw [e, hy]; simp
      · exact h
    obtain ⟨z, hz, hz2⟩ := hg.up r m h2
    by_cases e : r = p
    · rw [e, hy] at hz
      cases hz
      exact ⟨x, by rw [A, if_pos e], hk hz2⟩
    · exact ⟨z, by rw [A, if_neg e]; exact hz, hz2⟩
  · intro r z h
    rw [A] at h
    split at h
    · cases h; exact hx.1
    · exact hg.kind r z h
  · intro r z h
    rw [A] at h
    split at h
    · cases h; exact hx.2.1
    · exact hg.dirs r z h
  · intro r z h
    rw [A] at h
    split at h
    · cases h; exact hx.2.2
    · exact hg.small r z h
  · intro r z h
    rw [A] at h
    split at h
    · rename_i e; rw [e]; exact hg.okp p y hy
    · exact hg.okp r z h
theorem fsOk_del {fs : FS} (hg : FsOk fs) {p : Pth} (hp : p ≠ []) (hk : ¬ hasKids fs p) : FsOk (delF fs p) := by
  have A := at_del (fs := fs) hp
  have A2 : ∀ {r z}, (delF fs p).at r = some z → fs.at r = some z := fun {r z} h => by
    rw [A] at h
    split at h
    · cases h
    · exact h
  refine ⟨?_, fun z hz => hg.ne z (List.mem_filter.1 hz).1, ?_, fun r z h => hg.kind r z (A2 h), fun r z h => hg.dirs r z (A2 h), fun r z h => hg.small r z (A2 h), fun r z h => hg.okp r z (A2 h)⟩
  · exact List.Nodup.sublist (List.Sublist.map _ List.filter_sublist) hg.nodup
  · intro r m h
    rw [A] at h
    split at h
    · exact absurd rfl h
    · obtain ⟨z, hz, hz2⟩ := hg.up r m h
      refine ⟨z, ?_, hz2⟩
      rw [A, if_neg (fun e => hk ⟨m, by rw [← e]; exact h⟩)]
      exact hz
theorem partsF_ok {s : ByteArray} {p : Pth} (h : partsF s = .ok p) : okP p := by
  unfold partsF at h
  split at h
  · cases h
  · rename_i hs
    split at h
    · cases h; exact ⟨by simp, by simp [joinL], by simp⟩
    · split at h
      · cases h
      · rename_i h1
        split at h
        · cases h
        · rename_i h2
          cases h
          refine ⟨by omega, ?_, by simpa using h1⟩
          rw [join_spL]
          show s.data.toList.length ≤ 4096
          have : s.data.toList.length = s.size := by rw [Array.length_toList]; rfl
          omega
theorem atE_parts {fs : FS} {s : ByteArray} {p : Pth} (h : atE fs s = .ok p) : partsF s = .ok p := by
  unfold atE at h
  split at h
  · cases h
  · rename_i p2 hp
    split at h
    · cases h
    · cases h; exact hp
theorem Room.set {fs : FS} {by' nd : Nat} (hr : Room fs by' nd) {p : Pth} {x : Nd} (h : usedF (setF fs p x) ≤ by') : Room (setF fs p x) by' nd :=
  ⟨hr.b, hr.n, h, by unfold setF; rw [List.length_map]; exact hr.count⟩
theorem putF_keep {fs : FS} (hg : FsOk fs) {by' nd : Nat} (hr : Room fs by' nd) {q : Pth} {n : Nm} {x y : Nd} (hq : fs.at q = some y) (hy : y.kind = 2) (hn : fs.at (q ++ [n]) = none) (hx : okN x) (hp : okP (q ++ [n])) : FsOk (putF fs by' nd (q ++ [n]) x).2 ∧ Room (putF fs by' nd (q ++ [n]) x).2 by' nd := by
  unfold putF
  split
  · exact ⟨hg, hr⟩
  · rename_i hf
    unfold fullF at hf
    refine ⟨fsOk_put hg hq hy hn hx hp, hr.b, hr.n, ?_, ?_⟩
    · show usedF (fs ++ [_]) ≤ by'
      have : usedF (fs ++ [(q ++ [n], x)]) = usedF fs + x.text.size := by simp [usedF]
      omega
    · show (fs ++ [_]).length ≤ nd
      rw [List.length_append]
      simp only [List.length_singleton]
      omega
theorem okN_dir : okN ⟨2, ⟨#[]⟩⟩ := ⟨.inr (.inl rfl), fun _ => rfl, by show 0 ≤ 4194304; omega⟩
theorem okN_file : okN ⟨1, ⟨#[]⟩⟩ := ⟨.inl rfl, fun _ => rfl, by show 0 ≤ 4194304; omega⟩
theorem makeF_keep {fs : FS} (hg : FsOk fs) {by' nd : Nat} (hr : Room fs by' nd) (s : ByteArray) : FsOk (makeF fs by' nd s).2 ∧ Room (makeF fs by' nd s).2 by' nd := by
  unfold makeF
  split
  · exact ⟨hg, hr⟩
  · rename_i p hp
    split
    · exact ⟨hg, hr⟩
    · rename_i hn
      have hn : fs.at p = none := by simpa using hn
      obtain ⟨q, n, y, rfl, hq, hy⟩ := at_parent hg hp hn
      exact putF_keep hg hr hq hy hn okN_dir (partsF_ok (atE_parts hp))
theorem linkF_keep {fs : FS} (hg : FsOk fs) {by' nd : Nat} (hr : Room fs by' nd) (g s : ByteArray) : FsOk (linkF fs by' nd g s).2 ∧ Room (linkF fs by' nd g s).2 by' nd := by
  unfold linkF
  split
  · exact ⟨hg, hr⟩
  · rename_i hb
    split
    · exact ⟨hg, hr⟩
    · rename_i p hp
      split
      · exact ⟨hg, hr⟩
      · rename_i hn
        have hn : fs.at p = none := by simpa using hn
        obtain ⟨q, n, y, rfl, hq, hy⟩ := at_parent hg hp hn
        refine putF_keep hg hr hq hy hn ⟨.inr (.inr rfl), fun h => absurd h (by simp), ?_⟩ (partsF_ok (atE_parts hp))
        show g.size ≤ 4194304
        have : ¬ 4096 < g.size := fun e => hb (.inr (.inl e))
        omega
theorem createF_keep {fs : FS} (hg : FsOk fs) {by' nd : Nat} (hr : Room fs by' nd) (s : ByteArray) : FsOk (createF fs by' nd s).2 ∧ Room (createF fs by' nd s).2 by' nd := by
  unfold createF
  split
  · exact ⟨hg, hr⟩
  · rename_i p hp
    split
    · rename_i hn
      obtain ⟨q, n, y, rfl, hq, hy⟩ := at_parent hg hp hn
      exact putF_keep hg hr hq hy hn okN_file (partsF_ok (atE_parts hp))
    · rename_i x hx
      split
      · exact ⟨hg, hr⟩
      · rename_i h2
        split
        · exact ⟨hg, hr⟩
        · have hne : p ≠ [] := fun e => by rw [e, at_root] at hx; cases hx; exact h2 rfl
          refine ⟨fsOk_set hg hne hx (fun h => absurd h h2) okN_file, hr.set ?_⟩
          have := used_set (x := ⟨1, ⟨#[]⟩⟩) hg.nodup (by rw [← at_ne fs hne]; exact hx)
          have h0 : (⟨1, ⟨#[]⟩⟩ : Nd).text.size = 0 := rfl
          have := hr.used
          omega
theorem appendF_keep {fs : FS} (hg : FsOk fs) {by' nd : Nat} (hr : Room fs by' nd) (s text : ByteArray) : FsOk (appendF fs by' s text).2 ∧ Room (appendF fs by' s text).2 by' nd := by
  unfold appendF
  split
  · exact ⟨hg, hr⟩
  · rename_i p hp
    split
    · exact ⟨hg, hr⟩
    · rename_i x hx
      split
      · exact ⟨hg, hr⟩
      · rename_i h2
        split
        · exact ⟨hg, hr⟩
        · split
          · exact ⟨hg, hr⟩
          · rename_i h4
            split
            · exact ⟨hg, hr⟩
            · rename_i h5
              have hne : p ≠ [] := fun e => by rw [e, at_root] at hx; cases hx; exact h2 rfl
              have hsz : (x.text ++ text).size = x.text.size + text.size := ByteArray.size_append
              refine ⟨fsOk_set hg hne hx (fun h => absurd h h2) ⟨.inl rfl, fun h => absurd h (by simp), by show (x.text ++ text).size ≤ _; omega⟩, hr.set ?_⟩
              have := used_set (x := ⟨1, x.text ++ text⟩) hg.nodup (by rw [← at_ne fs hne]; exact hx)
              have h0 : (⟨1, x.text ++ text⟩ : Nd).text.size = x.text.size + text.size := hsz
              omega
theorem removeF_keep {fs : FS} (hg : FsOk fs) {by' nd : Nat} (hr : Room fs by' nd) (s : ByteArray) : FsOk (removeF fs s).2 ∧ Room (removeF fs s).2 by' nd := by
  unfold removeF
  split
  · exact ⟨hg, hr⟩
  · rename_i p hp
    split
    · exact ⟨hg, hr⟩
    · rename_i hne
      split
      · exact ⟨hg, hr⟩
      · rename_i x hx
        split
        · exact ⟨hg, hr⟩
        · rename_i hk
          obtain ⟨h1, h2⟩ := count_del hg.nodup (by rw [← at_ne fs hne]; exact hx)
          have := hr.used
          have := hr.count
          exact ⟨fsOk_del hg hne hk, hr.b, hr.n, by show usedF (delF fs p) ≤ by'; omega, by show (delF fs p).length ≤ nd; omega⟩
end Go.Proofs.YtiijbecklkccfaaGreatDoor.I
/- What stands where behind a rename: paths under p lie under q then. Plain. -/
namespace Go.Proofs.YtiijbecklkccfaaGreatDoor.I
open Go.RowKit Go.Proofs.YtiijbecklkccfaaGreatDoor.B Go.Sort
set_option linter.unusedVariables false
open Classical in
/-- Where a path lies behind a rename of p to q. -/
noncomputable def mvP (p q r : Pth) : Pth := if p <+: r then q ++ r.drop p.length else r
noncomputable def mvF (fs : FS) (p q : Pth) : FS := fs.map fun y => (mvP p q y.1, y.2)
theorem mvP_in (p q s : Pth) : mvP p q (p ++ s) = q ++ s := by
  unfold mvP
  rw [if_pos (List.prefix_append p s)]
  simp
theorem mvP_out {p q r : Pth} (h : ¬ p <+: r) : mvP p q r = r := by
  unfold mvP
  rw [if_neg h]
theorem lookup_hit {p : Pth} {x : Nd} {fs : FS} : List.lookup p ((p, x) :: fs) = some x := by rw [List.lookup_cons]; simp
theorem lookup_miss {p r : Pth} {x : Nd} {fs : FS} (h : r ≠ p) : List.lookup r ((p, x) :: fs) = fs.lookup r := by
  rw [List.lookup_cons]
  have : (r == p) = false := by simpa using h
  rw [this]
open Classical in
theorem lookup_mv {p q : Pth} : ∀ {fs : FS}, (∀ y ∈ fs, ¬ q <+: y.1) → ∀ r, (mvF fs p q).lookup r = if q <+: r then fs.lookup (p ++ r.drop q.length) else if p <+: r then none else fs.lookup r
  | [], _, r => by simp [mvF]
  | (y, x) :: fs, h, r => by
    have ih := lookup_mv (p := p) (q := q) (fs := fs) (fun z hz => h z (List.mem_cons_of_mem _ hz)) r
    have hy : ¬ q <+: y := h (y, x) (by simp)
    unfold mvF at ih ⊢
    rw [List.map_cons]
    simp only
    by_cases hq : q <+: r
    · obtain ⟨s, rfl⟩ := hq
      rw [if_pos (List.prefix_append q s)] at ih ⊢
      rw [List.drop_left] at ih ⊢
      by_cases hp : p <+: y
      · obtain ⟨s2, rfl⟩ := hp
        rw [mvP_in]
        by_cases hs : s = s2
        · rw [hs, lookup_hit, lookup_hit]
        · rw [lookup_miss (fun e => hs (List.append_cancel_left e)), lookup_miss (fun e => hs (List.append_cancel_left e))]
          exact ih
      · rw [mvP_out hp, lookup_miss (fun e => hy (by rw [← e]; exact List.prefix_append q s)), lookup_miss (fun e => hp (by rw [← e]; exact List.prefix_append p s))]
        exact ih
    · rw [if_neg hq] at ih ⊢
      by_cases hpr : p <+: r
      · rw [if_pos hpr] at ih ⊢
        by_cases hp : p <+: y
        · obtain ⟨s2, rfl⟩ := hp
          rw [mvP_in, lookup_miss (fun e => hq (by rw [e]; exact List.prefix_append q s2))]
          exact ih
        · rw [mvP_out hp, lookup_miss (fun e => hp (by rw [← e]; exact hpr))]
          exact ih
      · rw [if_neg hpr] at ih ⊢
        by_cases hp : p <+: y
        · obtain ⟨s2, rfl⟩ := hp
          rw [mvP_in, lookup_miss (fun e => hq (by rw [e]; exact List.prefix_append q s2)), lookup_miss (fun e => hpr (by rw [e]; exact List.prefix_append p s2))]
          exact ih
        · rw [mvP_out hp]
          by_cases hr : r = y
          · rw [hr, lookup_hit, lookup_hit]
          · rw [lookup_miss hr, lookup_miss hr]
            exact ih
theorem not_under {fs : FS} (hg : FsOk fs) {q : Pth} (hq : fs.at q = none) (s : Pth) : fs.at (q ++ s) = none := by
  cases hs : fs.at (q ++ s) with
  | none => rfl
  | some x =>
    cases s with
    | nil => rw [List.append_nil, hq] at hs; cases hs
    | cons a s =>
      obtain ⟨y, hy, _⟩ := hg.prefix (q := a :: s) (p := q) (by rw [hs]; simp) (by simp)
      rw [hq] at hy; cases hy
open Classical in
/-- What stands at r behind a rename of p to q, at which nothing stands, and which is not below p. -/
theorem at_mv {fs : FS} (hg : FsOk fs) {p q : Pth} (hp : p ≠ []) (hq0 : q ≠ []) (hq : fs.at q = none) (r : Pth) :
    (mvF fs p q).at r = if q <+: r then fs.at (p ++ r.drop q.length) else if p <+: r then none else fs.at r := by
  have hno : ∀ y ∈ fs, ¬ q <+: y.1 := fun y hy ⟨s, e⟩ => by
    have h1 := mem_lookup hg.nodup (p := y.1) (x := y.2) hy
    rw [← at_ne fs (hg.ne y hy), ← e, not_under hg hq s] at h1
    cases h1
  have hl := lookup_mv (p := p) (q := q) hno r
  by_cases hr : r = []
  · subst hr
    have h1 : ¬ q <+: [] := fun h => hq0 (List.prefix_nil.1 h)
    have h2 : ¬ p <+: [] := fun h => hp (List.prefix_nil.1 h)
    rw [if_neg h1, if_neg h2]
    rfl
  · rw [at_ne _ hr, hl, at_ne _ hr, at_ne fs (p := p ++ r.drop q.length) (by simp [hp])]
theorem mv_len (fs : FS) (p q : Pth) : (mvF fs p q).length = fs.length := by unfold mvF; rw [List.length_map]
theorem mv_used (fs : FS) (p q : Pth) : usedF (mvF fs p q) = usedF fs := by
  unfold usedF mvF
  rw [List.map_map]
  rfl
theorem mvP_inj {p q a b : Pth} (ha : ¬ q <+: a) (hb : ¬ q <+: b) (h : mvP p q a = mvP p q b) : a = b := by
  by_cases h1 : p <+: a
  · obtain ⟨s, rfl⟩ := h1
    by_cases h2 : p <+: b
    · obtain ⟨t, rfl⟩ := h2
      rw [mvP_in, mvP_in] at h
      rw [List.append_cancel_left h]
    · rw [mvP_in, mvP_out h2] at h
      exact absurd (by rw [← h]; exact List.prefix_append q s) hb
  · by_cases h2 : p <+: b
    · obtain ⟨t, rfl⟩ := h2
      rw [mvP_in, mvP_out h1] at h
      exact absurd (by rw [h]; exact List.prefix_append q t) ha
    · rw [mvP_out h1, mvP_out h2] at h
      exact h
/-- A file system behind a rename is sound. -/
theorem fsOk_mv {fs : FS} (hg : FsOk fs) {p qd : Pth} {qn : Nm} {y : Nd} (hp : p ≠ []) (hqd : fs.at qd = some y) (hy : y.kind = 2) (hpq : ¬ p <+: qd) (hq : fs.at (qd ++ [qn]) = none) (hf : ∀ r, fs.at (p ++ r) ≠ none → okP ((qd ++ [qn]) ++ r)) : FsOk (mvF fs p (qd ++ [qn])) := by
  have hq0 : qd ++ [qn] ≠ [] := by simp
  have A := at_mv hg hp hq0 hq
  have hno : ∀ z ∈ fs, ¬ (qd ++ [qn]) <+: z.1 := fun z hz ⟨s, e⟩ => by
    have h1 := mem_lookup hg.nodup (p := z.1) (x := z.2) hz
    rw [← at_ne fs (hg.ne z hz), ← e, not_under hg hq s] at h1
    cases h1
  have B : ∀ {r z}, (mvF fs p (qd ++ [qn])).at r = some z → ∃ r', fs.at r' = some z := fun {r z} h => by
    rw [A] at h
    split at h
    · exact ⟨_, h⟩
    · split at h
      · cases h
      · exact ⟨_, h⟩
  refine ⟨?_, ?_, ?_, fun r z h => ?_, fun r z h => ?_, fun r z h => ?_, ?_⟩
  · unfold mvF
    rw [List.map_map]
    refine List.pairwise_map.2 ?_
    refine List.Pairwise.imp_of_mem ?_ (List.pairwise_map.1 hg.nodup)
    intro a b ha hb hab e
    exact hab (mvP_inj (hno a ha) (hno b hb) e)
  · intro z hz
    unfold mvF at hz
    obtain ⟨u, hu, rfl⟩ := List.mem_map.1 hz
    show mvP p (qd ++ [qn]) u.1 ≠ []
    unfold mvP
    split
    · simp
    · exact hg.ne u hu
  · intro r n h
    rw [A] at h
    split at h
    · rename_i hpre
      obtain ⟨s, hs⟩ := hpre
      rcases List.eq_nil_or_concat s with rfl | ⟨s2, m, rfl⟩
      · rw [List.append_nil] at hs
        obtain ⟨rfl, rfl⟩ := snoc_inj hs
        refine ⟨y, ?_, hy⟩
        rw [A, if_neg (fun ⟨t, ht⟩ => by have := congrArg List.length ht; simp at this), if_neg hpq]
        exact hqd
      · rw [List.concat_eq_append, ← List.append_assoc] at hs
        obtain ⟨rfl, rfl⟩ := snoc_inj hs
        have h2 : fs.at ((p ++ s2) ++ [m]) ≠ none := by
          have e : (qd ++ [qn] ++ s2 ++ [m]).drop (qd ++ [qn]).length = s2 ++ [m] := by rw [List.append_assoc, List.drop_left]
          rw [e, ← List.append_assoc] at h
          exact h
        obtain ⟨z, hz, hz2⟩ := hg.up _ _ h2
        refine ⟨z, ?_, hz2⟩
        rw [A, if_pos (List.prefix_append _ _), List.drop_left]
        exact hz
    · rename_i h1
      split at h
      · exact absurd rfl h
      · rename_i h2
        obtain ⟨z, hz, hz2⟩ := hg.up r n h
        refine ⟨z, ?_, hz2⟩
        rw [A, if_neg (fun e => h1 (e.trans (List.prefix_append r [n]))), if_neg (fun e => h2 (e.trans (List.prefix_append r [n])))]
        exact hz
  · obtain ⟨r', h'⟩ := B h
    exact hg.kind r' z h'
  · obtain ⟨r', h'⟩ := B h
    exact hg.dirs r' z h'
  · obtain ⟨r', h'⟩ := B h
    exact hg.small r' z h'
  · intro r z h
    rw [A] at h
    split at h
    · rename_i hpre
      obtain ⟨s, rfl⟩ := hpre
      rw [List.drop_left] at h
      exact hf s (by rw [h]; simp)
    · split at h
      · cases h
      · exact hg.okp r z h
end Go.Proofs.YtiijbecklkccfaaGreatDoor.I
/- The table in memory behind a rename. -/
namespace Go.Proofs.YtiijbecklkccfaaGreatDoor.I
open Go.RowKit Go.Proofs.YtiijbecklkccfaaGreatDoor.B Go.Sort
set_option linter.unusedVariables false
open Classical in
/-- Where a node lies behind a rename. -/
noncomputable def mvA (p q : Pth) (A : Pth → Nat) (r : Pth) : Nat := if q <+: r then A (p ++ r.drop q.length) else A r
theorem mvA_in (p q s : Pth) (A : Pth → Nat) : mvA p q A (q ++ s) = A (p ++ s) := by
  unfold mvA
  rw [if_pos (List.prefix_append q s), List.drop_left]
theorem mvA_out {p q r : Pth} (A : Pth → Nat) (h : ¬ q <+: r) : mvA p q A r = A r := by
  unfold mvA
  rw [if_neg h]
/-- Each path at which something stands behind a rename has one at which it stood; two paths, two. -/
theorem mv_from {fs : FS} (hg : FsOk fs) {p q : Pth} (hp : p ≠ []) (hq0 : q ≠ []) (hq : fs.at q = none) {r : Pth} {x : Nd} (h : (mvF fs p q).at r = some x) :
    ∃ r', fs.at r' = some x ∧ (∀ A, mvA p q A r = A r') ∧ mvP p q r' = r ∧ ¬ q <+: r' := by
  have hh := h
  rw [at_mv hg hp hq0 hq] at h
  have hno : ∀ {r' : Pth} {z : Nd}, fs.at r' = some z → ¬ q <+: r' := fun {r' z} h1 ⟨s, e⟩ => by
    rw [← e, not_under hg hq s] at h1
    cases h1
  split at h
  · rename_i hpre
    obtain ⟨s, rfl⟩ := hpre
    rw [List.drop_left] at h
    exact ⟨p ++ s, h, fun A => mvA_in p q s A, mvP_in p q s, hno h⟩
  · rename_i h1
    split at h
    · cases h
    · rename_i h2
      exact ⟨r, h, fun A => mvA_out A h1, mvP_out h2, hno h⟩
theorem tab_mv {w w' : World} {L : List Nat} {t by' nd : Nat} {fs : FS} {A M : Pth → Nat} (hT : TabAt w L t fs by' nd A M) (hg : FsOk fs) {p q : Pth} (hp : p ≠ []) (hq0 : q ≠ []) (hq : fs.at q = none)
    (ht : w'.heap[t]? = w.heap[t]?) (hA : ∀ r x, fs.at r = some x → w'.heap[A r]? = w.heap[A r]?) (hs : w.heap.size ≤ w'.heap.size)
    (hK : ∀ r x, (mvF fs p q).at r = some x → x.kind = 2 → ∃ es clock K, w'.heap[mvA p q M r]? = some (.map es clock) ∧ MKids es clock K ∧ ∀ n, K.lookup n = ((mvF fs p q).at (r ++ [n])).map fun _ => (.pointer (some ⟨mvA p q A (r ++ [n]), 0, none⟩))) :
    TabAt w' L t (mvF fs p q) by' nd (mvA p q A) (mvA p q M) := by
  have F := fun {r x} (h : (mvF fs p q).at r = some x) => mv_from hg hp hq0 hq h
  have h0 : ∀ A : Pth → Nat, mvA p q A [] = A [] := fun A => mvA_out A (fun h => hq0 (List.prefix_nil.1 h))
  refine ⟨?_, fun r x h => ?_, hK, hT.tL, fun i hi => Nat.lt_of_lt_of_le (hT.bl i hi) hs, fun r x h => ?_, fun r s x y h1 h2 e => ?_, fun r s x y h1 h2 k1 k2 e => ?_⟩
  · rw [ht, h0, mv_used, mv_len]
    exact hT.tab
  · obtain ⟨r', h1, h2, h3, h4⟩ := F h
    rw [h2, h2, hA r' x h1]
    exact hT.node r' x h1
  · obtain ⟨r', h1, h2, h3, h4⟩ := F h
    rw [h2, h2]
    exact hT.aL r' x h1
  · obtain ⟨r', a1, a2, a3, a4⟩ := F h1
    obtain ⟨s', b1, b2, b3, b4⟩ := F h2
    rw [a2, b2] at e
    rw [← a3, ← b3, hT.injA r' s' x y a1 b1 e]
  · obtain ⟨r', a1, a2, a3, a4⟩ := F h1
    obtain ⟨s', b1, b2, b3, b4⟩ := F h2
    rw [a2, b2] at e
    rw [← a3, ← b3, hT.injM r' s' x y a1 b1 k1 k2 e]
theorem pre_snoc {a r : Pth} {b n : Nm} (h : (a ++ [b]) <+: (r ++ [n])) (hn : ¬ (a ++ [b]) <+: r) : r = a ∧ n = b := by
  obtain ⟨s, hs⟩ := h
  rcases List.eq_nil_or_concat s with rfl | ⟨s2, m, rfl⟩
  · rw [List.append_nil] at hs
    have := snoc_inj hs
    exact ⟨this.1.symm, this.2.symm⟩
  · rw [List.concat_eq_append, ← List.append_assoc] at hs
    exact absurd ⟨s2, (snoc_inj hs).1⟩ hn
open Classical in
theorem kids_mv {w w' : World} {L : List Nat} {t by' nd : Nat} {fs : FS} {A M : Pth → Nat} (hT : TabAt w L t fs by' nd A M) (hg : FsOk fs) {pd qd : Pth} {pn qn : Nm} {z : Nd} (hp : fs.at (pd ++ [pn]) = some z) (hq : fs.at (qd ++ [qn]) = none) (hpq : ¬ (pd ++ [pn]) <+: qd)
    (hO : ∀ r x, fs.at r = some x → x.kind = 2 → r ≠ pd → r ≠ qd → w'.heap[M r]? = w.heap[M r]?)
    (hP : pd ≠ qd → ∃ es clock K, w'.heap[M pd]? = some (.map es clock) ∧ MKids es clock K ∧ ∀ n, K.lookup n = if n = pn then none else (fs.at (pd ++ [n])).map fun _ => (.pointer (some ⟨A (pd ++ [n]), 0, none⟩)))
    (hQ : ∃ es clock K, w'.heap[M qd]? = some (.map es clock) ∧ MKids es clock K ∧ ∀ n, K.lookup n = if n = qn then some (.pointer (some ⟨A (pd ++ [pn]), 0, none⟩)) else if pd = qd ∧ n = pn then none else (fs.at (qd ++ [n])).map fun _ => (.pointer (some ⟨A (qd ++ [n]), 0, none⟩))) :
    ∀ r x, (mvF fs (pd ++ [pn]) (qd ++ [qn])).at r = some x → x.kind = 2 → ∃ es clock K, w'.heap[mvA (pd ++ [pn]) (qd ++ [qn]) M r]? = some (.map es clock) ∧ MKids es clock K ∧ ∀ n, K.lookup n = ((mvF fs (pd ++ [pn]) (qd ++ [qn])).at (r ++ [n])).map fun _ => (.pointer (some ⟨mvA (pd ++ [pn]) (qd ++ [qn]) A (r ++ [n]), 0, none⟩)) := by
  intro r x h hk
  have AT := at_mv hg (p := pd ++ [pn]) (q := qd ++ [qn]) (by simp) (by simp) hq
  by_cases h1 : (qd ++ [qn]) <+: r
  · obtain ⟨s, rfl⟩ := h1
    rw [AT, if_pos (List.prefix_append _ s), List.drop_left] at h
    rw [mvA_in]
    obtain ⟨es, clock, K, a1, a2, a3⟩ := hT.kids _ x h hk
    refine ⟨es, clock, K, ?_, a2, fun n => ?_⟩
    · rw [hO _ x h hk ?_ ?_]
      · exact a1
      · intro e
        have := congrArg List.length e
        simp at this
      · intro e
        exact hpq ⟨s, e⟩
    · rw [AT, List.append_assoc (qd ++ [qn]) s [n], if_pos (List.prefix_append _ _), List.drop_left, mvA_in, ← List.append_assoc]
      exact a3 n
  · have h' := h
    rw [AT, if_neg h1] at h
    split at h
    · cases h
    · rename_i h2
      rw [mvA_out M h1]
      have C : ∀ n, ((mvF fs (pd ++ [pn]) (qd ++ [qn])).at (r ++ [n])).map (fun _ => ((.pointer (some ⟨mvA (pd ++ [pn]) (qd ++ [qn]) A (r ++ [n]), 0, none⟩)) : Value)) = if r = qd ∧ n = qn then some ((.pointer (some ⟨A (pd ++ [pn]), 0, none⟩)) : Value) else if r = pd ∧ n = pn then none else (fs.at (r ++ [n])).map fun _ => ((.pointer (some ⟨A (r ++ [n]), 0, none⟩)) : Value) := by
        intro n
        by_cases c1 : r = qd ∧ n = qn
        · obtain ⟨rfl, rfl⟩ := c1
          have hr := mvA_in (pd ++ [pn]) (r ++ [n]) [] A
          rw [List.append_nil, List.append_nil] at hr
          rw [if_pos ⟨rfl, rfl⟩, AT, if_pos (List.prefix_refl _), List.drop_length, List.append_nil, hp, hr]
          rfl
        · have n1 : ¬ (qd ++ [qn]) <+: (r ++ [n]) := fun e => c1 (pre_snoc e h1)
          rw [if_neg c1, AT, if_neg n1, mvA_out A n1]
          by_cases c2 : r = pd ∧ n = pn
          · obtain ⟨rfl, rfl⟩ := c2
            rw [if_pos (show r = r ∧ n = n from ⟨rfl, rfl⟩), if_pos (show (r ++ [n]) <+: (r ++ [n]) from List.prefix_refl _)]
            rfl
          · rw [if_neg c2, if_neg (fun e => c2 (pre_snoc e h2))]
      by_cases e1 : r = qd
      · subst e1
        obtain ⟨es, clock, K, a1, a2, a3⟩ := hQ
        refine ⟨es, clock, K, a1, a2, fun n => ?_⟩
        rw [C n, a3 n]
        by_cases c : n = qn
        · rw [if_pos c, if_pos (show r = r ∧ n = qn from ⟨rfl, c⟩)]
        · rw [if_neg c, if_neg (show ¬ (r = r ∧ n = qn) from fun e => c e.2)]
          by_cases d : pd = r ∧ n = pn
          · rw [if_pos d, if_pos (show r = pd ∧ n = pn from ⟨d.1.symm, d.2⟩)]
          · rw [if_neg d, if_neg (show ¬ (r = pd ∧ n = pn) from fun e => d ⟨e.1.symm, e.2⟩)]
      · by_cases e2 : r = pd
        · subst e2
          obtain ⟨es, clock, K, a1, a2, a3⟩ := hP e1
          refine ⟨es, clock, K, a1, a2, fun n => ?_⟩
          rw [C n, a3 n, if_neg (show ¬ (r = qd ∧ n = qn) from fun e => e1 e.1)]
          by_cases c : n = pn
          · rw [if_pos c, if_pos (show r = r ∧ n = pn from ⟨rfl, c⟩)]
          · rw [if_neg c, if_neg (show ¬ (r = r ∧ n = pn) from fun e => c e.2)]
        · obtain ⟨es, clock, K, a1, a2, a3⟩ := hT.kids r x h hk
          refine ⟨es, clock, K, by rw [hO r x h hk e2 e1]; exact a1, a2, fun n => ?_⟩
          rw [C n, a3 n, if_neg (show ¬ (r = qd ∧ n = qn) from fun e => e1 e.1), if_neg (show ¬ (r = pd ∧ n = pn) from fun e => e2 e.1)]
end Go.Proofs.YtiijbecklkccfaaGreatDoor.I
/- The program's gives, path.Below: the walks. -/
namespace Go.Proofs.YtiijbecklkccfaaGreatDoor.I
open Go.RowKit Go.Proofs.YtiijbecklkccfaaGreatDoor.B Go.Sort
set_option linter.unusedVariables false
open Classical in
/-- What stands at g, does it bar what comes? The error's number. -/
noncomputable def givesF (fs : FS) (g : Pth) (x : Nd) : Nat := match fs.at g with
  | none => 0
  | some y => if y.kind = 2 ∧ x.kind ≠ 2 then 202 else if y.kind = 2 ∧ hasKids fs g then 205 else if y.kind ≠ 2 ∧ x.kind = 2 then 203 else 0
open Classical in
set_option maxRecDepth 100000 in
set_option maxHeartbeats 16000000 in
theorem gives_calls (L : List Nat) (t : Nat) (fs : FS) (by' nd : Nat) (A M : Pth → Nat) (g p : Pth) (x : Nd) (w : World) (hT : TabAt w L t fs by' nd A M) (hg : FsOk fs) (hx : fs.at p = some x) :
    Calls Tryz.prog 59 #[.pointer (kidA fs A g), (.pointer (some ⟨A p, 0, none⟩))] w fun e w' => e = .returned (errV (givesF fs g x)) ∧ w' = w := by
  have d0 := cell_of_heap (hT.node p x hx) 0
  have hxk := hg.kind p x hx
  cases hy : fs.at g with
  | none =>
    rw [show kidA fs A g = none by unfold kidA; rw [hy]; rfl, show givesF fs g x = 0 by unfold givesF; rw [hy]]
    clear hT hg hx hy d0
    (go_enter Tryz.func59, Tryz.ntmps59)
    go_wp2
    go_ret
    exact ⟨rfl, rfl⟩
  | some y =>
    rw [show kidA fs A g = some ⟨A g, 0, none⟩ by unfold kidA; rw [hy]; rfl]
    have c0 := cell_of_heap (hT.node g y hy) 0
    have c2 := cell_of_heap (hT.node g y hy) 2
    have hyk := hg.kind g y hy
    by_cases hy2 : y.kind = 2
    · rw [if_pos hy2] at c2
      rw [hy2] at c0
      obtain ⟨es, clock, hM, hhk⟩ := kids_len hT hy hy2
      have hlen := len_kids hM
      rcases hxk with h | h | h
      · rw [show givesF fs g x = 202 by unfold givesF; rw [hy]; simp [hy2, h]]
        rw [h] at d0
        clear hT hg hx hy hM hhk hyk hy2 h
        (go_enter Tryz.func59, Tryz.ntmps59)
        go_wp2
        go_ret
        exact ⟨rfl, rfl⟩
      · rw [h] at d0
        by_cases hh : hasKids fs g
        · rw [show givesF fs g x = 205 by unfold givesF; rw [hy]; simp [hy2, h, hh]]
          have hpos : (0 : Int) < (es.size : Int) := by have := hhk.1 hh; omega
          clear hT hg hx hy hM hhk hyk hy2 h hh
          (go_enter Tryz.func59, Tryz.ntmps59)
          go_wp2
          go_ret
          exact ⟨rfl, rfl⟩
        · rw [show givesF fs g x = 0 by unfold givesF; rw [hy]; simp [hy2, h, hh]]
          have hz : es = #[] := by
            apply Array.eq_empty_of_size_eq_zero
            have : ¬ 0 < es.size := fun e => hh (hhk.2 e)
            omega
          subst hz
          clear hT hg hx hy hM hhk hyk hy2 h hh
          (go_enter Tryz.func59, Tryz.ntmps59)
          go_wp2
          go_ret
          exact ⟨rfl, rfl⟩
      · rw [show givesF fs g x = 202 by unfold givesF; rw [hy]; simp [hy2, h]]
        rw [h] at d0
        clear hT hg hx hy hM hhk hyk hy2 h
        (go_enter Tryz.func59, Tryz.ntmps59)
        go_wp2
        go_ret
        exact ⟨rfl, rfl⟩
    · have hyk' : y.kind = 1 ∨ y.kind = 3 := by omega
      clear hyk
      rw [show givesF fs g x = if x.kind = 2 then 203 else 0 by unfold givesF; rw [hy]; simp [hy2]]
      rcases hyk' with h | h <;> rw [h] at c0 <;> rcases hxk with h' | h' | h' <;> rw [h'] at d0 ⊢
      all_goals
        clear hT hg hx hy hy2 h h'
        (go_enter Tryz.func59, Tryz.ntmps59)
        go_wp2
        go_ret
        exact ⟨rfl, rfl⟩
/-- Does a path stand below another? -/
def belowB (a b : ByteArray) : Bool := a.toList.isEmpty || (b.toList == a.toList) || Lib.hasPrefix b.data.toList (a ++ ⟨#[47]⟩).data.toList
set_option maxRecDepth 100000 in
set_option maxHeartbeats 16000000 in
theorem below_calls (a b : ByteArray) (w : World) (hs : a.size ≤ 4294967280) : Calls Tryz.prog 58 #[.string a, .string b] w fun e w' => e = .returned (.bool (belowB a b)) ∧ w' = w := by
  have HH := Asd.mk (Tryz.strings_HasPrefix b (a ++ ⟨#[47]⟩) w)
  cases te : a.toList.isEmpty with
  | true =>
    rw [show belowB a b = true by unfold belowB; rw [te]; rfl]
    (go_enter Tryz.func58, Tryz.ntmps58)
    go_wp2
    go_ret
    exact ⟨rfl, rfl⟩
  | false =>
    by_cases hab : b = a
    · rw [show belowB a b = true by unfold belowB; rw [hab]; simp]
      have t1 : (b.toList == a.toList) = true := by rw [hab]; simp
      clear hab
      (go_enter Tryz.func58, Tryz.ntmps58)
      go_wp2
      go_ret
      exact ⟨rfl, rfl⟩
    · have t1 : (b.toList == a.toList) = false := beq_eq_false_iff_ne.2 (fun e => hab (by have h := congrArg nb e; rwa [ByteArray.toList_eq, ByteArray.toList_eq, nb_list, nb_list] at h))
      rw [show belowB a b = Lib.hasPrefix b.data.toList (a ++ ⟨#[47]⟩).data.toList by unfold belowB; rw [te, t1]; rfl]
      obtain ⟨r, hr⟩ : ∃ r, Lib.hasPrefix b.data.toList (a ++ ⟨#[47]⟩).data.toList = r := ⟨_, rfl⟩
      rw [hr] at HH ⊢
      clear hab hr
      (go_enter Tryz.func58, Tryz.ntmps58)
      go_wp2_with fail
      refine HH.out.mono ?_
      rintro e w1 ⟨rfl, hw⟩
      have hw' := hw.symm
      subst hw'
      go_wp2
      go_ret
      exact ⟨rfl, rfl⟩
end Go.Proofs.YtiijbecklkccfaaGreatDoor.I
/- A loop over a map of pointers: which entries have come; what is left. -/
namespace Go.Proofs.YtiijbecklkccfaaGreatDoor.B
open Go.RowKit
set_option linter.unusedVariables false
theorem nodup_of_map {α β : Type} {f : α → β} {l : List α} (h : (l.map f).Nodup) : l.Nodup := (List.pairwise_map.1 h).imp fun h e => h (congrArg f e)
theorem map_inj_on {α : Type} {f : α → Nat} : ∀ {l : List α}, (l.map f).Nodup → ∀ {a b : α}, a ∈ l → b ∈ l → f a = f b → a = b
  | [], _, _, _, h, _, _ => by cases h
  | x :: l, hd, a, b, ha, hb, e => by
    simp only [List.map_cons, List.nodup_cons] at hd
    rcases List.mem_cons.1 ha with h1 | h1 <;> rcases List.mem_cons.1 hb with h2 | h2
    · rw [h1, h2]
    · exact absurd (List.mem_map.2 ⟨b, h2, by rw [← e, h1]⟩) hd.1
    · exact absurd (List.mem_map.2 ⟨a, h1, by rw [e, h2]⟩) hd.1
    · exact map_inj_on hd.2 h1 h2 e
/-- What has come so far. -/
def Rg (es : Array MapEntry) (seen : Array Nat) (Z : List (Nm × Value)) : Prop :=
  ∃ S : List MapEntry, (S.map (·.born)).Nodup ∧ seen.toList = S.map (·.born) ∧ (∀ e ∈ S, e ∈ es.toList) ∧ S.map (fun e => (e.key, e.val)) = Z.map fun x => (Value.string (nb x.1), x.2)
theorem rg_nil (es : Array MapEntry) : Rg es #[] [] := ⟨[], by simp, rfl, by simp, rfl⟩
def unN (x : Value × Value) : Nm × Value := match x.1 with | .string s => (s.data.toList, x.2) | _ => ([], x.2)
theorem unN_map (Z : List (Nm × Value)) : (Z.map fun x => (Value.string (nb x.1), x.2)).map unN = Z := by
  rw [List.map_map]
  refine (List.map_congr_left fun x _ => ?_).trans (List.map_id Z)
  simp [unN, list_nb]
theorem rg_end {es : Array MapEntry} {clock : Nat} {K Z : List (Nm × Value)} {seen : Array Nat} (hK : MKids es clock K) (hZ : Rg es seen Z) (h0 : (leftOf es seen).size = 0) : Z.Perm K := by
  obtain ⟨S, h1, h2, h3, h4⟩ := hZ
  have hp : S.Perm es.toList := by
    refine (List.perm_ext_iff_of_nodup (nodup_of_map h1) (nodup_of_map hK.born)).2 fun e => ⟨h3 e, fun he => ?_⟩
    have hc : e.born ∈ seen.toList := by
      have hno : e ∉ (leftOf es seen).toList := by
        have : (leftOf es seen).toList = [] := by
          apply List.eq_nil_of_length_eq_zero
          simpa using h0
        rw [this]; simp
      unfold leftOf at hno
      simp only [Array.toList_filter, List.mem_filter, not_and, Bool.not_eq_true, Bool.not_eq_false'] at hno
      have := hno he
      simpa using this
    rw [h2] at hc
    obtain ⟨e2, he2, hb⟩ := List.mem_map.1 hc
    rw [map_inj_on hK.born he (h3 _ he2) hb.symm]
    exact he2
  have := (hp.map fun e => (e.key, e.val)).map unN
  rw [h4, hK.ents, unN_map, unN_map] at this
  exact this
theorem rg_push {es : Array MapEntry} {clock : Nat} {K Z : List (Nm × Value)} {seen : Array Nat} {e : MapEntry} {n : Nm} {v : Value} (hK : MKids es clock K) (hZ : Rg es seen Z) (he : e ∈ (leftOf es seen).toList) (hkey : e.key = .string (nb n)) (hval : e.val = v) : Rg es (seen.push e.born) (Z ++ [(n, v)]) := by
  obtain ⟨S, h1, h2, h3, h4⟩ := hZ
  unfold leftOf at he
  simp only [Array.toList_filter, List.mem_filter] at he
  obtain ⟨he1, he2⟩ := he
  have hn : e.born ∉ S.map (·.born) := by
    rw [← h2]
    intro hm
    simp at he2
    exact he2 (by simpa using hm)
  refine ⟨S ++ [e], ?_, ?_, ?_, ?_⟩
  · rw [List.map_append, List.nodup_append]
    refine ⟨h1, by simp, fun a ha b hb => ?_⟩
    simp only [List.map_cons, List.map_nil, List.mem_singleton] at hb
    rw [hb]
    rintro rfl
    exact hn ha
  · simp [h2]
  · intro x hx
    rcases List.mem_append.1 hx with h | h
    · exact h3 x h
    · simp only [List.mem_singleton] at h
      rw [h]; exact he1
  · rw [List.map_append, List.map_append, h4]
    simp [hkey, hval]
/-- One round's 'next': the end, all have come; or one more comes. -/
theorem rg_next {P : Program} {w : World} (ty : TypeId) {r bm clock : Nat} {seen : Array Nat} {es : Array MapEntry} {K Z : List (Nm × Value)} (hr : w.heap[r]? = some (.mapIter (some bm) clock seen clock)) (hb : w.heap[bm]? = some (.map es clock)) (hK : MKids es clock K) (hZ : Rg es seen Z) :
    (Z.Perm K ∧ (Instr.next (.pointer (some ⟨r, 0, none⟩)) false ty).run P w = .ok (.tuple #[.bool false]) w) ∨
    ∃ (n : Nm) (v : Value) (b : Nat) (w1 : World), (w1 = w ∨ w1 = w.drew) ∧ (n, v) ∈ K ∧ (Instr.next (.pointer (some ⟨r, 0, none⟩)) false ty).run P w = .ok (.tuple #[.bool true, .string (nb n), v]) (Go.ChangeMaps.setBlock w1 r (.mapIter (some bm) clock (seen.push b) clock)) ∧ Rg es (seen.push b) (Z ++ [(n, v)]) ∧ (leftOf es (seen.push b)).size < (leftOf es seen).size ∧
      ∀ W : World, W.heap[r]? = some (.mapIter (some bm) clock (seen.push b) clock) → W.heap[bm]? = some (.map es clock) → (Instr.entry (.pointer (some ⟨r, 0, none⟩))).run P W = .ok (.tuple #[.string (nb n), v]) W := by
  rcases Go.run_next_at w ty r bm clock clock seen es clock hr hb hK.older (Nat.le_refl _) with ⟨h0, h1⟩ | ⟨e, he, w1, hw, h1⟩
  · exact .inl ⟨rg_end hK hZ h0, h1⟩
  · have hm : e ∈ es.toList := by
      unfold leftOf at he
      simp only [Array.toList_filter, List.mem_filter] at he
      exact he.1
    have hx : (e.key, e.val) ∈ K.map fun x => (Value.string (nb x.1), x.2) := by rw [← hK.ents]; exact List.mem_map.2 ⟨e, hm, rfl⟩
    obtain ⟨⟨n, v⟩, hin, hx⟩ := List.mem_map.1 hx
    simp only [Prod.mk.injEq] at hx
    refine .inr ⟨n, v, e.born, w1, hw, hin, by rw [h1, ← hx.1, ← hx.2], rg_push hK hZ he hx.1.symm hx.2.symm, left_shrinks es seen e he, fun W hr2 hb2 => ?_⟩
    rw [Go.run_entry_at W r bm clock seen es clock e hr2 hb2 hm hK.born, ← hx.1, ← hx.2]
end Go.Proofs.YtiijbecklkccfaaGreatDoor.B
