/- A file system made anew from its tree. Plain. -/
import Derived.Test.YthojofeocjmglaaGreatDoorDk12
namespace Go.Proofs.YthojofeocjmglaaGreatDoor.I
open Go.RowKit Go.Proofs.YthojofeocjmglaaGreatDoor.B Go.Sort
set_option linter.unusedVariables false
/-- What links say may be said. -/
def LinkOk (fs : FS) : Prop := ∀ p x, fs.at p = some x → x.kind = 3 → ¬ badT x.text
theorem link_nil : LinkOk [] := fun p x h hk => by
  unfold FS.at at h
  split at h
  · cases h; cases hk
  · simp at h
theorem link_putF {fs : FS} (h : LinkOk fs) {b n : Nat} {p : Pth} {x : Nd} (hp : p ≠ []) (hn : fs.at p = none) (hx : x.kind = 3 → ¬ badT x.text) : LinkOk (putF fs b n p x).2 := by
  unfold putF
  split
  · exact h
  · intro r y hy hk
    rw [at_put x hp hn] at hy
    split at hy
    · cases hy; exact hx hk
    · exact h r y hy hk
theorem link_set {fs : FS} (h : LinkOk fs) {p : Pth} {x y : Nd} (hp : p ≠ []) (hy : fs.at p = some y) (hx : x.kind = 3 → ¬ badT x.text) : LinkOk (setF fs p x) := fun r z hz hk => by
  rw [at_set x hp hy] at hz
  split at hz
  · cases hz; exact hx hk
  · exact h r z hz hk
theorem at_ne_root {fs : FS} {p : Pth} (h : fs.at p = none) : p ≠ [] := fun e => by rw [e, at_root] at h; cases h
theorem op_link {fs : FS} (hg : FsOk fs) (h : LinkOk fs) {b n : Nat} (o : OpV) : LinkOk (opF fs b n o).2 := by
  unfold opF
  split
  · unfold makeF
    split
    · exact h
    · split
      · exact h
      · rename_i p hp hs
        have hn : fs.at p = none := by cases hx : fs.at p with | none => rfl | some x => rw [hx] at hs; exact absurd rfl hs
        exact link_putF h (at_ne_root hn) hn (fun e => by cases e)
  · split
    · unfold createF
      split
      · exact h
      · rename_i p hp
        split
        · rename_i hn; exact link_putF h (at_ne_root hn) hn (fun e => by cases e)
        · rename_i x hx
          split
          · exact h
          · rename_i h2
            split
            · exact h
            · exact link_set h (fun e => by rw [e, at_root] at hx; cases hx; exact h2 rfl) hx (fun e => by cases e)
    · split
      · unfold appendF
        split
        · exact h
        · rename_i p hp
          split
          · exact h
          · rename_i x hx
            split
            · exact h
            · rename_i h2
              split
              · exact h
              · split
                · exact h
                · split
                  · exact h
                  · exact link_set h (fun e => by rw [e, at_root] at hx; cases hx; exact h2 rfl) hx (fun e => by cases e)
      · split
        · unfold linkF
          split
          · exact h
          · rename_i hb
            split
            · exact h
            · split
              · exact h
              · rename_i p hp hs
                have hn : fs.at p = none := by cases hx : fs.at p with | none => rfl | some x => rw [hx] at hs; exact absurd rfl hs
                exact link_putF h (at_ne_root hn) hn (fun _ => hb)
        · split
          · by_cases hne : (renameF fs o.a o.b).2 = fs
            · rw [hne]; exact h
            · intro r y hy hk
              unfold renameF at hne hy
              cases hR : partsF o.a with
              | error n => rw [hR] at hne; exact absurd rfl hne
              | ok p =>
                rw [hR] at hne hy
                simp only at hne hy
                cases hR2 : partsF o.b with
                | error n => rw [hR2] at hne; exact absurd rfl hne
                | ok q =>
                  rw [hR2] at hne hy
                  simp only at hne hy
                  by_cases hp0 : p = []
                  · rw [if_pos hp0] at hne; exact absurd rfl hne
                  · rw [if_neg hp0] at hne hy
                    by_cases hq0 : q = []
                    · rw [if_pos hq0] at hne; exact absurd rfl hne
                    · rw [if_neg hq0] at hne hy
                      cases hw : wayE fs p with
                      | some n => rw [hw] at hne; exact absurd rfl hne
                      | none =>
                        rw [hw] at hne hy
                        simp only at hne hy
                        cases hx : fs.at p with
                        | none => rw [hx] at hne; exact absurd rfl hne
                        | some x =>
                          rw [hx] at hne hy
                          simp only at hne hy
                          by_cases hnb : x.kind = 2 ∧ o.a ≠ o.b ∧ belowB o.a o.b = true
                          · rw [if_pos hnb] at hne; exact absurd rfl hne
                          · rw [if_neg hnb] at hne hy
                            cases hwq : wayE fs q with
                            | some n => rw [hwq] at hne; exact absurd rfl hne
                            | none =>
                              rw [hwq] at hne hy
                              simp only at hne hy
                              by_cases hab : o.a = o.b
                              · rw [if_pos hab] at hne; exact absurd rfl hne
                              · rw [if_neg hab] at hne hy
                                by_cases hg0 : givesF fs q x ≠ 0
                                · rw [if_pos hg0] at hne; exact absurd rfl hne
                                · rw [if_neg hg0] at hne hy
                                  by_cases hf : ¬ fitsP fs p o.b.data.toList
                                  · rw [if_pos hf] at hne; exact absurd rfl hne
                                  · rw [if_neg hf] at hne hy
                                    obtain ⟨y', hO⟩ := ren_ok hg hR hR2 hp0 hab hx hnb (List.dropLast_concat_getLast hq0).symm hwq (Classical.not_not.1 hg0) (Classical.not_not.1 hf)
                                    obtain ⟨a1, a2, a3, _, _⟩ := ren_after hg hO
                                    obtain ⟨r', h1, _⟩ := mv_from a1 hp0 hq0 a3 hy
                                    exact h r' y (at_of_del h1) hk
          · unfold removeF
            split
            · exact h
            · split
              · exact h
              · split
                · exact h
                · split
                  · exact h
                  · exact fun r y hy hk => h r y (at_of_del hy) hk
/-- What the law does with one entry. -/
noncomputable def stepF (b n : Nat) (f : FS) (x : Ent) : Nat × FS :=
  if x.1.size = 0 then (0, f) else if x.2.1 = 2 then makeF f b n x.1 else if x.2.1 = 3 then linkF f b n x.2.2 x.1 else
    if (createF f b n x.1).1 = 0 then appendF (createF f b n x.1).2 b x.1 x.2.2 else createF f b n x.1
/-- All entries, one behind the other; none, where one is refused. -/
noncomputable def runsF (b n : Nat) : List Ent → FS → Option FS
  | [], f => some f
  | x :: l, f => if (stepF b n f x).1 = 0 then runsF b n l (stepF b n f x).2 else none
theorem runs_append {b n : Nat} : ∀ {l m : List Ent} {f g : FS}, runsF b n l f = some g → runsF b n (l ++ m) f = runsF b n m g
  | [], m, f, g, h => by cases h; rfl
  | x :: l, m, f, g, h => by
    simp only [runsF, List.cons_append] at h ⊢
    split at h
    · rename_i h1; rw [if_pos h1]; exact runs_append h
    · cases h
/-- So much of fs stands in f: what stands at the paths of D. -/
structure Some2 (fs : FS) (b n : Nat) (f : FS) (D : List Pth) : Prop where
  ok : FsOk f
  at_ : ∀ r, f.at r = if r = [] ∨ r ∈ D then fs.at r else none
theorem used_split (fs : FS) (P : Pth × Nd → Bool) : usedF (fs.filter P) + usedF (fs.filter fun y => !P y) = usedF fs ∧ (fs.filter P).length + (fs.filter fun y => !P y).length = fs.length := by
  induction fs with
  | nil => simp [usedF]
  | cons a fs ih =>
    have e : ∀ (l : FS), usedF (a :: l) = a.2.text.size + usedF l := fun l => by unfold usedF; simp
    rw [List.filter_cons, List.filter_cons]
    cases hP : P a with
    | true =>
      simp only [Bool.not_true, if_true, Bool.false_eq_true, if_false]
      rw [e, e, List.length_cons, List.length_cons]
      omega
    | false =>
      simp only [Bool.not_false, if_true, Bool.false_eq_true, if_false]
      rw [e, e, List.length_cons, List.length_cons]
      omega
theorem lookup_filter' {D : List Pth} : ∀ {fs : FS} (r : Pth), (fs.filter fun y => decide (y.1 ∈ D)).lookup r = if r ∈ D then fs.lookup r else none
  | [], r => by simp
  | (q, y) :: fs, r => by
    have ih := lookup_filter' (D := D) (fs := fs) r
    by_cases hq : q ∈ D
    · rw [List.filter_cons_of_pos (by simpa using hq), List.lookup_cons, List.lookup_cons]
      by_cases hr : r = q
      · subst hr; rw [if_pos hq]; simp
      · have : (r == q) = false := by simpa using hr
        rw [this]; exact ih
    · rw [List.filter_cons_of_neg (by simpa using hq), List.lookup_cons, ih]
      by_cases hr : r = q
      · subst hr; rw [if_neg hq, if_neg hq]
      · have : (r == q) = false := by simpa using hr
        rw [this]
/-- There is room for what comes next. -/
theorem some_room {fs f : FS} (hg : FsOk fs) {b n : Nat} (hr : Room fs b n) {D : List Pth} (h : Some2 fs b n f D) {r : Pth} {x : Nd} (hx : fs.at r = some x) (hr0 : r ≠ []) (hD : r ∉ D) : f.length < n ∧ usedF f + x.text.size ≤ b := by
  have hp : f.Perm (fs.filter fun y => decide (y.1 ∈ D)) := by
    refine perm_of_at h.ok.nodup ((List.filter_sublist.map _).nodup hg.nodup) h.ok.ne (fun y hy => hg.ne y (List.mem_filter.1 hy).1) fun s => ?_
    rw [h.at_]
    by_cases hs : s = []
    · rw [if_pos (.inl hs), hs]; rfl
    · rw [at_ne (fs.filter fun y => decide (y.1 ∈ D)) hs, lookup_filter', at_ne fs hs]
      by_cases hm : s ∈ D
      · rw [if_pos (.inr hm), if_pos hm]
      · rw [if_neg (by rintro (h | h); exact hs h; exact hm h), if_neg hm]
  obtain ⟨h1, h2⟩ := used_split fs fun y => decide (y.1 ∈ D)
  have hm : (r, x) ∈ fs.filter fun y => !(decide (y.1 ∈ D)) := by
    rw [List.mem_filter]
    exact ⟨(mem_at hg.nodup hg.ne).2 ⟨hr0, hx⟩, by simpa using hD⟩
  have h3 : x.text.size ≤ usedF (fs.filter fun y => !(decide (y.1 ∈ D))) := by
    generalize (fs.filter fun y => !(decide (y.1 ∈ D))) = l at hm
    induction l with
    | nil => cases hm
    | cons a l ih =>
      have e : usedF (a :: l) = a.2.text.size + usedF l := by unfold usedF; simp
      rw [e]
      rcases List.mem_cons.1 hm with h | h
      · rw [← h]; show x.text.size ≤ x.text.size + _; omega
      · have := ih h; omega
  have h4 := List.length_pos_of_mem hm
  have h5 := hp.length_eq
  have h6 := used_perm hp
  have := hr.used
  have := hr.count
  omega
theorem text_nil (z : ByteArray) : (⟨#[]⟩ : ByteArray) ++ z = z := by
  apply ByteArray.ext
  simp
theorem some_next {fs f : FS} (hg : FsOk fs) (hl : LinkOk fs) {b n : Nat} (hr : Room fs b n) {D : List Pth} (h : Some2 fs b n f D) {q : Pth} {m : Nm} {x : Nd} (hx : fs.at (q ++ [m]) = some x) (hq : q = [] ∨ q ∈ D) (hD : q ++ [m] ∉ D) :
    (stepF b n f (entF fs (q ++ [m]))).1 = 0 ∧ Some2 fs b n (stepF b n f (entF fs (q ++ [m]))).2 (D ++ [q ++ [m]]) := by
  have hne : q ++ [m] ≠ [] := by simp
  obtain ⟨y, hy1, hy2⟩ := hg.up q m (by rw [hx]; simp)
  have hok := hg.okp _ x hx
  have hpt := parts_tx hne hok
  obtain ⟨k1, k2⟩ := some_room hg hr h hx hne hD
  have fq : f.at q = some y := by rw [h.at_, if_pos hq]; exact hy1
  have fn : f.at (q ++ [m]) = none := by rw [h.at_, if_neg (by rintro (e | e); exact hne e; exact hD e)]
  have hsz : ¬ (tx (q ++ [m])).size = 0 := fun e => by
    unfold partsF at hpt
    rw [if_neg (by omega), if_pos e] at hpt
    exact hne (Except.ok.inj hpt).symm
  have he : entF fs (q ++ [m]) = (tx (q ++ [m]), x.kind, x.text) := by unfold entF; rw [hx]; rfl
  have fin : ∀ (f' : FS) (z : Nd), z = x → FsOk f' → (∀ r, f'.at r = if r = q ++ [m] then some z else f.at r) → Some2 fs b n f' (D ++ [q ++ [m]]) := by
    intro f' z hz hf' hat
    refine ⟨hf', fun r => ?_⟩
    rw [hat]
    by_cases e : r = q ++ [m]
    · rw [if_pos e, if_pos (.inr (by rw [e]; simp)), e, hx, hz]
    · rw [if_neg e, h.at_]
      by_cases e1 : r = [] ∨ r ∈ D
      · rw [if_pos e1, if_pos (by rcases e1 with e1 | e1; exact .inl e1; exact .inr (List.mem_append_left _ e1))]
      · rw [if_neg e1, if_neg]
        rintro (e2 | e2)
        · exact e1 (.inl e2)
        · rcases List.mem_append.1 e2 with e3 | e3
          · exact e1 (.inr e3)
          · exact e (by simpa using e3)
  rw [he]
  unfold stepF
  rw [if_neg hsz]
  have hkk := hg.kind _ x hx
  simp only
  by_cases h2 : x.kind = 2
  · rw [if_pos h2, makeF_new h.ok fq hy2 fn hpt k1 (by omega)]
    have hxr : rootN = x := by
      have := hg.dirs _ x hx h2
      cases x
      simp only at h2 this
      rw [h2, this]; rfl
    exact ⟨rfl, fin _ rootN hxr (fsOk_put h.ok fq hy2 fn okN_dir hok) (at_put rootN hne fn)⟩
  · rw [if_neg h2]
    by_cases h3 : x.kind = 3
    · rw [if_pos h3]
      have hb := hl _ x hx h3
      have hlf : linkF f b n x.text (tx (q ++ [m])) = (0, f ++ [(q ++ [m], ⟨3, x.text⟩)]) := by
        unfold linkF
        rw [if_neg hb, atE_snoc h.ok fq hy2 hpt]
        simp only
        rw [fn]
        exact putF_free k1 k2
      rw [hlf]
      exact ⟨rfl, fin _ ⟨3, x.text⟩ (by cases x; simp only at h3; rw [h3]) (fsOk_put h.ok fq hy2 fn ⟨.inr (.inr rfl), fun e => absurd e (by simp), hg.small _ x hx⟩ hok) (at_put _ hne fn)⟩
    · rw [if_neg h3]
      have h1 : x.kind = 1 := by omega
      have hc := createF_new h.ok (by' := b) (nd := n) fq hy2 fn hpt k1 (by omega)
      rw [hc, if_pos rfl]
      have hg1 : FsOk (f ++ [(q ++ [m], ⟨1, ⟨#[]⟩⟩)]) := fsOk_put h.ok fq hy2 fn okN_file hok
      have hat := at_put (⟨1, ⟨#[]⟩⟩ : Nd) hne fn
      have hx1 : FS.at (f ++ [(q ++ [m], ⟨1, ⟨#[]⟩⟩)]) (q ++ [m]) = some ⟨1, ⟨#[]⟩⟩ := by rw [hat, if_pos rfl]
      have hu : usedF (f ++ [(q ++ [m], (⟨1, ⟨#[]⟩⟩ : Nd))]) = usedF f := by
        unfold usedF
        rw [List.map_append, List.sum_append]
        simp
        rfl
      have hsm := hg.small _ x hx
      simp only
      rw [appendF_file hg1 hx1 rfl hpt (by show 0 + _ ≤ _; omega), hu, if_neg (by omega)]
      refine ⟨rfl, fin _ ⟨1, ⟨#[]⟩ ++ x.text⟩ (by rw [text_nil]; cases x; simp only at h1; rw [h1]) (fsOk_set hg1 hne hx1 (fun e => absurd e (by simp)) ⟨.inl rfl, fun e => absurd e (by simp), by show (⟨#[]⟩ ++ x.text : ByteArray).size ≤ _; rw [text_nil]; exact hsm⟩) fun r => ?_⟩
      rw [at_set _ hne hx1, hat]
      by_cases e : r = q ++ [m]
      · rw [if_pos e, if_pos e]
      · rw [if_neg e, if_neg e, if_neg e]
theorem runs_tree {fs : FS} (hg : FsOk fs) (hl : LinkOk fs) {b n : Nat} (hr : Room fs b n) : ∀ (k : Nat) (q : Pth) (m : Nm) (f : FS) (D : List Pth), fs.at (q ++ [m]) ≠ none → (q = [] ∨ q ∈ D) → (∀ r ∈ pathsL fs (k + 1) (q ++ [m]), r ∉ D) → Some2 fs b n f D →
    ∃ f', runsF b n (treeL fs (k + 1) (q ++ [m])) f = some f' ∧ Some2 fs b n f' (D ++ pathsL fs (k + 1) (q ++ [m]))
  | k, q, m, f, D, ha, hq, hD, h => by
    obtain ⟨x, hx⟩ := Option.ne_none_iff_exists'.1 ha
    obtain ⟨s1, s2⟩ := some_next hg hl hr h hx hq (hD _ (by rw [pathsL]; exact List.mem_cons_self))
    have hnd := paths_nodup hg.nodup (k + 1) (q ++ [m])
    rw [pathsL, List.nodup_cons] at hnd
    rw [treeL_succ, pathsL]
    simp only [runsF]
    rw [if_pos s1]
    obtain ⟨f1, hf1⟩ : ∃ g, (stepF b n f (entF fs (q ++ [m]))).2 = g := ⟨_, rfl⟩
    rw [hf1] at s2 ⊢
    have hD2 : ∀ r ∈ (kidsF fs (q ++ [m])).flatMap (fun j => pathsL fs k (q ++ [m] ++ [j])), r ∉ D ++ [q ++ [m]] := fun r hr e => by
      rcases List.mem_append.1 e with e | e
      · exact hD r (by rw [pathsL]; exact List.mem_cons_of_mem _ hr) e
      · rw [List.mem_singleton] at e
        subst e
        exact hnd.1 hr
    have main : ∀ (ks : List Nm) (f : FS) (D : List Pth), (∀ j ∈ ks, fs.at (q ++ [m] ++ [j]) ≠ none) → (q ++ [m] ∈ D) → (∀ r ∈ ks.flatMap (fun j => pathsL fs k (q ++ [m] ++ [j])), r ∉ D) → (ks.flatMap (fun j => pathsL fs k (q ++ [m] ++ [j]))).Nodup → Some2 fs b n f D →
        ∃ f', runsF b n (ks.flatMap fun j => treeL fs k (q ++ [m] ++ [j])) f = some f' ∧ Some2 fs b n f' (D ++ ks.flatMap fun j => pathsL fs k (q ++ [m] ++ [j])) := by
      intro ks
      induction ks with
      | nil => intro f D _ _ _ _ h; exact ⟨f, rfl, by simpa using h⟩
      | cons j ks ih =>
        intro f D hk hqD hdis hnd2 h
        rw [List.flatMap_cons] at hdis hnd2 ⊢
        rw [List.flatMap_cons]
        rw [List.nodup_append] at hnd2
        cases k with
        | zero =>
          simp only [treeL, pathsL, List.map_nil, List.nil_append]
          obtain ⟨f', e1, e2⟩ := ih f D (fun i hi => hk i (List.mem_cons_of_mem _ hi)) hqD (fun r hr => hdis r (List.mem_append_right _ hr)) hnd2.2.1 h
          exact ⟨f', e1, e2⟩
        | succ k =>
          obtain ⟨f', e1, e2⟩ := runs_tree hg hl hr k (q ++ [m]) j f D (hk j List.mem_cons_self) (.inr hqD) (fun r hr => hdis r (List.mem_append_left _ hr)) h
          obtain ⟨f2, e3, e4⟩ := ih f' _ (fun i hi => hk i (List.mem_cons_of_mem _ hi)) (List.mem_append_left _ hqD) (fun r hr e => by
            rcases List.mem_append.1 e with e | e
            · exact hdis r (List.mem_append_right _ hr) e
            · exact hnd2.2.2 r e r hr rfl) hnd2.2.1 e2
          refine ⟨f2, by rw [runs_append e1]; exact e3, ?_⟩
          rw [← List.append_assoc]
          exact e4
    have := main (kidsF fs (q ++ [m])) f1 (D ++ [q ++ [m]]) (fun j hj => mem_kidsF.1 hj) (by simp) hD2 hnd.2 s2
    obtain ⟨f', e1, e2⟩ := this
    refine ⟨f', e1, ?_⟩
    rw [List.append_assoc] at e2
    exact e2
/-- A file system made anew of its tree is the same. -/
theorem anew_runs {fs : FS} (hg : FsOk fs) (hl : LinkOk fs) {b n : Nat} (hr : Room fs b n) : ∃ f, runsF b n (treeL fs 65 []) [] = some f ∧ Eqv f fs := by
  have hnd := paths_nodup hg.nodup 65 []
  rw [pathsL, List.nodup_cons] at hnd
  have main : ∀ (ks : List Nm) (f : FS) (D : List Pth), (∀ j ∈ ks, fs.at ([] ++ [j]) ≠ none) → (∀ r ∈ ks.flatMap (fun j => pathsL fs 64 ([] ++ [j])), r ∉ D) → (ks.flatMap (fun j => pathsL fs 64 ([] ++ [j]))).Nodup → Some2 fs b n f D →
      ∃ f', runsF b n (ks.flatMap fun j => treeL fs 64 ([] ++ [j])) f = some f' ∧ Some2 fs b n f' (D ++ ks.flatMap fun j => pathsL fs 64 ([] ++ [j])) := by
    intro ks
    induction ks with
    | nil => intro f D _ _ _ h; exact ⟨f, rfl, by simpa using h⟩
    | cons j ks ih =>
      intro f D hk hdis hnd2 h
      rw [List.flatMap_cons] at hdis hnd2 ⊢
      rw [List.flatMap_cons]
      rw [List.nodup_append] at hnd2
      obtain ⟨f', e1, e2⟩ := runs_tree hg hl hr 63 [] j f D (hk j List.mem_cons_self) (.inl rfl) (fun r hr => hdis r (List.mem_append_left _ hr)) h
      obtain ⟨f2, e3, e4⟩ := ih f' _ (fun i hi => hk i (List.mem_cons_of_mem _ hi)) (fun r hr e => by
        rcases List.mem_append.1 e with e | e
        · exact hdis r (List.mem_append_right _ hr) e
        · exact hnd2.2.2 r e r hr rfl) hnd2.2.1 e2
      refine ⟨f2, by rw [runs_append e1]; exact e3, ?_⟩
      rw [← List.append_assoc]
      exact e4
  have h0 : Some2 fs b n [] [] := ⟨fsOk_nil, fun r => by
    by_cases h : r = []
    · rw [if_pos (.inl h), h]; rfl
    · rw [if_neg (by rintro (e | e); exact h e; cases e), at_ne _ h]; rfl⟩
  obtain ⟨f, e1, e2⟩ := main (kidsF fs []) [] [] (fun j hj => mem_kidsF.1 hj) (fun r _ e => by cases e) hnd.2 h0
  refine ⟨f, ?_, e2.ok, hg, fun r => ?_⟩
  · rw [treeL_succ]
    simp only [runsF]
    have hs : stepF b n [] (entF fs []) = (0, []) := by unfold stepF; rw [if_pos (show (entF fs []).1.size = 0 from rfl)]
    rw [hs, if_pos rfl]
    exact e1
  · rw [e2.at_]
    by_cases h : r = []
    · rw [if_pos (.inl h)]
    · by_cases hn : fs.at r = none
      · split
        · rfl
        · exact hn.symm
      · rw [if_pos]
        have h1 := (paths_perm hg).mem_iff.2 (List.mem_cons_of_mem _ ((at_mem h).1 hn))
        rw [pathsL] at h1
        rcases List.mem_cons.1 h1 with h2 | h2
        · exact .inl h2
        · exact .inr (by simpa using h2)
end Go.Proofs.YthojofeocjmglaaGreatDoor.I
