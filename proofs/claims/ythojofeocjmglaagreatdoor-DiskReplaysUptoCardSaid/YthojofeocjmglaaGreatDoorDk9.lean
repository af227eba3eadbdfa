/- Merged out of these texts: TabMv, RenDef, RenKeep, Ways, TreeF, RenTwo. -/
import Derived.Test.YthojofeocjmglaaGreatDoorDk8
import Derived.Test.YthojofeocjmglaaGreatDoorDk7
/- The table in memory behind a rename. -/
namespace Go.Proofs.YthojofeocjmglaaGreatDoor.I
open Go.RowKit Go.Proofs.YthojofeocjmglaaGreatDoor.B Go.Sort
set_option linter.unusedVariables false
open Classical in
/-- Where a node lies behind a rename. -/
noncomputable def mvA (p q : Pth) (A : Pth → Nat) (r : Pth) : Nat := if q <+: r then A (p ++ r.drop q.length) else A r
theorem mvA_in (p q s : Pth) (A : Pth → Nat) : mvA p q A (q ++ s) = A (p ++ s) := by
  unfold mvA
  rw [if_pos (List.prefix_append q s), List.drop_left]
theorem mvA_out {p q r : Pth} (A : Pth → Nat) (h : ¬ q <+: r) : mvA p q A r = A r := by
  unfold mvA
  rw [if_neg h]
/-- Each path at which something stands behind a rename has one at which it stood; two paths, two. -/
theorem mv_from {fs : FS} (hg : FsOk fs) {p q : Pth} (hp : p ≠ []) (hq0 : q ≠ []) (hq : fs.at q = none) {r : Pth} {x : Nd} (h : (mvF fs p q).at r = some x) :
    ∃ r', fs.at r' = some x ∧ (∀ A, mvA p q A r = A r') ∧ mvP p q r' = r ∧ ¬ q <+: r' := by
  have hh := h
  rw [at_mv hg hp hq0 hq] at h
  have hno : ∀ {r' : Pth} {z : Nd}, fs.at r' = some z → ¬ q <+: r' := fun {r' z} h1 ⟨s, e⟩ => by
    rw [← e, not_under hg hq s] at h1
    cases h1
  split at h
  · rename_i hpre
    obtain ⟨s, rfl⟩ := hpre
    rw [List.drop_left] at h
    exact ⟨p ++ s, h, fun A => mvA_in p q s A, mvP_in p q s, hno h⟩
  · rename_i h1
    split at h
    · cases h
    · rename_i h2
      exact ⟨r, h, fun A => mvA_out A h1, mvP_out h2, hno h⟩
theorem tab_mv {w w' : World} {L : List Nat} {t by' nd : Nat} {fs : FS} {A M : Pth → Nat} (hT : TabAt w L t fs by' nd A M) (hg : FsOk fs) {p q : Pth} (hp : p ≠ []) (hq0 : q ≠ []) (hq : fs.at q = none)
    (ht : w'.heap[t]? = w.heap[t]?) (hA : ∀ r x, fs.at r = some x → w'.heap[A r]? = w.heap[A r]?) (hs : w.heap.size ≤ w'.heap.size)
    (hK : ∀ r x, (mvF fs p q).at r = some x → x.kind = 2 → ∃ es clock K, w'.heap[mvA p q M r]? = some (.map es clock) ∧ MKids es clock K ∧ ∀ n, K.lookup n = ((mvF fs p q).at (r ++ [n])).map fun _ => (.pointer (some ⟨mvA p q A (r ++ [n]), 0, none⟩))) :
    TabAt w' L t (mvF fs p q) by' nd (mvA p q A) (mvA p q M) := by
  have F := fun {r x} (h : (mvF fs p q).at r = some x) => mv_from hg hp hq0 hq h
  have h0 : ∀ A : Pth → Nat, mvA p q A [] = A [] := fun A => mvA_out A (fun h => hq0 (List.prefix_nil.1 h))
  refine ⟨?_, fun r x h => ?_, hK, hT.tL, fun i hi => Nat.lt_of_lt_of_le (hT.bl i hi) hs, fun r x h => ?_, fun r s x y h1 h2 e => ?_, fun r s x y h1 h2 k1 k2 e => ?_⟩
  · rw [ht, h0, mv_used, mv_len]
    exact hT.tab
  · obtain ⟨r', h1, h2, h3, h4⟩ := F h
    rw [h2, h2, hA r' x h1]
    exact hT.node r' x h1
  · obtain ⟨r', h1, h2, h3, h4⟩ := F h
    rw [h2, h2]
    exact hT.aL r' x h1
  · obtain ⟨r', a1, a2, a3, a4⟩ := F h1
    obtain ⟨s', b1, b2, b3, b4⟩ := F h2
    rw [a2, b2] at e
    rw [← a3, ← b3, hT.injA r' s' x y a1 b1 e]
  · obtain ⟨r', a1, a2, a3, a4⟩ := F h1
    obtain ⟨s', b1, b2, b3, b4⟩ := F h2
    rw [a2, b2] at e
    rw [← a3, ← b3, hT.injM r' s' x y a1 b1 k1 k2 e]
theorem pre_snoc {a r : Pth} {b n : Nm} (h : (a ++ [b]) <+: (r ++ [n])) (hn : ¬ (a ++ [b]) <+: r) : r = a ∧ n = b := by
  obtain ⟨s, hs⟩ := h
  rcases List.eq_nil_or_concat s with rfl | ⟨s2, m, rfl⟩
  · rw [List.append_nil] at hs
    have := snoc_inj hs
    exact ⟨this.1.symm, this.2.symm⟩
  · rw [List.concat_eq_append, ← List.append_assoc] at hs
    exact absurd ⟨s2, (snoc_inj hs).1⟩ hn
open Classical in
theorem kids_mv {w w' : World} {L : List Nat} {t by' nd : Nat} {fs : FS} {A M : Pth → Nat} (hT : TabAt w L t fs by' nd A M) (hg : FsOk fs) {pd qd : Pth} {pn qn : Nm} {z : Nd} (hp : fs.at (pd ++ [pn]) = some z) (hq : fs.at (qd ++ [qn]) = none) (hpq : ¬ (pd ++ [pn]) <+: qd)
    (hO : ∀ r x, fs.at r = some x → x.kind = 2 → r ≠ pd → r ≠ qd → w'.heap[M r]? = w.heap[M r]?)
    (hP : pd ≠ qd → ∃ es clock K, w'.heap[M pd]? = some (.map es clock) ∧ MKids es clock K ∧ ∀ n, K.lookup n = if n = pn then none else (fs.at (pd ++ [n])).map fun _ => (.pointer (some ⟨A (pd ++ [n]), 0, none⟩)))
    (hQ : ∃ es clock K, w'.heap[M qd]? = some (.map es clock) ∧ MKids es clock K ∧ ∀ n, K.lookup n = if n = qn then some (.pointer (some ⟨A (pd ++ [pn]), 0, none⟩)) else if pd = qd ∧ n = pn then none else (fs.at (qd ++ [n])).map fun _ => (.pointer (some ⟨A (qd ++ [n]), 0, none⟩))) :
    ∀ r x, (mvF fs (pd ++ [pn]) (qd ++ [qn])).at r = some x → x.kind = 2 → ∃ es clock K, w'.heap[mvA (pd ++ [pn]) (qd ++ [qn]) M r]? = some (.map es clock) ∧ MKids es clock K ∧ ∀ n, K.lookup n = ((mvF fs (pd ++ [pn]) (qd ++ [qn])).at (r ++ [n])).map fun _ => (.pointer (some ⟨mvA (pd ++ [pn]) (qd ++ [qn]) A (r ++ [n]), 0, none⟩)) := by
  intro r x h hk
  have AT := at_mv hg (p := pd ++ [pn]) (q := qd ++ [qn]) (by simp) (by simp) hq
  by_cases h1 : (qd ++ [qn]) <+: r
  · obtain ⟨s, rfl⟩ := h1
    rw [AT, if_pos (List.prefix_append _ s), List.drop_left] at h
    rw [mvA_in]
    obtain ⟨es, clock, K, a1, a2, a3⟩ := hT.kids _ x h hk
    refine ⟨es, clock, K, ?_, a2, fun n => ?_⟩
    · rw [hO _ x h hk ?_ ?_]
      · exact a1
      · intro e
        have := congrArg List.length e
        simp at this
      · intro e
        exact hpq ⟨s, e⟩
    · rw [AT, List.append_assoc (qd ++ [qn]) s [n], if_pos (List.prefix_append _ _), List.drop_left, mvA_in, ← List.append_assoc]
      exact a3 n
  · have h' := h
    rw [AT, if_neg h1] at h
    split at h
    · cases h
    · rename_i h2
      rw [mvA_out M h1]
      have C : ∀ n, ((mvF fs (pd ++ [pn]) (qd ++ [qn])).at (r ++ [n])).map (fun _ => ((.pointer (some ⟨mvA (pd ++ [pn]) (qd ++ [qn]) A (r ++ [n]), 0, none⟩)) : Value)) = if r = qd ∧ n = qn then some ((.pointer (some ⟨A (pd ++ [pn]), 0, none⟩)) : Value) else if r = pd ∧ n = pn then none else (fs.at (r ++ [n])).map fun _ => ((.pointer (some ⟨A (r ++ [n]), 0, none⟩)) : Value) := by
        intro n
        by_cases c1 : r = qd ∧ n = qn
        · obtain ⟨rfl, rfl⟩ := c1
          have hr := mvA_in (pd ++ [pn]) (r ++ [n]) [] A
          rw [List.append_nil, List.append_nil] at hr
          rw [if_pos ⟨rfl, rfl⟩, AT, if_pos (List.prefix_refl _), List.drop_length, List.append_nil, hp, hr]
          rfl
        · have n1 : ¬ (qd ++ [qn]) <+: (r ++ [n]) := fun e => c1 (pre_snoc e h1)
          rw [if_neg c1, AT, if_neg n1, mvA_out A n1]
          by_cases c2 : r = pd ∧ n = pn
          · obtain ⟨rfl, rfl⟩ := c2
            rw [if_pos (show r = r ∧ n = n from ⟨rfl, rfl⟩), if_pos (show (r ++ [n]) <+: (r ++ [n]) from List.prefix_refl _)]
            rfl
          · rw [if_neg c2, if_neg (fun e => c2 (pre_snoc e h2))]
      by_cases e1 : r = qd
      · subst e1
        obtain ⟨es, clock, K, a1, a2, a3⟩ := hQ
        refine ⟨es, clock, K, a1, a2, fun n => ?_⟩
        rw [C n, a3 n]
        by_cases c : n = qn
        · rw [if_pos c, if_pos (show r = r ∧ n = qn from ⟨rfl, c⟩)]
        · rw [if_neg c, if_neg (show ¬ (r = r ∧ n = qn) from fun e => c e.2)]
          by_cases d : pd = r ∧ n = pn
          · rw [if_pos d, if_pos (show r = pd ∧ n = pn from ⟨d.1.symm, d.2⟩)]
          · rw [if_neg d, if_neg (show ¬ (r = pd ∧ n = pn) from fun e => d ⟨e.1.symm, e.2⟩)]
      · by_cases e2 : r = pd
        · subst e2
          obtain ⟨es, clock, K, a1, a2, a3⟩ := hP e1
          refine ⟨es, clock, K, a1, a2, fun n => ?_⟩
          rw [C n, a3 n, if_neg (show ¬ (r = qd ∧ n = qn) from fun e => e1 e.1)]
          by_cases c : n = pn
          · rw [if_pos c, if_pos (show r = r ∧ n = pn from ⟨rfl, c⟩)]
          · rw [if_neg c, if_neg (show ¬ (r = r ∧ n = pn) from fun e => c e.2)]
        · obtain ⟨es, clock, K, a1, a2, a3⟩ := hT.kids r x h hk
          refine ⟨es, clock, K, by rw [hO r x h hk e2 e1]; exact a1, a2, fun n => ?_⟩
          rw [C n, a3 n, if_neg (show ¬ (r = qd ∧ n = qn) from fun e => e1 e.1), if_neg (show ¬ (r = pd ∧ n = pn) from fun e => e2 e.1)]
end Go.Proofs.YthojofeocjmglaaGreatDoor.I
/- What Rename makes; a path below another, and its text. -/
namespace Go.Proofs.YthojofeocjmglaaGreatDoor.I
open Go.RowKit Go.Proofs.YthojofeocjmglaaGreatDoor.B Go.Sort
set_option linter.unusedVariables false
open Classical in
/-- Rename. -/
noncomputable def renameF (fs : FS) (a b : ByteArray) : Nat × FS := match partsF a with
  | .error n => (n, fs)
  | .ok p => match partsF b with
    | .error n => (n, fs)
    | .ok q => if p = [] then (1, fs) else if q = [] then (201, fs) else match wayE fs p with
      | some n => (n, fs)
      | none => match fs.at p with
        | none => (200, fs)
        | some x => if x.kind = 2 ∧ a ≠ b ∧ belowB a b = true then (207, fs) else match wayE fs q with
          | some n => (n, fs)
          | none => if a = b then (0, fs) else if givesF fs q x ≠ 0 then (givesF fs q x, fs) else if ¬ fitsP fs p b.data.toList then (2, fs) else (0, mvF (delF fs q) p q)
theorem partsF_text {s : ByteArray} {p : Pth} (h : partsF s = .ok p) (hp : p ≠ []) : s.data.toList = joinL 47 p := by
  unfold partsF at h
  split at h
  · cases h
  · split at h
    · cases h; exact absurd rfl hp
    · split at h
      · cases h
      · split at h
        · cases h
        · cases h; rw [join_spL]
theorem join_app (c : UInt8) : ∀ {p s : Pth}, p ≠ [] → s ≠ [] → joinL c (p ++ s) = joinL c p ++ c :: joinL c s
  | [], _, h, _ => absurd rfl h
  | [x], s, _, hs => by
    cases s with
    | nil => exact absurd rfl hs
    | cons y s => simp [joinL]
  | x :: y :: p, s, _, hs => by
    have ih := join_app c (p := y :: p) (s := s) (by simp) hs
    simp only [List.cons_append] at ih ⊢
    simp only [joinL] at ih ⊢
    rw [ih]
    simp
theorem below_pre {a b : ByteArray} {p q : Pth} (ha : partsF a = .ok p) (hb : partsF b = .ok q) (hp : p ≠ []) (h : p <+: q) : belowB a b = true := by
  obtain ⟨s, rfl⟩ := h
  have ta := partsF_text ha hp
  have tb := partsF_text hb (by simp [hp])
  unfold belowB
  cases s with
  | nil =>
    rw [List.append_nil, ← ta] at tb
    rw [ByteArray.toList_eq, ByteArray.toList_eq, tb]
    simp
  | cons m s =>
    rw [join_app 47 hp (by simp), ← ta] at tb
    have : Lib.hasPrefix b.data.toList (a ++ ⟨#[47]⟩).data.toList = true := by
      rw [tb]
      simp [Lib.hasPrefix]
    rw [this]
    simp
theorem parts_inj {a b : ByteArray} {p : Pth} (ha : partsF a = .ok p) (hb : partsF b = .ok p) (hp : p ≠ []) : a = b := by
  have h := (partsF_text ha hp).trans (partsF_text hb hp).symm
  have := congrArg nb h
  rwa [nb_list, nb_list] at this
end Go.Proofs.YthojofeocjmglaaGreatDoor.I
/- Rename keeps a file system sound, within its room. Plain. -/
namespace Go.Proofs.YthojofeocjmglaaGreatDoor.I
open Go.RowKit Go.Proofs.YthojofeocjmglaaGreatDoor.B Go.Sort
set_option linter.unusedVariables false
theorem way_parent {fs : FS} (hg : FsOk fs) {q : Pth} (h : wayE fs q = none) (hne : q ≠ []) : ∃ d n y, q = d ++ [n] ∧ fs.at d = some y ∧ y.kind = 2 := by
  obtain ⟨y, hy, hk⟩ := way_dir hg h ⟨_, at_root fs, rfl⟩ hne
  exact ⟨q.dropLast, q.getLast hne, y, (List.dropLast_concat_getLast hne).symm, by simpa using hy, hk⟩
/-- What stands at q and does not bar what comes has nothing below it. -/
theorem gives_no {fs : FS} (hg : FsOk fs) {q : Pth} {x : Nd} (h : givesF fs q x = 0) : ¬ hasKids fs q := by
  rintro ⟨k, hk⟩
  obtain ⟨y, hy, hy2⟩ := hg.up q k hk
  unfold givesF at h
  rw [hy] at h
  simp only at h
  split at h
  · cases h
  · split at h
    · cases h
    · rename_i h1
      exact h1 ⟨hy2, k, hk⟩
theorem used_del (fs : FS) (q : Pth) : usedF (delF fs q) ≤ usedF fs := by
  induction fs with
  | nil => simp [delF, usedF]
  | cons a fs ih =>
    unfold usedF delF at ih ⊢
    rw [List.filter_cons]
    split
    · simp only [List.map_cons, List.sum_cons]
      omega
    · simp only [List.map_cons, List.sum_cons]
      omega
theorem no_slash {k : Nm} (h : okNm k = true) : (47 : UInt8) ∉ k := by
  intro hm
  have h1 := (bad_ok.1 h).2.2.2.2
  unfold badB at h1
  rw [List.any_eq_false] at h1
  exact absurd (h1 47 hm) (by simp)
theorem text_parts {s : ByteArray} {u v : Pth} (hu : partsF s = .ok u) (hv : v ≠ []) (ho : v.all okNm = true) (h : s.data.toList = joinL 47 v) : u = v := by
  have hall : ∀ k ∈ v, (47 : UInt8) ∉ k := fun k hk => no_slash (List.all_eq_true.1 ho k hk)
  have h1 := spL_join_all 47 hv hall
  rw [← h] at h1
  unfold partsF at hu
  split at hu
  · cases hu
  · split at hu
    · rename_i h0
      exfalso
      have e : s.data.toList = [] := List.eq_nil_of_length_eq_zero (by rw [Array.length_toList]; exact h0)
      rw [e] at h1
      have h2 : v = [[]] := by rw [← h1]; simp [spL]
      rw [h2] at ho
      have h3 := (bad_ok (n := [])).1 (List.all_eq_true.1 ho [] (by simp))
      exact h3.1 rfl
    · split at hu
      · cases hu
      · split at hu
        · cases hu
        · cases hu; exact h1
/-- What a rename that succeeds knows. -/
structure RenOk (fs : FS) (a b : ByteArray) (p q : Pth) (x : Nd) (d : Pth) (n : Nm) (y : Nd) : Prop where
  pa : partsF a = .ok p
  pb : partsF b = .ok q
  hp : p ≠ []
  ab : a ≠ b
  at_ : fs.at p = some x
  qe : q = d ++ [n]
  dir : fs.at d = some y
  dk : y.kind = 2
  np : ¬ p <+: d
  no : ¬ hasKids fs q
  fits : fitsP fs p b.data.toList
theorem ren_np {fs : FS} (hg : FsOk fs) {a b : ByteArray} {p d : Pth} {n : Nm} {x y : Nd} (ha : partsF a = .ok p) (hb : partsF b = .ok (d ++ [n])) (hp : p ≠ []) (hab : a ≠ b) (hx : fs.at p = some x) (hd : fs.at d = some y) (hy : y.kind = 2) (h : ¬ (x.kind = 2 ∧ a ≠ b ∧ belowB a b = true)) : ¬ p <+: d := by
  intro hpd
  refine h ⟨?_, hab, below_pre ha hb hp (hpd.trans (List.prefix_append d [n]))⟩
  obtain ⟨s, rfl⟩ := hpd
  cases s with
  | nil =>
    rw [List.append_nil, hx] at hd
    cases hd
    exact hy
  | cons m s =>
    obtain ⟨z, hz, hz2⟩ := hg.prefix (q := m :: s) (p := p) (by rw [hd]; simp) (by simp)
    rw [hx] at hz
    cases hz
    exact hz2
theorem RenOk.sound {fs : FS} {a b : ByteArray} {p q d : Pth} {n : Nm} {x y : Nd} (h : RenOk fs a b p q x d n y) (hg : FsOk fs) {by' nd : Nat} (hr : Room fs by' nd) : FsOk (mvF (delF fs q) p q) ∧ Room (mvF (delF fs q) p q) by' nd := by
  obtain ⟨pa, pb, hp, ab, at_, rfl, dir, dk, np, no, fits⟩ := h
  have hne : d ++ [n] ≠ [] := by simp
  have hpq : p ≠ d ++ [n] := fun e => ab (parts_inj pa (by rw [e]; exact pb) hp)
  have hg2 := fsOk_del hg hne no
  have AD := fun r => at_del (fs := fs) hne r
  have hdn : d ≠ d ++ [n] := fun e => snoc_ne d n e.symm
  refine ⟨fsOk_mv hg2 hp (y := y) (by rw [AD, if_neg hdn]; exact dir) dk np (by rw [AD, if_pos rfl]) fun r hr2 => ?_, ?_⟩
  · have h1 : fs.at (p ++ r) ≠ none := by
      rw [AD] at hr2
      split at hr2
      · exact absurd rfl hr2
      · exact hr2
    obtain ⟨u, hu⟩ := fits r h1
    have hgl : glueR b.data.toList r = joinL 47 ((d ++ [n]) ++ r) := by
      rw [partsF_text pb hne]
      cases r with
      | nil => simp [glueR]
      | cons k r =>
        rw [join_app 47 hne (by simp)]
        unfold glueR
        congr 1
        have : ∀ (k : Nm) (r : Pth), (k :: r).flatMap (fun k => 47 :: k) = 47 :: joinL 47 (k :: r) := by
          intro k r
          induction r generalizing k with
          | nil => simp [joinL]
          | cons m r ih =>
            rw [List.flatMap_cons, ih m]
            simp [joinL]
        exact this k r
    have hok := partsF_ok hu
    have hu2 : u = (d ++ [n]) ++ r := by
      refine text_parts hu (by simp) ?_ (by rw [list_nb]; exact hgl)
      rw [List.all_append, (partsF_ok pb).2.2, Bool.true_and]
      cases hz : fs.at (p ++ r) with
      | none => exact absurd hz h1
      | some z =>
        have := (hg.okp _ z hz).2.2
        rw [List.all_append, Bool.and_eq_true] at this
        exact this.2
    rw [← hu2]
    exact hok
  · have hu := used_del fs (d ++ [n])
    have hl : (delF fs (d ++ [n])).length ≤ fs.length := List.length_filter_le _ _
    have := hr.used
    have := hr.count
    exact ⟨hr.b, hr.n, by rw [mv_used]; omega, by rw [mv_len]; omega⟩
end Go.Proofs.YthojofeocjmglaaGreatDoor.I
/- What the calls answer where the way is clear; a path's text and its parts. Plain. -/
namespace Go.Proofs.YthojofeocjmglaaGreatDoor.I
open Go.RowKit Go.Proofs.YthojofeocjmglaaGreatDoor.B Go.Sort
set_option linter.unusedVariables false
/-- A path's text. -/
def tx (p : Pth) : ByteArray := nb (joinL 47 p)
theorem tx_list (p : Pth) : (tx p).data.toList = joinL 47 p := list_nb _
theorem way_ok {fs : FS} (hg : FsOk fs) {y : Nd} : ∀ {r d : Pth}, r ≠ [] → fs.at (d ++ r.dropLast) = some y → y.kind = 2 → wayFrom fs d r = none
  | [], _, h, _, _ => absurd rfl h
  | [n], d, _, _, _ => rfl
  | n :: m :: r, d, _, hy, hk => by
    have e : d ++ (n :: m :: r).dropLast = (d ++ [n]) ++ (m :: r).dropLast := by
      rw [List.dropLast_cons_of_ne_nil (by simp)]; simp
    rw [e] at hy
    have hx : ∃ x, fs.at (d ++ [n]) = some x ∧ x.kind = 2 := by
      by_cases h0 : (m :: r).dropLast = []
      · rw [h0, List.append_nil] at hy
        exact ⟨y, hy, hk⟩
      · exact hg.prefix (by rw [hy]; simp) h0
    obtain ⟨x, hx1, hx2⟩ := hx
    have ih := way_ok hg (r := m :: r) (d := d ++ [n]) (by simp) hy hk
    simp only [wayFrom]
    rw [hx1]
    simp only
    rw [if_neg (by omega), if_neg (by omega)]
    exact ih
theorem way_snoc {fs : FS} (hg : FsOk fs) {q : Pth} {n : Nm} {y : Nd} (hy : fs.at q = some y) (hk : y.kind = 2) : wayE fs (q ++ [n]) = none :=
  way_ok hg (by simp) (by simpa using hy) hk
theorem way_at {fs : FS} (hg : FsOk fs) {p : Pth} {x : Nd} (hx : fs.at p = some x) : wayE fs p = none := by
  by_cases hp : p = []
  · rw [hp]; rfl
  · obtain ⟨q, n, rfl⟩ : ∃ q n, p = q ++ [n] := ⟨p.dropLast, p.getLast hp, (List.dropLast_concat_getLast hp).symm⟩
    obtain ⟨y, h1, h2⟩ := hg.up q n (by rw [hx]; simp)
    exact way_snoc hg h1 h2
theorem ok_slash {p : Pth} (ho : p.all okNm = true) : ∀ k ∈ p, (47 : UInt8) ∉ k := fun k hk => no_slash (List.all_eq_true.1 ho k hk)
/-- A path that may be is its text's parts. -/
theorem parts_tx {p : Pth} (hp : p ≠ []) (ho : okP p) : partsF (tx p) = .ok p := by
  have hs := spL_join_all 47 hp (ok_slash ho.2.2)
  have hz : (tx p).size = (joinL 47 p).length := nb_size _
  unfold partsF
  rw [if_neg (by rw [hz]; have := ho.2.1; omega), tx_list, hs]
  have h0 : (tx p).size ≠ 0 := by
    rw [hz]
    intro e
    have e2 := List.eq_nil_of_length_eq_zero e
    rw [e2] at hs
    have h2 : p = [[]] := by rw [← hs]; simp [spL]
    have ho2 := ho.2.2
    rw [h2] at ho2
    have h3 := (bad_ok (n := [])).1 (List.all_eq_true.1 ho2 [] (by simp))
    exact h3.1 rfl
  rw [if_neg h0, if_neg (by rw [ho.2.2]; decide), if_neg (by have := ho.1; omega)]
theorem parts_empty : partsF ⟨#[]⟩ = .ok [] := rfl
theorem join_cons (k : Nm) (r : Pth) : (k :: r).flatMap (fun k => 47 :: k) = 47 :: joinL 47 (k :: r) := by
  induction r generalizing k with
  | nil => simp [joinL]
  | cons m r ih =>
    rw [List.flatMap_cons, ih m]
    simp [joinL]
/-- A path's text with names put behind it. -/
theorem glue_join {q : Pth} (hq : q ≠ []) (r : Pth) : glueR (joinL 47 q) r = joinL 47 (q ++ r) := by
  cases r with
  | nil => simp [glueR]
  | cons k r =>
    rw [join_app 47 hq (by simp)]
    unfold glueR
    rw [join_cons]
theorem tx_snoc {p : Pth} (hp : p ≠ []) (n : Nm) : tx (p ++ [n]) = tx p ++ nb (47 :: n) := by
  unfold tx
  rw [join_app 47 hp (by simp)]
  apply ByteArray.ext
  simp [nb, joinL]
theorem join_len1 : ∀ {p : Pth}, (∀ n ∈ p, n.length ≤ 1) → (joinL 47 p).length ≤ 2 * p.length
  | [], _ => by simp [joinL]
  | [x], h => by
    have := h x (by simp)
    simp [joinL]
    omega
  | x :: y :: p, h => by
    have ih := join_len1 (p := y :: p) (fun n hn => h n (List.mem_cons_of_mem _ hn))
    have := h x (by simp)
    simp only [joinL, List.length_append, List.length_cons] at ih ⊢
    omega
/-- A path of names of one byte may be, where it has at most 64 of them. -/
theorem okP_one {p : Pth} (h : ∀ n ∈ p, okNm n = true ∧ n.length ≤ 1) (hl : p.length ≤ 64) : okP p :=
  ⟨hl, by have := join_len1 (p := p) (fun n hn => (h n hn).2); omega, List.all_eq_true.2 fun n hn => (h n hn).1⟩
theorem atE_snoc {fs : FS} (hg : FsOk fs) {q : Pth} {n : Nm} {y : Nd} {s : ByteArray} (hy : fs.at q = some y) (hk : y.kind = 2) (hs : partsF s = .ok (q ++ [n])) : atE fs s = .ok (q ++ [n]) := by
  unfold atE
  rw [hs]
  simp only
  rw [way_snoc hg hy hk]
theorem atE_at {fs : FS} (hg : FsOk fs) {p : Pth} {x : Nd} {s : ByteArray} (hx : fs.at p = some x) (hs : partsF s = .ok p) : atE fs s = .ok p := by
  unfold atE
  rw [hs]
  simp only
  rw [way_at hg hx]
theorem thereE_at {fs : FS} (hg : FsOk fs) {p : Pth} {x : Nd} {s : ByteArray} (hx : fs.at p = some x) (hs : partsF s = .ok p) : thereE fs s = .ok p := by
  unfold thereE
  rw [atE_at hg hx hs]
  simp only
  rw [hx]
  rfl
theorem thereE_no {fs : FS} (hg : FsOk fs) {q : Pth} {n : Nm} {y : Nd} {s : ByteArray} (hy : fs.at q = some y) (hk : y.kind = 2) (hn : fs.at (q ++ [n]) = none) (hs : partsF s = .ok (q ++ [n])) : thereE fs s = .error 200 := by
  unfold thereE
  rw [atE_snoc hg hy hk hs]
  simp only
  rw [hn]
  rfl
theorem putF_free {fs : FS} {by' nd : Nat} {p : Pth} {x : Nd} (h1 : fs.length < nd) (h2 : usedF fs + x.text.size ≤ by') : putF fs by' nd p x = (0, fs ++ [(p, x)]) := by
  unfold putF
  rw [if_neg]
  unfold fullF
  omega
theorem makeF_new {fs : FS} (hg : FsOk fs) {by' nd : Nat} {q : Pth} {n : Nm} {y : Nd} {s : ByteArray} (hy : fs.at q = some y) (hk : y.kind = 2) (hn : fs.at (q ++ [n]) = none) (hs : partsF s = .ok (q ++ [n])) (h1 : fs.length < nd) (h2 : usedF fs ≤ by') : makeF fs by' nd s = (0, fs ++ [(q ++ [n], rootN)]) := by
  unfold makeF
  rw [atE_snoc hg hy hk hs]
  simp only
  rw [hn]
  exact putF_free h1 (show usedF fs + 0 ≤ by' from h2)
theorem createF_new {fs : FS} (hg : FsOk fs) {by' nd : Nat} {q : Pth} {n : Nm} {y : Nd} {s : ByteArray} (hy : fs.at q = some y) (hk : y.kind = 2) (hn : fs.at (q ++ [n]) = none) (hs : partsF s = .ok (q ++ [n])) (h1 : fs.length < nd) (h2 : usedF fs ≤ by') : createF fs by' nd s = (0, fs ++ [(q ++ [n], ⟨1, ⟨#[]⟩⟩)]) := by
  unfold createF
  rw [atE_snoc hg hy hk hs]
  simp only
  rw [hn]
  exact putF_free h1 (show usedF fs + 0 ≤ by' from h2)
theorem appendF_file {fs : FS} (hg : FsOk fs) {by' : Nat} {p : Pth} {x : Nd} {s z : ByteArray} (hx : fs.at p = some x) (hk : x.kind = 1) (hs : partsF s = .ok p) (hz : x.text.size + z.size ≤ 4194304) :
    appendF fs by' s z = if by' < usedF fs + z.size then (206, fs) else (0, setF fs p ⟨1, x.text ++ z⟩) := by
  unfold appendF
  rw [thereE_at hg hx hs]
  simp only
  rw [hx]
  simp only
  rw [if_neg (by omega), if_neg (by omega), if_neg (by omega)]
open Classical in
/-- A rename to where nothing stands. -/
theorem renameF_new {fs : FS} (hg : FsOk fs) {a b : ByteArray} {p qd : Pth} {qn : Nm} {x y : Nd} (ha : partsF a = .ok p) (hb : partsF b = .ok (qd ++ [qn])) (hp : p ≠ []) (hx : fs.at p = some x) (hbl : x.kind = 2 → belowB a b = false) (hy : fs.at qd = some y) (hk : y.kind = 2) (hn : fs.at (qd ++ [qn]) = none) :
    renameF fs a b = if fitsP fs p b.data.toList then (0, mvF fs p (qd ++ [qn])) else (2, fs) := by
  have hab : a ≠ b := by
    rintro rfl
    rw [ha] at hb
    cases hb
    rw [hx] at hn
    cases hn
  have hq0 : qd ++ [qn] ≠ [] := by simp
  unfold renameF
  rw [ha, hb]
  simp only
  rw [if_neg hp, if_neg hq0, way_at hg hx]
  simp only
  rw [hx]
  simp only
  rw [if_neg (fun h => by have := hbl h.1; rw [this] at h; exact absurd h.2.2 (by decide)), way_snoc hg hy hk]
  simp only
  have hgv : givesF fs (qd ++ [qn]) x = 0 := by unfold givesF; rw [hn]
  rw [if_neg hab, hgv, if_neg (by decide : ¬ ((0 : Nat) ≠ 0)), del_none (not_mem hg.nodup hq0 hn)]
  by_cases hf : fitsP fs p b.data.toList
  · rw [if_neg (fun h => h hf), if_pos hf]
  · rw [if_pos hf, if_neg hf]
theorem lookF_at {fs : FS} (hg : FsOk fs) {p : Pth} {x : Nd} {s : ByteArray} (hx : fs.at p = some x) (hs : partsF s = .ok p) : lookF fs s = (0, s, x.kind, x.text) := by
  unfold lookF
  rw [thereE_at hg hx hs]
  simp only
  rw [hx]
theorem readF_file {fs : FS} (hg : FsOk fs) {p : Pth} {x : Nd} {s : ByteArray} (hx : fs.at p = some x) (hk : x.kind = 1) (hs : partsF s = .ok p) : readF fs s = (0, x.text) := by
  unfold readF
  rw [thereE_at hg hx hs]
  simp only
  rw [hx]
  simp only
  rw [if_neg (by omega), if_neg (by omega)]
end Go.Proofs.YthojofeocjmglaaGreatDoor.I
/- What stands at and below a path, a directory ahead of what is in it, by names: plain. -/
namespace Go.Proofs.YthojofeocjmglaaGreatDoor.I
open Go.RowKit Go.Proofs.YthojofeocjmglaaGreatDoor.B Go.Sort
set_option linter.unusedVariables false
theorem sort_perm {l m : List Nm} (h : l.Perm m) : sortN l = sortN m := by
  have h1 : (sortN l).Perm (sortN m) := (List.mergeSort_perm l _).trans (h.trans (List.mergeSort_perm m _).symm)
  have tr : ∀ a b c : Nm, decide (a ≤ b) = true → decide (b ≤ c) = true → decide (a ≤ c) = true := fun a b c h1 h2 => by
    simp only [decide_eq_true_eq] at h1 h2 ⊢
    exact List.le_trans h1 h2
  have tt : ∀ a b : Nm, (decide (a ≤ b) || decide (b ≤ a)) = true := fun a b => by
    simp only [Bool.or_eq_true, decide_eq_true_eq]
    exact List.le_total a b
  refine h1.eq_of_pairwise ?_ (List.pairwise_mergeSort (le := fun x y : Nm => decide (x ≤ y)) tr tt l) (List.pairwise_mergeSort (le := fun x y : Nm => decide (x ≤ y)) tr tt m)
  intro a b _ _ h1 h2
  simp only [decide_eq_true_eq] at h1 h2
  exact List.le_antisymm h1 h2
theorem mem_sortN {l : List Nm} {k : Nm} : k ∈ sortN l ↔ k ∈ l := (List.mergeSort_perm l _).mem_iff
theorem last_snoc {p : Pth} (h : p ≠ []) : p.dropLast ++ [p.getLastD []] = p := by
  obtain ⟨q, n, rfl⟩ : ∃ q n, p = q ++ [n] := ⟨p.dropLast, p.getLast h, (List.dropLast_concat_getLast h).symm⟩
  simp
/-- The names in a directory, in no order. -/
def kidsU (fs : FS) (p : Pth) : List Nm := fs.filterMap fun y => if y.1 ≠ [] ∧ y.1.dropLast = p then some (y.1.getLastD []) else none
theorem mem_kidsU {fs : FS} {p : Pth} {k : Nm} : k ∈ kidsU fs p ↔ p ++ [k] ∈ fs.map (·.1) := by
  unfold kidsU
  rw [List.mem_filterMap, List.mem_map]
  constructor
  · rintro ⟨y, hy, h⟩
    split at h
    · rename_i h2
      obtain ⟨h3, rfl⟩ := h2
      cases h
      refine ⟨y, hy, ?_⟩
      exact (last_snoc h3).symm
    · cases h
  · rintro ⟨y, hy, h⟩
    refine ⟨y, hy, ?_⟩
    rw [if_pos (by rw [h]; simp), h]
    simp
theorem at_mem {fs : FS} {p : Pth} (hp : p ≠ []) : fs.at p ≠ none ↔ p ∈ fs.map (·.1) := by
  rw [at_ne fs hp]
  induction fs with
  | nil => simp
  | cons a fs ih =>
    rw [List.lookup_cons]
    by_cases h : p = a.1
    · subst h; simp
    · have e : (p == a.1) = false := by simpa using h
      rw [e]
      simp only [List.map_cons, List.mem_cons]
      rw [ih]
      simp [h]
theorem nodup_kidsU {fs : FS} (hd : (fs.map (·.1)).Nodup) (p : Pth) : (kidsU fs p).Nodup := by
  unfold kidsU
  induction fs with
  | nil => simp
  | cons a fs ih =>
    simp only [List.map_cons, List.nodup_cons] at hd
    rw [List.filterMap_cons]
    split
    · exact ih hd.2
    · rename_i k hk
      refine List.nodup_cons.2 ⟨fun hm => ?_, ih hd.2⟩
      have h1 := mem_kidsU.1 (show k ∈ kidsU fs p from hm)
      split at hk
      · rename_i h2
        cases hk
        apply hd.1
        have : p ++ [a.1.getLastD []] = a.1 := by
          rw [← h2.2]
          exact last_snoc h2.1
        rw [this] at h1
        exact h1
      · cases hk
/-- The names in a directory, rising. -/
def kidsF (fs : FS) (p : Pth) : List Nm := sortN (kidsU fs p)
theorem mem_kidsF {fs : FS} {p : Pth} {k : Nm} : k ∈ kidsF fs p ↔ fs.at (p ++ [k]) ≠ none := by
  unfold kidsF
  rw [mem_sortN, mem_kidsU, at_mem (by simp)]
theorem nodup_kidsF {fs : FS} (hd : (fs.map (·.1)).Nodup) (p : Pth) : (kidsF fs p).Nodup := (List.mergeSort_perm (kidsU fs p) _).nodup_iff.2 (nodup_kidsU hd p)
theorem kids_sort {fs : FS} (hd : (fs.map (·.1)).Nodup) {p : Pth} {l : List Nm} (h1 : l.Nodup) (h2 : ∀ k, k ∈ l ↔ fs.at (p ++ [k]) ≠ none) : sortN l = kidsF fs p ∧ l.length = (kidsF fs p).length := by
  have hp : l.Perm (kidsU fs p) := (List.perm_ext_iff_of_nodup h1 (nodup_kidsU hd p)).2 fun k => by rw [h2, mem_kidsU, at_mem (by simp)]
  exact ⟨sort_perm hp, by unfold kidsF sortN; rw [List.length_mergeSort]; exact hp.length_eq⟩
/-- The names depend on what stands where alone. -/
theorem kids_congr {f g : FS} (hf : (f.map (·.1)).Nodup) (hg : (g.map (·.1)).Nodup) (h : ∀ r, f.at r = g.at r) (p : Pth) : kidsF f p = kidsF g p :=
  (kids_sort hg (l := kidsU f p) (nodup_kidsU hf p) fun k => by rw [mem_kidsU, ← at_mem (by simp), h]).1
/-- The paths at and below a path, a directory ahead of what is in it. -/
def pathsL (fs : FS) : Nat → Pth → List Pth
  | 0, _ => []
  | m + 1, p => p :: (kidsF fs p).flatMap fun k => pathsL fs m (p ++ [k])
def entF (fs : FS) (p : Pth) : Ent := (tx p, ((fs.at p).getD rootN).kind, ((fs.at p).getD rootN).text)
def treeL (fs : FS) (m : Nat) (p : Pth) : List Ent := (pathsL fs m p).map (entF fs)
theorem treeL_succ (fs : FS) (m : Nat) (p : Pth) : treeL fs (m + 1) p = entF fs p :: (kidsF fs p).flatMap fun k => treeL fs m (p ++ [k]) := by
  unfold treeL
  rw [pathsL, List.map_cons, List.map_flatMap]
theorem paths_pre {fs : FS} : ∀ {m : Nat} {p r : Pth}, r ∈ pathsL fs m p → p <+: r
  | 0, p, r, h => by simp [pathsL] at h
  | m + 1, p, r, h => by
    rw [pathsL] at h
    rcases List.mem_cons.1 h with rfl | h
    · exact List.prefix_refl _
    · obtain ⟨k, _, h2⟩ := List.mem_flatMap.1 h
      exact (List.prefix_append p [k]).trans (paths_pre h2)
theorem paths_at {fs : FS} : ∀ {m : Nat} {p r : Pth}, fs.at p ≠ none → r ∈ pathsL fs m p → fs.at r ≠ none
  | 0, p, r, _, h => by simp [pathsL] at h
  | m + 1, p, r, hp, h => by
    rw [pathsL] at h
    rcases List.mem_cons.1 h with rfl | h
    · exact hp
    · obtain ⟨k, h1, h2⟩ := List.mem_flatMap.1 h
      exact paths_at (mem_kidsF.1 h1) h2
theorem paths_nodup {fs : FS} (hd : (fs.map (·.1)).Nodup) : ∀ (m : Nat) (p : Pth), (pathsL fs m p).Nodup
  | 0, p => by simp [pathsL]
  | m + 1, p => by
    rw [pathsL]
    refine List.nodup_cons.2 ⟨fun h => ?_, ?_⟩
    · obtain ⟨k, _, h2⟩ := List.mem_flatMap.1 h
      have := (paths_pre h2).length_le
      simp at this
      omega
    · unfold List.Nodup
      rw [List.pairwise_flatMap]
      refine ⟨fun k _ => paths_nodup hd m (p ++ [k]), ?_⟩
      refine (nodup_kidsF hd p).imp ?_
      intro a b hab x hx y hy e
      subst e
      have h1 := paths_pre hx
      have h2 := paths_pre hy
      have h3 := List.prefix_of_prefix_length_le h1 h2 (by simp)
      have h4 := h3.eq_of_length (by simp)
      exact hab (snoc_inj h4).2
/-- All that stands below is among them. -/
theorem paths_all {fs : FS} (hg : FsOk fs) : ∀ {m : Nat} {s p : Pth}, fs.at (p ++ s) ≠ none → s.length < m → p ++ s ∈ pathsL fs m p
  | 0, s, p, _, h => by omega
  | m + 1, [], p, h, _ => by rw [pathsL, List.append_nil]; exact List.mem_cons_self
  | m + 1, k :: s, p, h, hl => by
    have e : p ++ k :: s = (p ++ [k]) ++ s := by simp
    rw [e] at h ⊢
    have hk : fs.at (p ++ [k]) ≠ none := by
      cases s with
      | nil => simpa using h
      | cons j s =>
        obtain ⟨y, hy, _⟩ := hg.prefix h (by simp)
        rw [hy]; simp
    rw [pathsL]
    exact List.mem_cons_of_mem _ (List.mem_flatMap.2 ⟨k, mem_kidsF.2 hk, paths_all hg h (by simp at hl; omega)⟩)
theorem paths_len {fs : FS} (hg : FsOk fs) {m : Nat} {p : Pth} (hp : fs.at p ≠ none) : (pathsL fs m p).length ≤ fs.length + 1 := by
  have := nodup_len' (m := [] :: fs.map (·.1)) (paths_nodup hg.nodup m p) fun r hr => by
    by_cases h : r = []
    · rw [h]; exact List.mem_cons_self
    · exact List.mem_cons_of_mem _ ((at_mem h).1 (paths_at hp hr))
  simpa using this
theorem treeL_len {fs : FS} (hg : FsOk fs) {m : Nat} {p : Pth} (hp : fs.at p ≠ none) : (treeL fs m p).length ≤ fs.length + 1 := by
  unfold treeL
  rw [List.length_map]
  exact paths_len hg hp
/-- The whole tree's paths are the file system's. -/
theorem paths_perm {fs : FS} (hg : FsOk fs) : (pathsL fs 65 []).Perm ([] :: fs.map (·.1)) := by
  have hne : [] ∉ fs.map (·.1) := fun h => by
    obtain ⟨y, hy, e⟩ := List.mem_map.1 h
    exact hg.ne y hy e
  refine (List.perm_ext_iff_of_nodup (paths_nodup hg.nodup 65 []) (List.nodup_cons.2 ⟨hne, hg.nodup⟩)).2 fun r => ?_
  constructor
  · intro h
    by_cases hr : r = []
    · rw [hr]; exact List.mem_cons_self
    · exact List.mem_cons_of_mem _ ((at_mem hr).1 (paths_at (by rw [at_root]; simp) h))
  · intro h
    have hr : fs.at r ≠ none := by
      rcases List.mem_cons.1 h with rfl | h
      · rw [at_root]; simp
      · by_cases hr : r = []
        · rw [hr, at_root]; simp
        · exact (at_mem hr).2 h
    have := paths_all hg (m := 65) (s := r) (p := []) (by simpa using hr) (by
      cases hx : fs.at r with
      | none => exact absurd hx hr
      | some x => have := (hg.okp r x hx).1; omega)
    simpa using this
/-- Two file systems at which the same stands have the same tree. -/
theorem paths_congr {f g : FS} (hf : (f.map (·.1)).Nodup) (hg : (g.map (·.1)).Nodup) (h : ∀ r, f.at r = g.at r) : ∀ (m : Nat) (p : Pth), pathsL f m p = pathsL g m p
  | 0, p => rfl
  | m + 1, p => by
    rw [pathsL, pathsL, kids_congr hf hg h p]
    congr 1
    congr 1
    funext k
    exact paths_congr hf hg h m (p ++ [k])
theorem treeL_congr {f g : FS} (hf : (f.map (·.1)).Nodup) (hg : (g.map (·.1)).Nodup) (h : ∀ r, f.at r = g.at r) (m : Nat) (p : Pth) : treeL f m p = treeL g m p := by
  unfold treeL
  rw [paths_congr hf hg h m p]
  have : entF f = entF g := by funext r; unfold entF; rw [h r]
  rw [this]
/-- The text of what stands in a directory. -/
theorem tx_below {p : Pth} (hp : p ≠ []) (k : Nm) : tx (p ++ [k]) = tx p ++ ⟨#[47]⟩ ++ nb k := by
  rw [tx_snoc hp]
  apply ByteArray.ext
  simp [nb]
theorem tx_one (k : Nm) : tx [k] = nb k := rfl
theorem tx_nil : tx [] = ⟨#[]⟩ := rfl
theorem tx_ne {p : Pth} (hp : p ≠ []) (ho : okP p) : tx p ≠ ⟨#[]⟩ := fun e => by
  have h1 := parts_tx hp ho
  rw [e] at h1
  cases h1
  exact hp rfl
theorem tx_size {p : Pth} (ho : okP p) : (tx p).size ≤ 4096 := by
  have : (tx p).size = (joinL 47 p).length := nb_size _
  have := ho.2.1
  omega
/-- A path's text is told by its parts. -/
theorem tx_parts {s : ByteArray} {p : Pth} (h : partsF s = .ok p) : s = tx p := by
  by_cases hp : p = []
  · subst hp
    have hz : s.size = 0 := by
      unfold partsF at h
      split at h
      · cases h
      · split at h
        · assumption
        · split at h
          · cases h
          · split at h
            · cases h
            · exfalso
              have e := Except.ok.inj h
              exact spL_ne _ _ e
    have : s.data = #[] := Array.eq_empty_of_size_eq_zero hz
    apply ByteArray.ext
    rw [this]; rfl
  · have h1 := partsF_text h hp
    have := congrArg nb h1
    rw [nb_list] at this
    exact this
end Go.Proofs.YthojofeocjmglaaGreatDoor.I
/- A rename in memory: what stands at p is taken out of its directory and laid into the other's: the table behind. -/
namespace Go.Proofs.YthojofeocjmglaaGreatDoor.I
open Go.RowKit Go.Proofs.YthojofeocjmglaaGreatDoor.B Go.Sort
set_option linter.unusedVariables false
theorem sb_ne {w : World} {b i : Nat} {o : Obj} (h : i ≠ b) : (Go.ChangeMaps.setBlock w b o).heap[i]? = w.heap[i]? := by
  show (w.heap.setIfInBounds b o)[i]? = _
  rw [Array.getElem?_setIfInBounds_ne (Ne.symm h)]
theorem ren_two {W : World} {L : List Nat} {t by' nd : Nat} {fs : FS} {A M : Pth → Nat} (hT : TabAt W L t fs by' nd A M) (hg : FsOk fs) {pd qd : Pth} {pn qn : Nm} {x y z : Nd} (hp : fs.at (pd ++ [pn]) = some x) (hpd : fs.at pd = some z) (hz : z.kind = 2) (hq : fs.at (qd ++ [qn]) = none) (hqd : fs.at qd = some y) (hy : y.kind = 2) (hpq : ¬ (pd ++ [pn]) <+: qd) :
    ∃ es1 c1, (Builtin.delete_ #[131, 9] 0 #[.map (some (M pd)), .string (nb pn)]).run Tryz.prog W.drew = .ok (.tuple #[]) (Go.ChangeMaps.setBlock W.drew (M pd) (.map es1 c1)) ∧
      ∀ W2, W2 = Go.ChangeMaps.setBlock W.drew (M pd) (.map es1 c1) → ∃ es2 c2, (Instr.mapUpdate 131 (.map (some (M qd))) (.string (nb qn)) (.pointer (some ⟨A (pd ++ [pn]), 0, none⟩))).run Tryz.prog W2.drew = .ok () (Go.ChangeMaps.setBlock W2.drew (M qd) (.map es2 c2)) ∧
        TabAt (Go.ChangeMaps.setBlock W2.drew (M qd) (.map es2 c2)) L t (mvF fs (pd ++ [pn]) (qd ++ [qn])) by' nd (mvA (pd ++ [pn]) (qd ++ [qn]) A) (mvA (pd ++ [pn]) (qd ++ [qn]) M) := by
  obtain ⟨es, c1, K, hK1, hK2, hK3⟩ := hT.kids pd z hpd hz
  have hKp : K.lookup pn = some (.pointer (some ⟨A (pd ++ [pn]), 0, none⟩)) := by rw [hK3, hp]; rfl
  obtain ⟨es1, hdel, hMK⟩ := run_del (P := Tryz.prog) (k2 := 9) (ty := 0) Tryz.underlying131 Tryz.underlying9 (hp_drew hK1) hK2 (nb pn) (.pointer (some ⟨A (pd ++ [pn]), 0, none⟩)) (by rw [list_nb]; exact hKp)
  rw [list_nb] at hMK
  refine ⟨es1, c1, hdel, fun W2 hW2 => ?_⟩
  have hne : pd ++ [pn] ≠ qd ++ [qn] := fun e => by rw [e, hq] at hp; cases hp
  have h1 : W2.heap[M pd]? = some (.map es1 c1) := by rw [hW2]; exact hp_setBlock (hp_drew hK1)
  have hoth : ∀ i, i ≠ M pd → W2.heap[i]? = W.heap[i]? := fun i hi => by rw [hW2, sb_ne hi]; rfl
  have hq2 : ∃ es' c' K', W2.heap[M qd]? = some (.map es' c') ∧ MKids es' c' K' ∧ (∀ n, K'.lookup n = if pd = qd ∧ n = pn then none else (fs.at (qd ++ [n])).map fun _ => (.pointer (some ⟨A (qd ++ [n]), 0, none⟩))) := by
    by_cases e : pd = qd
    · subst e
      refine ⟨es1, c1, _, h1, hMK, fun n => ?_⟩
      rw [look_filter, hK3]
      by_cases hn : n = pn
      · rw [if_pos hn, if_pos ⟨rfl, hn⟩]
      · rw [if_neg hn, if_neg (fun h => hn h.2)]
    · obtain ⟨es', c', K', a1, a2, a3⟩ := hT.kids qd y hqd hy
      refine ⟨es', c', K', ?_, a2, fun n => ?_⟩
      · rw [hoth _ (fun e2 => e (hT.injM _ _ _ _ hpd hqd hz hy e2.symm))]
        exact a1
      · rw [a3, if_neg (fun h => e h.1)]
  obtain ⟨es', c', K', a1, a2, a3⟩ := hq2
  have hKq : K'.lookup qn = none := by
    rw [a3]
    split
    · rfl
    · rw [hq]; rfl
  obtain ⟨hup, hMK2⟩ := run_upd (P := Tryz.prog) Tryz.underlying131 Tryz.underlying9 (hp_drew a1) a2 (nb qn) (.pointer (some ⟨A (pd ++ [pn]), 0, none⟩)) (by rw [list_nb]; exact hKq)
  rw [list_nb] at hMK2
  refine ⟨_, _, hup, ?_⟩
  have hfin : ∀ i, i ≠ M pd → i ≠ M qd → (Go.ChangeMaps.setBlock W2.drew (M qd) (.map (es'.push ⟨.string (nb qn), (.pointer (some ⟨A (pd ++ [pn]), 0, none⟩)), c'⟩) (c' + 1))).heap[i]? = W.heap[i]? := fun i h1 h2 => by
    rw [sb_ne h2]
    exact hoth i h1
  refine tab_mv hT hg (by simp) (by simp) hq (hfin _ (Ne.symm (hT.tab_ne_map hpd hz)) (Ne.symm (hT.tab_ne_map hqd hy))) (fun r u hr => hfin _ (hT.ne_map hr hpd hz) (hT.ne_map hr hqd hy)) ?_ ?_
  · show W.heap.size ≤ (W2.heap.setIfInBounds _ _).size
    rw [hW2]
    show W.heap.size ≤ ((W.heap.setIfInBounds _ _).setIfInBounds _ _).size
    simp
  · refine kids_mv hT hg hp hq hpq (fun r u hr hk n1 n2 => hfin _ (fun e => n1 (hT.injM _ _ _ _ hr hpd hk hz e)) (fun e => n2 (hT.injM _ _ _ _ hr hqd hk hy e))) (fun e => ?_) ?_
    · refine ⟨es1, c1, _, ?_, hMK, fun n => ?_⟩
      · rw [sb_ne (fun e2 => e (hT.injM _ _ _ _ hpd hqd hz hy e2))]
        exact h1
      · rw [look_filter, hK3]
    · refine ⟨_, _, _, hp_setBlock (hp_drew a1), hMK2, fun n => ?_⟩
      rw [look_push hKq, a3]
/-- What a rename finds behind its drop. -/
theorem ren_after {fs : FS} (hg : FsOk fs) {a b : ByteArray} {p q d : Pth} {n : Nm} {x y : Nd} (h : RenOk fs a b p q x d n y) : FsOk (delF fs q) ∧ (delF fs q).at p = some x ∧ (delF fs q).at q = none ∧ (delF fs q).at d = some y ∧ ∀ pd pn, p = pd ++ [pn] → ∃ z, (delF fs q).at pd = some z ∧ z.kind = 2 := by
  obtain ⟨pa, pb, hp, ab, at_, rfl, dir, dk, np, no, fits⟩ := h
  have hne : d ++ [n] ≠ [] := by simp
  have hpq : p ≠ d ++ [n] := fun e => ab (parts_inj pa (by rw [e]; exact pb) hp)
  have hg2 := fsOk_del hg hne no
  have AD := fun r => at_del (fs := fs) hne r
  have hdn : d ≠ d ++ [n] := fun e => snoc_ne d n e.symm
  have h1 : (delF fs (d ++ [n])).at p = some x := by rw [AD, if_neg hpq]; exact at_
  refine ⟨hg2, h1, by rw [AD, if_pos rfl], by rw [AD, if_neg hdn]; exact dir, fun pd pn e => ?_⟩
  exact hg2.up pd pn (by rw [← e, h1]; simp)
end Go.Proofs.YthojofeocjmglaaGreatDoor.I
