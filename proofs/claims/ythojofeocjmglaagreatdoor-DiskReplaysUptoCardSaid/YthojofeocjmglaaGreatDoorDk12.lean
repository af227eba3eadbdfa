/- Merged out of these texts: IList, Sys, Done, EqvF, DiskF. -/
import Derived.Test.YthojofeocjmglaaGreatDoorDk8
import Derived.Test.YthojofeocjmglaaGreatDoorDk6
import Derived.Test.YthojofeocjmglaaGreatDoorDk11
import Derived.Test.YthojofeocjmglaaGreatDoorDk7
import Derived.Test.YthojofeocjmglaaGreatDoorDk9
/- The program's List: the walk. -/
namespace Go.Proofs.YthojofeocjmglaaGreatDoor.I
open Go.RowKit Go.Proofs.YthojofeocjmglaaGreatDoor.B Go.Sort
set_option linter.unusedVariables false
/-- List: the error's number, or the directory's path. -/
def listE (fs : FS) (s : ByteArray) : Except Nat Pth := match thereE fs s with
  | .error n => .error n
  | .ok p => match fs.at p with
    | none => .ok p
    | some x => if x.kind = 1 then .error 203 else if x.kind = 3 then .error 204 else .ok p
def ListPost (fs : FS) (b : Nat) (R : Except Nat Pth) (e : Ending) (w' : World) : Prop := match R with
  | .error n => e = .returned (.tuple #[.slice none 0 0, errV n])
  | .ok p => ∃ v, e = .returned (.tuple #[v, .nilIface]) ∧ RowN fs p b w' v
set_option maxRecDepth 100000 in
set_option maxHeartbeats 16000000 in
theorem list_calls (L : List Nat) (t : Nat) (fs : FS) (by' nd : Nat) (A M : Pth → Nat) (s : ByteArray) (w : World) (hT : TabAt w L t fs by' nd A M) (hg : FsOk fs) (hrm : Room fs by' nd) (hm : MaxLenAt w) (hs : s.size ≤ 4294967280) :
    Calls Tryz.prog 57 #[(.pointer (some ⟨t, 0, none⟩)), .string s] w fun e w' => ListPost fs w.heap.size (listE fs s) e w' ∧ Chg [] w w' := by
  have HP := Asd.mk (there_calls L t fs by' nd A M s w hT hg hm hs)
  obtain ⟨R, hR⟩ : ∃ R, thereE fs s = R := ⟨_, rfl⟩
  rw [hR] at HP
  cases R with
  | error n =>
    have HA := Asd.mk (show listE fs s = .error n by unfold listE; rw [hR])
    have HN := Asd.mk (thereE_pos hR)
    clear hR hT hg hm hrm
    go_enter Tryz.func57, Tryz.ntmps57
    go_wp2_with fail
    refine HP.out.mono ?_
    rintro e w1 ⟨⟨d, l, k, rfl⟩, hC1⟩
    have HC1 := Asd.mk hC1
    clear hC1
    go_wp2
    go_ret2
    exact ⟨by rw [HA.out]; show _ = Ending.returned (.tuple #[.slice none 0 0, errV n]); simp only [errV]; rw [if_neg HN.out]; rfl, HC1.out.alloc _⟩
  | ok p =>
    obtain ⟨x, hx⟩ := thereE_ok hR
    have hAE : listE fs s = if x.kind = 1 then .error 203 else if x.kind = 3 then .error 204 else .ok p := by unfold listE; rw [hR]; simp only; rw [hx]
    have hkk := hg.kind p x hx
    have HNm := Asd.mk (fun W hW => names_calls L t fs by' nd A M hg hrm p x W hx hW)
    clear hR hm hg hrm
    go_enter Tryz.func57, Tryz.ntmps57
    go_wp2_with fail
    refine HP.out.mono ?_
    rintro e w1 ⟨hPo, hC1⟩
    have hPo2 : e = .returned (.tuple #[.agg #[.pointer (dirA A p), .string (lastS p), .pointer (some ⟨A p, 0, none⟩)], .nilIface]) := hPo
    subst hPo2
    obtain ⟨dp, hdp⟩ : ∃ d, dirA A p = d := ⟨_, rfl⟩
    obtain ⟨ls, hls⟩ : ∃ d, lastS p = d := ⟨_, rfl⟩
    rw [hdp, hls]
    have HC1 := Asd.mk hC1
    clear hC1 hPo HP hdp hls
    go_upto_region 4 with fail
    refine wp_opaque2 (fun W hW => ?_)
    have HCW := Asd.mk (show Chg [] w W by rw [hW]; exact HC1.out.alloc _)
    have HB := Asd.mk (show W.heap[w1.heap.size]? = some (.cells #[.pointer dp, .string ls, .pointer (some ⟨A p, 0, none⟩)] 127 (0, 0)) by rw [hW]; exact hp_new _ _)
    have hTW := hT.keep0 HCW.out
    obtain ⟨B, hB⟩ : ∃ B, w1.heap.size = B := ⟨_, rfl⟩
    rw [hB] at HB ⊢
    have b2 := cell_of_heap HB.out 2
    clear hW HC1 hB
    have hno := hTW.node p x hx
    have c0 := cell_of_heap hno 0
    have HNN := Asd.mk (HNm.out W hTW)
    clear hno hTW hT HNm hx
    rcases hkk with hk | hk | hk
    · rw [hk] at c0
      have HA := Asd.mk (show listE fs s = .error 203 by rw [hAE, if_pos hk])
      clear hAE hk
      go_wp2
      go_ret2
      exact ⟨by rw [HA.out]; rfl, HCW.out⟩
    · rw [hk] at c0
      have HA := Asd.mk (show listE fs s = .ok p by rw [hAE, if_neg (by omega), if_neg (by omega)])
      clear hAE hk
      go_wp2_with fail
      refine HNN.out.mono ?_
      rintro e w2 ⟨hN, hC2⟩
      obtain ⟨v, rfl, l, hN1, hN2, hN3⟩ := hN
      have hN := show RowN fs p w.heap.size w2 v from ⟨l, hN1, hN2, own_mono hN3 HCW.out.size⟩
      have HN := Asd.mk hN
      have HC2 := Asd.mk (HCW.out.trans hC2)
      clear hN hN1 hN2 hN3 hC2
      go_wp2
      go_ret2
      exact ⟨by rw [HA.out]; exact ⟨v, rfl, HN.out⟩, HC2.out⟩
    · rw [hk] at c0
      have HA := Asd.mk (show listE fs s = .error 204 by rw [hAE, if_neg (by omega), if_pos hk])
      clear hAE hk
      go_wp2
      go_ret2
      exact ⟨by rw [HA.out]; rfl, HCW.out⟩
end Go.Proofs.YthojofeocjmglaaGreatDoor.I
/- A file system whose blocks are all new since some world: each call's contract over it. -/
namespace Go.Proofs.YthojofeocjmglaaGreatDoor.I
open Go.RowKit Go.Proofs.YthojofeocjmglaaGreatDoor.B Go.Sort
set_option linter.unusedVariables false
/-- What has turned in new blocks alone. -/
theorem Chg.fresh {L : List Nat} {a c : World} (h : Chg L a c) (hL : ∀ i ∈ L, a.heap.size ≤ i) : Chg [] a c :=
  ⟨h.os, h.tape, h.output, h.size, fun i hi _ => h.block i hi fun hm => by have := hL i hm; omega⟩
/-- A file system that has been made since w. -/
def Sys (w W : World) (t : Nat) (fs : FS) (by' nd : Nat) : Prop := Chg [] w W ∧ FsOk fs ∧ Room fs by' nd ∧ ∃ L A M, TabAt W L t fs by' nd A M ∧ ∀ i ∈ L, w.heap.size ≤ i
theorem Sys.chg {w W W' : World} {t : Nat} {fs : FS} {by' nd : Nat} (h : Sys w W t fs by' nd) (hC : Chg [] W W') : Sys w W' t fs by' nd := by
  obtain ⟨h1, h2, h3, L, A, M, h4, h5⟩ := h
  exact ⟨h1.trans hC, h2, h3, L, A, M, h4.keep0 hC, h5⟩
theorem Sys.op {w W W' : World} {t : Nat} {by' nd : Nat} {L : List Nat} {R : Nat × FS} {e : Ending} (hC : Chg [] w W) (h5 : ∀ i ∈ L, w.heap.size ≤ i) (h : OpPost W L t by' nd R e W') (hk : FsOk R.2 ∧ Room R.2 by' nd) : e = .returned (errV R.1) ∧ Sys w W' t R.2 by' nd := by
  obtain ⟨h1, h2, L', A', M', h3, h4⟩ := h
  exact ⟨h1, Chg.fresh ((hC.mono (by simp)).trans h2) h5, hk.1, hk.2, L', A', M', h3, fun i hi => by
    rcases h4 i hi with h6 | h6
    · exact h5 i h6
    · exact Nat.le_trans hC.size h6⟩
theorem sys_new (b n : Nat) (w W : World) (hC : Chg [] w W) (hb : b ≤ 2147483647) (hn : n ≤ 65536) :
    Calls Tryz.prog 32 #[.int .i64 (b : Int), .int .i64 (n : Int)] W fun e w' => ∃ t, e = .returned (.tuple #[(.pointer (some ⟨t, 0, none⟩)), .nilIface]) ∧ Sys w w' t [] b n := by
  refine (new_ok b n W hb hn).mono ?_
  rintro e w' ⟨t, L, A, M, rfl, h1, h2, h3⟩
  exact ⟨t, rfl, hC.trans h1, fsOk_nil, ⟨hb, hn, by unfold usedF; simp, by simp⟩, L, A, M, h2, fun i hi => Nat.le_trans hC.size (h3 i hi)⟩
variable {w W : World} {t : Nat} {fs : FS} {by' nd : Nat}
theorem sys_make (s : ByteArray) (h : Sys w W t fs by' nd) (hm : MaxLenAt w) (hs : s.size ≤ 4294967280) :
    Calls Tryz.prog 70 #[(.pointer (some ⟨t, 0, none⟩)), .string s] W fun e w' => e = .returned (errV (makeF fs by' nd s).1) ∧ Sys w w' t (makeF fs by' nd s).2 by' nd := by
  obtain ⟨h1, h2, h3, L, A, M, h4, h5⟩ := h
  exact (make_calls L t fs by' nd A M s W h4 h2 h3 (hm.chg h1) hs).mono fun e w' hp => Sys.op h1 h5 hp (makeF_keep h2 h3 s)
theorem sys_create (s : ByteArray) (h : Sys w W t fs by' nd) (hm : MaxLenAt w) (hs : s.size ≤ 4294967280) :
    Calls Tryz.prog 64 #[(.pointer (some ⟨t, 0, none⟩)), .string s] W fun e w' => e = .returned (errV (createF fs by' nd s).1) ∧ Sys w w' t (createF fs by' nd s).2 by' nd := by
  obtain ⟨h1, h2, h3, L, A, M, h4, h5⟩ := h
  exact (create_calls L t fs by' nd A M s W h4 h2 h3 (hm.chg h1) hs).mono fun e w' hp => Sys.op h1 h5 hp (createF_keep h2 h3 s)
theorem sys_append (s z : ByteArray) (h : Sys w W t fs by' nd) (hm : MaxLenAt w) (hs : s.size ≤ 4294967280) (hz : z.size ≤ 4294967280) :
    Calls Tryz.prog 67 #[(.pointer (some ⟨t, 0, none⟩)), .string s, .string z] W fun e w' => e = .returned (errV (appendF fs by' s z).1) ∧ Sys w w' t (appendF fs by' s z).2 by' nd := by
  obtain ⟨h1, h2, h3, L, A, M, h4, h5⟩ := h
  exact (append_calls L t fs by' nd A M s z W h4 h2 h3 (hm.chg h1) hs hz).mono fun e w' hp => Sys.op h1 h5 hp (appendF_keep h2 h3 s z)
theorem renameF_keep {fs : FS} (hg : FsOk fs) {by' nd : Nat} (hr : Room fs by' nd) (a b : ByteArray) : FsOk (renameF fs a b).2 ∧ Room (renameF fs a b).2 by' nd := by
  by_cases hne : (renameF fs a b).2 = fs
  · rw [hne]; exact ⟨hg, hr⟩
  · unfold renameF at hne ⊢
    cases hR : partsF a with
    | error n => rw [hR] at hne; exact absurd rfl hne
    | ok p =>
      rw [hR] at hne
      simp only at hne ⊢
      cases hR2 : partsF b with
      | error n => rw [hR2] at hne; exact absurd rfl hne
      | ok q =>
        rw [hR2] at hne
        simp only at hne ⊢
        by_cases hp0 : p = []
        · rw [if_pos hp0] at hne; exact absurd rfl hne
        · rw [if_neg hp0] at hne ⊢
          by_cases hq0 : q = []
          · rw [if_pos hq0] at hne; exact absurd rfl hne
          · rw [if_neg hq0] at hne ⊢
            cases hw : wayE fs p with
            | some n => rw [hw] at hne; exact absurd rfl hne
            | none =>
              rw [hw] at hne
              simp only at hne ⊢
              cases hx : fs.at p with
              | none => rw [hx] at hne; exact absurd rfl hne
              | some x =>
                rw [hx] at hne
                simp only at hne ⊢
                by_cases hnb : x.kind = 2 ∧ a ≠ b ∧ belowB a b = true
                · rw [if_pos hnb] at hne; exact absurd rfl hne
                · rw [if_neg hnb] at hne ⊢
                  cases hwq : wayE fs q with
                  | some n => rw [hwq] at hne; exact absurd rfl hne
                  | none =>
                    rw [hwq] at hne
                    simp only at hne ⊢
                    by_cases hab : a = b
                    · rw [if_pos hab] at hne; exact absurd rfl hne
                    · rw [if_neg hab] at hne ⊢
                      by_cases hg0 : givesF fs q x ≠ 0
                      · rw [if_pos hg0] at hne; exact absurd rfl hne
                      · rw [if_neg hg0] at hne ⊢
                        by_cases hf : ¬ fitsP fs p b.data.toList
                        · rw [if_pos hf] at hne; exact absurd rfl hne
                        · rw [if_neg hf] at hne ⊢
                          obtain ⟨y, hO⟩ := ren_ok hg hR hR2 hp0 hab hx hnb (List.dropLast_concat_getLast hq0).symm hwq (Classical.not_not.1 hg0) (Classical.not_not.1 hf)
                          exact hO.sound hg hr
theorem sys_rename (a b : ByteArray) (h : Sys w W t fs by' nd) (hm : MaxLenAt w) (ha : a.size ≤ 4294967280) (hb : b.size ≤ 4294967280) :
    Calls Tryz.prog 74 #[(.pointer (some ⟨t, 0, none⟩)), .string a, .string b] W fun e w' => e = .returned (errV (renameF fs a b).1) ∧ Sys w w' t (renameF fs a b).2 by' nd := by
  obtain ⟨h1, h2, h3, L, A, M, h4, h5⟩ := h
  exact (rename_calls L t fs by' nd A M a b W h4 h2 h3 (hm.chg h1) ha hb).mono fun e w' hp => Sys.op h1 h5 hp (renameF_keep h2 h3 a b)
theorem sys_look (s : ByteArray) (h : Sys w W t fs by' nd) (hm : MaxLenAt w) (hs : s.size ≤ 4294967280) :
    Calls Tryz.prog 89 #[(.pointer (some ⟨t, 0, none⟩)), .string s] W fun e w' => e = .returned (.tuple #[entV (lookF fs s).2, errV (lookF fs s).1]) ∧ Chg [] W w' := by
  obtain ⟨h1, h2, h3, L, A, M, h4, h5⟩ := h
  exact look_calls L t fs by' nd A M s W h4 h2 (hm.chg h1) hs
theorem sys_read (s : ByteArray) (h : Sys w W t fs by' nd) (hm : MaxLenAt w) (hs : s.size ≤ 4294967280) :
    Calls Tryz.prog 68 #[(.pointer (some ⟨t, 0, none⟩)), .string s] W fun e w' => e = .returned (.tuple #[.string (readF fs s).2, errV (readF fs s).1]) ∧ Chg [] W w' := by
  obtain ⟨h1, h2, h3, L, A, M, h4, h5⟩ := h
  exact read_calls L t fs by' nd A M s W h4 h2 (hm.chg h1) hs
theorem sys_list (s : ByteArray) (h : Sys w W t fs by' nd) (hm : MaxLenAt w) (hs : s.size ≤ 4294967280) :
    Calls Tryz.prog 57 #[(.pointer (some ⟨t, 0, none⟩)), .string s] W fun e w' => ListPost fs W.heap.size (listE fs s) e w' ∧ Chg [] W w' := by
  obtain ⟨h1, h2, h3, L, A, M, h4, h5⟩ := h
  exact list_calls L t fs by' nd A M s W h4 h2 h3 (hm.chg h1) hs
theorem sys_used (h : Sys w W t fs by' nd) :
    Calls Tryz.prog 88 #[(.pointer (some ⟨t, 0, none⟩))] W fun e w' => e = .returned (.tuple #[.int .i64 (usedF fs : Int), .int .i64 (fs.length : Int)]) ∧ Chg [] W w' := by
  obtain ⟨h1, h2, h3, L, A, M, h4, h5⟩ := h
  exact used_calls L t fs by' nd A M W h4
end Go.Proofs.YthojofeocjmglaaGreatDoor.I
/- The law's done: a call on the program's file system, by its kind. The walk. -/
namespace Go.Proofs.YthojofeocjmglaaGreatDoor.I
open Go.RowKit Go.Proofs.YthojofeocjmglaaGreatDoor.B Go.Sort
set_option linter.unusedVariables false
structure OpV where
  kind : Int
  a : ByteArray
  b : ByteArray
open Classical in
noncomputable def opF (fs : FS) (by' nd : Nat) (o : OpV) : Nat × FS :=
  if o.kind = 1 then makeF fs by' nd o.a else if o.kind = 2 then createF fs by' nd o.a else if o.kind = 3 then appendF fs by' o.a o.b else if o.kind = 4 then linkF fs by' nd o.a o.b else if o.kind = 5 then renameF fs o.a o.b else removeF fs o.a
theorem opF_keep {fs : FS} (hg : FsOk fs) {by' nd : Nat} (hr : Room fs by' nd) (o : OpV) : FsOk (opF fs by' nd o).2 ∧ Room (opF fs by' nd o).2 by' nd := by
  unfold opF
  split
  · exact makeF_keep hg hr _
  · split
    · exact createF_keep hg hr _
    · split
      · exact appendF_keep hg hr _ _
      · split
        · exact linkF_keep hg hr _ _
        · split
          · exact renameF_keep hg hr _ _
          · exact removeF_keep hg hr _
theorem OpPost.pre {w w1 : World} {L : List Nat} {t by' nd : Nat} {R : Nat × FS} {e : Ending} {w' : World} (hC : Chg [] w w1) (h : OpPost w1 L t by' nd R e w') : OpPost w L t by' nd R e w' := by
  obtain ⟨h1, h2, L', A', M', h3, h4⟩ := h
  exact ⟨h1, (hC.mono (by simp)).trans h2, L', A', M', h3, fun i hi => by
    rcases h4 i hi with h | h
    · exact .inl h
    · exact .inr (Nat.le_trans hC.size h)⟩
end Go.Proofs.YthojofeocjmglaaGreatDoor.I
/- Two file systems in which the same stands: whatever is done, the same is answered, and the same stands then. Plain. -/
namespace Go.Proofs.YthojofeocjmglaaGreatDoor.I
open Go.RowKit Go.Proofs.YthojofeocjmglaaGreatDoor.B Go.Sort
set_option linter.unusedVariables false
structure Eqv (f g : FS) : Prop where
  f_ok : FsOk f
  g_ok : FsOk g
  at_ : ∀ r, f.at r = g.at r
theorem Eqv.refl {f : FS} (h : FsOk f) : Eqv f f := ⟨h, h, fun _ => rfl⟩
theorem Eqv.symm {f g : FS} (h : Eqv f g) : Eqv g f := ⟨h.g_ok, h.f_ok, fun r => (h.at_ r).symm⟩
theorem Eqv.trans {f g k : FS} (h : Eqv f g) (h' : Eqv g k) : Eqv f k := ⟨h.f_ok, h'.g_ok, fun r => (h.at_ r).trans (h'.at_ r)⟩
theorem nodup_pairs {f : FS} (h : (f.map (·.1)).Nodup) : f.Nodup := by
  induction f with
  | nil => simp
  | cons a f ih =>
    rw [List.map_cons, List.nodup_cons] at h
    exact List.nodup_cons.2 ⟨fun hm => h.1 (List.mem_map.2 ⟨a, hm, rfl⟩), ih h.2⟩
theorem mem_at {f : FS} (hd : (f.map (·.1)).Nodup) (hne : ∀ x ∈ f, x.1 ≠ []) {y : Pth × Nd} : y ∈ f ↔ y.1 ≠ [] ∧ f.at y.1 = some y.2 := by
  constructor
  · intro h
    exact ⟨hne y h, by rw [at_ne f (hne y h)]; exact mem_lookup hd h⟩
  · rintro ⟨h1, h2⟩
    rw [at_ne f h1] at h2
    exact lookup_mem h2
theorem perm_of_at {f g : FS} (hf : (f.map (·.1)).Nodup) (hg : (g.map (·.1)).Nodup) (nf : ∀ x ∈ f, x.1 ≠ []) (ng : ∀ x ∈ g, x.1 ≠ []) (h : ∀ r, f.at r = g.at r) : f.Perm g := by
  refine (List.perm_ext_iff_of_nodup (nodup_pairs hf) (nodup_pairs hg)).2 fun y => ?_
  rw [mem_at hf nf, mem_at hg ng, h]
theorem nsum_perm {l m : List Nat} (h : l.Perm m) : l.sum = m.sum := by
  induction h with
  | nil => rfl
  | cons x _ ih => simp [ih]
  | swap x y l => simp; omega
  | trans _ _ h1 h2 => exact h1.trans h2
theorem used_perm {f g : FS} (h : f.Perm g) : usedF f = usedF g := nsum_perm (h.map _)
theorem Eqv.perm {f g : FS} (h : Eqv f g) : f.Perm g := perm_of_at h.f_ok.nodup h.g_ok.nodup h.f_ok.ne h.g_ok.ne h.at_
theorem Eqv.len {f g : FS} (h : Eqv f g) : f.length = g.length := h.perm.length_eq
theorem Eqv.used {f g : FS} (h : Eqv f g) : usedF f = usedF g := used_perm h.perm
theorem Eqv.tree {f g : FS} (h : Eqv f g) : treeL f 65 [] = treeL g 65 [] := treeL_congr h.f_ok.nodup h.g_ok.nodup h.at_ 65 []
theorem Eqv.room {f g : FS} (h : Eqv f g) {b n : Nat} (hr : Room f b n) : Room g b n := ⟨hr.b, hr.n, by rw [← h.used]; exact hr.used, by rw [← h.len]; exact hr.count⟩
theorem wayFrom_congr {f g : FS} (h : ∀ r, f.at r = g.at r) : ∀ (r d : Pth), wayFrom f d r = wayFrom g d r
  | [], _ => rfl
  | [_], _ => rfl
  | n :: m :: r, d => by
    simp only [wayFrom]
    rw [h, wayFrom_congr h (m :: r) (d ++ [n])]
theorem atE_congr {f g : FS} (h : ∀ r, f.at r = g.at r) (s : ByteArray) : atE f s = atE g s := by
  unfold atE wayE
  cases partsF s with
  | error n => rfl
  | ok p => simp only; rw [wayFrom_congr h]
theorem thereE_congr {f g : FS} (h : ∀ r, f.at r = g.at r) (s : ByteArray) : thereE f s = thereE g s := by
  unfold thereE
  rw [atE_congr h]
  cases atE g s with
  | error n => rfl
  | ok p => simp only; rw [h]
theorem kids_congr' {f g : FS} (h : ∀ r, f.at r = g.at r) (p : Pth) : hasKids f p ↔ hasKids g p := by
  unfold hasKids
  constructor
  · rintro ⟨k, hk⟩; exact ⟨k, by rw [← h]; exact hk⟩
  · rintro ⟨k, hk⟩; exact ⟨k, by rw [h]; exact hk⟩
theorem fits_congr {f g : FS} (h : ∀ r, f.at r = g.at r) (p : Pth) (s : Nm) : fitsP f p s ↔ fitsP g p s := by
  unfold fitsP
  constructor
  · intro hf r hr; exact hf r (by rw [h]; exact hr)
  · intro hf r hr; exact hf r (by rw [← h]; exact hr)
theorem gives_congr {f g : FS} (h : ∀ r, f.at r = g.at r) (p : Pth) (x : Nd) : givesF f p x = givesF g p x := by
  unfold givesF
  rw [h]
  cases g.at p with
  | none => rfl
  | some y =>
    have e : hasKids f p = hasKids g p := propext (kids_congr' h p)
    simp only
    rw [e]
/-- What two calls leave: the same number, the same at each path. -/
def Same2 (A B : Nat × FS) : Prop := A.1 = B.1 ∧ ∀ r, A.2.at r = B.2.at r
theorem put_same {f g : FS} (h : Eqv f g) {b n : Nat} {p : Pth} {x : Nd} (hp : p ≠ []) (hn : f.at p = none) : Same2 (putF f b n p x) (putF g b n p x) := by
  have hfull : fullF f b n x.text.size ↔ fullF g b n x.text.size := by unfold fullF; rw [h.len, h.used]
  unfold putF
  by_cases hf : fullF f b n x.text.size
  · rw [if_pos hf, if_pos (hfull.1 hf)]
    exact ⟨rfl, h.at_⟩
  · rw [if_neg hf, if_neg (fun e => hf (hfull.2 e))]
    refine ⟨rfl, fun r => ?_⟩
    rw [at_put x hp hn, at_put x hp (by rw [← h.at_]; exact hn), h.at_]
theorem set_same {f g : FS} (h : Eqv f g) {p : Pth} {x y : Nd} (hp : p ≠ []) (hy : f.at p = some y) : ∀ r, (setF f p x).at r = (setF g p x).at r := fun r => by
  rw [at_set x hp hy, at_set x hp (by rw [← h.at_]; exact hy), h.at_]
theorem del_same {f g : FS} (h : Eqv f g) {p : Pth} (hp : p ≠ []) : ∀ r, (delF f p).at r = (delF g p).at r := fun r => by
  rw [at_del hp, at_del hp, h.at_]
theorem make_same {f g : FS} (h : Eqv f g) (b n : Nat) (s : ByteArray) : Same2 (makeF f b n s) (makeF g b n s) := by
  unfold makeF
  rw [← atE_congr h.at_ s]
  cases hs : atE f s with
  | error e => exact ⟨rfl, h.at_⟩
  | ok p =>
    simp only
    rw [← h.at_ p]
    cases hp : f.at p with
    | some x => exact ⟨rfl, h.at_⟩
    | none => exact put_same h (fun e => by rw [e, at_root] at hp; cases hp) hp
theorem create_same {f g : FS} (h : Eqv f g) (b n : Nat) (s : ByteArray) : Same2 (createF f b n s) (createF g b n s) := by
  unfold createF
  rw [← atE_congr h.at_ s]
  cases hs : atE f s with
  | error e => exact ⟨rfl, h.at_⟩
  | ok p =>
    simp only
    rw [← h.at_ p]
    cases hp : f.at p with
    | none => exact put_same h (fun e => by rw [e, at_root] at hp; cases hp) hp
    | some x =>
      simp only
      by_cases h2 : x.kind = 2
      · rw [if_pos h2, if_pos h2]; exact ⟨rfl, h.at_⟩
      · rw [if_neg h2, if_neg h2]
        by_cases h3 : x.kind = 3
        · rw [if_pos h3, if_pos h3]; exact ⟨rfl, h.at_⟩
        · rw [if_neg h3, if_neg h3]
          exact ⟨rfl, set_same h (fun e => by rw [e, at_root] at hp; cases hp; exact h2 rfl) hp⟩
theorem append_same {f g : FS} (h : Eqv f g) (b : Nat) (s z : ByteArray) : Same2 (appendF f b s z) (appendF g b s z) := by
  unfold appendF
  rw [← thereE_congr h.at_ s]
  cases hs : thereE f s with
  | error e => exact ⟨rfl, h.at_⟩
  | ok p =>
    simp only
    rw [← h.at_ p]
    cases hp : f.at p with
    | none => exact ⟨rfl, h.at_⟩
    | some x =>
      simp only
      rw [← h.used]
      by_cases h2 : x.kind = 2
      · rw [if_pos h2, if_pos h2]; exact ⟨rfl, h.at_⟩
      · rw [if_neg h2, if_neg h2]
        by_cases h3 : x.kind = 3
        · rw [if_pos h3, if_pos h3]; exact ⟨rfl, h.at_⟩
        · rw [if_neg h3, if_neg h3]
          by_cases h4 : 4194304 < x.text.size + z.size
          · rw [if_pos h4, if_pos h4]; exact ⟨rfl, h.at_⟩
          · rw [if_neg h4, if_neg h4]
            by_cases h5 : b < usedF f + z.size
            · rw [if_pos h5, if_pos h5]; exact ⟨rfl, h.at_⟩
            · rw [if_neg h5, if_neg h5]
              exact ⟨rfl, set_same h (fun e => by rw [e, at_root] at hp; cases hp; exact h2 rfl) hp⟩
theorem link_same {f g : FS} (h : Eqv f g) (b n : Nat) (z s : ByteArray) : Same2 (linkF f b n z s) (linkF g b n z s) := by
  unfold linkF
  by_cases hb : badT z
  · rw [if_pos hb, if_pos hb]; exact ⟨rfl, h.at_⟩
  · rw [if_neg hb, if_neg hb, ← atE_congr h.at_ s]
    cases hs : atE f s with
    | error e => exact ⟨rfl, h.at_⟩
    | ok p =>
      simp only
      rw [← h.at_ p]
      cases hp : f.at p with
      | some x => exact ⟨rfl, h.at_⟩
      | none => exact put_same h (fun e => by rw [e, at_root] at hp; cases hp) hp
theorem remove_same {f g : FS} (h : Eqv f g) (s : ByteArray) : Same2 (removeF f s) (removeF g s) := by
  unfold removeF
  rw [← atE_congr h.at_ s]
  cases hs : atE f s with
  | error e => exact ⟨rfl, h.at_⟩
  | ok p =>
    simp only
    by_cases h0 : p = []
    · rw [if_pos h0, if_pos h0]; exact ⟨rfl, h.at_⟩
    · rw [if_neg h0, if_neg h0, ← h.at_ p]
      cases hp : f.at p with
      | none => exact ⟨rfl, h.at_⟩
      | some x =>
        simp only
        by_cases hk : hasKids f p
        · rw [if_pos hk, if_pos ((kids_congr' h.at_ p).1 hk)]; exact ⟨rfl, h.at_⟩
        · rw [if_neg hk, if_neg (fun e => hk ((kids_congr' h.at_ p).2 e))]
          exact ⟨rfl, del_same h h0⟩
theorem mv_same {f g : FS} (h : Eqv f g) {a b : ByteArray} {p q d : Pth} {n : Nm} {x y : Nd} (hO : RenOk f a b p q x d n y) (hO' : RenOk g a b p q x d n y) : ∀ r, (mvF (delF f q) p q).at r = (mvF (delF g q) p q).at r := fun r => by
  have hq0 : q ≠ [] := by rw [hO.qe]; simp
  obtain ⟨a1, a2, a3, _, _⟩ := ren_after h.f_ok hO
  obtain ⟨b1, b2, b3, _, _⟩ := ren_after h.g_ok hO'
  rw [at_mv a1 hO.hp hq0 a3, at_mv b1 hO.hp hq0 b3, del_same h hq0, del_same h hq0]
theorem rename_same {f g : FS} (h : Eqv f g) (a b : ByteArray) : Same2 (renameF f a b) (renameF g a b) := by
  unfold renameF
  cases hR : partsF a with
  | error n => exact ⟨rfl, h.at_⟩
  | ok p =>
    cases hR2 : partsF b with
    | error n => exact ⟨rfl, h.at_⟩
    | ok q =>
      simp only
      by_cases hp0 : p = []
      · rw [if_pos hp0, if_pos hp0]; exact ⟨rfl, h.at_⟩
      · rw [if_neg hp0, if_neg hp0]
        by_cases hq0 : q = []
        · rw [if_pos hq0, if_pos hq0]; exact ⟨rfl, h.at_⟩
        · rw [if_neg hq0, if_neg hq0]
          have ew : wayE g p = wayE f p := (wayFrom_congr h.at_ p []).symm
          have ew2 : wayE g q = wayE f q := (wayFrom_congr h.at_ q []).symm
          rw [ew]
          cases hw : wayE f p with
          | some n => exact ⟨rfl, h.at_⟩
          | none =>
            simp only
            rw [← h.at_ p]
            cases hx : f.at p with
            | none => exact ⟨rfl, h.at_⟩
            | some x =>
              simp only
              by_cases hnb : x.kind = 2 ∧ a ≠ b ∧ belowB a b = true
              · rw [if_pos hnb, if_pos hnb]; exact ⟨rfl, h.at_⟩
              · rw [if_neg hnb, if_neg hnb, ew2]
                cases hwq : wayE f q with
                | some n => exact ⟨rfl, h.at_⟩
                | none =>
                  simp only
                  by_cases hab : a = b
                  · rw [if_pos hab, if_pos hab]; exact ⟨rfl, h.at_⟩
                  · rw [if_neg hab, if_neg hab, ← gives_congr h.at_ q x]
                    by_cases hg0 : givesF f q x ≠ 0
                    · rw [if_pos hg0, if_pos hg0]; exact ⟨rfl, h.at_⟩
                    · rw [if_neg hg0, if_neg hg0]
                      by_cases hf : ¬ fitsP f p b.data.toList
                      · rw [if_pos hf, if_pos (fun e => hf ((fits_congr h.at_ p _).2 e))]; exact ⟨rfl, h.at_⟩
                      · have hff := Classical.not_not.1 hf
                        rw [if_neg hf, if_neg (fun e => e ((fits_congr h.at_ p _).1 hff))]
                        have hg1 := Classical.not_not.1 hg0
                        obtain ⟨y, hO⟩ := ren_ok h.f_ok hR hR2 hp0 hab hx hnb (List.dropLast_concat_getLast hq0).symm hwq hg1 hff
                        obtain ⟨y', hO'⟩ := ren_ok h.g_ok hR hR2 hp0 hab (by rw [← h.at_]; exact hx) hnb (List.dropLast_concat_getLast hq0).symm (by rw [ew2]; exact hwq) (by rw [← gives_congr h.at_]; exact hg1) ((fits_congr h.at_ p _).1 hff)
                        have e := hO'.dir
                        rw [← h.at_, hO.dir] at e
                        cases e
                        exact ⟨rfl, mv_same h hO hO'⟩
theorem op_same {f g : FS} (h : Eqv f g) (b n : Nat) (o : OpV) : Same2 (opF f b n o) (opF g b n o) := by
  unfold opF
  split
  · exact make_same h b n _
  · split
    · exact create_same h b n _
    · split
      · exact append_same h b _ _
      · split
        · exact link_same h b n _ _
        · split
          · exact rename_same h _ _
          · exact remove_same h _
theorem op_eqv {f g : FS} (h : Eqv f g) {b n : Nat} (hr : Room f b n) (o : OpV) : (opF f b n o).1 = (opF g b n o).1 ∧ Eqv (opF f b n o).2 (opF g b n o).2 := by
  obtain ⟨h1, h2⟩ := op_same h b n o
  exact ⟨h1, (opF_keep h.f_ok hr o).1, (opF_keep h.g_ok (h.room hr) o).1, h2⟩
end Go.Proofs.YthojofeocjmglaaGreatDoor.I
/- A file system that crashes, plainly: what is now, what is safe, what was done since. No program in sight. -/
namespace Go.Proofs.YthojofeocjmglaaGreatDoor.I
open Go.RowKit Go.Proofs.YthojofeocjmglaaGreatDoor.B Go.Sort
set_option linter.unusedVariables false
structure DK where
  now : FS
  safe : FS
  log : List OpV
  steps : Nat
  fails : Nat
  downs : Nat
  keep : Nat
  off : Bool
/-- All of these operations, whatever they answer. -/
noncomputable def runAll (b n : Nat) (fs : FS) (l : List OpV) : FS := l.foldl (fun f o => (opF f b n o).2) fs
def newD : DK := ⟨[], [], [], 0, 0, 0, 0, false⟩
/-- An operation is counted: the error, if it is not to be done. -/
noncomputable def countD (b n : Nat) (d : DK) : Nat × DK :=
  if d.off then (211, d)
  else if d.steps + 1 = d.downs then (211, { d with steps := d.steps + 1, off := true, now := runAll b n d.safe (d.log.take d.keep) })
  else if d.steps + 1 = d.fails then (210, { d with steps := d.steps + 1 })
  else (0, { d with steps := d.steps + 1 })
/-- An operation. -/
noncomputable def doD (b n : Nat) (d : DK) (o : OpV) : Nat × DK :=
  if (countD b n d).1 ≠ 0 then countD b n d
  else if (opF (countD b n d).2.now b n o).1 ≠ 0 then ((opF (countD b n d).2.now b n o).1, (countD b n d).2)
  else (0, { (countD b n d).2 with now := (opF (countD b n d).2.now b n o).2, log := (countD b n d).2.log ++ [o] })
noncomputable def syncD (b n : Nat) (d : DK) : Nat × DK :=
  if (countD b n d).1 ≠ 0 then countD b n d else (0, { (countD b n d).2 with safe := (countD b n d).2.now, log := [] })
def startD (d : DK) : Nat × DK := if d.off then (0, { d with off := false, log := [], fails := 0, downs := 0, safe := d.now }) else (212, d)
/-- What holds of a disk: it is sound, and its log leads from what is safe to what is now. -/
structure DOk (b n : Nat) (d : DK) : Prop where
  now : FsOk d.now
  safe : FsOk d.safe
  rnow : Room d.now b n
  rsafe : Room d.safe b n
  led : d.off = false → Eqv (runAll b n d.safe d.log) d.now
theorem runAll_keep {b n : Nat} : ∀ (l : List OpV) {fs : FS}, FsOk fs → Room fs b n → FsOk (runAll b n fs l) ∧ Room (runAll b n fs l) b n
  | [], _, h, hr => ⟨h, hr⟩
  | o :: l, fs, h, hr => by
    obtain ⟨h1, h2⟩ := opF_keep h hr o
    exact runAll_keep l h1 h2
theorem runAll_snoc {b n : Nat} (fs : FS) (l : List OpV) (o : OpV) : runAll b n fs (l ++ [o]) = (opF (runAll b n fs l) b n o).2 := by
  unfold runAll
  rw [List.foldl_append]
  rfl
theorem countD_ok {b n : Nat} {d : DK} (h : DOk b n d) : DOk b n (countD b n d).2 := by
  unfold countD
  split
  · exact h
  · split
    · obtain ⟨h1, h2⟩ := runAll_keep (d.log.take d.keep) h.safe h.rsafe
      exact ⟨h1, h.safe, h2, h.rsafe, fun e => by cases e⟩
    · split
      · exact ⟨h.now, h.safe, h.rnow, h.rsafe, h.led⟩
      · exact ⟨h.now, h.safe, h.rnow, h.rsafe, h.led⟩
theorem doD_ok {b n : Nat} {d : DK} (h : DOk b n d) (o : OpV) : DOk b n (doD b n d o).2 := by
  unfold doD
  split
  · exact countD_ok h
  · split
    · exact countD_ok h
    · have hc := countD_ok h
      obtain ⟨k1, k2⟩ := opF_keep hc.now hc.rnow o
      refine ⟨k1, hc.safe, k2, hc.rsafe, fun e => ?_⟩
      show Eqv (runAll b n (countD b n d).2.safe ((countD b n d).2.log ++ [o])) _
      rw [runAll_snoc]
      exact (op_eqv (hc.led e) (runAll_keep _ hc.safe hc.rsafe).2 o).2
theorem syncD_ok {b n : Nat} {d : DK} (h : DOk b n d) : DOk b n (syncD b n d).2 := by
  unfold syncD
  split
  · exact countD_ok h
  · have hc := countD_ok h
    exact ⟨hc.now, hc.now, hc.rnow, hc.rnow, fun _ => Eqv.refl hc.now⟩
theorem startD_ok {b n : Nat} {d : DK} (h : DOk b n d) : DOk b n (startD d).2 := by
  unfold startD
  split
  · exact ⟨h.now, h.now, h.rnow, h.rnow, fun _ => Eqv.refl h.now⟩
  · exact h
theorem newD_ok {b n : Nat} (hb : b ≤ 2147483647) (hn : n ≤ 65536) : DOk b n newD :=
  ⟨fsOk_nil, fsOk_nil, ⟨hb, hn, by simp [newD, usedF], by simp [newD]⟩, ⟨hb, hn, by simp [newD, usedF], by simp [newD]⟩, fun _ => Eqv.refl fsOk_nil⟩
end Go.Proofs.YthojofeocjmglaaGreatDoor.I
