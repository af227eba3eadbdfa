/- Merged out of these texts: IFits, RenDef, RenKeep, RenTwo, RenPre. -/
import Derived.Test.YtiijbecklkccfaaGreatDoorOw6
/- The program's fits: may all paths below a node be, when it stands at a path? The walk: a recursion over maps. -/
namespace Go.Proofs.YtiijbecklkccfaaGreatDoor.I
open Go.RowKit Go.Proofs.YtiijbecklkccfaaGreatDoor.B Go.Sort
set_option linter.unusedVariables false
def glueR (s : Nm) (r : Pth) : Nm := s ++ r.flatMap fun k => 47 :: k
def fitsP (fs : FS) (p : Pth) (s : Nm) : Prop := ∀ r, fs.at (p ++ r) ≠ none → ∃ q, partsF (nb (glueR s r)) = .ok q
theorem fits_root {fs : FS} {p : Pth} {s : Nm} {x : Nd} (hx : fs.at p = some x) (h : fitsP fs p s) : ∃ q, partsF (nb s) = .ok q := by
  have := h [] (by rw [List.append_nil, hx]; simp)
  simpa [glueR] using this
theorem glue_cons (s : Nm) (k : Nm) (r : Pth) : glueR s (k :: r) = glueR (s ++ 47 :: k) r := by simp [glueR]
theorem fits_kid {fs : FS} {p : Pth} {s : Nm} (h : fitsP fs p s) (k : Nm) : fitsP fs (p ++ [k]) (s ++ 47 :: k) := fun r hr => by
  rw [← glue_cons]
  exact h (k :: r) (by simpa using hr)
theorem fits_of {fs : FS} (hg : FsOk fs) {p : Pth} {s : Nm} (h0 : ∃ q, partsF (nb s) = .ok q) (h : ∀ k, fs.at (p ++ [k]) ≠ none → fitsP fs (p ++ [k]) (s ++ 47 :: k)) : fitsP fs p s := by
  intro r hr
  cases r with
  | nil => simpa [glueR] using h0
  | cons k r =>
    rw [glue_cons]
    have hr2 : fs.at ((p ++ [k]) ++ r) ≠ none := by simpa using hr
    refine h k ?_ r hr2
    cases r with
    | nil => simpa using hr2
    | cons m r =>
      obtain ⟨x, hx, _⟩ := hg.prefix hr2 (by simp)
      rw [hx]; simp
theorem parts_size {s : ByteArray} {q : Pth} (h : partsF s = .ok q) : s.size ≤ 4096 := by
  unfold partsF at h
  split at h
  · cases h
  · omega
theorem mem_lookup_kid {K : List (Nm × Value)} (hd : (K.map (·.1)).Nodup) {n : Nm} {v : Value} (h : (n, v) ∈ K) : K.lookup n = some v := by
  induction K with
  | nil => cases h
  | cons a K ih =>
    simp only [List.map_cons, List.nodup_cons] at hd
    rw [List.lookup_cons]
    rcases List.mem_cons.1 h with h1 | h1
    · rw [← h1]; simp
    · have : (n == a.1) = false := by
        simp only [beq_eq_false_iff_ne]
        rintro rfl
        exact hd.1 (List.mem_map.2 ⟨(a.1, v), h1, rfl⟩)
      rw [this]
      exact ih hd.2 h1
theorem lookup_mem_kid {K : List (Nm × Value)} {n : Nm} {v : Value} (h : K.lookup n = some v) : (n, v) ∈ K := by
  induction K with
  | nil => simp at h
  | cons a K ih =>
    rw [List.lookup_cons] at h
    by_cases e : n = a.1
    · subst e
      simp at h
      rw [← h]; simp
    · have : (n == a.1) = false := by simpa using e
      rw [this] at h
      exact List.mem_cons_of_mem _ (ih h)
theorem heap_size_lt {w : World} {i : Nat} {o : Obj} (h : w.heap[i]? = some o) : i < w.heap.size := by
  rcases Nat.lt_or_ge i w.heap.size with h1 | h1
  · exact h1
  · rw [Array.getElem?_eq_none h1] at h; cases h
set_option maxRecDepth 100000 in
set_option maxHeartbeats 16000000 in
theorem fits_calls (L : List Nat) (t : Nat) (fs : FS) (by' nd : Nat) (A M : Pth → Nat) (hg : FsOk fs) : ∀ (m : Nat) (p : Pth) (x : Nd) (s : Nm) (w : World), p.length + m = 65 → fs.at p = some x → s.length ≤ 10000 → TabAt w L t fs by' nd A M → MaxLenAt w →
    Calls Tryz.prog 60 #[(.pointer (some ⟨A p, 0, none⟩)), .string (nb s)] w fun e w' => ∃ b, e = .returned (.bool b) ∧ (b = true ↔ fitsP fs p s) ∧ Chg [] w w'
  | 0, p, x, s, w, hl, hx, _, _, _ => by
    have := (hg.okp p x hx).1
    omega
  | m + 1, p, x, s, w, hl, hx, hs, hT, hm => by
    have IH := Asd.mk (fits_calls L t fs by' nd A M hg m)
    have HP := Asd.mk (parts_calls (nb s) w hm (by rw [nb_size]; omega))
    have HT := Asd.mk hT
    have HG := Asd.mk hg
    obtain ⟨R, hR⟩ : ∃ R, partsF (nb s) = R := ⟨_, rfl⟩
    rw [hR] at HP
    cases R with
    | error n =>
      have HA := Asd.mk (show ¬ fitsP fs p s from fun h => by
        obtain ⟨q, hq⟩ := fits_root hx h
        rw [hR] at hq; cases hq)
      clear hR hT hm hg hx IH
      go_enter Tryz.func60, Tryz.ntmps60
      go_wp2_with fail
      refine HP.out.mono ?_
      rintro e w1 ⟨hP, hC1⟩
      have hP2 : e = .returned (.tuple #[.slice none 0 0, .iface 71 (.int .i64 (n : Int))]) := hP
      subst hP2
      have HC1 := Asd.mk hC1
      clear hC1 hP
      go_wp2
      go_ret
      exact ⟨false, rfl, ⟨fun h => absurd h (by simp), fun h => absurd h HA.out⟩, HC1.out⟩
    | ok q =>
      have hsz := parts_size hR
      have hsl : s.length ≤ 4096 := by rw [nb_size] at hsz; exact hsz
      have HR := Asd.mk (show ∃ q, partsF (nb s) = .ok q from ⟨q, hR⟩)
      obtain ⟨S, hS⟩ : ∃ S, nb s = S := ⟨_, rfl⟩
      have HS := Asd.mk hS
      have HX := Asd.mk hx
      rw [hS] at HP hsz ⊢
      clear hR hT hg hS
      go_enter Tryz.func60, Tryz.ntmps60
      go_wp2_with fail
      refine HP.out.mono ?_
      rintro e w1 ⟨hP, hC1⟩
      have hPV : ∃ A1 n1, e = .returned (.tuple #[.slice A1 n1 n1, .nilIface]) := by
        rcases hP with ⟨h1, h2⟩ | ⟨h1, g, h2, h3⟩
        · exact ⟨none, 0, h2⟩
        · exact ⟨_, _, h2⟩
      obtain ⟨A1, n1, rfl⟩ := hPV
      have HC1 := Asd.mk hC1
      have hT1 := HT.out.keep0 hC1
      have c2 := cell_of_heap (hT1.node p x hx) 2
      have HM1 := Asd.mk (hm.chg hC1)
      have HT1 := Asd.mk hT1
      clear hC1 hP HP hm
      by_cases hk : x.kind = 2
      · rw [if_pos hk] at c2
        obtain ⟨es, clock, K, hK1, hK2, hK3⟩ := hT1.kids p x hx hk
        have hrg := run_range_map (P := Tryz.prog) w1 83 _ _ (M p) es clock Tryz.underlying83 hK1
        have HK1 := Asd.mk hK1
        have HK2 := Asd.mk hK2
        have HK3 := Asd.mk hK3
        clear hT1 hx hK1 hK2 hK3 hk
        go_wp2
        go_loopg [7, 8] ((leftOf es #[]).size + 1) (fun gk _ _ wx => ∃ (seen : Array Nat) (Z : List (Nm × Value)), gk = (leftOf es seen).size + 1 ∧ Asd (Rg es seen Z) ∧ Asd (wx.heap[w1.heap.size]? = some (.mapIter (some (M p)) clock seen clock)) ∧ Asd (Chg [] w1 wx) ∧ Asd (∀ z ∈ Z, fitsP fs (p ++ [z.1]) (s ++ 47 :: z.1)))
        case atStart => exact ⟨#[], [], rfl, ⟨rg_nil es⟩, ⟨hp_new _ _⟩, ⟨(Chg.refl _ _).alloc _⟩, ⟨by simp⟩⟩
        case round =>
          obtain ⟨seen, Z, rfl, HZ, HI, HC, HF⟩ := hrel
          rcases rg_next (P := Tryz.prog) (w := wr) 0 HI.out (HC.out.heap HK1.out (by simp)) HK2.out HZ.out with ⟨hper, hrun⟩ | ⟨n, v, b, w2, hw2, hin, hrun, hZ2, hlt, hent⟩
          · have HA := Asd.mk (show fitsP fs p s from fits_of HG.out HR.out fun k hk => by
              cases hz : fs.at (p ++ [k]) with
              | none => exact absurd hz hk
              | some z =>
                have h1 := HK3.out k
                rw [hz] at h1
                exact HF.out (k, (.pointer (some ⟨A (p ++ [k]), 0, none⟩))) (hper.mem_iff.2 (lookup_mem_kid h1)))
            have HCC := Asd.mk (HC1.out.trans HC.out)
            clear hper HI HZ HF HC HK1 HK2 HK3
            go_wp2
            go_ret
            exact ⟨true, rfl, ⟨fun _ => HA.out, fun _ => rfl⟩, HCC.out⟩
          · obtain ⟨W, hW⟩ : ∃ W, Go.ChangeMaps.setBlock w2 w1.heap.size (.mapIter (some (M p)) clock (seen.push b) clock) = W := ⟨_, rfl⟩
            rw [hW] at hrun
            have hMr : M p ≠ w1.heap.size := fun e => by
              have h1 := (heap_size_lt HK1.out)
              omega
            have hI2 : w2.heap[w1.heap.size]? = some (.mapIter (some (M p)) clock seen clock) := by
              rcases hw2 with rfl | rfl
              · exact HI.out
              · exact hp_drew HI.out
            have hC2 : Chg [] w1 w2 := by
              rcases hw2 with rfl | rfl
              · exact HC.out
              · exact HC.out.drew
            have hIW : W.heap[w1.heap.size]? = some (.mapIter (some (M p)) clock (seen.push b) clock) := by rw [← hW]; exact hp_setBlock hI2
            have hbW : W.heap[M p]? = some (.map es clock) := by rw [← hW, hp_setBlock_other _ hMr]; exact hC2.heap HK1.out (by simp)
            have hCW : Chg [] w1 W := by rw [← hW]; exact hC2.setBlock (fun h => absurd h (Nat.lt_irrefl _)) _
            have hen := hent W hIW hbW
            have hlk := mem_lookup_kid HK2.out.keys hin
            rw [HK3.out n] at hlk
            obtain ⟨x2, hx2⟩ : ∃ x2, fs.at (p ++ [n]) = some x2 := by
              cases hz : fs.at (p ++ [n]) with
              | none => rw [hz] at hlk; cases hlk
              | some z => exact ⟨z, rfl⟩
            rw [hx2] at hlk
            simp only [Option.map_some, Option.some.injEq] at hlk
            subst hlk
            have hok := HG.out.okp _ x2 hx2
            have hnl : n.length ≤ 255 := by
              have h1 := (bad_ok (n := n)).1 (List.all_eq_true.1 hok.2.2 n (by simp))
              exact h1.2.1
            have HI3 := Asd.mk (IH.out (p ++ [n]) x2 (s ++ 47 :: n) W (by simp; omega) hx2 (by simp; omega) (HT1.out.keep0 hCW) (HM1.out.chg hCW))
            have hU : S ++ ⟨#[47]⟩ = nb (s ++ [47]) := by rw [← HS.out]; apply ByteArray.ext; simp [nb]
            have hV : nb (s ++ [47]) ++ nb n = nb (s ++ 47 :: n) := by apply ByteArray.ext; simp [nb]
            have hu : (nb (s ++ [47])).size ≤ 4097 := by rw [nb_size]; simp; omega
            have hn : (nb n).size ≤ 255 := by rw [nb_size]; exact hnl
            obtain ⟨U, hU'⟩ : ∃ U, nb (s ++ [47]) = U := ⟨_, rfl⟩
            obtain ⟨V, hV'⟩ : ∃ V, nb (s ++ 47 :: n) = V := ⟨_, rfl⟩
            rw [hU'] at hU hV hu
            rw [hV'] at hV HI3
            have HZ2 := Asd.mk hZ2
            have HIW := Asd.mk hIW
            have HCW := Asd.mk hCW
            clear hW hw2 hin hent hIW hbW hCW hI2 hC2 hMr hx2 hok hnl hU' hV' hZ2 HI HZ
            go_wp2_with fail
            refine HI3.out.mono ?_
            rintro e w3 ⟨r, rfl, hr3, hC3⟩
            have HC3 := Asd.mk (HCW.out.trans hC3)
            have HI4 := Asd.mk (hC3.heap HIW.out (by simp))
            have HR3 := Asd.mk hr3
            clear hr3 hC3
            cases r with
            | true =>
              have HF2 := Asd.mk (show ∀ z ∈ Z ++ [(n, (.pointer (some ⟨A (p ++ [n]), 0, none⟩)))], fitsP fs (p ++ [z.1]) (s ++ 47 :: z.1) from fun z hz => by
                rcases List.mem_append.1 hz with h | h
                · exact HF.out z h
                · simp only [List.mem_singleton] at h
                  rw [h]; exact HR3.out.1 rfl)
              go_wp2
              go_roundg ((leftOf es (seen.push b)).size + 1)
              case rel => exact ⟨seen.push b, _, rfl, HZ2, HI4, HC3, HF2⟩
              case measure => omega
            | false =>
              have HA := Asd.mk (show ¬ fitsP fs p s from fun h => absurd (HR3.out.2 (fits_kid h n)) (by simp))
              have HCC := Asd.mk (HC1.out.trans HC3.out)
              go_wp2
              go_ret
              exact ⟨false, rfl, ⟨fun h => absurd h (by simp), fun h => absurd h HA.out⟩, HCC.out⟩
      · rw [if_neg hk] at c2
        have HA := Asd.mk (show fitsP fs p s from fits_of HG.out HR.out fun k hk2 => by
          obtain ⟨z, hz, hz2⟩ := HG.out.up p k hk2
          rw [hx] at hz
          cases hz
          exact absurd hz2 hk)
        have hrg := run_range_nilMap (P := Tryz.prog) w1 83 _ _ Tryz.underlying83
        have hnx := run_next_nilMap (P := Tryz.prog) w1 0 0 0 #[]
        clear hT1 hx hk
        go_wp2
        refine wp_loop_rounds 1 ?_
        rw [rounds_succ]
        go_wp2
        go_ret
        exact ⟨true, rfl, ⟨fun _ => HA.out, fun _ => rfl⟩, HC1.out.alloc _⟩
end Go.Proofs.YtiijbecklkccfaaGreatDoor.I
/- What Rename makes; a path below another, and its text. -/
namespace Go.Proofs.YtiijbecklkccfaaGreatDoor.I
open Go.RowKit Go.Proofs.YtiijbecklkccfaaGreatDoor.B Go.Sort
set_option linter.unusedVariables false
open Classical in
/-- Rename. -/
noncomputable def renameF (fs : FS) (a b : ByteArray) : Nat × FS := match partsF a with
  | .error n => (n, fs)
  | .ok p => match partsF b with
    | .error n => (n, fs)
    | .ok q => if p = [] then (1, fs) else if q = [] then (201, fs) else match wayE fs p with
      | some n => (n, fs)
      | none => match fs.at p with
        | none => (200, fs)
        | some x => if x.kind = 2 ∧ a ≠ b ∧ belowB a b = true then (207, fs) else match wayE fs q with
          | some n => (n, fs)
          | none => if a = b then (0, fs) else if givesF fs q x ≠ 0 then (givesF fs q x, fs) else if ¬ fitsP fs p b.data.toList then (2, fs) else (0, mvF (delF fs q) p q)
theorem partsF_text {s : ByteArray} {p : Pth} (h : partsF s = .ok p) (hp : p ≠ []) : s.data.toList = joinL 47 p := by
  unfold partsF at h
  split at h
  · cases h
  · split at h
    · cases h; exact absurd rfl hp
    · split at h
      · cases h
      · split at h
        · cases h
        · cases h; rw [join_spL]
theorem join_app (c : UInt8) : ∀ {p s : Pth}, p ≠ [] → s ≠ [] → joinL c (p ++ s) = joinL c p ++ c :: joinL c s
  | [], _, h, _ => absurd rfl h
  | [x], s, _, hs => by
    cases s with
    | nil => exact absurd rfl hs
    | cons y s => simp [joinL]
  | x :: y :: p, s, _, hs => by
    have ih := join_app c (p := y :: p) (s := s) (by simp) hs
    simp only [List.cons_append] at ih ⊢
    simp only [joinL] at ih ⊢
    rw [ih]
    simp
theorem below_pre {a b : ByteArray} {p q : Pth} (ha : partsF a = .ok p) (hb : partsF b = .ok q) (hp : p ≠ []) (h : p <+: q) : belowB a b = true := by
  obtain ⟨s, rfl⟩ := h
  have ta := partsF_text ha hp
  have tb := partsF_text hb (by simp [hp])
  unfold belowB
  cases s with
  | nil =>
    rw [List.append_nil, ← ta] at tb
    rw [ByteArray.toList_eq, ByteArray.toList_eq, tb]
    simp
  | cons m s =>
    rw [join_app 47 hp (by simp), ← ta] at tb
    have : Lib.hasPrefix b.data.toList (a ++ ⟨#[47]⟩).data.toList = true := by
      rw [tb]
      simp [Lib.hasPrefix]
    rw [this]
    simp
theorem parts_inj {a b : ByteArray} {p : Pth} (ha : partsF a = .ok p) (hb : partsF b = .ok p) (hp : p ≠ []) : a = b := by
  have h := (partsF_text ha hp).trans (partsF_text hb hp).symm
  have := congrArg nb h
  rwa [nb_list, nb_list] at this
end Go.Proofs.YtiijbecklkccfaaGreatDoor.I
/- Rename keeps a file system sound, within its room. Plain. -/
namespace Go.Proofs.YtiijbecklkccfaaGreatDoor.I
open Go.RowKit Go.Proofs.YtiijbecklkccfaaGreatDoor.B Go.Sort
set_option linter.unusedVariables false
theorem way_parent {fs : FS} (hg : FsOk fs) {q : Pth} (h : wayE fs q = none) (hne : q ≠ []) : ∃ d n y, q = d ++ [n] ∧ fs.at d = some y ∧ y.kind = 2 := by
  obtain ⟨y, hy, hk⟩ := way_dir hg h ⟨_, at_root fs, rfl⟩ hne
  exact ⟨q.dropLast, q.getLast hne, y, (List.dropLast_concat_getLast hne).symm, by simpa using hy, hk⟩
/-- What stands at q and does not bar what comes has nothing below it. -/
theorem gives_no {fs : FS} (hg : FsOk fs) {q : Pth} {x : Nd} (h : givesF fs q x = 0) : ¬ hasKids fs q := by
  rintro ⟨k, hk⟩
  obtain ⟨y, hy, hy2⟩ := hg.up q k hk
  unfold givesF at h
  rw [hy] at h
  simp only at h
  split at h
  · cases h
  · split at h
    · cases h
    · rename_i h1
      exact h1 ⟨hy2, k, hk⟩
theorem used_del (fs : FS) (q : Pth) : usedF (delF fs q) ≤ usedF fs := by
  induction fs with
  | nil => simp [delF, usedF]
  | cons a fs ih =>
    unfold usedF delF at ih ⊢
    rw [List.filter_cons]
    split
    · simp only [List.map_cons, List.sum_cons]
      omega
    · simp only [List.map_cons, List.sum_cons]
      omega
theorem no_slash {k : Nm} (h : okNm k = true) : (47 : UInt8) ∉ k := by
  intro hm
  have h1 := (bad_ok.1 h).2.2.2.2
  unfold badB at h1
  rw [List.any_eq_false] at h1
  exact absurd (h1 47 hm) (by simp)
theorem text_parts {s : ByteArray} {u v : Pth} (hu : partsF s = .ok u) (hv : v ≠ []) (ho : v.all okNm = true) (h : s.data.toList = joinL 47 v) : u = v := by
  have hall : ∀ k ∈ v, (47 : UInt8) ∉ k := fun k hk => no_slash (List.all_eq_true.1 ho k hk)
  have h1 := spL_join_all 47 hv hall
  rw [← h] at h1
  unfold partsF at hu
  split at hu
  · cases hu
  · split at hu
    · rename_i h0
      exfalso
      have e : s.data.toList = [] := List.eq_nil_of_length_eq_zero (by rw [Array.length_toList]; exact h0)
      rw [e] at h1
      have h2 : v = [[]] := by rw [← h1]; simp [spL]
      rw [h2] at ho
      have h3 := (bad_ok (n := [])).1 (List.all_eq_true.1 ho [] (by simp))
      exact h3.1 rfl
    · split at hu
      · cases hu
      · split at hu
        · cases hu
        · cases hu; exact h1
/-- What a rename that succeeds knows. -/
structure RenOk (fs : FS) (a b : ByteArray) (p q : Pth) (x : Nd) (d : Pth) (n : Nm) (y : Nd) : Prop where
  pa : partsF a = .ok p
  pb : partsF b = .ok q
  hp : p ≠ []
  ab : a ≠ b
  at_ : fs.at p = some x
  qe : q = d ++ [n]
  dir : fs.at d = some y
  dk : y.kind = 2
  np : ¬ p <+: d
  no : ¬ hasKids fs q
  fits : fitsP fs p b.data.toList
theorem ren_np {fs : FS} (hg : FsOk fs) {a b : ByteArray} {p d : Pth} {n : Nm} {x y : Nd} (ha : partsF a = .ok p) (hb : partsF b = .ok (d ++ [n])) (hp : p ≠ []) (hab : a ≠ b) (hx : fs.at p = some x) (hd : fs.at d = some y) (hy : y.kind = 2) (h : ¬ (x.kind = 2 ∧ a ≠ b ∧ belowB a b = true)) : ¬ p <+: d := by
  intro hpd
  refine h ⟨?_, hab, below_pre ha hb hp (hpd.trans (List.prefix_append d [n]))⟩
  obtain ⟨s, rfl⟩ := hpd
  cases s with
  | nil =>
    rw [List.append_nil, hx] at hd
    cases hd
    exact hy
  | cons m s =>
    obtain ⟨z, hz, hz2⟩ := hg.prefix (q := m :: s) (p := p) (by rw [hd]; simp) (by simp)
    rw [hx] at hz
    cases hz
    exact hz2
theorem RenOk.sound {fs : FS} {a b : ByteArray} {p q d : Pth} {n : Nm} {x y : Nd} (h : RenOk fs a b p q x d n y) (hg : FsOk fs) {by' nd : Nat} (hr : Room fs by' nd) : FsOk (mvF (delF fs q) p q) ∧ Room (mvF (delF fs q) p q) by' nd := by
  obtain ⟨pa, pb, hp, ab, at_, rfl, dir, dk, np, no, fits⟩ := h
  have hne : d ++ [n] ≠ [] := by simp
  have hpq : p ≠ d ++ [n] := fun e => ab (parts_inj pa (by rw [e]; exact pb) hp)
  have hg2 := fsOk_del hg hne no
  have AD := fun r => at_del (fs := fs) hne r
  have hdn : d ≠ d ++ [n] := fun e => snoc_ne d n e.symm
  refine ⟨fsOk_mv hg2 hp (y := y) (by rw [AD, if_neg hdn]; exact dir) dk np (by rw [AD, if_pos rfl]) fun r hr2 => ?_, ?_⟩
  · have h1 : fs.at (p ++ r) ≠ none := by
      rw [AD] at hr2
      split at hr2
      · exact absurd rfl hr2
      · exact hr2
    obtain ⟨u, hu⟩ := fits r h1
    have hgl : glueR b.data.toList r = joinL 47 ((d ++ [n]) ++ r) := by
      rw [partsF_text pb hne]
      cases r with
      | nil => simp [glueR]
      | cons k r =>
        rw [join_app 47 hne (by simp)]
        unfold glueR
        congr 1
        have : ∀ (k : Nm) (r : Pth), (k :: r).flatMap (fun k => 47 :: k) = 47 :: joinL 47 (k :: r) := by
          intro k r
          induction r generalizing k with
          | nil => simp [joinL]
          | cons m r ih =>
            rw [List.flatMap_cons, ih m]
            simp [joinL]
        exact this k r
    have hok := partsF_ok hu
    have hu2 : u = (d ++ [n]) ++ r := by
      refine text_parts hu (by simp) ?_ (by rw [list_nb]; exact hgl)
      rw [List.all_append, (partsF_ok pb).2.2, Bool.true_and]
      cases hz : fs.at (p ++ r) with
      | none => exact absurd hz h1
      | some z =>
        have := (hg.okp _ z hz).2.2
        rw [List.all_append, Bool.and_eq_true] at this
        exact this.2
    rw [← hu2]
    exact hok
  · have hu := used_del fs (d ++ [n])
    have hl : (delF fs (d ++ [n])).length ≤ fs.length := List.length_filter_le _ _
    have := hr.used
    have := hr.count
    exact ⟨hr.b, hr.n, by rw [mv_used]; omega, by rw [mv_len]; omega⟩
end Go.Proofs.YtiijbecklkccfaaGreatDoor.I
/- A rename in memory: what stands at p is taken out of its directory and laid into the other's: the table behind. -/
namespace Go.Proofs.YtiijbecklkccfaaGreatDoor.I
open Go.RowKit Go.Proofs.YtiijbecklkccfaaGreatDoor.B Go.Sort
set_option linter.unusedVariables false
theorem sb_ne {w : World} {b i : Nat} {o : Obj} (h : i ≠ b) : (Go.ChangeMaps.setBlock w b o).heap[i]? = w.heap[i]? := by
  show (w.heap.setIfInBounds b o)[i]? = _
  rw [Array.getElem?_setIfInBounds_ne (Ne.symm h)]
theorem ren_two {W : World} {L : List Nat} {t by' nd : Nat} {fs : FS} {A M : Pth → Nat} (hT : TabAt W L t fs by' nd A M) (hg : FsOk fs) {pd qd : Pth} {pn qn : Nm} {x y z : Nd} (hp : fs.at (pd ++ [pn]) = some x) (hpd : fs.at pd = some z) (hz : z.kind = 2) (hq : fs.at (qd ++ [qn]) = none) (hqd : fs.at qd = some y) (hy : y.kind = 2) (hpq : ¬ (pd ++ [pn]) <+: qd) :
    ∃ es1 c1, (Builtin.delete_ #[83, 9] 0 #[.map (some (M pd)), .string (nb pn)]).run Tryz.prog W.drew = .ok (.tuple #[]) (Go.ChangeMaps.setBlock W.drew (M pd) (.map es1 c1)) ∧
      ∀ W2, W2 = Go.ChangeMaps.setBlock W.drew (M pd) (.map es1 c1) → ∃ es2 c2, (Instr.mapUpdate 83 (.map (some (M qd))) (.string (nb qn)) (.pointer (some ⟨A (pd ++ [pn]), 0, none⟩))).run Tryz.prog W2.drew = .ok () (Go.ChangeMaps.setBlock W2.drew (M qd) (.map es2 c2)) ∧
        TabAt (Go.ChangeMaps.setBlock W2.drew (M qd) (.map es2 c2)) L t (mvF fs (pd ++ [pn]) (qd ++ [qn])) by' nd (mvA (pd ++ [pn]) (qd ++ [qn]) A) (mvA (pd ++ [pn]) (qd ++ [qn]) M) := by
  obtain ⟨es, c1, K, hK1, hK2, hK3⟩ := hT.kids pd z hpd hz
  have hKp : K.lookup pn = some (.pointer (some ⟨A (pd ++ [pn]), 0, none⟩)) := by rw [hK3, hp]; rfl
  obtain ⟨es1, hdel, hMK⟩ := run_del (P := Tryz.prog) (k2 := 9) (ty := 0) Tryz.underlying83 Tryz.underlying9 (hp_drew hK1) hK2 (nb pn) (.pointer (some ⟨A (pd ++ [pn]), 0, none⟩)) (by rw [list_nb]; exact hKp)
  rw [list_nb] at hMK
  refine ⟨es1, c1, hdel, fun W2 hW2 => ?_⟩
  have hne : pd ++ [pn] ≠ qd ++ [qn] := fun e => by rw [e, hq] at hp; cases hp
  have h1 : W2.heap[M pd]? = some (.map es1 c1) := by rw [hW2]; exact hp_setBlock (hp_drew hK1)
  have hoth : ∀ i, i ≠ M pd → W2.heap[i]? = W.heap[i]? := fun i hi => by rw [hW2, sb_ne hi]; rfl
  have hq2 : ∃ es' c' K', W2.heap[M qd]? = some (.map es' c') ∧ MKids es' c' K' ∧ (∀ n, K'.lookup n = if pd = qd ∧ n = pn then none else (fs.at (qd ++ [n])).map fun _ => (.pointer (some ⟨A (qd ++ [n]), 0, none⟩))) := by
    by_cases e : pd = qd
    · subst e
      refine ⟨es1, c1, _, h1, hMK, fun n => ?_⟩
      rw [look_filter, hK3]
      by_cases hn : n = pn
      · rw [if_pos hn, if_pos ⟨rfl, hn⟩]
      · rw [if_neg hn, if_neg (fun h => hn h.2)]
    · obtain ⟨es', c', K', a1, a2, a3⟩ := hT.kids qd y hqd hy
      refine ⟨es', c', K', ?_, a2, fun n => ?_⟩
      · rw [hoth _ (fun e2 => e (hT.injM _ _ _ _ hpd hqd hz hy e2.symm))]
        exact a1
      · rw [a3, if_neg (fun h => e h.1)]
  obtain ⟨es', c', K', a1, a2, a3⟩ := hq2
  have hKq : K'.lookup qn = none := by
    rw [a3]
    split
    · rfl
    · rw [hq]; rfl
  obtain ⟨hup, hMK2⟩ := run_upd (P := Tryz.prog) Tryz.underlying83 Tryz.underlying9 (hp_drew a1) a2 (nb qn) (.pointer (some ⟨A (pd ++ [pn]), 0, none⟩)) (by rw [list_nb]; exact hKq)
  rw [list_nb] at hMK2
  refine ⟨_, _, hup, ?_⟩
  have hfin : ∀ i, i ≠ M pd → i ≠ M qd → (Go.ChangeMaps.setBlock W2.drew (M qd) (.map (es'.push ⟨.string (nb qn), (.pointer (some ⟨A (pd ++ [pn]), 0, none⟩)), c'⟩) (c' + 1))).heap[i]? = W.heap[i]? := fun i h1 h2 => by
    rw [sb_ne h2]
    exact hoth i h1
  refine tab_mv hT hg (by simp) (by simp) hq (hfin _ (Ne.symm (hT.tab_ne_map hpd hz)) (Ne.symm (hT.tab_ne_map hqd hy))) (fun r u hr => hfin _ (hT.ne_map hr hpd hz) (hT.ne_map hr hqd hy)) ?_ ?_
  · show W.heap.size ≤ (W2.heap.setIfInBounds _ _).size
    rw [hW2]
    show W.heap.size ≤ ((W.heap.setIfInBounds _ _).setIfInBounds _ _).size
    simp
  · refine kids_mv hT hg hp hq hpq (fun r u hr hk n1 n2 => hfin _ (fun e => n1 (hT.injM _ _ _ _ hr hpd hk hz e)) (fun e => n2 (hT.injM _ _ _ _ hr hqd hk hy e))) (fun e => ?_) ?_
    · refine ⟨es1, c1, _, ?_, hMK, fun n => ?_⟩
      · rw [sb_ne (fun e2 => e (hT.injM _ _ _ _ hpd hqd hz hy e2))]
        exact h1
      · rw [look_filter, hK3]
    · refine ⟨_, _, _, hp_setBlock (hp_drew a1), hMK2, fun n => ?_⟩
      rw [look_push hKq, a3]
/-- What a rename finds behind its drop. -/
theorem ren_after {fs : FS} (hg : FsOk fs) {a b : ByteArray} {p q d : Pth} {n : Nm} {x y : Nd} (h : RenOk fs a b p q x d n y) : FsOk (delF fs q) ∧ (delF fs q).at p = some x ∧ (delF fs q).at q = none ∧ (delF fs q).at d = some y ∧ ∀ pd pn, p = pd ++ [pn] → ∃ z, (delF fs q).at pd = some z ∧ z.kind = 2 := by
  obtain ⟨pa, pb, hp, ab, at_, rfl, dir, dk, np, no, fits⟩ := h
  have hne : d ++ [n] ≠ [] := by simp
  have hpq : p ≠ d ++ [n] := fun e => ab (parts_inj pa (by rw [e]; exact pb) hp)
  have hg2 := fsOk_del hg hne no
  have AD := fun r => at_del (fs := fs) hne r
  have hdn : d ≠ d ++ [n] := fun e => snoc_ne d n e.symm
  have h1 : (delF fs (d ++ [n])).at p = some x := by rw [AD, if_neg hpq]; exact at_
  refine ⟨hg2, h1, by rw [AD, if_pos rfl], by rw [AD, if_neg hdn]; exact dir, fun pd pn e => ?_⟩
  exact hg2.up pd pn (by rw [← e, h1]; simp)
end Go.Proofs.YtiijbecklkccfaaGreatDoor.I
/- What the walks of Rename ask of paths, texts and of the file system: plain. -/
namespace Go.Proofs.YtiijbecklkccfaaGreatDoor.I
open Go.RowKit Go.Proofs.YtiijbecklkccfaaGreatDoor.B Go.Sort
set_option linter.unusedVariables false
theorem partsF_pos {s : ByteArray} {n : Nat} (h : partsF s = .error n) : n ≠ 0 := by
  unfold partsF at h
  split at h
  · cases h; decide
  · split at h
    · cases h
    · split at h
      · cases h; decide
      · split at h
        · cases h; decide
        · cases h
/-- What Parts hands on, as one form. -/
theorem parts_ok_form {p : Pth} {e : Ending} {w' : World} (h : PartsPost (.ok p) e w') : ∃ A1 c1, e = .returned (.tuple #[.slice A1 p.length c1, .nilIface]) ∧ ((p = [] ∧ A1 = none ∧ c1 = 0) ∨ (p ≠ [] ∧ c1 = p.length ∧ ∃ g, A1 = some ⟨g, 0, none⟩ ∧ NmR w' g 0 p)) := by
  rcases h with ⟨h1, h2⟩ | ⟨h1, g, h2, h3⟩
  · exact ⟨none, 0, by rw [h2, h1]; rfl, .inl ⟨h1, rfl, rfl⟩⟩
  · exact ⟨_, _, h2, .inr ⟨h1, rfl, g, rfl, h3⟩⟩
theorem parts_ok_ne {p : Pth} {e : Ending} {w' : World} (hp : p ≠ []) (h : PartsPost (.ok p) e w') : ∃ g, e = .returned (.tuple #[.slice (some ⟨g, 0, none⟩) p.length p.length, .nilIface]) ∧ NmR w' g 0 p := by
  rcases h with ⟨h1, h2⟩ | ⟨h1, g, h2, h3⟩
  · exact absurd h1 hp
  · exact ⟨g, h2, h3⟩
theorem way_place {fs : FS} {A : Pth → Nat} {p pd : Pth} {pn : Nm} {e : Ending} (hpe : p = pd ++ [pn]) (hw : wayE fs p = none) (h : wayPost fs A p e) : e = .returned (.tuple #[.agg #[(.pointer (some ⟨A pd, 0, none⟩)), .string (nb pn), .pointer (kidA fs A p)], .nilIface]) := by
  unfold wayPost at h
  rw [hw] at h
  simp only at h
  rw [h]
  have h1 : dirA A p = some ⟨A pd, 0, none⟩ := by rw [hpe]; unfold dirA; rw [if_neg (by simp)]; simp
  have h2 : lastS p = nb pn := by rw [hpe]; unfold lastS; rw [if_neg (by simp)]; simp
  rw [h1, h2]
theorem toList_inj {a b : ByteArray} (h : a.toList = b.toList) : a = b := by
  have h := congrArg nb h
  rwa [ByteArray.toList_eq, ByteArray.toList_eq, nb_list, nb_list] at h
theorem bytes_ne1 {a b : ByteArray} (h : a ≠ b) : (a.toList == b.toList) = false := beq_eq_false_iff_ne.2 fun e => h (toList_inj e)
theorem bytes_ne2 {a b : ByteArray} (h : a ≠ b) : (b.toList == a.toList) = false := beq_eq_false_iff_ne.2 fun e => h (toList_inj e).symm
theorem ba_len (a : ByteArray) : a.data.toList.length = a.size := by show _ = a.data.size; simp
theorem at_of_del {fs : FS} {q r : Pth} {z : Nd} (h : (delF fs q).at r = some z) : fs.at r = some z := by
  by_cases hr : r = []
  · rw [hr] at h ⊢; exact h
  · rw [at_ne _ hr, lookup_del] at h
    rw [at_ne _ hr]
    split at h
    · cases h
    · exact h
open Classical in
theorem ren_eq {fs : FS} {a b : ByteArray} {p q : Pth} {x : Nd} (hR : partsF a = .ok p) (hR2 : partsF b = .ok q) (hp0 : p ≠ []) (hq0 : q ≠ []) (hw : wayE fs p = none) (hx : fs.at p = some x) (hnb : ¬ (x.kind = 2 ∧ a ≠ b ∧ belowB a b = true)) :
    renameF fs a b = match wayE fs q with
      | some n => (n, fs)
      | none => if a = b then (0, fs) else if givesF fs q x ≠ 0 then (givesF fs q x, fs) else if ¬ fitsP fs p b.data.toList then (2, fs) else (0, mvF (delF fs q) p q) := by
  unfold renameF
  rw [hR, hR2]
  simp only
  rw [if_neg hp0, if_neg hq0, hw]
  simp only
  rw [hx]
  simp only
  rw [if_neg hnb]
  all_goals
    cases wayE fs q with
    | some n => rfl
    | none => simp only
theorem ren_ok {fs : FS} (hg : FsOk fs) {a b : ByteArray} {p q qd : Pth} {qn : Nm} {x : Nd} (hR : partsF a = .ok p) (hR2 : partsF b = .ok q) (hp0 : p ≠ []) (hab : a ≠ b) (hx : fs.at p = some x) (hnb : ¬ (x.kind = 2 ∧ a ≠ b ∧ belowB a b = true)) (hqe : q = qd ++ [qn]) (hwq : wayE fs q = none) (hg0 : givesF fs q x = 0) (hf : fitsP fs p b.data.toList) : ∃ y, RenOk fs a b p q x qd qn y := by
  obtain ⟨d, n, y, h1, h2, h3⟩ := way_parent hg hwq (by rw [hqe]; simp)
  have h4 := snoc_inj (hqe.symm.trans h1)
  obtain ⟨rfl, rfl⟩ := h4
  subst hqe
  exact ⟨y, hR, hR2, hp0, hab, hx, rfl, h2, h3, ren_np hg hR hR2 hp0 hab hx h2 h3 hnb, gives_no hg hg0, hf⟩
end Go.Proofs.YtiijbecklkccfaaGreatDoor.I
