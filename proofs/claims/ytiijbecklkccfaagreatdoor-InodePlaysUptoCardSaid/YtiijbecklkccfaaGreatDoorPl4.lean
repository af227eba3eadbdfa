/- Merged out of these texts: At, There, TabPut, Put, Make. -/
import Derived.Test.YtiijbecklkccfaaGreatDoorPl3
import Derived.Laws.Tables
import Derived.Laws.Rows
import Derived.StillTailTactics
import Derived.RegionTactic
import Derived.Deep.RegionHeld3
/- The program's at, there: the walks. -/
namespace Go.Proofs.YtiijbecklkccfaaGreatDoor.I
open Go.RowKit Go.Proofs.YtiijbecklkccfaaGreatDoor.B Go.Sort
set_option linter.unusedVariables false
theorem one_place (a c : Option Addr) (b : ByteArray) : (#[Value.pointer a, .string b, .pointer c]).all (·.oneCell') = true := by kernel_rfl
/-- The way to a path, from its text; the error's number. -/
def atE (fs : FS) (s : ByteArray) : Except Nat Pth := match partsF s with
  | .error n => .error n
  | .ok p => match wayE fs p with
    | some n => .error n
    | none => .ok p
def AtPost (fs : FS) (A : Pth → Nat) (R : Except Nat Pth) (e : Ending) : Prop := match R with
  | .ok p => e = .returned (.tuple #[.agg #[.pointer (dirA A p), .string (lastS p), .pointer (kidA fs A p)], .nilIface])
  | .error n => e = .returned (.tuple #[(.agg #[.pointer none, .string ⟨#[]⟩, .pointer none]), .iface 71 (.int .i64 (n : Int))])
theorem partsF_len {s : ByteArray} {p : Pth} (h : partsF s = .ok p) : p.length ≤ 64 := by
  unfold partsF at h
  split at h
  · cases h
  · split at h
    · cases h; simp
    · split at h
      · cases h
      · split at h
        · cases h
        · cases h; omega
set_option maxRecDepth 100000 in
set_option maxHeartbeats 16000000 in
theorem at_calls (L : List Nat) (t : Nat) (fs : FS) (by' nd : Nat) (A M : Pth → Nat) (s : ByteArray) (w : World) (hT : TabAt w L t fs by' nd A M) (hg : FsOk fs) (hm : MaxLenAt w) (hs : s.size ≤ 4294967280) :
    Calls Tryz.prog 62 #[(.pointer (some ⟨t, 0, none⟩)), .string s] w fun e w' => AtPost fs A (atE fs s) e ∧ Chg [] w w' := by
  have HC0 := Asd.mk (show Chg [] w (w.alloc (.cells #[.pointer none, .string ⟨#[]⟩, .pointer none] 79)) from (Chg.refl _ _).alloc _)
  have HT0 := Asd.mk (hT.keep0 HC0.out)
  have HP := Asd.mk (parts_calls s (w.alloc (.cells #[.pointer none, .string ⟨#[]⟩, .pointer none] 79)) (hm.chg HC0.out) hs)
  have HZ0 := Asd.mk (hp_new w (.cells #[.pointer none, .string ⟨#[]⟩, .pointer none] 79))
  have HG := Asd.mk hg
  obtain ⟨B, hB⟩ : ∃ B, w.heap.size = B := ⟨_, rfl⟩
  rw [hB] at HZ0
  have hBw : ¬ B < w.heap.size := by omega
  obtain ⟨R, hR⟩ : ∃ R, partsF s = R := ⟨_, rfl⟩
  rw [hR] at HP
  clear hT hg hm
  cases R with
  | error n =>
    have HA := Asd.mk (show atE fs s = .error n by unfold atE; rw [hR])
    clear hR
    go_enter Tryz.func62, Tryz.ntmps62
    go_wp2_with fail
    refine HP.out.mono ?_
    rintro e w1 ⟨rfl, hC1⟩
    have HZ := Asd.mk (hC1.heap HZ0.out (by simp))
    have HC1 := Asd.mk (HC0.out.trans hC1)
    clear hC1
    go_wp2_with (first | (refine wpList_store_row (o := ⟨none, _, _, _, _, _⟩) rfl 79 (.tmp 4) (.tmp 15) rfl B _ rfl rfl 79 _ HZ.out (size_place _ _ _) rfl (one_place _ _ _) ?_))
    refine bodyPost_ret (results_row_tmp rfl _ _ B 79 _ (0, 0) _ rfl (setRow_heap _ _ _ _ _ _ HZ.out) Tryz.underlying79 rfl (size_place _ _ _)) rfl ?_
    exact ⟨by rw [HA.out]; rfl, HC1.out.setRow (by omega) _⟩
  | ok p =>
    have hl := partsF_len hR
    have HA := Asd.mk (show atE fs s = match wayE fs p with | some n => .error n | none => .ok p by unfold atE; rw [hR])
    have HWy := Asd.mk (fun (v : Value) (W : World) (hc : Chg [] (w.alloc (.cells #[.pointer none, .string ⟨#[]⟩, .pointer none] 79)) W) (hv : (p = [] ∧ v = .slice none 0 0) ∨ (p ≠ [] ∧ ∃ g, v = .slice (some ⟨g, 0, none⟩) p.length p.length ∧ NmR W g 0 p)) =>
      show Calls Tryz.prog 57 #[(.pointer (some ⟨t, 0, none⟩)), v] W fun e w' => wayPost fs A p e ∧ Chg [] W w' from by
        rcases hv with ⟨rfl, rfl⟩ | ⟨h1, g, rfl, h2⟩
        · exact way_root L t fs by' nd A M W (HT0.out.keep0 hc)
        · exact way_calls L t fs by' nd A M p g p.length W (HT0.out.keep0 hc) HG.out h1 h2 (by omega) (Nat.le_refl _))
    clear hR
    go_enter Tryz.func62, Tryz.ntmps62
    go_wp2_with fail
    refine HP.out.mono ?_
    rintro e w1 ⟨hP, hC1⟩
    have hPV : ∃ A1 n1, e = .returned (.tuple #[.slice A1 n1 n1, .nilIface]) ∧ ((p = [] ∧ Value.slice A1 n1 n1 = .slice none 0 0) ∨ (p ≠ [] ∧ ∃ g, Value.slice A1 n1 n1 = .slice (some ⟨g, 0, none⟩) p.length p.length ∧ NmR w1 g 0 p)) := by
      rcases hP with ⟨h1, h2⟩ | ⟨h1, g, h2, h3⟩
      · exact ⟨none, 0, h2, .inl ⟨h1, rfl⟩⟩
      · exact ⟨_, _, h2, .inr ⟨h1, g, rfl, h3⟩⟩
    obtain ⟨A1, n1, rfl, hv⟩ := hPV
    have HW1 := Asd.mk (HWy.out _ w1 hC1 hv)
    have HZ1 := Asd.mk (hC1.heap HZ0.out (by simp))
    have HC1 := Asd.mk (HC0.out.trans hC1)
    clear hC1 hP hv HWy
    go_wp2_with fail
    refine HW1.out.mono ?_
    rintro e w2 ⟨hPo, hC2⟩
    have HZ := Asd.mk (hC2.heap HZ1.out (by simp))
    have HC2 := Asd.mk (HC1.out.trans hC2)
    clear hC2 HW1
    unfold wayPost at hPo
    cases hw : wayE fs p with
    | none =>
      rw [hw] at hPo HA
      simp only at hPo
      subst hPo
      clear hw
      go_wp2_with (first | (refine wpList_store_row (o := ⟨none, _, _, _, _, _⟩) rfl 79 (.tmp 4) (.tmp 20) rfl B _ rfl rfl 79 _ HZ.out (size_place _ _ _) rfl (one_place _ _ _) ?_))
      refine bodyPost_ret (results_row_tmp rfl _ _ B 79 _ (0, 0) _ rfl (setRow_heap _ _ _ _ _ _ HZ.out) Tryz.underlying79 rfl (size_place _ _ _)) rfl ?_
      exact ⟨by rw [HA.out]; rfl, HC2.out.setRow (by omega) _⟩
    | some n =>
      rw [hw] at hPo HA
      simp only at hPo
      subst hPo
      clear hw
      go_wp2_with (first | (refine wpList_store_row (o := ⟨none, _, _, _, _, _⟩) rfl 79 (.tmp 4) (.tmp 20) rfl B _ rfl rfl 79 _ HZ.out (size_place _ _ _) rfl (one_place _ _ _) ?_))
      refine bodyPost_ret (results_row_tmp rfl _ _ B 79 _ (0, 0) _ rfl (setRow_heap _ _ _ _ _ _ HZ.out) Tryz.underlying79 rfl (size_place _ _ _)) rfl ?_
      exact ⟨by rw [HA.out]; rfl, HC2.out.setRow (by omega) _⟩
end Go.Proofs.YtiijbecklkccfaaGreatDoor.I
/- The program's there, noFile, directory: the walks. -/
namespace Go.Proofs.YtiijbecklkccfaaGreatDoor.I
open Go.RowKit Go.Proofs.YtiijbecklkccfaaGreatDoor.B Go.Sort
set_option linter.unusedVariables false
/-- The way to a path at which something must stand; the error's number. -/
def thereE (fs : FS) (s : ByteArray) : Except Nat Pth := match atE fs s with
  | .error n => .error n
  | .ok p => if (fs.at p).isSome = true then .ok p else .error 200
def TherePost (fs : FS) (A : Pth → Nat) (R : Except Nat Pth) (e : Ending) : Prop := match R with
  | .ok p => e = .returned (.tuple #[.agg #[.pointer (dirA A p), .string (lastS p), .pointer (some ⟨A p, 0, none⟩)], .nilIface])
  | .error n => ∃ d l k, e = .returned (.tuple #[.agg #[.pointer d, .string l, .pointer k], .iface 71 (.int .i64 (n : Int))])
set_option maxRecDepth 100000 in
set_option maxHeartbeats 16000000 in
theorem there_calls (L : List Nat) (t : Nat) (fs : FS) (by' nd : Nat) (A M : Pth → Nat) (s : ByteArray) (w : World) (hT : TabAt w L t fs by' nd A M) (hg : FsOk fs) (hm : MaxLenAt w) (hs : s.size ≤ 4294967280) :
    Calls Tryz.prog 35 #[(.pointer (some ⟨t, 0, none⟩)), .string s] w fun e w' => TherePost fs A (thereE fs s) e ∧ Chg [] w w' := by
  have HC0 := Asd.mk (show Chg [] w (w.alloc (.cells #[.pointer none, .string ⟨#[]⟩, .pointer none] 79)) from (Chg.refl _ _).alloc _)
  have HP := Asd.mk (at_calls L t fs by' nd A M s (w.alloc (.cells #[.pointer none, .string ⟨#[]⟩, .pointer none] 79)) (hT.keep0 HC0.out) hg (hm.chg HC0.out) hs)
  have HZ0 := Asd.mk (hp_new w (.cells #[.pointer none, .string ⟨#[]⟩, .pointer none] 79))
  obtain ⟨B, hB⟩ : ∃ B, w.heap.size = B := ⟨_, rfl⟩
  rw [hB] at HZ0
  have hBw : ¬ B < w.heap.size := by omega
  obtain ⟨R, hR⟩ : ∃ R, atE fs s = R := ⟨_, rfl⟩
  rw [hR] at HP
  clear hT hg hm
  cases R with
  | error n =>
    have HA := Asd.mk (show thereE fs s = .error n by unfold thereE; rw [hR])
    clear hR
    go_enter Tryz.func35, Tryz.ntmps35
    go_wp2_with fail
    refine HP.out.mono ?_
    rintro e w1 ⟨rfl, hC1⟩
    have HZ1 := Asd.mk (hC1.heap HZ0.out (by simp))
    have HC1 := Asd.mk (HC0.out.trans hC1)
    have HZ := Asd.mk (hp_alloc HZ1.out (.cells #[.pointer none, .string ⟨#[]⟩, .pointer none] 79))
    clear hC1
    go_wp2_with (first | (refine wpList_load_row (o := ⟨some 22, _, _, _, _, _⟩) rfl 79 (.tmp 6) rfl _ rfl 79 _ (0, 0) _ (hp_new _ _) Tryz.underlying79 rfl (size_place _ _ _) ?_) | (refine wpList_store_row (o := ⟨none, _, _, _, _, _⟩) rfl 79 (.tmp 4) (.tmp 22) rfl B _ rfl rfl 79 _ HZ.out (size_place _ _ _) rfl (one_place _ _ _) ?_))
    refine bodyPost_ret (results_row_tmp rfl _ _ B 79 _ (0, 0) _ rfl (setRow_heap _ _ _ _ _ _ HZ.out) Tryz.underlying79 rfl (size_place _ _ _)) rfl ?_
    exact ⟨by rw [HA.out]; exact ⟨_, _, _, rfl⟩, (HC1.out.alloc _).setRow (by omega) _⟩
  | ok p =>
    cases hp : fs.at p with
    | none =>
      have HA := Asd.mk (show thereE fs s = .error 200 by unfold thereE; rw [hR]; simp only; rw [hp]; rfl)
      have HK := Asd.mk (show kidA fs A p = none by unfold kidA; rw [hp]; rfl)
      clear hR hp
      go_enter Tryz.func35, Tryz.ntmps35
      go_wp2_with fail
      refine HP.out.mono ?_
      rintro e w1 ⟨hPo, hC1⟩
      have hPo2 : e = .returned (.tuple #[.agg #[.pointer (dirA A p), .string (lastS p), .pointer none], .nilIface]) := by rw [← HK.out]; exact hPo
      subst hPo2
      have HZ1 := Asd.mk (hC1.heap HZ0.out (by simp))
      have HC1 := Asd.mk (HC0.out.trans hC1)
      have HZ := Asd.mk (hp_alloc HZ1.out (.cells #[.pointer (dirA A p), .string (lastS p), .pointer none] 79))
      clear hC1 hPo
      go_wp2_with (first | (refine wpList_load_row (o := ⟨some 22, _, _, _, _, _⟩) rfl 79 (.tmp 6) rfl _ rfl 79 _ (0, 0) _ (hp_new _ _) Tryz.underlying79 rfl (size_place _ _ _) ?_) | (refine wpList_store_row (o := ⟨none, _, _, _, _, _⟩) rfl 79 (.tmp 4) (.tmp 22) rfl B _ rfl rfl 79 _ HZ.out (size_place _ _ _) rfl (one_place _ _ _) ?_))
      refine bodyPost_ret (results_row_tmp rfl _ _ B 79 _ (0, 0) _ rfl (setRow_heap _ _ _ _ _ _ HZ.out) Tryz.underlying79 rfl (size_place _ _ _)) rfl ?_
      exact ⟨by rw [HA.out]; exact ⟨_, _, _, rfl⟩, (HC1.out.alloc _).setRow (by omega) _⟩
    | some x =>
      have HA := Asd.mk (show thereE fs s = .ok p by unfold thereE; rw [hR]; simp only; rw [hp]; rfl)
      have HK := Asd.mk (show kidA fs A p = some ⟨A p, 0, none⟩ by unfold kidA; rw [hp]; rfl)
      clear hR hp
      go_enter Tryz.func35, Tryz.ntmps35
      go_wp2_with fail
      refine HP.out.mono ?_
      rintro e w1 ⟨hPo, hC1⟩
      have hPo2 : e = .returned (.tuple #[.agg #[.pointer (dirA A p), .string (lastS p), .pointer (some ⟨A p, 0, none⟩)], .nilIface]) := by rw [← HK.out]; exact hPo
      subst hPo2
      have HZ1 := Asd.mk (hC1.heap HZ0.out (by simp))
      have HC1 := Asd.mk (HC0.out.trans hC1)
      have HZ := Asd.mk (hp_alloc HZ1.out (.cells #[.pointer (dirA A p), .string (lastS p), .pointer (some ⟨A p, 0, none⟩)] 79))
      clear hC1 hPo
      go_wp2_with (first | (refine wpList_load_row (o := ⟨some 22, _, _, _, _, _⟩) rfl 79 (.tmp 6) rfl _ rfl 79 _ (0, 0) _ (hp_new _ _) Tryz.underlying79 rfl (size_place _ _ _) ?_) | (refine wpList_store_row (o := ⟨none, _, _, _, _, _⟩) rfl 79 (.tmp 4) (.tmp 22) rfl B _ rfl rfl 79 _ HZ.out (size_place _ _ _) rfl (one_place _ _ _) ?_))
      refine bodyPost_ret (results_row_tmp rfl _ _ B 79 _ (0, 0) _ rfl (setRow_heap _ _ _ _ _ _ HZ.out) Tryz.underlying79 rfl (size_place _ _ _)) rfl ?_
      exact ⟨by rw [HA.out]; rfl, (HC1.out.alloc _).setRow (by omega) _⟩
/-- The answer of noFile. -/
def noFileV (k : Nat) : Value := if k = 2 then .iface 71 (.int .i64 202) else if k = 3 then .iface 71 (.int .i64 204) else .nilIface
set_option maxRecDepth 100000 in
set_option maxHeartbeats 16000000 in
theorem noFile_calls (a : Nat) (x : Nd) (m : Value) (w : World) (hn : w.heap[a]? = some (.cells #[.int .i64 (x.kind : Int), .string x.text, m] 85 (0, 0))) (hk : x.kind = 1 ∨ x.kind = 2 ∨ x.kind = 3) :
    Calls Tryz.prog 64 #[(.pointer (some ⟨a, 0, none⟩))] w fun e w' => e = .returned (noFileV x.kind) ∧ w' = w := by
  have c0 : w.cell? ⟨a, 0, none⟩ = some (.int .i64 (x.kind : Int)) := cell_of_heap hn 0
  clear hn
  rcases hk with hk | hk | hk
  · rw [hk] at c0 ⊢
    go_enter Tryz.func64, Tryz.ntmps64
    go_wp2
    go_ret
    exact ⟨rfl, rfl⟩
  · rw [hk] at c0 ⊢
    go_enter Tryz.func64, Tryz.ntmps64
    go_wp2
    go_ret
    exact ⟨rfl, rfl⟩
  · rw [hk] at c0 ⊢
    go_enter Tryz.func64, Tryz.ntmps64
    go_wp2
    go_ret
    exact ⟨rfl, rfl⟩
theorem make_map (W : World) : (Instr.makeMap 83 none).run Tryz.prog W = .ok (.map (some W.heap.size)) (W.alloc (.map #[] 0)) := by kernel_rfl
set_option maxRecDepth 100000 in
set_option maxHeartbeats 16000000 in
theorem directory_calls (w : World) :
    Calls Tryz.prog 32 #[] w fun e w' => e = .returned (.pointer (some ⟨w.heap.size + 1, 0, none⟩)) ∧ w' = (w.alloc (.map #[] 0)).alloc (.cells #[.int .i64 2, .string ⟨#[]⟩, .map (some w.heap.size)] 85) := by
  have hmk := fun W => make_map W
  go_enter Tryz.func32, Tryz.ntmps32
  go_wp2
  go_ret
  exact ⟨by simp, rfl⟩
end Go.Proofs.YtiijbecklkccfaaGreatDoor.I
/- A new node in a directory: what the file system is then, in memory. -/
namespace Go.Proofs.YtiijbecklkccfaaGreatDoor.I
open Go.RowKit Go.Proofs.YtiijbecklkccfaaGreatDoor.B Go.Sort
set_option linter.unusedVariables false
def updP (f : Pth → Nat) (p : Pth) (v : Nat) : Pth → Nat := fun q => if q = p then v else f q
theorem updP_same (f : Pth → Nat) (p : Pth) (v : Nat) : updP f p v p = v := if_pos rfl
theorem updP_ne (f : Pth → Nat) {p q : Pth} (v : Nat) (h : q ≠ p) : updP f p v q = f q := if_neg h
theorem lookup_append {p : Pth} : ∀ {fs : FS} {x : Pth × Nd}, (fs ++ [x]).lookup p = match fs.lookup p with | some y => some y | none => if p = x.1 then some x.2 else none
  | [], (a, b) => by
    show List.lookup p [(a, b)] = if p = a then some b else none
    rw [List.lookup_cons]
    by_cases h : p = a
    · rw [if_pos h, h]; simp
    · rw [if_neg h]
      have : (p == a) = false := by simp [h]
      rw [this]
      rfl
  | (q, y) :: fs, x => by
    simp only [List.cons_append, List.lookup_cons]
    by_cases h : p = q
    · subst h; simp
    · have : (p == q) = false := by simp [h]
      rw [this]
      simp only
      exact lookup_append
theorem at_put {fs : FS} {p : Pth} (x : Nd) (hp : p ≠ []) (hn : fs.at p = none) (r : Pth) : FS.at (fs ++ [(p, x)]) r = if r = p then some x else fs.at r := by
  unfold FS.at
  by_cases hr : r = []
  · rw [if_pos hr, if_pos hr, if_neg (by rw [hr]; exact Ne.symm hp)]
  · rw [if_neg hr, if_neg hr, lookup_append]
    rw [at_ne fs hp] at hn
    by_cases h : r = p
    · subst h
      rw [hn, if_pos rfl]
    · simp only [if_neg h]
      cases fs.lookup r <;> rfl
theorem snoc_inj {q r : Pth} {m n : Nm} (h : q ++ [m] = r ++ [n]) : q = r ∧ m = n := by
  have := List.append_inj' h rfl
  exact ⟨this.1, by simpa using this.2⟩
theorem snoc_ne (p : Pth) (n : Nm) : p ++ [n] ≠ p := fun e => by have := congrArg List.length e; simp at this
theorem kid_none {fs : FS} (hg : FsOk fs) {p : Pth} (h : fs.at p = none) (n : Nm) : fs.at (p ++ [n]) = none := by
  cases hx : fs.at (p ++ [n]) with
  | none => rfl
  | some x =>
    obtain ⟨y, hy, _⟩ := hg.up p n (by rw [hx]; simp)
    rw [h] at hy
    cases hy
theorem TabAt.ne_tab {w : World} {L : List Nat} {t by' nd : Nat} {fs : FS} {A M : Pth → Nat} (h : TabAt w L t fs by' nd A M) {p : Pth} {x : Nd} (hx : fs.at p = some x) : A p ≠ t := fun e => by
  have h1 := h.node p x hx
  rw [e, h.tab] at h1
  simp only [Option.some.injEq, Obj.cells.injEq] at h1
  exact absurd h1.2.1 (by decide)
theorem TabAt.ne_map {w : World} {L : List Nat} {t by' nd : Nat} {fs : FS} {A M : Pth → Nat} (h : TabAt w L t fs by' nd A M) {p q : Pth} {x y : Nd} (hx : fs.at p = some x) (hy : fs.at q = some y) (hk : y.kind = 2) : A p ≠ M q := fun e => by
  have h1 := h.node p x hx
  obtain ⟨es, clock, K, h2, _⟩ := h.kids q y hy hk
  rw [e, h2] at h1
  cases h1
theorem TabAt.tab_ne_map {w : World} {L : List Nat} {t by' nd : Nat} {fs : FS} {A M : Pth → Nat} (h : TabAt w L t fs by' nd A M) {q : Pth} {y : Nd} (hy : fs.at q = some y) (hk : y.kind = 2) : M q ≠ t := fun e => by
  have h1 := h.tab
  obtain ⟨es, clock, K, h2, _⟩ := h.kids q y hy hk
  rw [← e, h2] at h1
  cases h1
theorem TabAt.put {w w' : World} {L : List Nat} {t by' nd : Nat} {fs : FS} {A M : Pth → Nat} (h : TabAt w L t fs by' nd A M) (hg : FsOk fs) {q : Pth} {n : Nm} {x y : Nd} {c m : Nat} (hq : fs.at q = some y) (hy : y.kind = 2) (hn : fs.at (q ++ [n]) = none)
    (ht : w'.heap[t]? = some (.cells #[(.pointer (some ⟨A [], 0, none⟩)), .int .i64 (by' : Int), .int .i64 (nd : Int), .int .i64 ((usedF fs + x.text.size : Nat) : Int), .int .i64 ((fs.length + 1 : Nat) : Int)] 75 (0, 0)))
    (hmap : ∃ es clock K, w'.heap[M q]? = some (.map es clock) ∧ MKids es clock K ∧ ∀ k, K.lookup k = if k = n then some (.pointer (some ⟨c, 0, none⟩)) else (fs.at (q ++ [k])).map fun _ => (.pointer (some ⟨A (q ++ [k]), 0, none⟩)))
    (hc : w'.heap[c]? = some (.cells #[.int .i64 (x.kind : Int), .string x.text, if x.kind = 2 then .map (some m) else .map none] 85 (0, 0)))
    (hm : x.kind = 2 → w'.heap[m]? = some (.map #[] 0)) (hoth : ∀ i ∈ L, i ≠ t → i ≠ M q → w'.heap[i]? = w.heap[i]?) (hcL : c ∉ L) (hmL : x.kind = 2 → m ∉ L) (hmB : m < w'.heap.size) (hsz : w.heap.size ≤ w'.heap.size) :
    TabAt w' (c :: m :: L) t (fs ++ [(q ++ [n], x)]) by' nd (updP A (q ++ [n]) c) (updP M (q ++ [n]) m) := by
  have hp : q ++ [n] ≠ [] := by simp
  have hat := at_put x hp hn
  have hA0 : updP A (q ++ [n]) c [] = A [] := updP_ne A c (Ne.symm hp)
  have hold : ∀ r z, r ≠ q ++ [n] → FS.at (fs ++ [(q ++ [n], x)]) r = some z → fs.at r = some z := fun r z hr hz => by
    rw [hat r, if_neg hr] at hz
    exact hz
  refine ⟨?_, ?_, ?_, by simp [h.tL], fun i hi => ?_, ?_, ?_, ?_⟩
  · rw [hA0, ht]
    have e1 : usedF (fs ++ [(q ++ [n], x)]) = usedF fs + x.text.size := by unfold usedF; rw [List.map_append, List.sum_append]; simp
    rw [e1, List.length_append]
    rfl
  · intro r z hz
    by_cases hr : r = q ++ [n]
    · subst hr
      rw [hat, if_pos rfl] at hz
      cases hz
      rw [updP_same, updP_same]
      exact hc
    · have hz2 := hold r z hr hz
      rw [updP_ne A c hr, updP_ne M m hr, hoth _ (h.aL r z hz2).1 (h.ne_tab hz2) (h.ne_map hz2 hq hy)]
      exact h.node r z hz2
  · intro r z hz hzk
    by_cases hr : r = q ++ [n]
    · subst hr
      rw [hat, if_pos rfl] at hz
      cases hz
      rw [updP_same]
      refine ⟨#[], 0, [], hm hzk, kids_nil 0, fun k => ?_⟩
      rw [hat, if_neg (snoc_ne _ _), kid_none hg hn k]
      rfl
    · have hz2 := hold r z hr hz
      rw [updP_ne M m hr]
      by_cases hrq : r = q
      · subst hrq
        obtain ⟨es, clock, K, h1, h2, h3⟩ := hmap
        refine ⟨es, clock, K, h1, h2, fun k => ?_⟩
        rw [h3 k, hat]
        by_cases hk : k = n
        · subst hk
          rw [if_pos rfl, if_pos rfl, updP_same]
          rfl
        · have hne : r ++ [k] ≠ r ++ [n] := fun e => hk (snoc_inj e).2
          rw [if_neg hk, if_neg hne, updP_ne A c hne]
      · obtain ⟨es, clock, K, h1, h2, h3⟩ := h.kids r z hz2 hzk
        have hMr : M r ≠ M q := fun e => hrq (h.injM r q z y hz2 hq hzk hy e)
        refine ⟨es, clock, K, ?_, h2, fun k => ?_⟩
        · rw [hoth _ ((h.aL r z hz2).2 hzk) (h.tab_ne_map hz2 hzk) hMr]
          exact h1
        · have hne : r ++ [k] ≠ q ++ [n] := fun e => hrq (snoc_inj e).1
          rw [h3 k, hat, if_neg hne, updP_ne A c hne]
  · rcases List.mem_cons.1 hi with rfl | hi
    · exact lt_of_heap hc
    · rcases List.mem_cons.1 hi with rfl | hi
      · exact hmB
      · exact Nat.lt_of_lt_of_le (h.bl i hi) hsz
  · intro r z hz
    by_cases hr : r = q ++ [n]
    · subst hr
      rw [updP_same, updP_same]
      exact ⟨by simp, fun _ => by simp⟩
    · have hz2 := hold r z hr hz
      rw [updP_ne A c hr, updP_ne M m hr]
      have := h.aL r z hz2
      exact ⟨by simp [this.1], fun hk => by simp [this.2 hk]⟩
  · intro r1 r2 z1 z2 h1 h2 he
    by_cases e1 : r1 = q ++ [n]
    · by_cases e2 : r2 = q ++ [n]
      · rw [e1, e2]
      · subst e1
        rw [updP_same, updP_ne A c e2] at he
        exact absurd (he ▸ (h.aL r2 z2 (hold r2 z2 e2 h2)).1) hcL
    · by_cases e2 : r2 = q ++ [n]
      · subst e2
        rw [updP_same, updP_ne A c e1] at he
        exact absurd (he ▸ (h.aL r1 z1 (hold r1 z1 e1 h1)).1) hcL
      · rw [updP_ne A c e1, updP_ne A c e2] at he
        exact h.injA r1 r2 z1 z2 (hold r1 z1 e1 h1) (hold r2 z2 e2 h2) he
  · intro r1 r2 z1 z2 h1 h2 k1 k2 he
    by_cases e1 : r1 = q ++ [n]
    · by_cases e2 : r2 = q ++ [n]
      · rw [e1, e2]
      · subst e1
        rw [hat, if_pos rfl] at h1
        cases h1
        rw [updP_same, updP_ne M m e2] at he
        exact absurd (he ▸ (h.aL r2 z2 (hold r2 z2 e2 h2)).2 k2) (hmL k1)
    · by_cases e2 : r2 = q ++ [n]
      · subst e2
        rw [hat, if_pos rfl] at h2
        cases h2
        rw [updP_same, updP_ne M m e1] at he
        exact absurd (he ▸ (h.aL r1 z1 (hold r1 z1 e1 h1)).2 k1) (hmL k2)
      · rw [updP_ne M m e1, updP_ne M m e2] at he
        exact h.injM r1 r2 z1 z2 (hold r1 z1 e1 h1) (hold r2 z2 e2 h2) k1 k2 he
end Go.Proofs.YtiijbecklkccfaaGreatDoor.I
/- The program's put: the walk. -/
namespace Go.Proofs.YtiijbecklkccfaaGreatDoor.I
open Go.RowKit Go.Proofs.YtiijbecklkccfaaGreatDoor.B Go.Sort
set_option linter.unusedVariables false
/-- How much room there is, and that it is enough for what stands there. -/
structure Room (fs : FS) (by' nd : Nat) : Prop where
  b : by' ≤ 2147483647
  n : nd ≤ 65536
  used : usedF fs ≤ by'
  count : fs.length ≤ nd
/-- Is there no room for a node of so many bytes? -/
def fullF (fs : FS) (by' nd z : Nat) : Prop := nd ≤ fs.length ∨ by' < usedF fs + z
theorem kids_of {w : World} {L : List Nat} {t by' nd : Nat} {fs : FS} {A M : Pth → Nat} (h : TabAt w L t fs by' nd A M) {q : Pth} {y : Nd} (hq : fs.at q = some y) (hy : y.kind = 2) {n : Nm} (hn : fs.at (q ++ [n]) = none) : ∃ es clock K, w.heap[M q]? = some (.map es clock) ∧ MKids es clock K ∧ (∀ k, K.lookup k = (fs.at (q ++ [k])).map fun _ => (.pointer (some ⟨A (q ++ [k]), 0, none⟩))) ∧ K.lookup n = none := by
  obtain ⟨es, clock, K, h1, h2, h3⟩ := h.kids q y hq hy
  exact ⟨es, clock, K, h1, h2, h3, by rw [h3, hn]; rfl⟩
theorem look_push {K : List (Nm × Value)} {n : Nm} {v : Value} (hn : K.lookup n = none) (k : Nm) : (K ++ [(n, v)]).lookup k = if k = n then some v else K.lookup k := by
  induction K with
  | nil =>
    simp only [List.nil_append, List.lookup_cons, List.lookup_nil]
    by_cases h : k = n
    · subst h; simp
    · have : (k == n) = false := by simp [h]
      rw [this, if_neg h]
  | cons x K ih =>
    obtain ⟨a, b⟩ := x
    simp only [List.cons_append, List.lookup_cons] at hn ⊢
    by_cases h : n = a
    · subst h; simp at hn
    · have hna : (n == a) = false := by simp [h]
      rw [hna] at hn
      simp only at hn
      rw [ih hn]
      by_cases hk : k = a
      · subst hk
        have : k ≠ n := Ne.symm h
        simp [this]
      · have hka : (k == a) = false := by simp [hk]
        rw [hka]
set_option maxRecDepth 100000 in
set_option maxHeartbeats 16000000 in
theorem put_full (L : List Nat) (t : Nat) (fs : FS) (by' nd : Nat) (A M : Pth → Nat) (q : Pth) (n : Nm) (x : Nd) (c : Nat) (mv : Value) (w : World) (hT : TabAt w L t fs by' nd A M) (hr : Room fs by' nd) (hc : w.heap[c]? = some (.cells #[.int .i64 (x.kind : Int), .string x.text, mv] 85 (0, 0))) (hz : x.text.size ≤ 4194304) (hf : fullF fs by' nd x.text.size) :
    Calls Tryz.prog 63 #[(.pointer (some ⟨t, 0, none⟩)), .agg #[.pointer (some ⟨A q, 0, none⟩), .string (nb n), .pointer none], (.pointer (some ⟨c, 0, none⟩))] w fun e w' => e = .returned (.iface 71 (.int .i64 206)) ∧ Chg [] w w' := by
  have HC0 := Asd.mk (show Chg [] w (w.alloc (.cells #[.pointer (some ⟨A q, 0, none⟩), .string (nb n), .pointer none] 79)) from (Chg.refl _ _).alloc _)
  have hT0 := (hT.keep0 HC0.out).tab
  have hc0 := HC0.out.heap hc (by simp)
  have p1 := cell_of_heap hT0 1
  have p2 := cell_of_heap hT0 2
  have p3 := cell_of_heap hT0 3
  have p4 := cell_of_heap hT0 4
  have c1 := cell_of_heap hc0 1
  obtain ⟨h1, h2, h3, h4⟩ := hr
  unfold fullF at hf
  generalize usedF fs = us at *
  generalize fs.length = ct at *
  clear hT hc hT0 hc0
  by_cases hct : nd ≤ ct
  · have k1 : (nd : Int) ≤ (ct : Int) := by omega
    clear hf
    go_enter Tryz.func63, Tryz.ntmps63
    go_upto_region 1 with fail
    go_quiet (fail)
    go_wp2
    go_ret
    exact ⟨rfl, HC0.out.drewN nq⟩
  · have k1 : ¬ (nd : Int) ≤ (ct : Int) := by omega
    have k2 : (by' : Int) - (us : Int) < (x.text.size : Int) := by omega
    have k3 : (us : Int) ≤ (by' : Int) := by omega
    clear hf
    go_enter Tryz.func63, Tryz.ntmps63
    go_upto_region 1 with fail
    go_quiet (fail)
    go_wp2
    go_ret
    exact ⟨rfl, HC0.out.drewN nq⟩
set_option maxRecDepth 100000 in
set_option maxHeartbeats 16000000 in
theorem put_ok (L : List Nat) (t : Nat) (fs : FS) (by' nd : Nat) (A M : Pth → Nat) (q : Pth) (n : Nm) (x y : Nd) (c m : Nat) (w : World) (hT : TabAt w L t fs by' nd A M) (hg : FsOk fs) (hr : Room fs by' nd) (hq : fs.at q = some y) (hy : y.kind = 2) (hn : fs.at (q ++ [n]) = none)
    (hc : w.heap[c]? = some (.cells #[.int .i64 (x.kind : Int), .string x.text, if x.kind = 2 then .map (some m) else .map none] 85 (0, 0))) (hm : x.kind = 2 → w.heap[m]? = some (.map #[] 0)) (hcL : c ∉ L) (hmL : x.kind = 2 → m ∉ L) (hmw : m < w.heap.size) (hz : x.text.size ≤ 4194304) (hf : ¬ fullF fs by' nd x.text.size) :
    Calls Tryz.prog 63 #[(.pointer (some ⟨t, 0, none⟩)), .agg #[.pointer (some ⟨A q, 0, none⟩), .string (nb n), .pointer none], (.pointer (some ⟨c, 0, none⟩))] w fun e w' => e = .returned .nilIface ∧ Chg L w w' ∧ TabAt w' (c :: m :: L) t (fs ++ [(q ++ [n], x)]) by' nd (updP A (q ++ [n]) c) (updP M (q ++ [n]) m) := by
  obtain ⟨es, clock, K, hK1, hK2, hK3, hK4⟩ := kids_of hT hq hy hn
  have hqn := hT.node q y hq
  rw [if_pos hy] at hqn
  have hMt := hT.tab_ne_map hq hy
  have hAt := hT.ne_tab hq
  have hAM := hT.ne_map hq hq hy
  have htL := hT.tL
  obtain ⟨haL, hML⟩ := hT.aL q y hq
  replace hML := hML hy
  have hct : c ≠ t := fun e => hcL (e ▸ htL)
  have hcM : c ≠ M q := fun e => hcL (e ▸ hML)
  have hmt : x.kind = 2 → m ≠ t := fun hk e => hmL hk (e ▸ htL)
  have hmM : x.kind = 2 → m ≠ M q := fun hk e => hmL hk (e ▸ hML)
  have HC0 := Asd.mk (show Chg [] w (w.alloc (.cells #[.pointer (some ⟨A q, 0, none⟩), .string (nb n), .pointer none] 79)) from (Chg.refl _ _).alloc _)
  have hT0 := (hT.keep0 HC0.out).tab
  have hc0 := HC0.out.heap hc (by simp)
  have HM := Asd.mk hm
  have hq0 := HC0.out.heap hqn (by simp)
  have hK0 := HC0.out.heap hK1 (by simp)
  have hB0 := hp_new w (.cells #[.pointer (some ⟨A q, 0, none⟩), .string (nb n), .pointer none] 79)
  have hBL := hT.bl
  have p1 := cell_of_heap hT0 1
  have p2 := cell_of_heap hT0 2
  have p3 := cell_of_heap hT0 3
  have p4 := cell_of_heap hT0 4
  have c1 := cell_of_heap hc0 1
  obtain ⟨h1, h2, h3, h4⟩ := hr
  unfold fullF at hf
  have HFin := Asd.mk (fun w' => TabAt.put (w' := w') (c := c) (m := m) (x := x) hT hg hq hy hn)
  have HKK := Asd.mk hK2
  have HK3 := Asd.mk hK3
  have HK4 := Asd.mk hK4
  have HT0 := Asd.mk hT0
  have Hc0 := Asd.mk hc0
  have Hq0 := Asd.mk hq0
  have HK0 := Asd.mk hK0
  have HB0 := Asd.mk hB0
  obtain ⟨us, hus⟩ : ∃ k, usedF fs = k := ⟨_, rfl⟩
  obtain ⟨ct, hctn⟩ : ∃ k, fs.length = k := ⟨_, rfl⟩
  rw [hus] at h3 hf p3 HT0 HFin
  rw [hctn] at h4 hf p4 HT0 HFin
  clear hT hc hT0 hc0 hq0 hK0 hB0 hK1 hK2 hK3 hK4 hg hn hm hqn hus hctn
  have k1 : ¬ (nd : Int) ≤ (ct : Int) := by omega
  have k2 : ¬ (by' : Int) - (us : Int) < (x.text.size : Int) := by omega
  have k3 : (us : Int) ≤ (by' : Int) := by omega
  clear hf
  go_enter Tryz.func63, Tryz.ntmps63
  go_upto_region 1 with fail
  go_quiet (fail)
  go_upto_region 3 with fail
  refine wp_opaque2 (fun W hW => ?_)
  have HC1 := Asd.mk (show Chg [] w W by rw [hW]; exact HC0.out.drewN _)
  have mv : ∀ {i : Nat} {o : Obj}, ((w.alloc (.cells #[.pointer (some ⟨A q, 0, none⟩), .string (nb n), .pointer none] 79))).heap[i]? = some o → W.heap[i]? = some o := fun h => by rw [hW]; exact hp_drewN h _
  have HT1 := Asd.mk (mv HT0.out)
  have Hc1 := Asd.mk (mv Hc0.out)
  have Hq1 := Asd.mk (mv Hq0.out)
  have HK1 := Asd.mk (mv HK0.out)
  have HB1 := Asd.mk (mv HB0.out)
  have hBt : w.heap.size ≠ t := fun e => by have := hBL t htL; omega
  have hBM : w.heap.size ≠ M q := fun e => by have := hBL _ hML; omega
  have HBL := Asd.mk hBL
  obtain ⟨B, hB⟩ : ∃ B, w.heap.size = B := ⟨_, rfl⟩
  rw [hB] at HB1 hBt hBM ⊢
  have HBB := Asd.mk hB
  have p4 := cell_of_heap HT1.out 4
  have f4 := frozen_of_heap HT1.out 4
  clear mv hW p1 p2 p3 c1 HT0 Hc0 Hq0 HK0 HB0 HC0 hBL hB
  go_upto_region 4 with fail
  refine wp_opaque2 (fun W2 hW2 => ?_)
  have HC2 := Asd.mk (show Chg L w W2 by rw [hW2]; exact (HC1.out.mono (by simp)).setCell (fun _ => htL) _)
  have HT2 := Asd.mk (show W2.heap[t]? = some (.cells #[(.pointer (some ⟨A [], 0, none⟩)), .int .i64 (by' : Int), .int .i64 (nd : Int), .int .i64 (us : Int), .int .i64 ((ct : Int) + 1)] 75 (0, 0)) by rw [hW2]; exact hp_set HT1.out 4 _)
  have mv2 : ∀ {i : Nat} {o : Obj}, W.heap[i]? = some o → i ≠ t → W2.heap[i]? = some o := fun h hi => by rw [hW2]; exact hp_set_other h hi _ _
  have Hc2 := Asd.mk (mv2 Hc1.out hct)
  have Hq2 := Asd.mk (mv2 Hq1.out hAt)
  have HK2 := Asd.mk (mv2 HK1.out hMt)
  have HB2 := Asd.mk (mv2 HB1.out hBt)
  have HO2 := Asd.mk (show ∀ i, i < w.heap.size → i ≠ t → W2.heap[i]? = w.heap[i]? from fun i hi ht => by
    rw [hW2]
    exact (Below.heap_setCell W ⟨t, 4, none⟩ _ i ht).trans (HC1.out.block i hi (by simp)))
  have p3 := cell_of_heap HT2.out 3
  have f3 := frozen_of_heap HT2.out 3
  have c1 := cell_of_heap Hc2.out 1
  clear mv2 hW2 HC1 HT1 Hc1 Hq1 HK1 HB1 p4 f4
  go_still_tail 12, (by kernel_rfl)
  go_upto_region 5 with fail
  refine wp_opaque2 (fun W3 hW3 => ?_)
  have mv3 : ∀ {i : Nat} {o : Obj}, W2.heap[i]? = some o → i ≠ t → W3.heap[i]? = some o := fun h hi => by rw [hW3]; exact hp_drew (hp_set_other h hi _ _)
  have HC3 := Asd.mk (show Chg L w W3 by rw [hW3]; exact (HC2.out.setCell (fun _ => htL) _).drew)
  have HT3 := Asd.mk (show W3.heap[t]? = some (.cells #[(.pointer (some ⟨A [], 0, none⟩)), .int .i64 (by' : Int), .int .i64 (nd : Int), .int .i64 ((us : Int) + (x.text.size : Int)), .int .i64 ((ct : Int) + 1)] 75 (0, 0)) by rw [hW3]; exact hp_drew (hp_set HT2.out 3 _))
  have Hc3 := Asd.mk (mv3 Hc2.out hct)
  have Hq3 := Asd.mk (mv3 Hq2.out hAt)
  have HK3' := Asd.mk (mv3 HK2.out hMt)
  have HB3 := Asd.mk (mv3 HB2.out hBt)
  have HO3 := Asd.mk (show ∀ i, i < w.heap.size → i ≠ t → W3.heap[i]? = w.heap[i]? from fun i hi ht => by
    rw [hW3]
    exact (Below.heap_setCell W2 ⟨t, 3, none⟩ _ i ht).trans (HO2.out i hi ht))
  have b0 := cell_of_heap HB3.out 0
  have b1 := cell_of_heap HB3.out 1
  have q2 := cell_of_heap Hq3.out 2
  obtain ⟨hup, hMK⟩ := run_upd (P := Tryz.prog) Tryz.underlying83 Tryz.underlying9 (hp_drew HK3'.out) HKK.out (nb n) (.pointer (some ⟨c, 0, none⟩)) (by rw [list_nb]; exact HK4.out)
  rw [list_nb] at hMK
  have HMK := Asd.mk hMK
  clear mv3 hW3 HC2 HT2 Hc2 Hq2 HK2 HB2 HO2 p3 f3 c1 hMK
  go_still_tail 8, (by kernel_rfl)
  go_wp2
  go_ret
  have hCf : Chg L w (Go.ChangeMaps.setBlock W3.drew (M q) (.map (es.push ⟨.string (nb n), (.pointer (some ⟨c, 0, none⟩)), clock⟩) (clock + 1))) := (HC3.out.drew).setBlock (fun _ => hML) _
  have mv4 : ∀ {i : Nat} {o : Obj}, W3.heap[i]? = some o → i ≠ M q → (Go.ChangeMaps.setBlock W3.drew (M q) (.map (es.push ⟨.string (nb n), (.pointer (some ⟨c, 0, none⟩)), clock⟩) (clock + 1))).heap[i]? = some o := fun h hi => hp_setBlock_other (hp_drew h) hi
  refine ⟨rfl, hCf, HFin.out _ (by have := mv4 HT3.out (Ne.symm hMt); simpa using this) ⟨_, _, _, hp_setBlock (hp_drew HK3'.out), HMK.out, fun k => ?_⟩ (mv4 Hc3.out hcM) (fun hk => ?_) (fun i hi h1 h2 => ?_) hcL hmL (Nat.lt_of_lt_of_le hmw hCf.size) hCf.size⟩
  · rw [look_push HK4.out, HK3.out]
  · exact mv4 ((HO3.out m hmw (hmt hk)).trans (HM.out hk)) (hmM hk)
  · have hlt := HBL.out i hi
    show (W3.heap.setIfInBounds (M q) _)[i]? = _
    rw [Array.getElem?_setIfInBounds_ne (Ne.symm h2)]
    exact HO3.out i hlt h1
end Go.Proofs.YtiijbecklkccfaaGreatDoor.I
/- The program's Make: the walk. -/
namespace Go.Proofs.YtiijbecklkccfaaGreatDoor.I
open Go.RowKit Go.Proofs.YtiijbecklkccfaaGreatDoor.B Go.Sort
set_option linter.unusedVariables false
def errV (n : Nat) : Value := if n = 0 then .nilIface else .iface 71 (.int .i64 (n : Int))
/-- What a call that changes a file system leaves. -/
def OpPost (w : World) (L : List Nat) (t by' nd : Nat) (R : Nat × FS) (e : Ending) (w' : World) : Prop :=
  e = .returned (errV R.1) ∧ Chg L w w' ∧ ∃ L' A' M', TabAt w' L' t R.2 by' nd A' M' ∧ ∀ i ∈ L', i ∈ L ∨ w.heap.size ≤ i
open Classical in
/-- Something new at a path. -/
noncomputable def putF (fs : FS) (by' nd : Nat) (p : Pth) (x : Nd) : Nat × FS := if fullF fs by' nd x.text.size then (206, fs) else (0, fs ++ [(p, x)])
/-- Make. -/
noncomputable def makeF (fs : FS) (by' nd : Nat) (s : ByteArray) : Nat × FS := match atE fs s with
  | .error n => (n, fs)
  | .ok p => if (fs.at p).isSome = true then (201, fs) else putF fs by' nd p ⟨2, ⟨#[]⟩⟩
theorem atE_pos {fs : FS} {s : ByteArray} {n : Nat} (h : atE fs s = .error n) : n ≠ 0 := by
  unfold atE at h
  split at h
  · rename_i m hm
    cases h
    unfold partsF at hm
    split at hm
    · cases hm; decide
    · split at hm
      · cases hm
      · split at hm
        · cases hm; decide
        · split at hm
          · cases hm; decide
          · cases hm
  · split at h
    · rename_i p hp m hm
      cases h
      have : ∀ (r d : Pth), wayFrom fs d r = some n → n ≠ 0 := by
        intro r
        induction r with
        | nil => intro d h; simp [wayFrom] at h
        | cons a r ih =>
          intro d h
          cases r with
          | nil => simp [wayFrom] at h
          | cons b r =>
            simp only [wayFrom] at h
            split at h
            · cases h; decide
            · split at h
              · cases h; decide
              · split at h
                · cases h; decide
                · exact ih _ h
      exact this _ _ hm
    · cases h
/-- A path to which the way is clear, at which nothing stands: its directory. -/
theorem at_parent {fs : FS} (hg : FsOk fs) {s : ByteArray} {p : Pth} (h : atE fs s = .ok p) (hn : fs.at p = none) : ∃ q n y, p = q ++ [n] ∧ fs.at q = some y ∧ y.kind = 2 := by
  unfold atE at h
  split at h
  · cases h
  · rename_i p2 hp
    split at h
    · cases h
    · rename_i hw
      cases h
      have hne : p ≠ [] := fun e => by rw [e, at_root] at hn; cases hn
      obtain ⟨y, hy, hk⟩ := way_dir hg hw ⟨_, at_root fs, rfl⟩ hne
      exact ⟨p.dropLast, p.getLast hne, y, (List.dropLast_concat_getLast hne).symm, by simpa using hy, hk⟩
theorem put_dir (L : List Nat) (t : Nat) (fs : FS) (by' nd : Nat) (A M : Pth → Nat) (q : Pth) (n : Nm) (y : Nd) (X : World) (hT : TabAt X L t fs by' nd A M) (hg : FsOk fs) (hr : Room fs by' nd) (hq : fs.at q = some y) (hy : y.kind = 2) (hn : fs.at (q ++ [n]) = none) :
    Calls Tryz.prog 63 #[(.pointer (some ⟨t, 0, none⟩)), .agg #[.pointer (some ⟨A q, 0, none⟩), .string (nb n), .pointer none], (.pointer (some ⟨X.heap.size + 1, 0, none⟩))] ((X.alloc (.map #[] 0)).alloc (.cells #[.int .i64 2, .string ⟨#[]⟩, .map (some X.heap.size)] 85)) fun e w' => OpPost X L t by' nd (putF fs by' nd (q ++ [n]) ⟨2, ⟨#[]⟩⟩) e w' := by
  have hC : Chg [] X ((X.alloc (.map #[] 0)).alloc (.cells #[.int .i64 2, .string ⟨#[]⟩, .map (some X.heap.size)] 85)) := ((Chg.refl _ _).alloc _).alloc _
  have hnew : ((X.alloc (.map #[] 0)).alloc (.cells #[.int .i64 2, .string ⟨#[]⟩, .map (some X.heap.size)] 85)).heap[X.heap.size + 1]? = some (.cells #[.int .i64 2, .string ⟨#[]⟩, .map (some X.heap.size)] 85 (0, 0)) := by
    have := hp_new (X.alloc (.map #[] 0)) (.cells #[.int .i64 2, .string ⟨#[]⟩, .map (some X.heap.size)] 85)
    rw [World.size_alloc] at this
    exact this
  have hmap := hp_alloc (hp_new X (.map #[] 0)) (.cells #[.int .i64 2, .string ⟨#[]⟩, .map (some X.heap.size)] 85)
  have hbl := hT.bl
  by_cases hf : fullF fs by' nd (⟨2, ⟨#[]⟩⟩ : Nd).text.size
  · refine (put_full L t fs by' nd A M q n ⟨2, ⟨#[]⟩⟩ (X.heap.size + 1) _ _ (hT.keep0 hC) hr hnew (by show 0 ≤ 4194304; omega) hf).mono ?_
    rintro e w' ⟨rfl, hC2⟩
    have hR : putF fs by' nd (q ++ [n]) ⟨2, ⟨#[]⟩⟩ = (206, fs) := by unfold putF; rw [if_pos hf]
    rw [hR]
    exact ⟨rfl, (hC.trans hC2).mono (by simp), L, A, M, hT.keep0 (hC.trans hC2), fun i hi => .inl hi⟩
  · refine (put_ok L t fs by' nd A M q n ⟨2, ⟨#[]⟩⟩ y (X.heap.size + 1) X.heap.size _ (hT.keep0 hC) hg hr hq hy hn hnew (fun _ => hmap) (fun h => by have := hbl _ h; omega) (fun _ h => by have := hbl _ h; omega) (by simp; omega) (by show 0 ≤ 4194304; omega) hf).mono ?_
    rintro e w' ⟨rfl, hC2, hT2⟩
    have hR : putF fs by' nd (q ++ [n]) ⟨2, ⟨#[]⟩⟩ = (0, fs ++ [(q ++ [n], ⟨2, ⟨#[]⟩⟩)]) := by unfold putF; rw [if_neg hf]
    rw [hR]
    exact ⟨rfl, (hC.mono (by simp)).trans hC2, _, _, _, hT2, fun i hi => by
      simp only [List.mem_cons] at hi
      rcases hi with rfl | rfl | hi
      · exact .inr (by omega)
      · exact .inr (Nat.le_refl _)
      · exact .inl hi⟩
set_option maxRecDepth 100000 in
set_option maxHeartbeats 16000000 in
theorem make_calls (L : List Nat) (t : Nat) (fs : FS) (by' nd : Nat) (A M : Pth → Nat) (s : ByteArray) (w : World) (hT : TabAt w L t fs by' nd A M) (hg : FsOk fs) (hr : Room fs by' nd) (hm : MaxLenAt w) (hs : s.size ≤ 4294967280) :
    Calls Tryz.prog 33 #[(.pointer (some ⟨t, 0, none⟩)), .string s] w fun e w' => OpPost w L t by' nd (makeF fs by' nd s) e w' := by
  have HP := Asd.mk (at_calls L t fs by' nd A M s w hT hg hm hs)
  have HT := Asd.mk hT
  have hid : ∀ i ∈ L, i ∈ L ∨ w.heap.size ≤ i := fun i hi => .inl hi
  obtain ⟨R, hR⟩ : ∃ R, atE fs s = R := ⟨_, rfl⟩
  rw [hR] at HP
  cases R with
  | error n =>
    have HA := Asd.mk (show makeF fs by' nd s = (n, fs) by unfold makeF; rw [hR])
    have HN := Asd.mk (atE_pos hR)
    clear hR hT hg hr hm
    go_enter Tryz.func33, Tryz.ntmps33
    go_wp2_with fail
    refine HP.out.mono ?_
    rintro e w1 ⟨rfl, hC1⟩
    have HC1 := Asd.mk hC1
    clear hC1
    go_wp2
    go_ret
    exact ⟨by rw [HA.out]; simp only [errV]; rw [if_neg HN.out]; rfl, (HC1.out.mono (by simp)).alloc _, L, A, M, by rw [HA.out]; exact HT.out.keep0 (HC1.out.alloc _), hid⟩
  | ok p =>
    cases hp : fs.at p with
    | some x =>
      have HA := Asd.mk (show makeF fs by' nd s = (201, fs) by unfold makeF; rw [hR]; simp only; rw [hp]; rfl)
      have HK := Asd.mk (show kidA fs A p = some ⟨A p, 0, none⟩ by unfold kidA; rw [hp]; rfl)
      clear hR hT hg hr hm hp
      go_enter Tryz.func33, Tryz.ntmps33
      go_wp2_with fail
      refine HP.out.mono ?_
      rintro e w1 ⟨hPo, hC1⟩
      have hPo2 : e = .returned (.tuple #[.agg #[.pointer (dirA A p), .string (lastS p), .pointer (some ⟨A p, 0, none⟩)], .nilIface]) := by rw [← HK.out]; exact hPo
      subst hPo2
      have HC1 := Asd.mk hC1
      clear hC1 hPo
      go_wp2
      go_ret
      exact ⟨by rw [HA.out]; rfl, (HC1.out.mono (by simp)).alloc _, L, A, M, by rw [HA.out]; exact HT.out.keep0 (HC1.out.alloc _), hid⟩
    | none =>
      obtain ⟨q, n, y, rfl, hq, hy⟩ := at_parent hg hR hp
      have HA := Asd.mk (show makeF fs by' nd s = putF fs by' nd (q ++ [n]) ⟨2, ⟨#[]⟩⟩ by unfold makeF; rw [hR]; simp only; rw [hp]; rfl)
      have HK := Asd.mk (show dirA A (q ++ [n]) = some ⟨A q, 0, none⟩ ∧ lastS (q ++ [n]) = nb n ∧ kidA fs A (q ++ [n]) = none from ⟨by unfold dirA; rw [if_neg (by simp)]; simp, by unfold lastS; rw [if_neg (by simp)]; simp, by unfold kidA; rw [hp]; rfl⟩)
      have HBL := Asd.mk hT.bl
      have HG := Asd.mk hg
      have HRm := Asd.mk hr
      have HPN := Asd.mk hp
      have HQ := Asd.mk hq
      clear hR hT hg hr hm hp hq
      go_enter Tryz.func33, Tryz.ntmps33
      go_wp2_with fail
      refine HP.out.mono ?_
      rintro e w1 ⟨hPo, hC1⟩
      have hPo2 : e = .returned (.tuple #[.agg #[.pointer (some ⟨A q, 0, none⟩), .string (nb n), .pointer none], .nilIface]) := by rw [← HK.out.1, ← HK.out.2.1, ← HK.out.2.2]; exact hPo
      subst hPo2
      have HC1 := Asd.mk hC1
      clear hC1 hPo
      go_upto_region 6 with fail
      refine wp_opaque2 (fun W hW => ?_)
      have HCW := Asd.mk (show Chg [] w W by rw [hW]; exact HC1.out.alloc _)
      have HB := Asd.mk (show W.heap[w1.heap.size]? = some (.cells #[.pointer (some ⟨A q, 0, none⟩), .string (nb n), .pointer none] 79 (0, 0)) by rw [hW]; exact hp_new _ _)
      have HTW := Asd.mk (HT.out.keep0 HCW.out)
      have HPut := Asd.mk (fun (X : World) (hX : Chg [] W X) => put_dir L t fs by' nd A M q n y X (HTW.out.keep0 hX) HG.out HRm.out HQ.out hy HPN.out)
      obtain ⟨B, hB⟩ : ∃ B, w1.heap.size = B := ⟨_, rfl⟩
      rw [hB] at HB ⊢
      have b0 := cell_of_heap HB.out 0
      have b1 := cell_of_heap HB.out 1
      have b2 := cell_of_heap HB.out 2
      have hBw : w.heap.size ≤ B := by rw [← hB]; exact HC1.out.size
      clear hW HC1 HP hB
      have hS : ∀ w' : World, w'.heap[B]? = some (.cells #[.pointer (some ⟨A q, 0, none⟩), .string (nb n), .pointer none] 79 (0, 0)) → w'.cell? ⟨B, 0, none⟩ = some (.pointer (some ⟨A q, 0, none⟩)) ∧ w'.cell? ⟨B, 1, none⟩ = some (.string (nb n)) ∧ w'.cell? ⟨B, 2, none⟩ = some (.pointer none) := fun w' h => ⟨cell_of_heap h 0, cell_of_heap h 1, cell_of_heap h 2⟩
      have hS0 := hS _ (hp_drew HB.out)
      have hS1 := hS _ (hp_alloc (hp_alloc (hp_drew HB.out) (.map #[] 0)) (.cells #[.int .i64 2, .string ⟨#[]⟩, .map (some W.heap.size)] 85))
      have hBL : B ∉ L := fun h => by have := HBL.out _ h; omega
      have hS2 : ∀ w' : World, Chg L W.drew w' → w'.cell? ⟨B, 0, none⟩ = some (.pointer (some ⟨A q, 0, none⟩)) ∧ w'.cell? ⟨B, 1, none⟩ = some (.string (nb n)) ∧ w'.cell? ⟨B, 2, none⟩ = some (.pointer none) := fun w' hc => hS _ (hc.heap (hp_drew HB.out) hBL)
      have HD := Asd.mk ((Chg.refl [] W).drew)
      clear b0 b1 b2
      go_region_held3 (fun (w' : World) => w'.cell? ⟨B, 0, none⟩ = some (.pointer (some ⟨A q, 0, none⟩)) ∧ w'.cell? ⟨B, 1, none⟩ = some (.string (nb n)) ∧ w'.cell? ⟨B, 2, none⟩ = some (.pointer none)) (first | exact hS0 | exact hS1 | exact hS2 _ (by assumption)) (first | (go_at_call 32; refine (directory_calls _).mono ?_; rintro e w2 ⟨rfl, rfl⟩) | (go_at_call 63; refine (HPut.out _ HD.out).mono ?_; rintro e w3 ⟨rfl, hO1, hO2⟩))
      all_goals
        obtain ⟨L', A', M', hT', hL'⟩ := hO2
        have HTF := Asd.mk hT'
        have HLF := Asd.mk hL'
        have HOF := Asd.mk hO1
        clear hT' hL' hO1
        go_wp2
        go_ret
        exact ⟨by rw [HA.out]; rfl, ((HCW.out.drew).mono (by simp)).trans HOF.out, L', A', M', by rw [HA.out]; exact HTF.out, fun i hi => (HLF.out i hi).imp id (fun h => Nat.le_trans HCW.out.size h)⟩
end Go.Proofs.YtiijbecklkccfaaGreatDoor.I
