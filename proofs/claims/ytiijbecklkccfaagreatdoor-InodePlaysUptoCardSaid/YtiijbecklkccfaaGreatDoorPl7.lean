/- Merged out of these texts: IFits, INames, EntRow, LinkDef, Keep. -/
import Derived.Test.YtiijbecklkccfaaGreatDoorPl6
import Derived.Test.YtiijbecklkccfaaGreatDoorPl3
import Derived.Deep.AppendLies
import Derived.Test.YtiijbecklkccfaaGreatDoorPl5
/- The program's fits: may all paths below a node be, when it stands at a path? The walk: a recursion over maps. -/
namespace Go.Proofs.YtiijbecklkccfaaGreatDoor.I
open Go.RowKit Go.Proofs.YtiijbecklkccfaaGreatDoor.B Go.Sort
set_option linter.unusedVariables false
def glueR (s : Nm) (r : Pth) : Nm := s ++ r.flatMap fun k => 47 :: k
def fitsP (fs : FS) (p : Pth) (s : Nm) : Prop := ∀ r, fs.at (p ++ r) ≠ none → ∃ q, partsF (nb (glueR s r)) = .ok q
theorem fits_root {fs : FS} {p : Pth} {s : Nm} {x : Nd} (hx : fs.at p = some x) (h : fitsP fs p s) : ∃ q, partsF (nb s) = .ok q := by
  have := h [] (by rw [List.append_nil, hx]; simp)
  simpa [glueR] using this
theorem glue_cons (s : Nm) (k : Nm) (r : Pth) : glueR s (k :: r) = glueR (s ++ 47 :: k) r := by simp [glueR]
theorem fits_kid {fs : FS} {p : Pth} {s : Nm} (h : fitsP fs p s) (k : Nm) : fitsP fs (p ++ [k]) (s ++ 47 :: k) := fun r hr => by
  rw [← glue_cons]
  exact h (k :: r) (by simpa using hr)
theorem fits_of {fs : FS} (hg : FsOk fs) {p : Pth} {s : Nm} (h0 : ∃ q, partsF (nb s) = .ok q) (h : ∀ k, fs.at (p ++ [k]) ≠ none → fitsP fs (p ++ [k]) (s ++ 47 :: k)) : fitsP fs p s := by
  intro r hr
  cases r with
  | nil => simpa [glueR] using h0
  | cons k r =>
    rw [glue_cons]
    have hr2 : fs.at ((p ++ [k]) ++ r) ≠ none := by simpa using hr
    refine h k ?_ r hr2
    cases r with
    | nil => simpa using hr2
    | cons m r =>
      obtain ⟨x, hx, _⟩ := hg.prefix hr2 (by simp)
      rw [hx]; simp
theorem parts_size {s : ByteArray} {q : Pth} (h : partsF s = .ok q) : s.size ≤ 4096 := by
  unfold partsF at h
  split at h
  · cases h
  · omega
theorem mem_lookup_kid {K : List (Nm × Value)} (hd : (K.map (·.1)).Nodup) {n : Nm} {v : Value} (h : (n, v) ∈ K) : K.lookup n = some v := by
  induction K with
  | nil => cases h
  | cons a K ih =>
    simp only [List.map_cons, List.nodup_cons] at hd
    rw [List.lookup_cons]
    rcases List.mem_cons.1 h with h1 | h1
    · rw [← h1]; simp
    · have : (n == a.1) = false := by
        simp only [beq_eq_false_iff_ne]
        rintro rfl
        exact hd.1 (List.mem_map.2 ⟨(a.1, v), h1, rfl⟩)
      rw [this]
      exact ih hd.2 h1
theorem lookup_mem_kid {K : List (Nm × Value)} {n : Nm} {v : Value} (h : K.lookup n = some v) : (n, v) ∈ K := by
  induction K with
  | nil => simp at h
  | cons a K ih =>
    rw [List.lookup_cons] at h
    by_cases e : n = a.1
    · subst e
      simp at h
      rw [← h]; simp
    · have : (n == a.1) = false := by simpa using e
      rw [this] at h
      exact List.mem_cons_of_mem _ (ih h)
theorem heap_size_lt {w : World} {i : Nat} {o : Obj} (h : w.heap[i]? = some o) : i < w.heap.size := by
  rcases Nat.lt_or_ge i w.heap.size with h1 | h1
  · exact h1
  · rw [Array.getElem?_eq_none h1] at h; cases h
set_option maxRecDepth 100000 in
set_option maxHeartbeats 16000000 in
theorem fits_calls (L : List Nat) (t : Nat) (fs : FS) (by' nd : Nat) (A M : Pth → Nat) (hg : FsOk fs) : ∀ (m : Nat) (p : Pth) (x : Nd) (s : Nm) (w : World), p.length + m = 65 → fs.at p = some x → s.length ≤ 10000 → TabAt w L t fs by' nd A M → MaxLenAt w →
    Calls Tryz.prog 60 #[(.pointer (some ⟨A p, 0, none⟩)), .string (nb s)] w fun e w' => ∃ b, e = .returned (.bool b) ∧ (b = true ↔ fitsP fs p s) ∧ Chg [] w w'
  | 0, p, x, s, w, hl, hx, _, _, _ => by
    have := (hg.okp p x hx).1
    omega
  | m + 1, p, x, s, w, hl, hx, hs, hT, hm => by
    have IH := Asd.mk (fits_calls L t fs by' nd A M hg m)
    have HP := Asd.mk (parts_calls (nb s) w hm (by rw [nb_size]; omega))
    have HT := Asd.mk hT
    have HG := Asd.mk hg
    obtain ⟨R, hR⟩ : ∃ R, partsF (nb s) = R := ⟨_, rfl⟩
    rw [hR] at HP
    cases R with
    | error n =>
      have HA := Asd.mk (show ¬ fitsP fs p s from fun h => by
        obtain ⟨q, hq⟩ := fits_root hx h
        rw [hR] at hq; cases hq)
      clear hR hT hm hg hx IH
      go_enter Tryz.func60, Tryz.ntmps60
      go_wp2_with fail
      refine HP.out.mono ?_
      rintro e w1 ⟨hP, hC1⟩
      have hP2 : e = .returned (.tuple #[.slice none 0 0, .iface 71 (.int .i64 (n : Int))]) := hP
      subst hP2
      have HC1 := Asd.mk hC1
      clear hC1 hP
      go_wp2
      go_ret
      exact ⟨false, rfl, ⟨fun h => absurd h (by simp), fun h => absurd h HA.out⟩, HC1.out⟩
    | ok q =>
      have hsz := parts_size hR
      have hsl : s.length ≤ 4096 := by rw [nb_size] at hsz; exact hsz
      have HR := Asd.mk (show ∃ q, partsF (nb s) = .ok q from ⟨q, hR⟩)
      obtain ⟨S, hS⟩ : ∃ S, nb s = S := ⟨_, rfl⟩
      have HS := Asd.mk hS
      have HX := Asd.mk hx
      rw [hS] at HP hsz ⊢
      clear hR hT hg hS
      go_enter Tryz.func60, Tryz.ntmps60
      go_wp2_with fail
      refine HP.out.mono ?_
      rintro e w1 ⟨hP, hC1⟩
      have hPV : ∃ A1 n1, e = .returned (.tuple #[.slice A1 n1 n1, .nilIface]) := by
        rcases hP with ⟨h1, h2⟩ | ⟨h1, g, h2, h3⟩
        · exact ⟨none, 0, h2⟩
        · exact ⟨_, _, h2⟩
      obtain ⟨A1, n1, rfl⟩ := hPV
      have HC1 := Asd.mk hC1
      have hT1 := HT.out.keep0 hC1
      have c2 := cell_of_heap (hT1.node p x hx) 2
      have HM1 := Asd.mk (hm.chg hC1)
      have HT1 := Asd.mk hT1
      clear hC1 hP HP hm
      by_cases hk : x.kind = 2
      · rw [if_pos hk] at c2
        obtain ⟨es, clock, K, hK1, hK2, hK3⟩ := hT1.kids p x hx hk
        have hrg := run_range_map (P := Tryz.prog) w1 83 _ _ (M p) es clock Tryz.underlying83 hK1
        have HK1 := Asd.mk hK1
        have HK2 := Asd.mk hK2
        have HK3 := Asd.mk hK3
        clear hT1 hx hK1 hK2 hK3 hk
        go_wp2
        go_loopg [7, 8] ((leftOf es #[]).size + 1) (fun gk _ _ wx => ∃ (seen : Array Nat) (Z : List (Nm × Value)), gk = (leftOf es seen).size + 1 ∧ Asd (Rg es seen Z) ∧ Asd (wx.heap[w1.heap.size]? = some (.mapIter (some (M p)) clock seen clock)) ∧ Asd (Chg [] w1 wx) ∧ Asd (∀ z ∈ Z, fitsP fs (p ++ [z.1]) (s ++ 47 :: z.1)))
        case atStart => exact ⟨#[], [], rfl, ⟨rg_nil es⟩, ⟨hp_new _ _⟩, ⟨(Chg.refl _ _).alloc _⟩, ⟨by simp⟩⟩
        case round =>
          obtain ⟨seen, Z, rfl, HZ, HI, HC, HF⟩ := hrel
          rcases rg_next (P := Tryz.prog) (w := wr) 0 HI.out (HC.out.heap HK1.out (by simp)) HK2.out HZ.out with ⟨hper, hrun⟩ | ⟨n, v, b, w2, hw2, hin, hrun, hZ2, hlt, hent⟩
          · have HA := Asd.mk (show fitsP fs p s from fits_of HG.out HR.out fun k hk => by
              cases hz : fs.at (p ++ [k]) with
              | none => exact absurd hz hk
              | some z =>
                have h1 := HK3.out k
                rw [hz] at h1
                exact HF.out (k, (.pointer (some ⟨A (p ++ [k]), 0, none⟩))) (hper.mem_iff.2 (lookup_mem_kid h1)))
            have HCC := Asd.mk (HC1.out.trans HC.out)
            clear hper HI HZ HF HC HK1 HK2 HK3
            go_wp2
            go_ret
            exact ⟨true, rfl, ⟨fun _ => HA.out, fun _ => rfl⟩, HCC.out⟩
          · obtain ⟨W, hW⟩ : ∃ W, Go.ChangeMaps.setBlock w2 w1.heap.size (.mapIter (some (M p)) clock (seen.push b) clock) = W := ⟨_, rfl⟩
            rw [hW] at hrun
            have hMr : M p ≠ w1.heap.size := fun e => by
              have h1 := (heap_size_lt HK1.out)
              omega
            have hI2 : w2.heap[w1.heap.size]? = some (.mapIter (some (M p)) clock seen clock) := by
              rcases hw2 with rfl | rfl
              · exact HI.out
              · exact hp_drew HI.out
            have hC2 : Chg [] w1 w2 := by
              rcases hw2 with rfl | rfl
              · exact HC.out
              · exact HC.out.drew
            have hIW : W.heap[w1.heap.size]? = some (.mapIter (some (M p)) clock (seen.push b) clock) := by rw [← hW]; exact hp_setBlock hI2
            have hbW : W.heap[M p]? = some (.map es clock) := by rw [← hW, hp_setBlock_other _ hMr]; exact hC2.heap HK1.out (by simp)
            have hCW : Chg [] w1 W := by rw [← hW]; exact hC2.setBlock (fun h => absurd h (Nat.lt_irrefl _)) _
            have hen := hent W hIW hbW
            have hlk := mem_lookup_kid HK2.out.keys hin
            rw [HK3.out n] at hlk
            obtain ⟨x2, hx2⟩ : ∃ x2, fs.at (p ++ [n]) = some x2 := by
              cases hz : fs.at (p ++ [n]) with
              | none => rw [hz] at hlk; cases hlk
              | some z => exact ⟨z, rfl⟩
            rw [hx2] at hlk
            simp only [Option.map_some, Option.some.injEq] at hlk
            subst hlk
            have hok := HG.out.okp _ x2 hx2
            have hnl : n.length ≤ 255 := by
              have h1 := (bad_ok (n := n)).1 (List.all_eq_true.1 hok.2.2 n (by simp))
              exact h1.2.1
            have HI3 := Asd.mk (IH.out (p ++ [n]) x2 (s ++ 47 :: n) W (by simp; omega) hx2 (by simp; omega) (HT1.out.keep0 hCW) (HM1.out.chg hCW))
            have hU : S ++ ⟨#[47]⟩ = nb (s ++ [47]) := by rw [← HS.out]; apply ByteArray.ext; simp [nb]
            have hV : nb (s ++ [47]) ++ nb n = nb (s ++ 47 :: n) := by apply ByteArray.ext; simp [nb]
            have hu : (nb (s ++ [47])).size ≤ 4097 := by rw [nb_size]; simp; omega
            have hn : (nb n).size ≤ 255 := by rw [nb_size]; exact hnl
            obtain ⟨U, hU'⟩ : ∃ U, nb (s ++ [47]) = U := ⟨_, rfl⟩
            obtain ⟨V, hV'⟩ : ∃ V, nb (s ++ 47 :: n) = V := ⟨_, rfl⟩
            rw [hU'] at hU hV hu
            rw [hV'] at hV HI3
            have HZ2 := Asd.mk hZ2
            have HIW := Asd.mk hIW
            have HCW := Asd.mk hCW
            clear hW hw2 hin hent hIW hbW hCW hI2 hC2 hMr hx2 hok hnl hU' hV' hZ2 HI HZ
            go_wp2_with fail
            refine HI3.out.mono ?_
            rintro e w3 ⟨r, rfl, hr3, hC3⟩
            have HC3 := Asd.mk (HCW.out.trans hC3)
            have HI4 := Asd.mk (hC3.heap HIW.out (by simp))
            have HR3 := Asd.mk hr3
            clear hr3 hC3
            cases r with
            | true =>
              have HF2 := Asd.mk (show ∀ z ∈ Z ++ [(n, (.pointer (some ⟨A (p ++ [n]), 0, none⟩)))], fitsP fs (p ++ [z.1]) (s ++ 47 :: z.1) from fun z hz => by
                rcases List.mem_append.1 hz with h | h
                · exact HF.out z h
                · simp only [List.mem_singleton] at h
                  rw [h]; exact HR3.out.1 rfl)
              go_wp2
              go_roundg ((leftOf es (seen.push b)).size + 1)
              case rel => exact ⟨seen.push b, _, rfl, HZ2, HI4, HC3, HF2⟩
              case measure => omega
            | false =>
              have HA := Asd.mk (show ¬ fitsP fs p s from fun h => absurd (HR3.out.2 (fits_kid h n)) (by simp))
              have HCC := Asd.mk (HC1.out.trans HC3.out)
              go_wp2
              go_ret
              exact ⟨false, rfl, ⟨fun h => absurd h (by simp), fun h => absurd h HA.out⟩, HCC.out⟩
      · rw [if_neg hk] at c2
        have HA := Asd.mk (show fitsP fs p s from fits_of HG.out HR.out fun k hk2 => by
          obtain ⟨z, hz, hz2⟩ := HG.out.up p k hk2
          rw [hx] at hz
          cases hz
          exact absurd hz2 hk)
        have hrg := run_range_nilMap (P := Tryz.prog) w1 83 _ _ Tryz.underlying83
        have hnx := run_next_nilMap (P := Tryz.prog) w1 0 0 0 #[]
        clear hT1 hx hk
        go_wp2
        refine wp_loop_rounds 1 ?_
        rw [rounds_succ]
        go_wp2
        go_ret
        exact ⟨true, rfl, ⟨fun _ => HA.out, fun _ => rfl⟩, HC1.out.alloc _⟩
end Go.Proofs.YtiijbecklkccfaaGreatDoor.I
/- The program's names: a directory's names, in order. The walk: a loop over a map that collects; a sort. -/
namespace Go.Proofs.YtiijbecklkccfaaGreatDoor.I
open Go.RowKit Go.Proofs.YtiijbecklkccfaaGreatDoor.B Go.Sort
set_option linter.unusedVariables false
def keysZ (Z : List (Nm × Value)) : List ByteArray := Z.map fun z => nb z.1
def sortN (l : List Nm) : List Nm := l.mergeSort fun x y => decide (x ≤ y)
/-- A row of names, its own block at or above b: some order in which the names came, sorted. -/
def RowN (fs : FS) (p : Pth) (b : Nat) (w' : World) (v : Value) : Prop := ∃ l : List Nm, l.Nodup ∧ (∀ k, k ∈ l ↔ fs.at (p ++ [k]) ≠ none) ∧ w'.ownsRow b 9 1 v l.length ((sortN l).map fun n => Value.string (nb n))
theorem own_none (w : World) (b : Nat) : w.ownsRow b 9 1 (.slice none 0 0) ([] : List Nm).length ((sortN []).map fun n => Value.string (nb n)) := ⟨by simp [sortN], .inl ⟨rfl, rfl⟩⟩
/-- The answer of names. -/
def NamesPost (fs : FS) (p : Pth) (b : Nat) (e : Ending) (w' : World) : Prop := ∃ v, e = .returned v ∧ RowN fs p b w' v
theorem own_mono {w : World} {a b z : Nat} {t : TypeId} {v : Value} {n : Nat} {xs : List Value} (h : w.ownsRow b t z v n xs) (hab : a ≤ b) : w.ownsRow a t z v n xs := by
  obtain ⟨h1, h2⟩ := h
  refine ⟨h1, ?_⟩
  rcases h2 with h2 | ⟨g, cap, cur, hv, hb, hr⟩
  · exact .inl h2
  · exact .inr ⟨g, cap, cur, hv, Nat.le_trans hab hb, hr⟩
theorem own_chg {w w' : World} {b z : Nat} {t : TypeId} {v : Value} {n : Nat} {xs : List Value} {K : List Nat} (h : w.ownsRow b t z v n xs) (hC : Chg K w w') (hK : ∀ i ∈ K, i < b ∨ w.heap.size ≤ i) : w'.ownsRow b t z v n xs := by
  obtain ⟨h1, h2⟩ := h
  refine ⟨h1, ?_⟩
  rcases h2 with h2 | ⟨g, cap, cur, hv, hb, hg, hr⟩
  · exact .inl h2
  · refine .inr ⟨g, cap, cur, hv, hb, hC.heap hg (fun h => ?_), hr⟩
    have h3 := lt_of_heap hg
    rcases hK g h with h4 | h4 <;> omega
theorem nodup_len' {α : Type} [BEq α] [LawfulBEq α] : ∀ {l m : List α}, l.Nodup → (∀ a ∈ l, a ∈ m) → l.length ≤ m.length
  | [], _, _, _ => Nat.zero_le _
  | a :: l, m, hd, hs => by
    rw [List.nodup_cons] at hd
    have h1 := nodup_len' (l := l) (m := m.erase a) hd.2 (fun b hb => (List.mem_erase_of_ne (fun e => hd.1 (by rw [← e]; exact hb))).2 (hs b (List.mem_cons_of_mem _ hb)))
    have h2 := hs a (by simp)
    rw [List.length_erase_of_mem h2] at h1
    have := List.length_pos_of_mem h2
    simp only [List.length_cons]
    omega
theorem sorted_heap {wr : World} {g : Nat} {cur : Array Value} {t : TypeId} {fr : Nat × Nat} (hg : wr.heap[g]? = some (.cells cur t fr)) (d : Array (List UInt8)) (n : Nat) (os : Array Obj) :
    (grow (putRow encStr (Sort.ahead wr n) g 0 d) os).heap[g]? = some (.cells (putCells encStr 0 d cur) t fr) := by
  have hlt := heap_size_lt hg
  show ((wr.heap.modify g _) ++ os)[g]? = _
  rw [Array.getElem?_append_left (by simpa using hlt), Array.getElem?_modify, if_pos rfl, hg]
  rfl
theorem sorted_chg {w wr : World} (hC : Chg [] w wr) {g : Nat} (hge : w.heap.size ≤ g) (d : Array (List UInt8)) (n : Nat) (os : Array Obj) : Chg [] w (grow (putRow encStr (Sort.ahead wr n) g 0 d) os) := by
  refine ⟨hC.os, hC.tape, hC.output, ?_, fun i hi hn => ?_⟩
  · have := hC.size
    simp
    show w.heap.size ≤ wr.heap.size + os.size
    omega
  · have h1 := hC.size
    show ((wr.heap.modify g _) ++ os)[i]? = _
    rw [Array.getElem?_append_left (by simp; omega), Array.getElem?_modify, if_neg (by omega)]
    exact hC.block i hi hn
theorem put_read (d : Array (List UInt8)) (cur : Array Value) (h : d.size ≤ cur.size) (i : Nat) (hi : i < d.size) : (putCells encStr 0 d cur)[i]? = some (encStr d[i]!) := by
  unfold putCells
  rw [Array.getElem?_mapIdx, Array.getElem?_eq_getElem (by omega)]
  simp [hi]
theorem encStr_nb (n : Nm) : encStr n = .string (nb n) := rfl
set_option maxRecDepth 100000 in
set_option maxHeartbeats 16000000 in
theorem names_calls (L : List Nat) (t : Nat) (fs : FS) (by' nd : Nat) (A M : Pth → Nat) (hg : FsOk fs) (hr : Room fs by' nd) (p : Pth) (x : Nd) (w : World) (hx : fs.at p = some x) (hT : TabAt w L t fs by' nd A M) :
    Calls Tryz.prog 37 #[(.pointer (some ⟨A p, 0, none⟩))] w fun e w' => NamesPost fs p w.heap.size e w' ∧ Chg [] w w' := by
  have c2 := cell_of_heap (hT.node p x hx) 2
  have hCw := Chg.refl [] w
  by_cases hk : x.kind = 2
  · rw [if_pos hk] at c2
    obtain ⟨es, clock, K, hK1, hK2, hK3⟩ := hT.kids p x hx hk
    have hrg := run_range_map (P := Tryz.prog) w 83 _ _ (M p) es clock Tryz.underlying83 hK1
    have HES := Asd.mk (show es.size ≤ 65536 by
      have h1 : es.size = K.length := by simpa using congrArg List.length hK2.ents
      have h2 : (K.map fun z => p ++ [z.1]).length ≤ (fs.map (·.1)).length := by
        refine nodup_len' ?_ ?_
        · have h3 : (K.map fun z => p ++ [z.1]) = (K.map (·.1)).map fun k => p ++ [k] := by rw [List.map_map]; rfl
          rw [h3]
          exact List.pairwise_map.2 (hK2.keys.imp fun h e => h (snoc_inj e).2)
        · intro a ha
          obtain ⟨z, hz, rfl⟩ := List.mem_map.1 ha
          have h4 := mem_lookup_kid hK2.keys (n := z.1) (v := z.2) hz
          rw [hK3] at h4
          cases h5 : fs.at (p ++ [z.1]) with
          | none => rw [h5] at h4; cases h4
          | some y =>
            rw [at_ne fs (by simp)] at h5
            exact List.mem_map.2 ⟨_, lookup_mem h5, rfl⟩
      have := hr.n
      have := hr.count
      rw [List.length_map, List.length_map] at h2
      omega)
    have HK1 := Asd.mk hK1
    have HK2 := Asd.mk hK2
    have HK3 := Asd.mk hK3
    clear hx hK1 hK2 hK3 hk hT
    go_enter Tryz.func37, Tryz.ntmps37
    go_wp2
    go_loopg [3, 4] ((leftOf es #[]).size + 1) (fun gk v3 _ wx => ∃ (seen : Array Nat) (Z : List (Nm × Value)), gk = (leftOf es seen).size + 1 ∧ Z.length + (leftOf es seen).size ≤ es.size ∧ Asd (Rg es seen Z) ∧ Asd (wx.heap[w.heap.size]? = some (.mapIter (some (M p)) clock seen clock)) ∧ Asd (Chg [] w wx) ∧ Asd (wx.ownsRow (w.heap.size + 1) 9 1 v3 (keysZ Z).length ((keysZ Z).map Value.string)))
    case atStart => exact ⟨#[], [], rfl, by simp only [List.length_nil, Nat.zero_add]; exact Array.size_filter_le, ⟨rg_nil es⟩, ⟨hp_new _ _⟩, ⟨(Chg.refl _ _).alloc _⟩, ⟨⟨by simp [keysZ], .inl ⟨rfl, rfl⟩⟩⟩⟩
    case round =>
      obtain ⟨seen, Z, rfl, hzl, HZ, HI, HC, HO⟩ := hrel
      rcases rg_next (P := Tryz.prog) (w := wr) 0 HI.out (HC.out.heap HK1.out (by simp)) HK2.out HZ.out with ⟨hper, hrun⟩ | ⟨n, v, b, w2, hw2, hin, hrun, hZ2, hlt, hent⟩
      · obtain ⟨l, hl⟩ : ∃ l, Z.map (·.1) = l := ⟨_, rfl⟩
        have hkz : keysZ Z = l.map nb := by rw [← hl, List.map_map]; rfl
        have hpk : l.Perm (K.map (·.1)) := by rw [← hl]; exact hper.map _
        have HL := Asd.mk (show l.Nodup ∧ ∀ k, k ∈ l ↔ fs.at (p ++ [k]) ≠ none from ⟨hpk.nodup_iff.2 HK2.out.keys, fun k => by
          rw [hpk.mem_iff, List.mem_map]
          constructor
          · rintro ⟨z, hz, rfl⟩ e
            have h4 := mem_lookup_kid HK2.out.keys (n := z.1) (v := z.2) hz
            rw [HK3.out, e] at h4
            cases h4
          · intro hk
            cases hz : fs.at (p ++ [k]) with
            | none => exact absurd hz hk
            | some y =>
              have h4 := HK3.out k
              rw [hz] at h4
              exact ⟨_, lookup_mem_kid h4, rfl⟩⟩)
        have hll : l.length ≤ 65536 := by
          have h1 : es.size = K.length := by simpa using congrArg List.length HK2.out.ents
          have h2 := hpk.length_eq
          rw [List.length_map] at h2
          have := HES.out
          omega
        have hO := HO.out
        rw [hkz, List.length_map, List.map_map] at hO
        obtain ⟨h1, h2⟩ := hO
        rcases h2 with ⟨rfl, h0⟩ | ⟨g, cap, cur, rfl, hb, hgc, hn, hc, hsz, ht⟩
        · have hl0 : l = [] := List.eq_nil_of_length_eq_zero h0
          have hso := Asd.mk (Tryz.slices_Sort_string_none none 0 wr)
          have HCC := Asd.mk HC.out
          clear hper HI HZ HO HC HK1 HK2 HK3 hkz hl hpk h1 h0
          go_wp2_with fail
          refine hso.out.mono ?_
          rintro e w2 ⟨rfl, hw2⟩
          have hw2' := hw2.symm
          subst hw2'
          go_wp2
          go_ret
          exact ⟨⟨_, rfl, l, HL.out.1, HL.out.2, by rw [hl0]; exact own_none _ _⟩, HCC.out⟩
        · have hcs : l.length ≤ cur.size := by
            have := congrArg List.length ht
            simp at this
            omega
          have hH : Holds encStr wr g 0 l.toArray := fun j hj => by
            have hj : j < l.length := by simpa using hj
            refine ⟨?_, frozen_of_heap hgc (0 + j)⟩
            rw [cell_of_heap hgc, Nat.zero_add]
            have h3 : (cur.toList.take (l.length * 1))[j]? = (l.map (Value.string ∘ nb))[j]? := by rw [ht]
            rw [List.getElem?_take_of_lt (by omega), List.getElem?_map, List.getElem?_eq_getElem hj] at h3
            simp [encStr_nb, hj]
            simpa using h3
          have hso := Asd.mk (Tryz.slices_Sort_string g 0 cap l wr hH (heap_size_lt hgc) (by omega))
          have HGC := Asd.mk hgc
          have HCC := Asd.mk HC.out
          have HSZ := Asd.mk hsz
          clear hper HI HZ HO HC HK1 HK2 HK3 hkz hl hpk h1 hH ht hsz
          go_wp2_with fail
          refine hso.out.mono ?_
          rintro e w2 ⟨rfl, k, os, hw2⟩
          have HC2 := Asd.mk (show Chg [] w w2 by rw [hw2]; exact sorted_chg HCC.out (by omega) _ _ _)
          have HN2 := Asd.mk (show w2.ownsRow w.heap.size 9 1 (.slice (some ⟨g, 0, none⟩) l.length cap) l.length ((sortN l).map fun n => Value.string (nb n)) from by
            have hls : (sortN l).length = l.length := by simp [sortN, List.length_mergeSort]
            refine ⟨by rw [List.length_map, hls, Nat.mul_one], .inr ⟨g, cap, putCells encStr 0 (sortN l).toArray cur, rfl, by omega, by rw [hw2]; exact sorted_heap HGC.out _ _ _, by omega, by omega, ?_, ?_⟩⟩
            · unfold putCells
              rw [Array.size_mapIdx]
              exact HSZ.out
            · apply List.ext_getElem?
              intro i
              by_cases hi : i < l.length
              · have hi2 : i < (sortN l).toArray.size := by simpa [hls] using hi
                have hs2 : (sortN l).toArray.size ≤ cur.size := by simp [sortN, List.length_mergeSort]; exact hcs
                have := put_read (sortN l).toArray cur hs2 i hi2
                rw [List.getElem?_take_of_lt (by omega), Array.getElem?_toList, this]
                simp [encStr_nb, hls, hi]
              · rw [List.getElem?_eq_none (by rw [List.length_take]; omega), List.getElem?_eq_none (by rw [List.length_map, hls]; omega)])
          clear hw2
          go_wp2
          go_ret
          exact ⟨⟨_, rfl, l, HL.out.1, HL.out.2, HN2.out⟩, HC2.out⟩
      · obtain ⟨W, hW⟩ : ∃ W, Go.ChangeMaps.setBlock w2 w.heap.size (.mapIter (some (M p)) clock (seen.push b) clock) = W := ⟨_, rfl⟩
        rw [hW] at hrun
        have hMr : M p ≠ w.heap.size := fun e => by
          have h1 := (heap_size_lt HK1.out)
          omega
        have hI2 : w2.heap[w.heap.size]? = some (.mapIter (some (M p)) clock seen clock) := by
          rcases hw2 with rfl | rfl
          · exact HI.out
          · exact hp_drew HI.out
        have hC2 : Chg [] w w2 := by
          rcases hw2 with rfl | rfl
          · exact HC.out
          · exact HC.out.drew
        have hO2 : w2.ownsRow (w.heap.size + 1) 9 1 u3 (keysZ Z).length ((keysZ Z).map Value.string) := by
          rcases hw2 with rfl | rfl
          · exact HO.out
          · exact HO.out
        have hIW : W.heap[w.heap.size]? = some (.mapIter (some (M p)) clock (seen.push b) clock) := by rw [← hW]; exact hp_setBlock hI2
        have hbW : W.heap[M p]? = some (.map es clock) := by rw [← hW, hp_setBlock_other _ hMr]; exact hC2.heap HK1.out (by simp)
        have hCW : Chg [] w W := by rw [← hW]; exact hC2.setBlock (fun h => absurd h (Nat.lt_irrefl _)) _
        have hOW : W.ownsRow (w.heap.size + 1) 9 1 u3 (keysZ Z).length ((keysZ Z).map Value.string) := by
          obtain ⟨h1, h2⟩ := hO2
          refine ⟨h1, ?_⟩
          rcases h2 with h2 | ⟨g, cap, cur, hv, hb, hg, hr⟩
          · exact .inl h2
          · exact .inr ⟨g, cap, cur, hv, hb, by rw [← hW]; exact hp_setBlock_other hg (by omega), hr⟩
        have hen := hent W hIW hbW
        have HIW := Asd.mk hIW
        have HCW := Asd.mk hCW
        have HOW := Asd.mk hOW
        have HZ2 := Asd.mk hZ2
        have hkl : (keysZ Z).length ≤ 16777216 := by have := HES.out; unfold keysZ; rw [List.length_map]; omega
        have hWs : w.heap.size + 1 ≤ W.heap.size := heap_size_lt hIW
        clear hW hw2 hin hent hIW hbW hCW hOW hO2 hI2 hC2 hMr hZ2 HI HZ HO HC
        go_wp2_with (first | (refine wpList_buildStr rfl (nb n) (W.heap.size) rfl (.tmp 15) rfl rfl ?_; simp only [Act.put, List.setIfInBounds_toArray, List.set_cons_zero, List.set_cons_succ]) | (at_builtin; refine wpList_append9 rfl (.tmp 14) (.tmp 16) rfl (w.heap.size + 1) u3 (keysZ Z) rfl (HOW.out.alloc _) (nb n) W.heap.size rfl (hp_new _ _) hkl (by simp; omega) ?_; intro v2 w9 hown9 hgrow9; replace hown9 := Asd.mk hown9; replace hgrow9 := Asd.mk hgrow9; simp only [Act.put, List.setIfInBounds_toArray, List.set_cons_zero, List.set_cons_succ]))
        go_roundg ((leftOf es (seen.push b)).size + 1)
        case rel => exact ⟨seen.push b, Z ++ [(n, v)], rfl, by rw [List.length_append]; simp only [List.length_singleton]; omega, HZ2, ⟨by
          have h1 := hp_alloc HIW.out (.cells #[.string (nb n)] 9)
          have h2 := (HOW.out.alloc (.cells #[.string (nb n)] 9)).lt
          rw [hgrow9.out.block _ (heap_size_lt h1) (fun e => by have := (h2 _ e.symm).1; omega)]
          exact h1⟩, ⟨grown_chg (HCW.out.alloc _) (HOW.out.alloc _) (by omega) hgrow9.out⟩, ⟨by
          have e : keysZ (Z ++ [(n, v)]) = keysZ Z ++ [nb n] := by simp [keysZ]
          rw [e]; exact hown9.out⟩⟩
        case measure => omega
  · rw [if_neg hk] at c2
    have HA := Asd.mk (show ∀ k, fs.at (p ++ [k]) = none from fun k => by
      cases hz : fs.at (p ++ [k]) with
      | none => rfl
      | some z =>
        obtain ⟨z2, hz2, hz3⟩ := hg.up p k (by rw [hz]; simp)
        rw [hx] at hz2
        cases hz2
        exact absurd hz3 hk)
    have hrg := run_range_nilMap (P := Tryz.prog) w 83 _ _ Tryz.underlying83
    have hnx := run_next_nilMap (P := Tryz.prog) w 0 0 0 #[]
    have hso := Asd.mk (Tryz.slices_Sort_string_none none 0 (w.alloc (.mapIter none 0 #[] 0)))
    clear hx hk hT
    go_enter Tryz.func37, Tryz.ntmps37
    go_wp2
    refine wp_loop_rounds 1 ?_
    rw [rounds_succ]
    go_wp2_with fail
    refine hso.out.mono ?_
    rintro e w2 ⟨rfl, rfl⟩
    go_wp2
    go_ret
    exact ⟨⟨_, rfl, [], by simp, fun k => by simp [HA.out k], own_none _ _⟩, hCw.alloc _⟩
end Go.Proofs.YtiijbecklkccfaaGreatDoor.I
/- Rows of entries: what the operations of a region that appends one run to. -/
namespace Go.Proofs.YtiijbecklkccfaaGreatDoor.I
open Go.RowKit Go.Proofs.YtiijbecklkccfaaGreatDoor.B Go.Sort
set_option linter.unusedVariables false
/-- An entry's cells. -/
def entC (x : Ent) : Array Value := #[.string x.1, .int .i64 (x.2.1 : Int), .string x.2.2]
def flatE (E : List Ent) : List Value := E.flatMap fun x => (entC x).toList
theorem flatE_len (E : List Ent) : (flatE E).length = E.length * 3 := by
  induction E with
  | nil => rfl
  | cons x E ih =>
    have : flatE (x :: E) = (entC x).toList ++ flatE E := by simp [flatE]
    rw [this, List.length_append, ih, List.length_cons]
    simp [entC]
    omega
theorem flatE_snoc (E : List Ent) (x : Ent) : flatE (E ++ [x]) = flatE E ++ (entC x).toList := by simp [flatE]
theorem info_ent : (Tryz.prog.info? 41).map (fun i => (i.zero, i.size, i.bytes)) = some (some (.agg #[.string ⟨#[]⟩, .int .i64 0, .string ⟨#[]⟩]), 3, 40) := by kernel_rfl
theorem info_ent' : ∃ ie z, Tryz.prog.info? 41 = some ie ∧ ie.zero = some z ∧ ie.size = 3 ∧ ie.bytes = 40 ∧ z.cells.size = 3 := by
  cases hie : Tryz.prog.info? 41 with
  | none => have := info_ent; rw [hie] at this; cases this
  | some ie =>
    have h := info_ent
    rw [hie] at h
    simp only [Option.map_some, Option.some.injEq, Prod.mk.injEq] at h
    exact ⟨ie, _, rfl, h.1, h.2.1, h.2.2, rfl⟩
theorem build_ent (x : Ent) (w : World) : (Instr.buildSlice 31 1 #[(0, .agg (entC x))]).run Tryz.prog w = .ok (.slice (some ⟨w.heap.size, 0, none⟩) 1 1) (w.alloc (.cells (entC x) 41)) := by
  obtain ⟨ie, z, h1, h2, h3, h4, h5⟩ := info_ent'
  refine Go.run_buildSlice w 31 41 1 _ _ ie _ Tryz.underlying31 h1 h2 (by rw [h3]; decide) (by rw [h3]; decide) ?_
  rw [h3]
  have := Great.fill_whole (s := 3) (by omega) [.agg (entC x)] ((Array.range (1 * 3)).map (z.cells[· % z.cells.size]!)) (by simp [Value.cells, entC]) (by simp)
  simpa [Value.cells] using this
theorem wp_build_ent (x : Ent) {o : Oper} {a : Act} {w : World} {K : Act → World → Prop} {Q : Exit → Act → World → Prop} (y : Operand) (ho : o.op = .buildSlice 31 1 #[(0, y)]) (hy : a.eval y = .agg (entC x))
    (h : K (a.put o.dst (.slice (some ⟨w.heap.size, 0, none⟩) 1 1)) (w.alloc (.cells (entC x) 41))) : o.wp Tryz.prog a w K Q := by
  unfold Oper.wp execOp
  simp only [ho, List.map_toArray, List.map_cons, List.map_nil, hy, Sem.run_bind, build_ent, Result.andThen_ok]
  exact h
set_option maxRecDepth 100000 in
theorem wp_append_ent (x : Ent) {o : Oper} {a : Act} {w : World} {K : Act → World → Prop} {Q : Exit → Act → World → Prop} (s y : Operand)
    (ho : o.op = .call { callee := .builtin .append, args := #[s, y], argTypes := #[31, 31] }) (base : Nat) (v : Value) (E : List Ent) (hs : a.eval s = v) (hown : w.ownsRow base 41 3 v E.length (flatE E))
    (g : Nat) (hy : a.eval y = .slice (some ⟨g, 0, none⟩) 1 1) (hg : w.heap[g]? = some (.cells (entC x) 41 (0, 0))) (hL : E.length ≤ 1048576) (hb : base ≤ w.heap.size)
    (h : ∀ g' cap w', w'.ownsRow base 41 3 (.slice (some ⟨g', 0, none⟩) (E.length + 1) cap) (E ++ [x]).length (flatE (E ++ [x])) → w.grownBy w' v.ownBlock → (v.ownBlock = some g' ∨ g' = w.heap.size) → K (a.put o.dst (.slice (some ⟨g', 0, none⟩) (E.length + 1) cap)) w') : o.wp Tryz.prog a w K Q := by
  obtain ⟨ie, z, h1, h2, h3, h4, h5⟩ := info_ent'
  refine wp_append_lies w s y 31 ho base 41 ie z 3 40 Tryz.underlying31 h1 h2 h3 h4 h5 (by decide) v E.length (flatE E) hs hown ⟨g, 0, none⟩ 1 1 (entC x).toList hy ?_ ?_ ?_ (by decide) ?_ ?_ hb _ rfl ?_
  · rfl
  · intro j u hu
    have e : (⟨g, 0, none⟩ : Addr).add j = ⟨g, j, none⟩ := by
      unfold Addr.add
      split
      · subst_vars; rfl
      · simp
    rw [e, cell_of_heap hg]
    simpa using hu
  · intro u hu
    have h7 : (entC x).all (·.oneCell') = true := one_entry _ _ _
    exact (Array.all_eq_true_iff_forall_mem.1 h7) u (Array.mem_def.2 hu)
  · unfold maxLen; omega
  · omega
  · intro g' cap w' q1 q2 q3 _
    refine h g' cap w' ?_ q2 q3
    rw [flatE_snoc, List.length_append]
    exact q1
end Go.Proofs.YtiijbecklkccfaaGreatDoor.I
/- Link: what it makes of a file system. -/
namespace Go.Proofs.YtiijbecklkccfaaGreatDoor.I
open Go.RowKit Go.Proofs.YtiijbecklkccfaaGreatDoor.B Go.Sort
set_option linter.unusedVariables false
/-- Has a text a zero byte? -/
def nulB (s : ByteArray) : Bool := decide (0 ≤ Lib.indexByte s.data.toList 0)
/-- What no link may say. -/
def badT (s : ByteArray) : Prop := s.toList.isEmpty = true ∨ 4096 < s.size ∨ nulB s = true
open Classical in
/-- Link. -/
noncomputable def linkF (fs : FS) (by' nd : Nat) (g s : ByteArray) : Nat × FS := if badT g then (30, fs) else match atE fs s with
  | .error n => (n, fs)
  | .ok p => if (fs.at p).isSome = true then (201, fs) else putF fs by' nd p ⟨3, g⟩
end Go.Proofs.YtiijbecklkccfaaGreatDoor.I
/- What every call keeps: a file system as calls make it, within its room. -/
namespace Go.Proofs.YtiijbecklkccfaaGreatDoor.I
open Go.RowKit Go.Proofs.YtiijbecklkccfaaGreatDoor.B Go.Sort
set_option linter.unusedVariables false
/-- A path that may be. -/
def okP (p : Pth) : Prop := p.length ≤ 64 ∧ (joinL 47 p).length ≤ 4096 ∧ p.all okNm = true
/-- A node that may be. -/
def okN (x : Nd) : Prop := (x.kind = 1 ∨ x.kind = 2 ∨ x.kind = 3) ∧ (x.kind = 2 → x.text = ⟨#[]⟩) ∧ x.text.size ≤ 4194304
theorem not_mem {fs : FS} {p : Pth} (hd : (fs.map (·.1)).Nodup) (hp : p ≠ []) (h : fs.at p = none) : p ∉ fs.map (·.1) := by
  intro hm
  obtain ⟨⟨a, b⟩, hab, rfl⟩ := List.mem_map.1 hm
  rw [at_ne fs hp, mem_lookup hd hab] at h
  cases h
theorem fsOk_put {fs : FS} (hg : FsOk fs) {q : Pth} {n : Nm} {x y : Nd} (hq : fs.at q = some y) (hy : y.kind = 2) (hn : fs.at (q ++ [n]) = none) (hx : okN x) (hp : okP (q ++ [n])) : FsOk (fs ++ [(q ++ [n], x)]) := by
  have hne : q ++ [n] ≠ [] := by simp
  have A := at_put x hne hn
  refine ⟨?_, ?_, ?_, ?_, ?_, ?_, ?_⟩
  · rw [List.map_append, List.nodup_append]
    refine ⟨hg.nodup, by simp, ?_⟩
    intro a ha b hb
    simp only [List.map_cons, List.map_nil, List.mem_singleton] at hb
    rw [hb]
    rintro rfl
    exact not_mem hg.nodup hne hn ha
  · intro z hz
    rcases List.mem_append.1 hz with h | h
    · exact hg.ne z h
    · simp only [List.mem_singleton] at h
      rw [h]; exact hne
  · intro p m h
    rw [A] at h
    split at h
    · rename_i e
      obtain ⟨rfl, rfl⟩ := snoc_inj e
      refine ⟨y, ?_, hy⟩
      rw [A, if_neg (fun e => snoc_ne _ _ e.symm)]
      exact hq
    · obtain ⟨z, hz, hz2⟩ := hg.up p m h
      refine ⟨z, ?_, hz2⟩
      rw [A, if_neg (fun e => by rw [e, hn] at hz; cases hz)]
      exact hz
  · intro p z h
    rw [A] at h
    split at h
    · cases h; exact hx.1
    · exact hg.kind p z h
  · intro p z h
    rw [A] at h
    split at h
    · cases h; exact hx.2.1
    · exact hg.dirs p z h
  · intro p z h
    rw [A] at h
    split at h
    · cases h; exact hx.2.2
    · exact hg.small p z h
  · intro p z h
    rw [A] at h
    split at h
    · rename_i e; rw [e]; exact hp
    · exact hg.okp p z h
theorem fsOk_set {fs : FS} (hg : FsOk fs) {p : Pth} {x y : Nd} (hp : p ≠ []) (hy : fs.at p = some y) (hk : y.kind = 2 → x.kind = 2) (hx : okN x) : FsOk (setF fs p x) := by
  have A := at_set x hp hy
  have hm : (setF fs p x).map (·.1) = fs.map (·.1) := by
    unfold setF
    rw [List.map_map]
    refine List.map_congr_left fun z _ => ?_
    simp only [Function.comp]
    split
    · rename_i e; exact e.symm
    · rfl
  refine ⟨by rw [hm]; exact hg.nodup, ?_, ?_, ?_, ?_, ?_, ?_⟩
  · intro z hz
    have : z.1 ∈ fs.map (·.1) := by rw [← hm]; exact List.mem_map.2 ⟨z, hz, rfl⟩
    obtain ⟨u, hu, e⟩ := List.mem_map.1 this
    rw [← e]
    exact hg.ne u hu
  · intro r m h
    have h2 : fs.at (r ++ [m]) ≠ none := by
      rw [A] at h
      split at h
      · rename_i e; rw [e, hy]; simp
      · exact h
    obtain ⟨z, hz, hz2⟩ := hg.up r m h2
    by_cases e : r = p
    · rw [e, hy] at hz
      cases hz
      exact ⟨x, by rw [A, if_pos e], hk hz2⟩
    · exact ⟨z, by rw [A, if_neg e]; exact hz, hz2⟩
  · intro r z h
    rw [A] at h
    split at h
    · cases h; exact hx.1
    · exact hg.kind r z h
  · intro r z h
    rw [A] at h
    split at h
    · cases h; exact hx.2.1
    · exact hg.dirs r z h
  · intro r z h
    rw [A] at h
    split at h
    · cases h; exact hx.2.2
    · exact hg.small r z h
  · intro r z h
    rw [A] at h
    split at h
    · rename_i e; rw [e]; exact hg.okp p y hy
    · exact hg.okp r z h
theorem fsOk_del {fs : FS} (hg : FsOk fs) {p : Pth} (hp : p ≠ []) (hk : ¬ hasKids fs p) : FsOk (delF fs p) := by
  have A := at_del (fs := fs) hp
  have A2 : ∀ {r z}, (delF fs p).at r = some z → fs.at r = some z := fun {r z} h => by
    rw [A] at h
    split at h
    · cases h
    · exact h
  refine ⟨?_, fun z hz => hg.ne z (List.mem_filter.1 hz).1, ?_, fun r z h => hg.kind r z (A2 h), fun r z h => hg.dirs r z (A2 h), fun r z h => hg.small r z (A2 h), fun r z h => hg.okp r z (A2 h)⟩
  · exact List.Nodup.sublist (List.Sublist.map _ List.filter_sublist) hg.nodup
  · intro r m h
    rw [A] at h
    split at h
    · exact absurd rfl h
    · obtain ⟨z, hz, hz2⟩ := hg.up r m h
      refine ⟨z, ?_, hz2⟩
      rw [A, if_neg (fun e => hk ⟨m, by rw [← e]; exact h⟩)]
      exact hz
theorem partsF_ok {s : ByteArray} {p : Pth} (h : partsF s = .ok p) : okP p := by
  unfold partsF at h
  split at h
  · cases h
  · rename_i hs
    split at h
    · cases h; exact ⟨by simp, by simp [joinL], by simp⟩
    · split at h
      · cases h
      · rename_i h1
        split at h
        · cases h
        · rename_i h2
          cases h
          refine ⟨by omega, ?_, by simpa using h1⟩
          rw [join_spL]
          show s.data.toList.length ≤ 4096
          have : s.data.toList.length = s.size := by rw [Array.length_toList]; rfl
          omega
theorem atE_parts {fs : FS} {s : ByteArray} {p : Pth} (h : atE fs s = .ok p) : partsF s = .ok p := by
  unfold atE at h
  split at h
  · cases h
  · rename_i p2 hp
    split at h
    · cases h
    · cases h; exact hp
theorem Room.set {fs : FS} {by' nd : Nat} (hr : Room fs by' nd) {p : Pth} {x : Nd} (h : usedF (setF fs p x) ≤ by') : Room (setF fs p x) by' nd :=
  ⟨hr.b, hr.n, h, by unfold setF; rw [List.length_map]; exact hr.count⟩
theorem putF_keep {fs : FS} (hg : FsOk fs) {by' nd : Nat} (hr : Room fs by' nd) {q : Pth} {n : Nm} {x y : Nd} (hq : fs.at q = some y) (hy : y.kind = 2) (hn : fs.at (q ++ [n]) = none) (hx : okN x) (hp : okP (q ++ [n])) : FsOk (putF fs by' nd (q ++ [n]) x).2 ∧ Room (putF fs by' nd (q ++ [n]) x).2 by' nd := by
  unfold putF
  split
  · exact ⟨hg, hr⟩
  · rename_i hf
    unfold fullF at hf
    refine ⟨fsOk_put hg hq hy hn hx hp, hr.b, hr.n, ?_, ?_⟩
    · show usedF (fs ++ [_]) ≤ by'
      have : usedF (fs ++ [(q ++ [n], x)]) = usedF fs + x.text.size := by simp [usedF]
      omega
    · show (fs ++ [_]).length ≤ nd
      rw [List.length_append]
      simp only [List.length_singleton]
      omega
theorem okN_dir : okN ⟨2, ⟨#[]⟩⟩ := ⟨.inr (.inl rfl), fun _ => rfl, by show 0 ≤ 4194304; omega⟩
theorem okN_file : okN ⟨1, ⟨#[]⟩⟩ := ⟨.inl rfl, fun _ => rfl, by show 0 ≤ 4194304; omega⟩
theorem makeF_keep {fs : FS} (hg : FsOk fs) {by' nd : Nat} (hr : Room fs by' nd) (s : ByteArray) : FsOk (makeF fs by' nd s).2 ∧ Room (makeF fs by' nd s).2 by' nd := by
  unfold makeF
  split
  · exact ⟨hg, hr⟩
  · rename_i p hp
    split
    · exact ⟨hg, hr⟩
    · rename_i hn
      have hn : fs.at p = none := by simpa using hn
      obtain ⟨q, n, y, rfl, hq, hy⟩ := at_parent hg hp hn
      exact putF_keep hg hr hq hy hn okN_dir (partsF_ok (atE_parts hp))
theorem linkF_keep {fs : FS} (hg : FsOk fs) {by' nd : Nat} (hr : Room fs by' nd) (g s : ByteArray) : FsOk (linkF fs by' nd g s).2 ∧ Room (linkF fs by' nd g s).2 by' nd := by
  unfold linkF
  split
  · exact ⟨hg, hr⟩
  · rename_i hb
    split
    · exact ⟨hg, hr⟩
    · rename_i p hp
      split
      · exact ⟨hg, hr⟩
      · rename_i hn
        have hn : fs.at p = none := by simpa using hn
        obtain ⟨q, n, y, rfl, hq, hy⟩ := at_parent hg hp hn
        refine putF_keep hg hr hq hy hn ⟨.inr (.inr rfl), fun h => absurd h (by simp), ?_⟩ (partsF_ok (atE_parts hp))
        show g.size ≤ 4194304
        have : ¬ 4096 < g.size := fun e => hb (.inr (.inl e))
        omega
theorem createF_keep {fs : FS} (hg : FsOk fs) {by' nd : Nat} (hr : Room fs by' nd) (s : ByteArray) : FsOk (createF fs by' nd s).2 ∧ Room (createF fs by' nd s).2 by' nd := by
  unfold createF
  split
  · exact ⟨hg, hr⟩
  · rename_i p hp
    split
    · rename_i hn
      obtain ⟨q, n, y, rfl, hq, hy⟩ := at_parent hg hp hn
      exact putF_keep hg hr hq hy hn okN_file (partsF_ok (atE_parts hp))
    · rename_i x hx
      split
      · exact ⟨hg, hr⟩
      · rename_i h2
        split
        · exact ⟨hg, hr⟩
        · have hne : p ≠ [] := fun e => by rw [e, at_root] at hx; cases hx; exact h2 rfl
          refine ⟨fsOk_set hg hne hx (fun h => absurd h h2) okN_file, hr.set ?_⟩
          have := used_set (x := ⟨1, ⟨#[]⟩⟩) hg.nodup (by rw [← at_ne fs hne]; exact hx)
          have h0 : (⟨1, ⟨#[]⟩⟩ : Nd).text.size = 0 := rfl
          have := hr.used
          omega
theorem appendF_keep {fs : FS} (hg : FsOk fs) {by' nd : Nat} (hr : Room fs by' nd) (s text : ByteArray) : FsOk (appendF fs by' s text).2 ∧ Room (appendF fs by' s text).2 by' nd := by
  unfold appendF
  split
  · exact ⟨hg, hr⟩
  · rename_i p hp
    split
    · exact ⟨hg, hr⟩
    · rename_i x hx
      split
      · exact ⟨hg, hr⟩
      · rename_i h2
        split
        · exact ⟨hg, hr⟩
        · split
          · exact ⟨hg, hr⟩
          · rename_i h4
            split
            · exact ⟨hg, hr⟩
            · rename_i h5
              have hne : p ≠ [] := fun e => by rw [e, at_root] at hx; cases hx; exact h2 rfl
              have hsz : (x.text ++ text).size = x.text.size + text.size := ByteArray.size_append
              refine ⟨fsOk_set hg hne hx (fun h => absurd h h2) ⟨.inl rfl, fun h => absurd h (by simp), by show (x.text ++ text).size ≤ _; omega⟩, hr.set ?_⟩
              have := used_set (x := ⟨1, x.text ++ text⟩) hg.nodup (by rw [← at_ne fs hne]; exact hx)
              have h0 : (⟨1, x.text ++ text⟩ : Nd).text.size = x.text.size + text.size := hsz
              omega
theorem removeF_keep {fs : FS} (hg : FsOk fs) {by' nd : Nat} (hr : Room fs by' nd) (s : ByteArray) : FsOk (removeF fs s).2 ∧ Room (removeF fs s).2 by' nd := by
  unfold removeF
  split
  · exact ⟨hg, hr⟩
  · rename_i p hp
    split
    · exact ⟨hg, hr⟩
    · rename_i hne
      split
      · exact ⟨hg, hr⟩
      · rename_i x hx
        split
        · exact ⟨hg, hr⟩
        · rename_i hk
          obtain ⟨h1, h2⟩ := count_del hg.nodup (by rw [← at_ne fs hne]; exact hx)
          have := hr.used
          have := hr.count
          exact ⟨fsOk_del hg hne hk, hr.b, hr.n, by show usedF (delF fs p) ≤ by'; omega, by show (delF fs p).length ≤ nd; omega⟩
end Go.Proofs.YtiijbecklkccfaaGreatDoor.I
