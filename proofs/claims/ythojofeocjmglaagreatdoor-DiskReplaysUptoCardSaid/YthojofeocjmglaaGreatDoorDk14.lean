/- Merged out of these texts: Twin, Clone, ActF. -/
import Derived.Test.YthojofeocjmglaaGreatDoorDk13
import Derived.WideLaws
import Derived.StillTailTactics
import Derived.Deep.RegionHeld3
import Derived.Test.YthojofeocjmglaaGreatDoorDk12
/- The program's twin: a copy of a node and of all below it. The walk. -/
namespace Go.Proofs.YthojofeocjmglaaGreatDoor.I
open Go.RowKit Go.Proofs.YthojofeocjmglaaGreatDoor.B Go.Sort
set_option linter.unusedVariables false
theorem inj_on {α β : Type} {f : α → β} : ∀ {l : List α}, (l.map f).Nodup → ∀ {a b : α}, a ∈ l → b ∈ l → f a = f b → a = b
  | [], _, _, _, h, _, _ => by cases h
  | x :: l, hd, a, b, ha, hb, e => by
    simp only [List.map_cons, List.nodup_cons] at hd
    rcases List.mem_cons.1 ha with h1 | h1 <;> rcases List.mem_cons.1 hb with h2 | h2
    · rw [h1, h2]
    · exact absurd (List.mem_map.2 ⟨b, h2, by rw [← e, h1]⟩) hd.1
    · exact absurd (List.mem_map.2 ⟨a, h1, by rw [e, h2]⟩) hd.1
    · exact inj_on hd.2 h1 h2 e
theorem rg_names {es : Array MapEntry} {clock : Nat} {K Z : List (Nm × Value)} {seen : Array Nat} (hK : MKids es clock K) (hZ : Rg es seen Z) : (Z.map (·.1)).Nodup := by
  obtain ⟨S, h1, h2, h3, h4⟩ := hZ
  have hkeys : (es.toList.map fun e => e.key).Nodup := by
    have e1 : (es.toList.map fun e => e.key) = K.map fun x => Value.string (nb x.1) := by
      have := congrArg (List.map Prod.fst) hK.ents
      simpa [List.map_map, Function.comp_def] using this
    rw [e1]
    have := hK.keys
    rw [show (K.map fun x => Value.string (nb x.1)) = (K.map (·.1)).map fun n => Value.string (nb n) by rw [List.map_map]; rfl]
    exact List.pairwise_map.2 (this.imp fun h e => h (nb_inj (by simpa using e)))
  have hS : (S.map fun e => e.key).Nodup := by
    have hn := nodup_of_map h1
    have : ∀ (T : List MapEntry), T.Nodup → (∀ e ∈ T, e ∈ es.toList) → (T.map fun e => e.key).Nodup := by
      intro T
      induction T with
      | nil => intro _ _; simp
      | cons a T ih =>
        intro hd hs
        rw [List.nodup_cons] at hd
        rw [List.map_cons, List.nodup_cons]
        refine ⟨fun hm => ?_, ih hd.2 (fun e he => hs e (List.mem_cons_of_mem _ he))⟩
        obtain ⟨b, hb, hbe⟩ := List.mem_map.1 hm
        have := inj_on hkeys (hs b (List.mem_cons_of_mem _ hb)) (hs a List.mem_cons_self) hbe
        exact hd.1 (this ▸ hb)
    exact this S hn h3
  have e2 : (S.map fun e => e.key) = Z.map fun x => Value.string (nb x.1) := by
    have := congrArg (List.map Prod.fst) h4
    simpa [List.map_map, Function.comp_def] using this
  rw [e2, show (Z.map fun x => Value.string (nb x.1)) = (Z.map (·.1)).map fun n => Value.string (nb n) by rw [List.map_map]; rfl] at hS
  exact nodup_of_map hS
theorem neq_map (a : Option Nat) (w : World) : (binOp .neq 131 (.map a) (.map none)).run Tryz.prog w = .ok (.bool a.isSome) w := by
  have h : ∀ d : Nat, (Op.equalIn (d + 1) 131 (.map a) (.map none)).run Tryz.prog w = .ok (!a.isSome) w := fun d => by
    cases a <;> simp [Op.equalIn, run_underlying Tryz.underlying131]
  simp only [binOp]
  cases a <;> simp [Op.equal, Op.maxDepth, h 9999]
theorem sb_ne' {w : World} {b i : Nat} {o : Obj} (h : i ≠ b) : (Go.ChangeMaps.setBlock w b o).heap[i]? = w.heap[i]? := by
  show (w.heap.setIfInBounds b o)[i]? = _
  rw [Array.getElem?_setIfInBounds_ne (Ne.symm h)]
/-- The kids that are done. -/
def DoneK (p : Pth) (Z : List (Nm × Value)) (r : Pth) : Prop := ∃ z ∈ Z, (p ++ [z.1]) <+: r
theorem leaf_sub {w' : World} {lo B : Nat} {fs : FS} {p : Pth} {x : Nd} (hg : FsOk fs) (hx : fs.at p = some x) (hk : x.kind ≠ 2) (hB : lo ≤ B) (hn : w'.heap[B]? = some (.cells #[.int .i64 (x.kind : Int), .string x.text, .map none] 133 (0, 0))) : SubAt w' lo fs (Under p) (fun _ => B) (fun _ => 0) := by
  have only : ∀ r y, Under p r → fs.at r = some y → r = p ∧ y = x := fun r y hr hy => by
    obtain ⟨s, rfl⟩ := hr
    cases s with
    | nil => rw [List.append_nil] at hy ⊢; rw [hx] at hy; cases hy; exact ⟨rfl, rfl⟩
    | cons a s =>
      obtain ⟨z, h1, h2⟩ := hg.prefix (q := a :: s) (p := p) (by rw [hy]; simp) (by simp)
      rw [hx] at h1; cases h1
      exact absurd h2 hk
  refine ⟨fun r y hr hy => ?_, fun r y hr hy h2 => ?_, fun r y hr hy => ?_, fun r s y z hr hs hy hz _ => ?_, fun r s y z hr hs hy hz _ _ _ => ?_⟩
  · obtain ⟨_, rfl⟩ := only r y hr hy
    rw [if_neg hk]; exact hn
  · obtain ⟨_, rfl⟩ := only r y hr hy
    exact absurd h2 hk
  · obtain ⟨_, rfl⟩ := only r y hr hy
    exact ⟨hB, fun h => absurd h hk⟩
  · rw [(only r y hr hy).1, (only s z hs hz).1]
  · rw [(only r y hr hy).1, (only s z hs hz).1]
theorem map_look {A : Pth → Nat} {p : Pth} {n : Nm} : ∀ {Z : List (Nm × Value)}, (Z.map fun z => (z.1, ((.pointer (some ⟨A (p ++ [z.1]), 0, none⟩)) : Value))).lookup n = if n ∈ Z.map (·.1) then some ((.pointer (some ⟨A (p ++ [n]), 0, none⟩)) : Value) else none
  | [] => by simp
  | z :: Z => by
    have ih := map_look (A := A) (p := p) (n := n) (Z := Z)
    rw [List.map_cons, List.lookup_cons]
    by_cases h : n = z.1
    · subst h; simp
    · have : (n == z.1) = false := by simpa using h
      rw [this]
      show List.lookup n _ = _
      rw [ih]
      have e : n ∈ (z :: Z).map (·.1) ↔ n ∈ Z.map (·.1) := by
        rw [List.map_cons, List.mem_cons]
        exact ⟨fun h' => h'.resolve_left h, .inr⟩
      by_cases hm : n ∈ Z.map (·.1)
      · rw [if_pos hm, if_pos (e.2 hm)]
      · rw [if_neg hm, if_neg (fun h' => hm (e.1 h'))]
theorem done_next {p r : Pth} {Z : List (Nm × Value)} {n : Nm} {v : Value} : (DoneK p Z r ∨ Under (p ++ [n]) r) ↔ DoneK p (Z ++ [(n, v)]) r := by
  unfold DoneK Under
  constructor
  · rintro (⟨z, hz, h⟩ | h)
    · exact ⟨z, List.mem_append_left _ hz, h⟩
    · exact ⟨(n, v), by simp, h⟩
  · rintro ⟨z, hz, h⟩
    rcases List.mem_append.1 hz with h1 | h1
    · exact .inl ⟨z, h1, h⟩
    · rw [List.mem_singleton] at h1
      subst h1
      exact .inr h
theorem done_apart {p r : Pth} {Z : List (Nm × Value)} {n : Nm} (hn : n ∉ Z.map (·.1)) (h : DoneK p Z r) : ¬ (p ++ [n]) <+: r := by
  obtain ⟨z, hz, h1⟩ := h
  intro h2
  have h3 := List.prefix_of_prefix_length_le h1 h2 (by simp)
  have h4 := h3.eq_of_length (by simp)
  exact hn (List.mem_map.2 ⟨z, hz, (snoc_inj h4).2⟩)
theorem done_kid {p r : Pth} {Z : List (Nm × Value)} {n : Nm} (hn : n ∉ Z.map (·.1)) (h : DoneK p Z r) (k : Nm) : ¬ (p ++ [n]) <+: (r ++ [k]) := by
  obtain ⟨z, hz, h1⟩ := h
  intro h2
  have h3 := List.prefix_of_prefix_length_le (h1.trans (List.prefix_append r [k])) h2 (by simp)
  have h4 := h3.eq_of_length (by simp)
  exact hn (List.mem_map.2 ⟨z, hz, (snoc_inj h4).2⟩)
theorem SubAt.iff {w : World} {lo : Nat} {fs : FS} {D E : Pth → Prop} {A M : Pth → Nat} (h : SubAt w lo fs D A M) (hi : ∀ r, E r → D r) : SubAt w lo fs E A M :=
  ⟨fun r x hr hx => h.node r x (hi r hr) hx, fun r x hr hx hk => h.kids r x (hi r hr) hx hk, fun r x hr hx => h.aL r x (hi r hr) hx, fun r s x y hr hs hx hy e => h.injA r s x y (hi r hr) (hi s hs) hx hy e, fun r s x y hr hs hx hy kx ky e => h.injM r s x y (hi r hr) (hi s hs) hx hy kx ky e⟩
open Classical in
set_option maxRecDepth 100000 in
set_option maxHeartbeats 64000000 in
theorem twin_calls (L : List Nat) (t : Nat) (fs : FS) (by' nd : Nat) (A M : Pth → Nat) (hg : FsOk fs) : ∀ (m : Nat) (p : Pth) (x : Nd) (w : World), p.length + m = 65 → fs.at p = some x → TabAt w L t fs by' nd A M →
    Calls Tryz.prog 61 #[(.pointer (some ⟨A p, 0, none⟩))] w fun e w' => ∃ A' M', e = .returned (.pointer (some ⟨A' p, 0, none⟩)) ∧ Chg [] w w' ∧ SubAt w' w.heap.size fs (Under p) A' M'
  | 0, p, x, w, hl, hx, _ => by
    have := (hg.okp p x hx).1
    omega
  | m + 1, p, x, w, hl, hx, hT => by
    have IH := Asd.mk (twin_calls L t fs by' nd A M hg m)
    have HT := Asd.mk hT
    have HG := Asd.mk hg
    have HX := Asd.mk hx
    have HL := Asd.mk hl
    have hno := hT.node p x hx
    have HNo := Asd.mk hno
    have n0 := cell_of_heap hno 0
    have n1 := cell_of_heap hno 1
    have n2 := cell_of_heap hno 2
    have hmk := fun W => make_map W
    by_cases hk : x.kind = 2
    · rw [if_pos hk] at n2
      obtain ⟨es, clock, K, hK1, hK2, hK3⟩ := hT.kids p x hx hk
      have HK1 := Asd.mk hK1
      have HK2 := Asd.mk hK2
      have HK3 := Asd.mk hK3
      have HK := Asd.mk hk
      clear hT hg hx hl hno hk hK1 hK2 hK3
      (go_enter Tryz.func61, Tryz.ntmps61)
      go_upto_region 1 with fail
      go_still_tail 9, (by kernel_rfl)
      go_upto_region 2 with fail
      refine wp_opaque2 (fun W hW => ?_)
      have HCW := Asd.mk (show Chg [] w W by rw [hW]; exact ((Chg.refl _ _).drew).alloc _)
      have hBW : W.heap[w.heap.size]? = some (.cells #[.int .i64 (x.kind : Int), .string x.text, .map none] 133 (0, 0)) := by rw [hW]; exact hp_new w.drew _
      have hWs : W.heap.size = w.heap.size + 1 := by rw [hW]; show (w.alloc _).heap.size = _; rw [World.size_alloc]
      have hn2 := HCW.out.heap HNo.out (by simp)
      rw [if_pos HK.out] at hn2
      have n2 := cell_of_heap hn2 2
      have hq : ∀ X : World, (binOp .neq 131 (.map (some (M p))) (.map none)).run Tryz.prog X = .ok (.bool true) X := fun X => neq_map (some (M p)) X
      obtain ⟨B, hB⟩ : ∃ B, w.heap.size = B := ⟨_, rfl⟩
      rw [hB] at hBW hWs ⊢
      have hBM := hp_alloc hBW (.map #[] 0)
      have c2 := cell_of_heap hBM 2
      have f2 := frozen_of_heap hBM 2
      have HBM := Asd.mk hBM
      have HBq := Asd.mk hB
      have HWs := Asd.mk hWs
      have HBW := Asd.mk hBW
      clear hW n0 n1 hn2 hBW hB hBM
      go_upto_region 4 with fail
      refine wp_opaque2 (fun V hV => ?_)
      have HCV := Asd.mk (show Chg [] w V by rw [hV]; exact ((HCW.out.setCell (fun h => absurd (show B < w.heap.size from h) (by have := HBq.out; omega)) _).alloc _))
      have HBV := Asd.mk (show V.heap[B]? = some (.cells #[.int .i64 (x.kind : Int), .string x.text, .map (some (B + 1))] 133 (0, 0)) by rw [hV]; exact hp_alloc (hp_set HBW.out 2 _) _)
      have hVs : V.heap.size = B + 2 := by rw [hV, World.size_alloc]; show (W.heap.modify _ _).size + 1 = _; rw [Array.size_modify, HWs.out]
      have HMV := Asd.mk (show V.heap[B + 1]? = some (.map #[] 0) by
        have := hp_new (W.setCell ⟨B, 2, none⟩ (.map (some (B + 1)))) (.map #[] 0)
        rw [show (W.setCell ⟨B, 2, none⟩ (.map (some (B + 1)))).heap.size = B + 1 by show (W.heap.modify _ _).size = _; rw [Array.size_modify, HWs.out]] at this
        rw [hV]; exact this)
      have hKV := HCV.out.heap HK1.out (by simp)
      have hnV := HCV.out.heap HNo.out (by simp)
      rw [if_pos HK.out] at hnV
      have n2 := cell_of_heap hnV 2
      have hrg := run_range_map (P := Tryz.prog) V 131 _ _ (M p) es clock Tryz.underlying131 hKV
      rw [hVs] at hrg
      have HVs := Asd.mk hVs
      have HV0 := Asd.mk (show Chg [] w (V.alloc (.mapIter (some (M p)) clock #[] clock)) from HCV.out.alloc _)
      have hMp : M p < w.heap.size := heap_size_lt HK1.out
      clear hV hKV hnV hVs HBW HWs hq c2 f2 HBM HCW
      go_wp2
      go_loopg [4, 5] ((leftOf es #[]).size + 1) (fun gk _ _ wx => ∃ (seen : Array Nat) (Z : List (Nm × Value)) (A' M' : Pth → Nat) (esB : Array MapEntry) (cB : Nat), gk = (leftOf es seen).size + 1 ∧ Asd (Rg es seen Z) ∧ Asd (wx.heap[B + 2]? = some (.mapIter (some (M p)) clock seen clock)) ∧ Asd (Chg [] w wx) ∧ Asd (wx.heap[B]? = some (.cells #[.int .i64 (x.kind : Int), .string x.text, .map (some (B + 1))] 133 (0, 0))) ∧
        Asd (wx.heap[B + 1]? = some (.map esB cB) ∧ MKids esB cB (Z.map fun z => (z.1, (.pointer (some ⟨A' (p ++ [z.1]), 0, none⟩))))) ∧ Asd (SubAt wx (B + 3) fs (DoneK p Z) A' M') ∧ Asd (∀ z ∈ Z, fs.at (p ++ [z.1]) ≠ none))
      case atStart =>
        refine ⟨#[], [], fun _ => 0, fun _ => 0, #[], 0, rfl, ⟨rg_nil es⟩, ⟨?_⟩, HV0, ⟨hp_alloc HBV.out _⟩, ⟨hp_alloc HMV.out _, kids_nil 0⟩, ⟨⟨?_, ?_, ?_, ?_, ?_⟩⟩, ⟨fun z hz => by cases hz⟩⟩
        · have := hp_new V (.mapIter (some (M p)) clock #[] clock)
          rw [HVs.out] at this
          exact this
        · rintro r y ⟨z, hz, _⟩; cases hz
        · rintro r y ⟨z, hz, _⟩; cases hz
        · rintro r y ⟨z, hz, _⟩; cases hz
        · rintro r s y z ⟨z, hz, _⟩; cases hz
        · rintro r s y z ⟨z, hz, _⟩; cases hz
      case round =>
        obtain ⟨seen, Z, A', M', esB, cB, rfl, HZ, HI, HC, HBx, HMx, HSx, HZk⟩ := hrel
        rcases rg_next (P := Tryz.prog) (w := wr) 0 HI.out (HC.out.heap HK1.out (by simp)) HK2.out HZ.out with ⟨hper, hrun⟩ | ⟨n, v, b, w2, hw2, hin, hrun, hZ2, hlt, hent⟩
        · have HF := Asd.mk (show SubAt wr w.heap.size fs (Under p) (fun r => if r = p then B else A' r) (fun r => if r = p then B + 1 else M' r) by
            have hBq := HBq.out
            have mem : ∀ k, fs.at (p ++ [k]) ≠ none ↔ k ∈ Z.map (·.1) := fun k => by
              constructor
              · intro h
                obtain ⟨y, hy⟩ := Option.ne_none_iff_exists'.1 h
                have h1 := HK3.out k
                rw [hy] at h1
                exact List.mem_map.2 ⟨_, hper.mem_iff.2 (lookup_mem_kid h1), rfl⟩
              · intro h
                obtain ⟨z, hz, rfl⟩ := List.mem_map.1 h
                exact HZk.out z hz
            refine SubAt.top HSx.out (fun _ _ _ => rfl) (by omega) HX.out (fun r hr => ?_) ?_ (by omega) (fun _ => by omega) (by rw [if_pos HK.out]; exact HBx.out) (fun _ => ⟨esB, cB, _, HMx.out.1, HMx.out.2, fun k => ?_⟩) ?_
            · constructor
              · rintro ⟨s, rfl⟩
                cases s with
                | nil => exact .inl (by simp)
                | cons k s =>
                  have hk : fs.at (p ++ [k]) ≠ none := by
                    have e : p ++ k :: s = (p ++ [k]) ++ s := by simp
                    cases s with
                    | nil => exact hr
                    | cons j s =>
                      rw [e] at hr
                      obtain ⟨y, hy, _⟩ := HG.out.prefix hr (by simp)
                      rw [hy]; simp
                  obtain ⟨z, hz, hzk⟩ := List.mem_map.1 ((mem k).1 hk)
                  exact .inr ⟨z, hz, ⟨s, by rw [hzk]; simp⟩⟩
              · rintro (h | ⟨z, _, h⟩)
                · rw [h]; exact List.prefix_refl _
                · exact (List.prefix_append p [z.1]).trans h
            · rintro ⟨z, _, h⟩
              have := h.length_le
              simp at this
              omega
            · rw [map_look]
              by_cases h : k ∈ Z.map (·.1)
              · rw [if_pos h]
                obtain ⟨y, hy⟩ := Option.ne_none_iff_exists'.1 ((mem k).2 h)
                rw [hy]; rfl
              · rw [if_neg h]
                cases hy : fs.at (p ++ [k]) with
                | none => rfl
                | some y => exact absurd ((mem k).1 (by rw [hy]; simp)) h
            · rintro r k ⟨z, _, h⟩ e
              have h1 := h.length_le
              have h2 := congrArg List.length e
              simp at h1 h2
              omega)
          clear hper HI HBx HMx HSx HZk HK1 HK2 HK3
          go_wp2
          go_ret
          exact ⟨_, _, by simp, HC.out, HF.out⟩
        · obtain ⟨W, hW⟩ : ∃ W, Go.ChangeMaps.setBlock w2 (B + 2) (.mapIter (some (M p)) clock (seen.push b) clock) = W := ⟨_, rfl⟩
          rw [hW] at hrun
          have hBq := HBq.out
          have hMr : M p ≠ B + 2 := by omega
          have h2h : ∀ i : Nat, w2.heap[i]? = wr.heap[i]? := fun i => by
            rcases hw2 with rfl | rfl
            · rfl
            · rfl
          have hC2 : Chg [] w w2 := by
            rcases hw2 with rfl | rfl
            · exact HC.out
            · exact HC.out.drew
          have hWo : ∀ i, i ≠ B + 2 → W.heap[i]? = wr.heap[i]? := fun i hi => by rw [← hW, sb_ne' hi]; exact h2h i
          have hIW : W.heap[B + 2]? = some (.mapIter (some (M p)) clock (seen.push b) clock) := by rw [← hW]; exact hp_setBlock ((h2h _).trans HI.out)
          have hbW : W.heap[M p]? = some (.map es clock) := (hWo _ hMr).trans (HC.out.heap HK1.out (by simp))
          have hCW : Chg [] w W := by rw [← hW]; exact hC2.setBlock (fun h => by omega) _
          have hBW : W.heap[B]? = some (.cells #[.int .i64 (x.kind : Int), .string x.text, .map (some (B + 1))] 133 (0, 0)) := (hWo _ (by omega)).trans HBx.out
          have hMW : W.heap[B + 1]? = some (.map esB cB) := (hWo _ (by omega)).trans HMx.out.1
          have hWs : W.heap.size = wr.heap.size := by
            rw [← hW]
            show (w2.heap.setIfInBounds _ _).size = _
            rw [Array.size_setIfInBounds]
            rcases hw2 with rfl | rfl <;> rfl
          have hen := hent W hIW hbW
          have hlk := mem_lookup_kid HK2.out.keys hin
          rw [HK3.out n] at hlk
          obtain ⟨x2, hx2⟩ : ∃ x2, fs.at (p ++ [n]) = some x2 := by
            cases hz : fs.at (p ++ [n]) with
            | none => rw [hz] at hlk; cases hlk
            | some z => exact ⟨z, rfl⟩
          rw [hx2] at hlk
          simp only [Option.map_some, Option.some.injEq] at hlk
          subst hlk
          have hnZ : n ∉ Z.map (·.1) := by
            have := rg_names HK2.out hZ2
            rw [List.map_append, List.nodup_append] at this
            exact fun h => this.2.2 n h n (by simp) rfl
          have HIH := Asd.mk (fun X (hX : Chg [] w X) => IH.out (p ++ [n]) x2 X (by have := HL.out; rw [List.length_append]; simp; omega) hx2 (HT.out.keep0 hX))
          have HIW := Asd.mk hIW
          have HCW := Asd.mk hCW
          have HBW := Asd.mk hBW
          have HMW := Asd.mk hMW
          have HWo := Asd.mk hWo
          have HWs := Asd.mk hWs
          have HnZ := Asd.mk hnZ
          have HZ2 := Asd.mk hZ2
          have HSW := Asd.mk (HSx.out.chg (w' := W) (fun i hi _ => hWo i (by omega)))
          have hit : B + 3 ≤ W.heap.size := by have := heap_size_lt hIW; omega
          have hk1 : W.drew.heap[B]? = some (.cells #[.int .i64 (x.kind : Int), .string x.text, .map (some (B + 1))] 133 (0, 0)) := hp_drew hBW
          have q1 := cell_of_heap hk1 2
          clear hW hw2 hin hent hIW hbW hCW hC2 hMr h2h hWo hBW hMW hWs hnZ hZ2 HI HC HBx HSx HZ
          go_upto_region 7 with fail
          go_region_held3 (fun w' => w'.cell? ⟨B, 2, none⟩ = some (.map (some (B + 1)))) (first | exact q1 | exact q2 | exact q3) (first | (go_at_call 61; refine (HIH.out _ HCW.out.drew).mono ?_; rintro e w5 ⟨A2, M2, rfl, hC5, hS5⟩; have hk2 : w5.heap[B]? = some (.cells #[.int .i64 (x.kind : Int), .string x.text, .map (some (B + 1))] 133 (0, 0)) := hC5.heap hk1 (by simp); have q2 := cell_of_heap hk2 2; obtain ⟨hup, hMK⟩ := run_upd (P := Tryz.prog) Tryz.underlying131 Tryz.underlying9 (hC5.heap (hp_drew HMW.out) (by simp)) HMx.out.2 (nb n) (.pointer (some ⟨A2 (p ++ [n]), 0, none⟩)) (by rw [list_nb, map_look, if_neg HnZ.out]); have hk3 := hp_setBlock_other (b := B + 1) (o' := .map (esB.push ⟨.string (nb n), (.pointer (some ⟨A2 (p ++ [n]), 0, none⟩)), cB⟩) (cB + 1)) hk2 (by omega); have q3 := cell_of_heap hk3 2))
          have HX5 := Asd.mk (show ∀ i, i ≠ B + 1 → (Go.ChangeMaps.setBlock w5 (B + 1) (.map (esB.push ⟨.string (nb n), (.pointer (some ⟨A2 (p ++ [n]), 0, none⟩)), cB⟩) (cB + 1))).heap[i]? = w5.heap[i]? from fun i hi => sb_ne' hi)
          have HC6 := Asd.mk (show Chg [] w (Go.ChangeMaps.setBlock w5 (B + 1) (.map (esB.push ⟨.string (nb n), (.pointer (some ⟨A2 (p ++ [n]), 0, none⟩)), cB⟩) (cB + 1))) from (HCW.out.drew.trans hC5).setBlock (fun h => by omega) _)
          have HI6 := Asd.mk ((HX5.out (B + 2) (by omega)).trans (hC5.heap (hp_drew HIW.out) (by simp)))
          have HM6 := Asd.mk (show (Go.ChangeMaps.setBlock w5 (B + 1) (.map (esB.push ⟨.string (nb n), (.pointer (some ⟨A2 (p ++ [n]), 0, none⟩)), cB⟩) (cB + 1))).heap[B + 1]? = some (.map (esB.push ⟨.string (nb n), (.pointer (some ⟨A2 (p ++ [n]), 0, none⟩)), cB⟩) (cB + 1)) from hp_setBlock (hC5.heap (hp_drew HMW.out) (by simp)))
          have HS6 := Asd.mk (SubAt.iff (SubAt.add (w' := Go.ChangeMaps.setBlock w5 (B + 1) (.map (esB.push ⟨.string (nb n), (.pointer (some ⟨A2 (p ++ [n]), 0, none⟩)), cB⟩) (cB + 1))) (E := Under (p ++ [n])) HSW.out (fun i h1 h2 => (HX5.out i (by omega)).trans ((hC5.block i h2 (by simp)).trans rfl)) (hS5.chg (fun i h1 _ => HX5.out i (by have : W.heap.size ≤ i := h1; omega))) hit (fun r h => done_apart HnZ.out h) (fun r k h => done_kid HnZ.out h k) (fun r k h => h.trans (List.prefix_append r [k]))) (fun r h => done_next.2 h) (E := DoneK p (Z ++ [(n, (.pointer (some ⟨A (p ++ [n]), 0, none⟩)))])))
          have HMK := Asd.mk (show MKids (esB.push ⟨.string (nb n), (.pointer (some ⟨A2 (p ++ [n]), 0, none⟩)), cB⟩) (cB + 1) ((Z ++ [(n, ((.pointer (some ⟨A (p ++ [n]), 0, none⟩)) : Value))]).map fun z => (z.1, ((.pointer (some ⟨(if Under (p ++ [n]) (p ++ [z.1]) then A2 (p ++ [z.1]) else A' (p ++ [z.1])), 0, none⟩)) : Value))) from by
            rw [list_nb] at hMK
            have e : ((Z ++ [(n, ((.pointer (some ⟨A (p ++ [n]), 0, none⟩)) : Value))]).map fun z => (z.1, ((.pointer (some ⟨(if Under (p ++ [n]) (p ++ [z.1]) then A2 (p ++ [z.1]) else A' (p ++ [z.1])), 0, none⟩)) : Value))) = (Z.map fun z => (z.1, ((.pointer (some ⟨A' (p ++ [z.1]), 0, none⟩)) : Value))) ++ [(n, (.pointer (some ⟨A2 (p ++ [n]), 0, none⟩)))] := by
              rw [List.map_append, List.map_singleton]
              simp only
              rw [if_pos (show Under (p ++ [n]) (p ++ [n]) from List.prefix_refl _)]
              congr 1
              refine List.map_congr_left fun z hz => ?_
              rw [if_neg]
              intro h
              have h4 := List.IsPrefix.eq_of_length h (by simp)
              exact HnZ.out (List.mem_map.2 ⟨z, hz, (snoc_inj h4).2.symm⟩)
            rw [e]
            exact hMK)
          have HZ6 := Asd.mk (show ∀ z ∈ Z ++ [(n, ((.pointer (some ⟨A (p ++ [n]), 0, none⟩)) : Value))], fs.at (p ++ [z.1]) ≠ none from fun z hz => by
            rcases List.mem_append.1 hz with h | h
            · exact HZk.out z h
            · rw [List.mem_singleton] at h
              rw [h, hx2]; simp)
          have HB6 := Asd.mk hk3
          clear hk1 hk2 hk3 q1 q2 q3 hup hMK hC5 hS5
          go_wp2
          go_roundg ((leftOf es (seen.push b)).size + 1)
          case rel => exact ⟨seen.push b, _, _, _, _, _, rfl, HZ2, HI6, HC6, HB6, ⟨HM6.out, HMK.out⟩, HS6, HZ6⟩
          case measure => omega
    · rw [if_neg hk] at n2
      have HK := Asd.mk hk
      clear hT hg hx hl hno hk
      (go_enter Tryz.func61, Tryz.ntmps61)
      go_upto_region 1 with fail
      go_still_tail 9, (by kernel_rfl)
      go_upto_region 2 with fail
      refine wp_opaque2 (fun W hW => ?_)
      have HCW := Asd.mk (show Chg [] w W by rw [hW]; exact ((Chg.refl _ _).drew).alloc _)
      have HBW := Asd.mk (show W.heap[w.heap.size]? = some (.cells #[.int .i64 (x.kind : Int), .string x.text, .map none] 133 (0, 0)) by rw [hW]; exact hp_new w.drew _)
      have hn2 := HCW.out.heap HNo.out (by simp)
      rw [if_neg HK.out] at hn2
      have n2 := cell_of_heap hn2 2
      have hrg := run_range_nilMap (P := Tryz.prog) W 131 _ _ Tryz.underlying131
      have hnx := run_next_nilMap (P := Tryz.prog) W 0 0 0 #[]
      have hq : ∀ X : World, (binOp .neq 131 (.map none) (.map none)).run Tryz.prog X = .ok (.bool false) X := fun X => neq_map none X
      clear hW n0 n1 hn2
      go_wp2
      refine wp_loop_rounds 1 ?_
      rw [rounds_succ]
      go_wp2
      go_ret
      exact ⟨fun _ => w.heap.size, fun _ => 0, rfl, HCW.out.alloc _, leaf_sub HG.out HX.out HK.out (Nat.le_refl _) (hp_alloc HBW.out _)⟩
end Go.Proofs.YthojofeocjmglaaGreatDoor.I
/- The program's Clone: the walk. -/
namespace Go.Proofs.YthojofeocjmglaaGreatDoor.I
open Go.RowKit Go.Proofs.YthojofeocjmglaaGreatDoor.B Go.Sort
set_option linter.unusedVariables false
theorem size_table (a b c d e : Value) : (Tryz.prog.info? 118).map (·.size) = some (#[a, b, c, d, e]).size := by kernel_rfl
set_option maxRecDepth 100000 in
set_option maxHeartbeats 16000000 in
theorem clone_calls (L : List Nat) (t : Nat) (fs : FS) (by' nd : Nat) (A M : Pth → Nat) (w : World) (hT : TabAt w L t fs by' nd A M) (hg : FsOk fs) :
    Calls Tryz.prog 33 #[(.pointer (some ⟨t, 0, none⟩))] w fun e w' => ∃ c L2 A' M', e = .returned (.pointer (some ⟨c, 0, none⟩)) ∧ Chg [] w w' ∧ TabAt w' L2 c fs by' nd A' M' ∧ ∀ i ∈ L2, w.heap.size ≤ i := by
  have HT := Asd.mk hT
  have hTt := hT.tab
  have HTt := Asd.mk hTt
  have t0 := cell_of_heap hTt 0
  have t1 := cell_of_heap hTt 1
  have t2 := cell_of_heap hTt 2
  have t3 := cell_of_heap hTt 3
  have t4 := cell_of_heap hTt 4
  have HTw := Asd.mk (fun X (hX : Chg [] w X) => twin_calls L t fs by' nd A M hg 65 [] rootN X rfl rfl (hT.keep0 hX))
  clear hT hg hTt
  (go_enter Tryz.func33, Tryz.ntmps33)
  go_upto_region 2 with fail
  refine wp_opaque2 (fun W hW => ?_)
  have HCW := Asd.mk (show Chg [] w W by rw [hW]; exact (Chg.refl _ _).alloc _)
  have HBW := Asd.mk (show W.heap[w.heap.size]? = some (.cells #[(.pointer (some ⟨A [], 0, none⟩)), .int .i64 (by' : Int), .int .i64 (nd : Int), .int .i64 (usedF fs : Int), .int .i64 (fs.length : Int)] 118 (0, 0)) by rw [hW]; exact hp_new _ _)
  have hTW := HCW.out.heap HTt.out (by simp)
  have t0 := cell_of_heap hTW 0
  obtain ⟨B, hB⟩ : ∃ B, w.heap.size = B := ⟨_, rfl⟩
  rw [hB] at HBW ⊢
  have HBq := Asd.mk hB
  clear hW hTW t1 t2 t3 t4 hB
  go_wp2_with fail
  refine (HTw.out W HCW.out).mono ?_
  rintro e w1 ⟨A', M', rfl, hC, hS⟩
  have hB1 := hC.heap HBW.out (by simp)
  have HB1 := Asd.mk hB1
  have b0 := cell_of_heap hB1 0
  have f0 := frozen_of_heap hB1 0
  have HC1 := Asd.mk (HCW.out.trans hC)
  have HS := Asd.mk hS
  have HWB := Asd.mk (show B < W.heap.size from lt_of_heap HBW.out)
  clear hB1 hC hS HTw t0 HBW
  go_wp2
  go_ret
  have hSb : (w1.setCell ⟨B, 0, none⟩ (.pointer (some ⟨A' [], 0, none⟩))).heap.size = w1.heap.size := by show (w1.heap.modify _ _).size = _; simp
  have hS2 := HS.out.chg (w' := w1.setCell ⟨B, 0, none⟩ (.pointer (some ⟨A' [], 0, none⟩))) (fun i hi _ => Below.heap_setCell w1 ⟨B, 0, none⟩ _ i (by show i ≠ B; have := HWB.out; omega))
  have und : ∀ r : Pth, Under [] r := fun r => List.nil_prefix
  have hmem : ∀ i, i ∈ List.range' B ((w1.setCell ⟨B, 0, none⟩ (.pointer (some ⟨A' [], 0, none⟩))).heap.size - B) ↔ B ≤ i ∧ i < (w1.setCell ⟨B, 0, none⟩ (.pointer (some ⟨A' [], 0, none⟩))).heap.size := fun i => by
    rw [List.mem_range'_1]
    have h1 := lt_of_heap HB1.out
    omega
  refine ⟨B, List.range' B ((w1.setCell ⟨B, 0, none⟩ (.pointer (some ⟨A' [], 0, none⟩))).heap.size - B), A', M', rfl, HC1.out.setCell (fun h => absurd (show B < w.heap.size from h) (by have := HBq.out; omega)) _, ⟨?_, fun r x hx => hS2.node r x (und r) hx, fun r x hx hk => hS2.kids r x (und r) hx hk, ?_, fun i hi => ((hmem i).1 hi).2, fun r x hx => ?_, fun r s x y hx hy e => hS2.injA r s x y (und r) (und s) hx hy e, fun r s x y hx hy kx ky e => hS2.injM r s x y (und r) (und s) hx hy kx ky e⟩, fun i hi => by have := ((hmem i).1 hi).1; have := HBq.out; omega⟩
  · exact hp_set HB1.out 0 _
  · exact (hmem B).2 ⟨Nat.le_refl _, by rw [hSb]; exact lt_of_heap HB1.out⟩
  · obtain ⟨a1, a2⟩ := hS2.aL r x (und r) hx
    have hWB := HWB.out
    refine ⟨(hmem _).2 ⟨by omega, lt_of_heap (hS2.node r x (und r) hx)⟩, fun hk => ?_⟩
    obtain ⟨es, c, K, k1, _, _⟩ := hS2.kids r x (und r) hx hk
    have := a2 hk
    exact (hmem _).2 ⟨by omega, lt_of_heap k1⟩
theorem sysl_clone {w W : World} {L : List Nat} {t : Nat} {fs : FS} {b n : Nat} (h : SysL w W L t fs b n) :
    Calls Tryz.prog 33 #[(.pointer (some ⟨t, 0, none⟩))] W fun e w' => ∃ c L2, e = .returned (.pointer (some ⟨c, 0, none⟩)) ∧ SysL w w' L2 c fs b n ∧ Chg [] W w' ∧ ∀ i ∈ L2, W.heap.size ≤ i := by
  obtain ⟨h1, h2, h3, h4, A, M, h5⟩ := h
  refine (clone_calls L t fs b n A M W h5 h2).mono ?_
  rintro e w' ⟨c, L2, A', M', rfl, hC, hT, hL⟩
  exact ⟨c, L2, rfl, ⟨h1.trans hC, h2, h3, fun i hi => Nat.le_trans h1.size (hL i hi), A', M', hT⟩, hC, hL⟩
end Go.Proofs.YthojofeocjmglaaGreatDoor.I
/- Acts on a disk, plainly: an operation, a sync, a plan, a start. -/
namespace Go.Proofs.YthojofeocjmglaaGreatDoor.I
open Go.RowKit Go.Proofs.YthojofeocjmglaaGreatDoor.B Go.Sort
set_option linter.unusedVariables false
structure ActV where
  kind : Int
  a : ByteArray
  b : ByteArray
  n : Int
  k : Int
/-- A failure is planned; a loss of power is. -/
def failA (d : DK) (m : Int) : Nat × DK := if m < 1 ∨ 2147483647 < m then (1, d) else if d.off = true then (211, d) else (0, { d with fails := d.steps + m.toNat })
def downA (d : DK) (m k : Int) : Nat × DK := if m < 1 ∨ 2147483647 < m ∨ k < 0 then (1, d) else if d.off = true then (211, d) else (0, { d with downs := d.steps + m.toNat, keep := k.toNat })
noncomputable def actD (b n : Nat) (d : DK) (a : ActV) : Nat × DK :=
  if 1 ≤ a.kind ∧ a.kind ≤ 6 then doD b n d ⟨a.kind, a.a, a.b⟩ else if a.kind = 7 then syncD b n d else if a.kind = 8 then failA d a.n else if a.kind = 9 then downA d a.n a.k else startD d
theorem failA_ok {b n : Nat} {d : DK} (h : DOk b n d) (m : Int) : DOk b n (failA d m).2 := by
  unfold failA
  split
  · exact h
  · split
    · exact h
    · exact ⟨h.now, h.safe, h.rnow, h.rsafe, h.led⟩
theorem downA_ok {b n : Nat} {d : DK} (h : DOk b n d) (m k : Int) : DOk b n (downA d m k).2 := by
  unfold downA
  split
  · exact h
  · split
    · exact h
    · exact ⟨h.now, h.safe, h.rnow, h.rsafe, h.led⟩
theorem actD_ok {b n : Nat} {d : DK} (h : DOk b n d) (a : ActV) : DOk b n (actD b n d a).2 := by
  unfold actD
  split
  · exact doD_ok h _
  · split
    · exact syncD_ok h
    · split
      · exact failA_ok h _
      · split
        · exact downA_ok h _ _
        · exact startD_ok h
theorem countD_steps (b n : Nat) (d : DK) : (countD b n d).2.steps ≤ d.steps + 1 := by
  unfold countD
  split
  · simp
  · split
    · exact Nat.le_refl _
    · split <;> exact Nat.le_refl _
theorem doD_steps (b n : Nat) (d : DK) (o : OpV) : (doD b n d o).2.steps ≤ d.steps + 1 := by
  unfold doD
  split
  · exact countD_steps b n d
  · split <;> exact countD_steps b n d
theorem syncD_steps (b n : Nat) (d : DK) : (syncD b n d).2.steps ≤ d.steps + 1 := by
  unfold syncD
  split <;> exact countD_steps b n d
theorem actD_steps (b n : Nat) (d : DK) (a : ActV) : (actD b n d a).2.steps ≤ d.steps + 1 := by
  unfold actD
  split
  · exact doD_steps b n d _
  · split
    · exact syncD_steps b n d
    · split
      · unfold failA; split
        · simp
        · split <;> simp
      · split
        · unfold downA; split
          · simp
          · split <;> simp
        · unfold startD; split <;> simp
theorem countD_log (b n : Nat) (d : DK) : (countD b n d).2.log = d.log ∧ (countD b n d).2.safe = d.safe := by
  unfold countD
  split
  · exact ⟨rfl, rfl⟩
  · split
    · exact ⟨rfl, rfl⟩
    · split <;> exact ⟨rfl, rfl⟩
end Go.Proofs.YthojofeocjmglaaGreatDoor.I
