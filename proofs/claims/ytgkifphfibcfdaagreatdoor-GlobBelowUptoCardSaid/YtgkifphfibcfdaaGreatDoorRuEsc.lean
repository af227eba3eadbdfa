/- strings.NewReplacer(..).Replace, once: Escape. -/
import Derived.Test.YtgkifphfibcfdaaGreatDoorRu4
import Derived.Test.YtgkifphfibcfdaaGreatDoorRu1
import Derived.Defers
import Derived.Laws.LoneSync
namespace Go.Proofs.YtgkifphfibcfdaaGreatDoor.G
open Go.RowKit Go.Proofs.YtgkifphfibcfdaaGreatDoor.B Go.MuLone
set_option linter.unusedVariables false
theorem load_calls (a : Addr) (d : Int) (w : World) (h0 : w.cell? a = some (.int .u32 d)) : Calls Tryz.prog 69 #[.pointer (some a)] w fun e w' => e = .returned (.bool (d != 0)) ∧ w' = w := by
  have hl := run_call_load (P := Tryz.prog) Tryz.func81 (by kernel_rfl) (by kernel_rfl) (by kernel_rfl) .u32 (by kernel_rfl) h0
  go_enter Tryz.func69, Tryz.ntmps69
  go_wp2
  go_ret
  exact ⟨rfl, rfl⟩
/-- buildOnce: what is built stands in the replacer. -/
def Built (b : Nat) (w w' : World) (d m : Int) : Prop := Chg [b] w w' ∧ ∃ B F tr, w.heap.size < B ∧ RpAt w' b d m (.iface 185 (.pointer (some ⟨B, 0, none⟩))) (.slice none 0 0) ∧ BsrAt w' B F tr
theorem once_calls (b g kk : Nat) (w : World) (hb : RpAt w b 0 1 .nilIface (.slice (some ⟨g, 0, none⟩) 8 kk)) (hg : OldAt w g) (hne : b ≠ g) :
    Calls Tryz.prog 56 #[.pointer (some ⟨b, 0, none⟩)] w fun e w' => e = .returned (.tuple #[]) ∧ Built b w w' 0 1 := by
  have HB := Asd.mk hb
  have HG := Asd.mk hg
  have hlt := lt_of_heap hb
  clear hb hg
  go_enter Tryz.func56, Tryz.ntmps56
  go_wp2_with fail
  refine (build_calls b g kk w HB.out HG.out hne).mono ?_
  rintro e w1 ⟨B, F, tr, rfl, hlB, hBA⟩
  have HBA := Asd.mk hBA
  have h1 : RpAt w1 b 0 1 .nilIface (.slice (some ⟨g, 0, none⟩) 8 kk) := hBA.chg.heap HB.out (by simp)
  have H1 := Asd.mk h1
  have c3 : w1.cell? ⟨b, 3, none⟩ = some .nilIface := cell_of_heap h1 3
  have f3 := frozen_of_heap h1 3
  have h2 := hp_set h1 3 (.iface 185 (.pointer (some ⟨B, 0, none⟩)))
  have c4 : (w1.setCell ⟨b, 3, none⟩ (.iface 185 (.pointer (some ⟨B, 0, none⟩)))).cell? ⟨b, 4, none⟩ = some (.slice (some ⟨g, 0, none⟩) 8 kk) := cell_of_heap h2 4
  have f4 := frozen_of_heap h2 4
  have H2 := Asd.mk h2
  clear h1 h2 hBA
  go_wp2
  go_end0
  refine ⟨rfl, ((HBA.out.chg.mono (by simp)).setCell (by simp) _).setCell (by simp) _, B, F, tr, hlB, hp_set H2.out 4 _, ?_⟩
  refine (HBA.out.bsr.chg (((Chg.refl [b] _).setCell (by simp) _).setCell (by simp) _) (by simp; omega) (fun g hg cs t fz h => ?_))
  simp only [List.mem_singleton] at hg
  subst hg
  have h2 := Option.some.inj (H1.out.symm.trans h)
  injection h2 with _ ht
  subst ht
  exact ⟨by decide, by decide⟩
theorem Built.cells {b : Nat} {w w' : World} {d m : Int} (h : Built b w w' d m) : w'.cell? ⟨b, 0, none⟩ = some (.int .u32 d) ∧ w'.cell? ⟨b, 1, none⟩ = some (.int .i32 m) ∧ w'.frozen? ⟨b, 0, none⟩ = false ∧ w'.frozen? ⟨b, 1, none⟩ = false := by
  obtain ⟨_, B, F, tr, _, h1, _⟩ := h
  exact ⟨cell_of_heap h1 0, cell_of_heap h1 1, frozen_of_heap h1 0, frozen_of_heap h1 1⟩
theorem rp_bsr {w : World} {b B : Nat} {d m : Int} {r o : Value} {F : Nat → Value} {tr : Value} (h1 : RpAt w b d m r o) (h2 : BsrAt w B F tr) : B ≠ b := by
  intro e
  subst e
  have h := Option.some.inj (h1.symm.trans h2.at_)
  injection h with _ ht
  exact absurd ht (by decide)
theorem rp_five {w : World} {b : Nat} {d m : Int} {r o : Value} (h1 : RpAt w b d m r o) : ∀ g ∈ [b], ∀ cs t fz, w.heap[g]? = some (.cells cs t fz) → t ≠ 5 ∧ t ≠ 9 := by
  intro g hg cs t fz h
  simp only [List.mem_singleton] at hg
  subst hg
  have h2 := Option.some.inj (h1.symm.trans h)
  injection h2 with _ ht
  subst ht
  exact ⟨by decide, by decide⟩
theorem Built.set0 {b : Nat} {w w' : World} {d m : Int} (h : Built b w w' d m) (d' : Int) : Built b w (w'.setCell ⟨b, 0, none⟩ (.int .u32 d')) d' m := by
  obtain ⟨hc, B, F, tr, h0, h1, h2⟩ := h
  exact ⟨hc.setCell (by simp) _, B, F, tr, h0, hp_set h1 0 _, h2.chg ((Chg.refl [b] _).setCell (by simp) _) (by simpa using rp_bsr h1 h2) (rp_five h1)⟩
theorem Built.set1 {b : Nat} {w w' : World} {d m : Int} (h : Built b w w' d m) (m' : Int) : Built b w (w'.setCell ⟨b, 1, none⟩ (.int .i32 m')) d m' := by
  obtain ⟨hc, B, F, tr, h0, h1, h2⟩ := h
  exact ⟨hc.setCell (by simp) _, B, F, tr, h0, hp_set h1 1 _, h2.chg ((Chg.refl [b] _).setCell (by simp) _) (by simpa using rp_bsr h1 h2) (rp_five h1)⟩
theorem Built.drew {b : Nat} {w w' : World} {d m : Int} (h : Built b w w' d m) : Built b w w'.drew d m := by
  obtain ⟨hc, B, F, tr, h0, h1, h2⟩ := h
  exact ⟨hc.drew, B, F, tr, h0, h1, ⟨h2.at_, h2.strs, h2.reps, h2.nils⟩⟩
theorem Built.start {b : Nat} {w w0 w' : World} {d m : Int} (h : Built b w w' d m) (h0 : Chg [b] w0 w) : Built b w0 w' d m := by
  obtain ⟨hc, B, F, tr, hl, h1, h2⟩ := h
  exact ⟨h0.trans hc, B, F, tr, Nat.lt_of_le_of_lt h0.size hl, h1, h2⟩
set_option maxRecDepth 100000 in
set_option maxHeartbeats 1600000 in
theorem slow_calls (b g kk : Nat) (w : World) (hb : RpAt w b 0 0 .nilIface (.slice (some ⟨g, 0, none⟩) 8 kk)) (hg : OldAt w g) (hne : b ≠ g) :
    Calls Tryz.prog 70 #[.pointer (some ⟨b, 0, none⟩), .func (.func 56) #[.pointer (some ⟨b, 0, none⟩)] #[]] w fun e w' => e = .returned (.tuple #[]) ∧ Built b w w' 1 0 := by
  have h1 : RpAt (w.setCell ⟨b, 1, none⟩ (.int .i32 1)) b 0 1 .nilIface (.slice (some ⟨g, 0, none⟩) 8 kk) := hp_set hb 1 _
  have hg1 : OldAt (w.setCell ⟨b, 1, none⟩ (.int .i32 1)) g := hg.chg ((Chg.refl [b] _).setCell (by simp) _) (by simpa using fun e => hne e.symm)
  have c0 : (w.setCell ⟨b, 1, none⟩ (.int .i32 1)).cell? ⟨b, 0, none⟩ = some (.int .u32 0) := cell_of_heap h1 0
  have a1 : w.cell? ⟨b, 1, none⟩ = some (.int .i32 0) := cell_of_heap hb 1
  have f1 : w.frozen? ⟨b, 1, none⟩ = false := frozen_of_heap hb 1
  have hnot : ∀ (x : Bool) (w : World), (Op.unary .not (.bool x)).run Tryz.prog w = .ok (.bool (!x)) w := fun _ _ => rfl
  have H1 := Asd.mk h1
  have HG := Asd.mk hg1
  clear hb hg h1 hg1
  go_enter_defers Tryz.func70, Tryz.ntmps70
  go_wp2_with fail
  refine (lock_free muLib ⟨b, 1, none⟩ w a1 f1).mono ?_
  rintro e w1 ⟨rfl, rfl⟩
  go_wp2_with fail
  refine (load_calls ⟨b, 0, none⟩ 0 _ c0).mono ?_
  rintro e w1 ⟨rfl, rfl⟩
  go_wp2_with fail
  refine (once_calls b g kk _ H1.out HG.out hne).mono ?_
  rintro e w2 ⟨rfl, hB⟩
  have HB := Asd.mk hB
  clear hB
  go_wp2
  refine leaves_cons (f := 84) (args := #[.pointer (some ⟨b, 0, none⟩), .bool true]) (by simp) (by simp [go_sem]) ?_
  refine (store_deferred ⟨b, 0, none⟩ (.int .u32 0) .returning _ HB.out.cells.1 HB.out.cells.2.2.1).mono ?_
  rintro e u' w3 ⟨rfl, rfl, rfl⟩
  have HB3 := Asd.mk (HB.out.drew.set0 1)
  refine leaves_cons (f := 83) (args := #[.pointer (some ⟨b, 1, none⟩)]) (by simp [settle]) (by simp [go_sem]) ?_
  refine (unlock_deferred muLib ⟨b, 1, none⟩ _ _ HB3.out.cells.2.1 HB3.out.cells.2.2.2).mono ?_
  rintro e u' w4 ⟨rfl, rfl, rfl⟩
  have HB4 := Asd.mk ((HB3.out.set1 0).start ((Chg.refl [b] _).setCell (by simp) _))
  simp only [Leaves, settle, results, Tryz.results70]
  exact ⟨.tuple #[], by simp, rfl, HB4.out⟩
theorem do_calls (b g kk : Nat) (w : World) (hb : RpAt w b 0 0 .nilIface (.slice (some ⟨g, 0, none⟩) 8 kk)) (hg : OldAt w g) (hne : b ≠ g) :
    Calls Tryz.prog 55 #[.pointer (some ⟨b, 0, none⟩), .func (.func 56) #[.pointer (some ⟨b, 0, none⟩)] #[]] w fun e w' => e = .returned (.tuple #[]) ∧ Built b w w' 1 0 := by
  have c0 : w.cell? ⟨b, 0, none⟩ = some (.int .u32 0) := cell_of_heap hb 0
  have HB := Asd.mk hb
  have HG := Asd.mk hg
  have hnot : ∀ (x : Bool) (w : World), (Op.unary .not (.bool x)).run Tryz.prog w = .ok (.bool (!x)) w := fun _ _ => rfl
  clear hb hg
  go_enter Tryz.func55, Tryz.ntmps55
  go_wp2_with fail
  refine (load_calls ⟨b, 0, none⟩ 0 _ c0).mono ?_
  rintro e w1 ⟨rfl, rfl⟩
  go_wp2_with fail
  refine (slow_calls b g kk _ HB.out HG.out hne).mono ?_
  rintro e w1 ⟨rfl, h⟩
  have H := Asd.mk h
  clear h
  go_wp2
  go_end0
  exact ⟨rfl, H.out⟩
set_option maxHeartbeats 1600000 in
theorem replace_calls (b g kk : Nat) (s : ByteArray) (w : World) (hs : s.size ≤ 1048576) (hb : RpAt w b 0 0 .nilIface (.slice (some ⟨g, 0, none⟩) 8 kk)) (hg : OldAt w g) (hne : b ≠ g) :
    Calls Tryz.prog 33 #[.pointer (some ⟨b, 0, none⟩), .string s] w fun e w' => e = .returned (.string (escS s)) ∧ Chg [b] w w' := by
  have hmf : ∀ (fn : Fn) (first cap : Array Value) (w : World), (Instr.makeFunc fn first cap).run Tryz.prog w = .ok (.func fn first cap) w := fun _ _ _ _ => rfl
  have HB := Asd.mk hb
  have HG := Asd.mk hg
  clear hb hg
  go_enter Tryz.func33, Tryz.ntmps33
  go_wp2_with fail
  refine (do_calls b g kk _ HB.out HG.out hne).mono ?_
  rintro e w1 ⟨rfl, hc, B, F, tr, hl, h1, h2⟩
  have c3 : w1.cell? ⟨b, 3, none⟩ = some (.iface 185 (.pointer (some ⟨B, 0, none⟩))) := cell_of_heap h1 3
  have H2 := Asd.mk h2
  have HC := Asd.mk hc
  clear h1 h2 hc
  go_wp2_with fail
  refine (repl_calls B F _ s w1 H2.out hs).mono ?_
  rintro e w2 ⟨rfl, h2⟩
  have HD := Asd.mk h2
  clear h2
  go_wp2
  go_ret
  exact ⟨rfl, HC.out.trans (HD.out.mono (by simp))⟩
/-- A new replacer over Escape's strings. -/
theorem own_olds {w : World} {base : Nat} {v : Value} (h : w.ownsRow base 9 1 v (0 + 8) ([] ++ olds.toList)) : ∃ g kk, v = .slice (some ⟨g, 0, none⟩) 8 kk ∧ base ≤ g ∧ OldAt w g := by
  rcases h.2 with ⟨_, h0⟩ | ⟨g, cap, cur, rfl, hb, hg, _, _, hsz, ht⟩
  · omega
  · refine ⟨g, cap, rfl, hb, cur, hg, fun j hj => ?_⟩
    have h1 : (cur.toList.take ((0 + 8) * 1))[j]? = ([] ++ olds.toList)[j]? := by rw [ht]
    rw [List.getElem?_take_of_lt (by omega)] at h1
    simpa using h1
set_option maxHeartbeats 1600000 in
theorem newr_calls (g0 : Nat) (w : World) (hg : w.heap[g0]? = some (.cells olds 9 (0, 0))) :
    Calls Tryz.prog 32 #[.slice (some ⟨g0, 0, none⟩) 8 8] w fun e w' => ∃ b g kk, e = .returned (.pointer (some ⟨b, 0, none⟩)) ∧ Chg [] w w' ∧ w.heap.size ≤ b ∧ b ≠ g ∧ RpAt w' b 0 0 .nilIface (.slice (some ⟨g, 0, none⟩) 8 kk) ∧ OldAt w' g := by
  have HG := Asd.mk hg
  clear hg
  go_enter Tryz.func32, Tryz.ntmps32
  go_wp2_with (at_builtin; obtain ⟨ie, h1, h2, h3, h4⟩ := info9'; refine wpList_append_own _ rfl _ _ 41 rfl w.heap.size 9 ie _ 1 16 Tryz.underlying41 h1 h2 h3 h4 rfl (by decide) _ _ _ rfl (World.ownsRow_nil w w.heap.size 9 1) ⟨g0, 0, none⟩ 8 8 olds.toList rfl rfl (fun j u hu => by rw [addr_add, cell_of_heap HG.out]; simpa using hu) (fun u hu => by simp [olds] at hu; rcases hu with rfl | rfl | rfl | rfl | rfl | rfl | rfl | rfl <;> rfl) (by decide) (by decide) (Nat.le_refl _) ?_; intro v' w3 hown' hgrow3 hnil3; clear h1 h2 h3 h4 hnil3; obtain ⟨g, kk, hv', hgb, hO⟩ := own_olds hown'; subst hv'; replace hO := Asd.mk hO; have hgl : g < w3.heap.size := lt_of_heap (hO.out.choose_spec.1); replace hown' := Asd.mk hown'; replace hgrow3 := Asd.mk hgrow3; simp only [Act.put, List.setIfInBounds_toArray, List.set_cons_zero, List.set_cons_succ])
  go_ret
  have hc : Chg [] w w3 := ⟨hgrow3.out.os, hgrow3.out.tape, hgrow3.out.output, hgrow3.out.size, fun i hi _ => hgrow3.out.block i hi (show some i ≠ none from fun e => by cases e)⟩
  exact ⟨w3.heap.size, g, kk, rfl, hc.alloc _, hc.size, by omega, hp_new _ _, hO.out.chg ((Chg.refl [] _).alloc _) (by simp)⟩
set_option maxHeartbeats 1600000 in
/-- Escape. -/
theorem escape_short (s : ByteArray) (w : World) (hs : s.size ≤ 1048576) : Calls Tryz.prog 18 #[.string s] w fun e w' => e = .returned (.string (escS s)) ∧ Chg [] w w' := by
  go_enter Tryz.func18, Tryz.ntmps18
  go_wp2_with fail
  refine (newr_calls w.heap.size _ (hp_new w (.cells olds 9))).mono ?_
  rintro e w1 ⟨b, g, kk, rfl, hc, hb, hne, hR, hO⟩
  have HC := Asd.mk (((Chg.refl [] w).alloc _).trans hc)
  have hbl : w.heap.size < b := by
    have : (w.alloc (.cells olds 9)).heap.size = w.heap.size + 1 := by simp
    omega
  have HR := Asd.mk hR
  have HO := Asd.mk hO
  clear hc hR hO hb
  go_wp2_with fail
  refine (replace_calls b g kk s w1 hs HR.out HO.out hne).mono ?_
  rintro e w2 ⟨rfl, h2⟩
  have HD := Asd.mk h2
  clear h2
  go_wp2
  go_ret
  exact ⟨rfl, HC.out.step HD.out (by simp; omega)⟩
end Go.Proofs.YtgkifphfibcfdaaGreatDoor.G
