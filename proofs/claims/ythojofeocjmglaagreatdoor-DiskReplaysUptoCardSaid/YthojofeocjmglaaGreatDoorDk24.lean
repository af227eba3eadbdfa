/- Merged out of these texts: DRepl, Logged. -/
import Derived.Test.YthojofeocjmglaaGreatDoorDk23
import Derived.Test.YthojofeocjmglaaGreatDoorDk20
import Derived.Test.YthojofeocjmglaaGreatDoorDk19
/- The disk's Replay, of texts that operations told: the walk. (Printed by drepl.py.) -/
namespace Go.Proofs.YthojofeocjmglaaGreatDoor.I
open Go.RowKit Go.Proofs.YthojofeocjmglaaGreatDoor.B Go.Sort Go.ChangeMaps
set_option linter.unusedVariables false
set_option linter.unusedSimpArgs false
theorem run_lookZ {P : Program} {w : World} {t kt et : TypeId} {b clock : Nat} {es : Array MapEntry} {K : List (Nm × Value)} {z : Value} (ht : P.underlying t = some (.map kt et)) (hk : P.underlying kt = some .string)
    (hz : (zeroValue et).run P w = .ok z w) (hb : w.heap[b]? = some (.map es clock)) (hK : MKids es clock K) (s : ByteArray) :
    (Instr.lookup t (.map (some b)) (.string s) false).run P w = .ok ((K.lookup s.data.toList).getD z) w := by
  have hf := MapKept.run_findKey (P := P) (w := w) hk (findNow_kids s es.toList K 0 hK.ents)
  have hl := findK_look s.data.toList K 0
  simp only [Instr.lookup, Sem.run_bind, Sem.run_pure, run_underlying ht, MapKept.run_getObj_map (P := P) hb, Result.andThen, MapKept.run_checkKey (P := P) hk (k := .string s) trivial, hf]
  cases hx : findK s.data.toList K 0 with
  | none =>
    rw [hx] at hl
    simp only [Option.map_none] at hl
    rw [← hl]
    simp only [Sem.run_bind, Sem.run_pure, hz, Result.andThen]
    rfl
  | some x =>
    obtain ⟨j, v⟩ := x
    rw [hx] at hl
    simp only [Option.map_some] at hl
    rw [← hl]
    rfl
/-- A map of three, made. -/
theorem map_three {t kt et : TypeId} (ht : Tryz.prog.underlying t = some (.map kt et)) (hk : Tryz.prog.underlying kt = some .string) (hm : ∀ W, (Instr.makeMap t none).run Tryz.prog W = .ok (.map (some W.heap.size)) (W.alloc (.map #[] 0))) (s1 s2 s3 : ByteArray) (v1 v2 v3 : Value) (h12 : s1.data.toList ≠ s2.data.toList) (h13 : s1.data.toList ≠ s3.data.toList) (h23 : s2.data.toList ≠ s3.data.toList) (W : World) :
    ∃ W0 W1 W2 W3 es, (Instr.makeMap t none).run Tryz.prog W = .ok (.map (some W.heap.size)) W0 ∧ (Instr.mapUpdate t (.map (some W.heap.size)) (.string s1) v1).run Tryz.prog W0 = .ok () W1 ∧ (Instr.mapUpdate t (.map (some W.heap.size)) (.string s2) v2).run Tryz.prog W1 = .ok () W2 ∧ (Instr.mapUpdate t (.map (some W.heap.size)) (.string s3) v3).run Tryz.prog W2 = .ok () W3 ∧
      W3.heap[W.heap.size]? = some (.map es 3) ∧ MKids es 3 [(s1.data.toList, v1), (s2.data.toList, v2), (s3.data.toList, v3)] ∧ Chg [] W W3 ∧ W.heap.size < W3.heap.size := by
  have hb0 : (W.alloc (.map #[] 0)).heap[W.heap.size]? = some (.map #[] 0) := hp_new _ _
  obtain ⟨u1, k1⟩ := run_upd (P := Tryz.prog) ht hk hb0 (kids_nil 0) s1 v1 rfl
  have hb1 : (setBlock (W.alloc (.map #[] 0)) W.heap.size (.map ((#[] : Array MapEntry).push ⟨.string s1, v1, 0⟩) (0 + 1))).heap[W.heap.size]? = some (.map ((#[] : Array MapEntry).push ⟨.string s1, v1, 0⟩) (0 + 1)) := hp_setBlock hb0
  obtain ⟨u2, k2⟩ := run_upd (P := Tryz.prog) ht hk hb1 k1 s2 v2 (by
    rw [List.nil_append, List.lookup_cons, show (s2.data.toList == s1.data.toList) = false by simpa using Ne.symm h12]; rfl)
  have hb2 : (setBlock (setBlock (W.alloc (.map #[] 0)) W.heap.size (.map ((#[] : Array MapEntry).push ⟨.string s1, v1, 0⟩) (0 + 1))) W.heap.size (.map (((#[] : Array MapEntry).push ⟨.string s1, v1, 0⟩).push ⟨.string s2, v2, 0 + 1⟩) (0 + 1 + 1))).heap[W.heap.size]? = some (.map (((#[] : Array MapEntry).push ⟨.string s1, v1, 0⟩).push ⟨.string s2, v2, 0 + 1⟩) (0 + 1 + 1)) := hp_setBlock hb1
  obtain ⟨u3, k3⟩ := run_upd (P := Tryz.prog) ht hk hb2 k2 s3 v3 (by
    rw [List.nil_append, List.singleton_append, List.lookup_cons, show (s3.data.toList == s1.data.toList) = false by simpa using Ne.symm h13]
    simp only
    rw [List.lookup_cons, show (s3.data.toList == s2.data.toList) = false by simpa using Ne.symm h23]; rfl)
  have hb3 : (setBlock (setBlock (setBlock (W.alloc (.map #[] 0)) W.heap.size (.map ((#[] : Array MapEntry).push ⟨.string s1, v1, 0⟩) (0 + 1))) W.heap.size (.map (((#[] : Array MapEntry).push ⟨.string s1, v1, 0⟩).push ⟨.string s2, v2, 0 + 1⟩) (0 + 1 + 1))) W.heap.size (.map ((((#[] : Array MapEntry).push ⟨.string s1, v1, 0⟩).push ⟨.string s2, v2, 0 + 1⟩).push ⟨.string s3, v3, 0 + 1 + 1⟩) (0 + 1 + 1 + 1))).heap[W.heap.size]? = some (.map ((((#[] : Array MapEntry).push ⟨.string s1, v1, 0⟩).push ⟨.string s2, v2, 0 + 1⟩).push ⟨.string s3, v3, 0 + 1 + 1⟩) (0 + 1 + 1 + 1)) := hp_setBlock hb2
  have hC : ∀ o1 o2 o3 : Obj, Chg [W.heap.size] W (setBlock (setBlock (setBlock (W.alloc (.map #[] 0)) W.heap.size o1) W.heap.size o2) W.heap.size o3) := fun o1 o2 o3 => ((((Chg.refl [W.heap.size] W).alloc (.map #[] 0)).setBlock (fun _ => List.mem_singleton_self _) _).setBlock (fun _ => List.mem_singleton_self _) _).setBlock (fun _ => List.mem_singleton_self _) _
  exact ⟨_, _, _, _, _, hm W, u1, u2, u3, hb3, by simpa using k3, Chg.fresh (hC _ _ _) (fun i hi => by rw [List.mem_singleton] at hi; rw [hi]; exact Nat.le_refl _), lt_of_heap hb3⟩
theorem addr0 (q : Addr) : q.add 0 = q := by
  cases q with | mk b o p => cases p <;> simp [Addr.add]
theorem neq_fn1 (f : Fn) (a c : Array Value) (W : World) : (binOp .neq 77 (.func f a c) .nilFunc).run Tryz.prog W = .ok (.bool true) W := by kernel_rfl
theorem neq_fn2 (f : Fn) (a c : Array Value) (W : World) : (binOp .neq 78 (.func f a c) .nilFunc).run Tryz.prog W = .ok (.bool true) W := by kernel_rfl
theorem make1 (W : World) : (Instr.makeMap 84 none).run Tryz.prog W = .ok (.map (some W.heap.size)) (W.alloc (.map #[] 0)) := by kernel_rfl
theorem make2 (W : World) : (Instr.makeMap 85 none).run Tryz.prog W = .ok (.map (some W.heap.size)) (W.alloc (.map #[] 0)) := by kernel_rfl
theorem zero1 (W : World) : (zeroValue 77).run Tryz.prog W = .ok .nilFunc W := by kernel_rfl
theorem zero2 (W : World) : (zeroValue 78).run Tryz.prog W = .ok .nilFunc W := by kernel_rfl
/-- What stands while a replay goes. -/
structure Rpl (w W wx : World) (K Q : List Nat) (d b n : Nat) (D E : DK) (Ki Qi : List Nat) (B1 B2 : Nat) (es1 es2 : Array MapEntry) (l : List OpV) : Prop where
  sys : DiskS w wx Ki Qi d b n E
  calm : E.off = false ∧ E.downs = 0 ∧ E.fails = 0
  now : E.now = runAll b n D.now l
  log : E.log = D.log ++ l
  steps : E.steps = D.steps + l.length
  chg : Chg K W wx
  kn : ∀ i ∈ Ki, i ∈ K ∨ W.heap.size ≤ i
  qn : ∀ i ∈ Qi, i ∈ Q ∨ W.heap.size ≤ i
  m1 : wx.heap[B1]? = some (.map es1 3) ∧ B1 ∉ Ki
  m2 : wx.heap[B2]? = some (.map es2 3) ∧ B2 ∉ Ki
theorem Rpl.chg0 {w W wx w' : World} {K Q : List Nat} {d b n : Nat} {D E : DK} {Ki Qi : List Nat} {B1 B2 : Nat} {es1 es2 : Array MapEntry} {l : List OpV} (h : Rpl w W wx K Q d b n D E Ki Qi B1 B2 es1 es2 l) (hC : Chg [] wx w') : Rpl w W w' K Q d b n D E Ki Qi B1 B2 es1 es2 l :=
  ⟨h.sys.chg0 hC, h.calm, h.now, h.log, h.steps, h.chg.trans (hC.mono (by simp)), h.kn, h.qn, ⟨hC.heap h.m1.1 (by simp), h.m1.2⟩, ⟨hC.heap h.m2.1 (by simp), h.m2.2⟩⟩
/-- One operation more. -/
theorem Rpl.next {w W wx w' : World} {K Q : List Nat} {d b n : Nat} {D E : DK} {Ki Qi : List Nat} {B1 B2 : Nat} {es1 es2 : Array MapEntry} {l : List OpV} {o : OpV} {e : Ending} (h : Rpl w W wx K Q d b n D E Ki Qi B1 B2 es1 es2 l) (ho : (opF (runAll b n D.now l) b n o).1 = 0) (hP : DPost w wx Ki Qi d b n (doD b n E o) e w') :
    e = .returned .nilIface ∧ ∃ E' K' Q', Rpl w W w' K Q d b n D E' K' Q' B1 B2 es1 es2 (l ++ [o]) := by
  have hd := do_ran o h.calm.1 h.calm.2.1 h.calm.2.2 (by rw [h.now]; exact ho)
  obtain ⟨he, K', Q', hS, hC, hK, hQ⟩ := hP
  rw [hd] at he hS
  have hW := h.chg.size
  refine ⟨he, _, K', Q', hS, h.calm, ?_, ?_, ?_, h.chg.step hC (fun i hi hl => ?_), fun i hi => ?_, fun i hi => ?_, ⟨hC.heap h.m1.1 h.m1.2, fun hi => ?_⟩, ⟨hC.heap h.m2.1 h.m2.2, fun hi => ?_⟩⟩
  · show (opF E.now b n o).2 = _
    rw [h.now, runAll_snoc]
  · show E.log ++ [o] = _
    rw [h.log, List.append_assoc]
  · show E.steps + 1 = _
    rw [h.steps, List.length_append]; simp; omega
  · rcases h.kn i hi with h1 | h1
    · exact h1
    · omega
  · rcases hK i hi with h1 | h1
    · exact h.kn i h1
    · exact .inr (Nat.le_trans hW h1)
  · rcases hQ i hi with h1 | h1
    · exact h.qn i h1
    · exact .inr (Nat.le_trans hW h1)
  · rcases hK _ hi with h1 | h1
    · exact h.m1.2 h1
    · have := lt_of_heap h.m1.1; omega
  · rcases hK _ hi with h1 | h1
    · exact h.m2.2 h1
    · have := lt_of_heap h.m2.1; omega
set_option maxRecDepth 100000 in
set_option maxHeartbeats 32000000 in
theorem replay_told (w W : World) (K Q : List Nat) (d b n : Nat) (D : DK) (A : Option Addr) (cp : Nat) (O : List OpV) (h : DiskS w W K Q d b n D) (hm : MaxLenAt w) (hoff : D.off = false) (hdn : D.downs = 0) (hfl : D.fails = 0) (hst : D.steps ≤ 1000) (hll : D.log.length ≤ 1000) (hol : O.length ≤ 1000)
    (hO : ∀ o ∈ O, (1 ≤ o.kind ∧ o.kind ≤ 6) ∧ o.a.size ≤ 268435456 ∧ o.b.size ≤ 268435456) (hr : RunsOk b n D.now O) (hL : ∀ X, Chg K W X → StrL X (.slice A O.length cp) (O.map toldO)) :
    Calls Tryz.prog 14 #[(.pointer (some ⟨d, 0, none⟩)), .slice A O.length cp] W fun e w' => e = .returned (.tuple #[.int .i64 (O.length : Int), .nilIface]) ∧ ∃ E K' Q', DiskS w w' K' Q' d b n E ∧ E.off = false ∧ E.now = runAll b n D.now O ∧ E.log = D.log ++ O ∧ Chg K W w' ∧ (∀ i ∈ K', i ∈ K ∨ W.heap.size ≤ i) ∧ (∀ i ∈ Q', i ∈ Q ∨ W.heap.size ≤ i) := by
  have HH := Asd.mk h
  have HMx := Asd.mk (maxlen_on hm h.1 h.2.1)
  have HM := Asd.mk hm
  have HO := Asd.mk hO
  have HRn := Asd.mk hr
  have HL := Asd.mk hL
  have HD := Asd.mk (show D.off = false ∧ D.downs = 0 ∧ D.fails = 0 from ⟨hoff, hdn, hfl⟩)
  obtain ⟨V0, V1, V2, V3, es1, a0, a1, a2, a3, hb1, hk1, hCv, hlv⟩ := map_three Tryz.underlying84 Tryz.underlying9 make1 ⟨#[109, 97, 107, 101]⟩ ⟨#[99, 114, 101, 97, 116, 101]⟩ ⟨#[114, 101, 109, 111, 118, 101]⟩ (Value.func (.func 37) #[(.pointer (some ⟨d, 0, none⟩))] #[]) (Value.func (.func 34) #[(.pointer (some ⟨d, 0, none⟩))] #[]) (Value.func (.func 40) #[(.pointer (some ⟨d, 0, none⟩))] #[]) (by decide) (by decide) (by decide) W
  obtain ⟨U0, U1, U2, U3, es2, g0, g1, g2, g3, hb2, hk2, hCu, hlu⟩ := map_three Tryz.underlying85 Tryz.underlying9 make2 ⟨#[97, 112, 112, 101, 110, 100]⟩ ⟨#[108, 105, 110, 107]⟩ ⟨#[114, 101, 110, 97, 109, 101]⟩ (Value.func (.func 35) #[(.pointer (some ⟨d, 0, none⟩))] #[]) (Value.func (.func 38) #[(.pointer (some ⟨d, 0, none⟩))] #[]) (Value.func (.func 39) #[(.pointer (some ⟨d, 0, none⟩))] #[]) (by decide) (by decide) (by decide) V3
  obtain ⟨B1, hB1⟩ : ∃ B1, W.heap.size = B1 := ⟨_, rfl⟩
  obtain ⟨B2, hB2⟩ : ∃ B2, V3.heap.size = B2 := ⟨_, rfl⟩
  rw [hB1] at a0 a1 a2 a3 hb1
  rw [hB2] at g0 g1 g2 g3 hb2
  have HK1 := Asd.mk hk1
  have HK2 := Asd.mk hk2
  have HRp := Asd.mk (show Rpl w W U3 K Q d b n D D K Q B1 B2 es1 es2 [] from ⟨h.chg0 (hCv.trans hCu), ⟨hoff, hdn, hfl⟩, rfl, by simp, rfl, ((hCv.trans hCu).mono (by simp)), fun i hi => .inl hi, fun i hi => .inl hi, ⟨hCu.heap hb1 (by simp), fun hi => by have := h.klt B1 (.inl hi); omega⟩, ⟨hb2, fun hi => by have := h.klt B2 (.inl hi); have := hCv.size; omega⟩⟩)
  obtain ⟨m, hmq⟩ : ∃ m, O.length = m := ⟨_, rfl⟩
  rw [hmq] at hol ⊢
  have HMq := Asd.mk hmq
  clear h hm hO hr hL hoff hdn hfl hb1 hk1 hCv hlv hb2 hk2 hCu hlu hB1 hB2 hmq
  (go_enter Tryz.func14, Tryz.ntmps14)
  go_wp2_with fail
  go_loopg [32] (m + 1) (fun gk v32 wx => ∃ (i : Nat) (E : DK) (Ki Qi : List Nat), i ≤ m ∧ gk = m + 1 - i ∧ v32 = .int .i64 (i : Int) ∧ Asd (Rpl w W wx K Q d b n D E Ki Qi B1 B2 es1 es2 (O.take i)))
  case atStart => exact ⟨0, D, K, Q, by omega, rfl, rfl, HRp⟩
  case round =>
    obtain ⟨i, E, Ki, Qi, hi, rfl, rfl, HX⟩ := hrel
    by_cases hlt : i < m
    · have k1 : (i : Int) < (m : Int) := by omega
      have hil : i < O.length := by rw [HMq.out]; exact hlt
      obtain ⟨o, ho⟩ : ∃ o, O[i] = o := ⟨_, rfl⟩
      obtain ⟨⟨hk0, hk6⟩, hza, hzb⟩ := HO.out o (by rw [← ho]; exact List.getElem_mem hil)
      obtain ⟨A', c', hv, hcells⟩ := HL.out wr HX.out.chg
      obtain ⟨a, ha, hcell⟩ := hcells i (by rw [List.length_map]; exact hil)
      have hAA : A = A' := by simp only [Value.slice.injEq] at hv; exact hv.1
      rw [← hAA] at ha
      subst ha
      have c1 : wr.cell? (a.add i) = some (.string (toldO o)) := by rw [hcell]; simp [ho]
      have hrun : (opF (runAll b n D.now (O.take i)) b n o).1 = 0 := HRn.out (O.take i) o (O.drop (i + 1)) (by
        rw [← ho, ← List.drop_eq_getElem_cons hil, List.take_append_drop])
      have HTk := Asd.mk (show O.take (i + 1) = O.take i ++ [o] by rw [List.take_succ_eq_append_getElem hil, ho])
      have HRu := Asd.mk hrun
      have hsE : E.steps ≤ 1000000 := by rw [HX.out.steps, List.length_take]; omega
      have hlE : E.log.length ≤ 1000000 := by rw [HX.out.log, List.length_append, List.length_take]; omega
      have HMr := Asd.mk (HMx.out wr HX.out.chg)
      have HSE := Asd.mk (And.intro hsE hlE)
      obtain ⟨k, oa, ob⟩ := o
      simp only at hk0 hk6 hza hzb
      have HZ := Asd.mk (And.intro hza hzb)
      clear hv hcells hcell hAA ho hrun hza hzb hsE hlE
      have e : k = 1 ∨ k = 2 ∨ k = 3 ∨ k = 4 ∨ k = 5 ∨ k = 6 := by omega
      clear hk0 hk6
      rcases e with rfl | rfl | rfl | rfl | rfl | rfl
      · have HRd := Asd.mk (read_told [109, 97, 107, 101] [oa.data.toList] wr (by decide) (by simp) (by simp) (fun x hx => by rw [List.mem_singleton] at hx; rw [hx, list_size]; exact HZ.out.1) (by decide) HMr.out)
        rw [show nb (toldL [109, 97, 107, 101] [oa.data.toList]) = toldO ⟨1, oa, ob⟩ from rfl] at HRd
        obtain ⟨told, htd⟩ : ∃ x, toldO ⟨1, oa, ob⟩ = x := ⟨_, rfl⟩
        rw [htd] at HRd c1
        clear htd
        go_wp2_with fail
        refine HRd.out.mono ?_
        rintro e w4 ⟨⟨v, rfl, hv⟩, hC4⟩
        have HX4 := Asd.mk (HX.out.chg0 hC4)
        rw [show ([oa.data.toList].map nb) = [oa] by simp [nb_list]] at hv
        obtain ⟨Av, cv, hav, hcv⟩ := strL_of_own hv
        subst hav
        obtain ⟨q, rfl, hq0⟩ := hcv 0 (by simp)
        have d0 : w4.cell? q = some (.string oa) := by
          have := hq0
          rw [addr0] at this
          exact this
        have l1 := run_lookZ (P := Tryz.prog) Tryz.underlying84 Tryz.underlying9 (zero1 w4) HX4.out.m1.1 HK1.out (nb [109, 97, 107, 101])
        rw [show ((List.lookup (nb [109, 97, 107, 101]).data.toList [([109, 97, 107, 101], (Value.func (.func 37) #[(.pointer (some ⟨d, 0, none⟩))] #[])), ([99, 114, 101, 97, 116, 101], (Value.func (.func 34) #[(.pointer (some ⟨d, 0, none⟩))] #[])), ([114, 101, 109, 111, 118, 101], (Value.func (.func 40) #[(.pointer (some ⟨d, 0, none⟩))] #[]))]).getD .nilFunc) = (Value.func (.func 37) #[(.pointer (some ⟨d, 0, none⟩))] #[]) from rfl] at l1
        have l1d : (Instr.lookup 84 (.map (some B1)) (.string (nb [109, 97, 107, 101])) false).run Tryz.prog w4.drew = .ok (Value.func (.func 37) #[(.pointer (some ⟨d, 0, none⟩))] #[]) w4.drew := run_lookZ (P := Tryz.prog) Tryz.underlying84 Tryz.underlying9 (zero1 w4.drew) (hp_drew HX4.out.m1.1) HK1.out (nb [109, 97, 107, 101])
        have nf1 := neq_fn1 (.func 37) #[(.pointer (some ⟨d, 0, none⟩))] #[] w4
        have hDo := dmake_calls w w4.drew Ki Qi d b n E oa ob (HX4.out.sys.chg0 (Chg.refl [] w4).drew) HM.out (Nat.le_trans HZ.out.1 (by decide)) (Nat.le_trans HZ.out.2 (by decide)) HSE.out.1 HSE.out.2
        have HDo := Asd.mk (hDo.mono fun e w' hP => (HX4.out.chg0 (Chg.refl [] w4).drew).next (o := ⟨1, oa, ob⟩) HRu.out hP)
        clear hv hcv hq0 hC4 hDo HRd HX c1 HZ HRu
        go_upto_region 9 with fail
        go_region_with (refine HDo.out.mono ?_
                        rintro e w5 ⟨rfl, E', K', Q', hX5⟩
                        rw [← HTk.out] at hX5
                        have HX5 := Asd.mk hX5
                        clear hX5 HDo)
        all_goals
          clear d0 l1 l1d nf1 HX4
          go_wp2_with fail
          go_roundg (m + 1 - (i + 1))
          case rel => exact ⟨i + 1, E', K', Q', by omega, by omega, by go_num, HX5⟩
          case measure => omega
      · have HRd := Asd.mk (read_told [99, 114, 101, 97, 116, 101] [oa.data.toList] wr (by decide) (by simp) (by simp) (fun x hx => by rw [List.mem_singleton] at hx; rw [hx, list_size]; exact HZ.out.1) (by decide) HMr.out)
        rw [show nb (toldL [99, 114, 101, 97, 116, 101] [oa.data.toList]) = toldO ⟨2, oa, ob⟩ from rfl] at HRd
        obtain ⟨told, htd⟩ : ∃ x, toldO ⟨2, oa, ob⟩ = x := ⟨_, rfl⟩
        rw [htd] at HRd c1
        clear htd
        go_wp2_with fail
        refine HRd.out.mono ?_
        rintro e w4 ⟨⟨v, rfl, hv⟩, hC4⟩
        have HX4 := Asd.mk (HX.out.chg0 hC4)
        rw [show ([oa.data.toList].map nb) = [oa] by simp [nb_list]] at hv
        obtain ⟨Av, cv, hav, hcv⟩ := strL_of_own hv
        subst hav
        obtain ⟨q, rfl, hq0⟩ := hcv 0 (by simp)
        have d0 : w4.cell? q = some (.string oa) := by
          have := hq0
          rw [addr0] at this
          exact this
        have l1 := run_lookZ (P := Tryz.prog) Tryz.underlying84 Tryz.underlying9 (zero1 w4) HX4.out.m1.1 HK1.out (nb [99, 114, 101, 97, 116, 101])
        rw [show ((List.lookup (nb [99, 114, 101, 97, 116, 101]).data.toList [([109, 97, 107, 101], (Value.func (.func 37) #[(.pointer (some ⟨d, 0, none⟩))] #[])), ([99, 114, 101, 97, 116, 101], (Value.func (.func 34) #[(.pointer (some ⟨d, 0, none⟩))] #[])), ([114, 101, 109, 111, 118, 101], (Value.func (.func 40) #[(.pointer (some ⟨d, 0, none⟩))] #[]))]).getD .nilFunc) = (Value.func (.func 34) #[(.pointer (some ⟨d, 0, none⟩))] #[]) from rfl] at l1
        have l1d : (Instr.lookup 84 (.map (some B1)) (.string (nb [99, 114, 101, 97, 116, 101])) false).run Tryz.prog w4.drew = .ok (Value.func (.func 34) #[(.pointer (some ⟨d, 0, none⟩))] #[]) w4.drew := run_lookZ (P := Tryz.prog) Tryz.underlying84 Tryz.underlying9 (zero1 w4.drew) (hp_drew HX4.out.m1.1) HK1.out (nb [99, 114, 101, 97, 116, 101])
        have nf1 := neq_fn1 (.func 34) #[(.pointer (some ⟨d, 0, none⟩))] #[] w4
        have hDo := dcreate_calls w w4.drew Ki Qi d b n E oa ob (HX4.out.sys.chg0 (Chg.refl [] w4).drew) HM.out (Nat.le_trans HZ.out.1 (by decide)) (Nat.le_trans HZ.out.2 (by decide)) HSE.out.1 HSE.out.2
        have HDo := Asd.mk (hDo.mono fun e w' hP => (HX4.out.chg0 (Chg.refl [] w4).drew).next (o := ⟨2, oa, ob⟩) HRu.out hP)
        clear hv hcv hq0 hC4 hDo HRd HX c1 HZ HRu
        go_upto_region 9 with fail
        go_region_with (refine HDo.out.mono ?_
                        rintro e w5 ⟨rfl, E', K', Q', hX5⟩
                        rw [← HTk.out] at hX5
                        have HX5 := Asd.mk hX5
                        clear hX5 HDo)
        all_goals
          clear d0 l1 l1d nf1 HX4
          go_wp2_with fail
          go_roundg (m + 1 - (i + 1))
          case rel => exact ⟨i + 1, E', K', Q', by omega, by omega, by go_num, HX5⟩
          case measure => omega
      · have HRd := Asd.mk (read_told [97, 112, 112, 101, 110, 100] [oa.data.toList, ob.data.toList] wr (by decide) (by simp) (by simp) (fun x hx => by
          simp only [List.mem_cons, List.not_mem_nil, or_false] at hx
          rcases hx with rfl | rfl
          · rw [list_size]; exact HZ.out.1
          · rw [list_size]; exact HZ.out.2) (by decide) HMr.out)
        rw [show nb (toldL [97, 112, 112, 101, 110, 100] [oa.data.toList, ob.data.toList]) = toldO ⟨3, oa, ob⟩ from rfl] at HRd
        obtain ⟨told, htd⟩ : ∃ x, toldO ⟨3, oa, ob⟩ = x := ⟨_, rfl⟩
        rw [htd] at HRd c1
        clear htd
        go_wp2_with fail
        refine HRd.out.mono ?_
        rintro e w4 ⟨⟨v, rfl, hv⟩, hC4⟩
        have HX4 := Asd.mk (HX.out.chg0 hC4)
        rw [show ([oa.data.toList, ob.data.toList].map nb) = [oa, ob] by simp [nb_list]] at hv
        obtain ⟨g, cv, rfl, hcv⟩ : ∃ g cv, v = .slice (some ⟨g, 0, none⟩) 2 cv ∧ ∀ j x, ([oa, ob].map Value.string)[j]? = some x → w4.cell? ⟨g, j, none⟩ = some x := by
          rcases row_form hv with ⟨_, h⟩ | ⟨g, cv, h, _, _, hc⟩
          · cases h
          · exact ⟨g, cv, h, hc⟩
        have d0 := hcv 0 _ rfl
        have d1 := hcv 1 _ rfl
        have l1 := run_lookZ (P := Tryz.prog) Tryz.underlying85 Tryz.underlying9 (zero2 w4) HX4.out.m2.1 HK2.out (nb [97, 112, 112, 101, 110, 100])
        rw [show ((List.lookup (nb [97, 112, 112, 101, 110, 100]).data.toList [([97, 112, 112, 101, 110, 100], (Value.func (.func 35) #[(.pointer (some ⟨d, 0, none⟩))] #[])), ([108, 105, 110, 107], (Value.func (.func 38) #[(.pointer (some ⟨d, 0, none⟩))] #[])), ([114, 101, 110, 97, 109, 101], (Value.func (.func 39) #[(.pointer (some ⟨d, 0, none⟩))] #[]))]).getD .nilFunc) = (Value.func (.func 35) #[(.pointer (some ⟨d, 0, none⟩))] #[]) from rfl] at l1
        have l1d : (Instr.lookup 85 (.map (some B2)) (.string (nb [97, 112, 112, 101, 110, 100])) false).run Tryz.prog w4.drew = .ok (Value.func (.func 35) #[(.pointer (some ⟨d, 0, none⟩))] #[]) w4.drew := run_lookZ (P := Tryz.prog) Tryz.underlying85 Tryz.underlying9 (zero2 w4.drew) (hp_drew HX4.out.m2.1) HK2.out (nb [97, 112, 112, 101, 110, 100])
        have nf1 := neq_fn2 (.func 35) #[(.pointer (some ⟨d, 0, none⟩))] #[] w4
        have hDo := dappend_calls w w4.drew Ki Qi d b n E oa ob (HX4.out.sys.chg0 (Chg.refl [] w4).drew) HM.out (Nat.le_trans HZ.out.1 (by decide)) (Nat.le_trans HZ.out.2 (by decide)) HSE.out.1 HSE.out.2
        have HDo := Asd.mk (hDo.mono fun e w' hP => (HX4.out.chg0 (Chg.refl [] w4).drew).next (o := ⟨3, oa, ob⟩) HRu.out hP)
        clear hv hcv hC4 hDo HRd HX c1 HZ HRu
        go_upto_region 11 with fail
        go_region_with (refine HDo.out.mono ?_
                        rintro e w5 ⟨rfl, E', K', Q', hX5⟩
                        rw [← HTk.out] at hX5
                        have HX5 := Asd.mk hX5
                        clear hX5 HDo)
        all_goals
          clear d0 d1 l1 l1d nf1 HX4
          go_wp2_with fail
          go_roundg (m + 1 - (i + 1))
          case rel => exact ⟨i + 1, E', K', Q', by omega, by omega, by go_num, HX5⟩
          case measure => omega
      · have HRd := Asd.mk (read_told [108, 105, 110, 107] [oa.data.toList, ob.data.toList] wr (by decide) (by simp) (by simp) (fun x hx => by
          simp only [List.mem_cons, List.not_mem_nil, or_false] at hx
          rcases hx with rfl | rfl
          · rw [list_size]; exact HZ.out.1
          · rw [list_size]; exact HZ.out.2) (by decide) HMr.out)
        rw [show nb (toldL [108, 105, 110, 107] [oa.data.toList, ob.data.toList]) = toldO ⟨4, oa, ob⟩ from rfl] at HRd
        obtain ⟨told, htd⟩ : ∃ x, toldO ⟨4, oa, ob⟩ = x := ⟨_, rfl⟩
        rw [htd] at HRd c1
        clear htd
        go_wp2_with fail
        refine HRd.out.mono ?_
        rintro e w4 ⟨⟨v, rfl, hv⟩, hC4⟩
        have HX4 := Asd.mk (HX.out.chg0 hC4)
        rw [show ([oa.data.toList, ob.data.toList].map nb) = [oa, ob] by simp [nb_list]] at hv
        obtain ⟨g, cv, rfl, hcv⟩ : ∃ g cv, v = .slice (some ⟨g, 0, none⟩) 2 cv ∧ ∀ j x, ([oa, ob].map Value.string)[j]? = some x → w4.cell? ⟨g, j, none⟩ = some x := by
          rcases row_form hv with ⟨_, h⟩ | ⟨g, cv, h, _, _, hc⟩
          · cases h
          · exact ⟨g, cv, h, hc⟩
        have d0 := hcv 0 _ rfl
        have d1 := hcv 1 _ rfl
        have l1 := run_lookZ (P := Tryz.prog) Tryz.underlying85 Tryz.underlying9 (zero2 w4) HX4.out.m2.1 HK2.out (nb [108, 105, 110, 107])
        rw [show ((List.lookup (nb [108, 105, 110, 107]).data.toList [([97, 112, 112, 101, 110, 100], (Value.func (.func 35) #[(.pointer (some ⟨d, 0, none⟩))] #[])), ([108, 105, 110, 107], (Value.func (.func 38) #[(.pointer (some ⟨d, 0, none⟩))] #[])), ([114, 101, 110, 97, 109, 101], (Value.func (.func 39) #[(.pointer (some ⟨d, 0, none⟩))] #[]))]).getD .nilFunc) = (Value.func (.func 38) #[(.pointer (some ⟨d, 0, none⟩))] #[]) from rfl] at l1
        have l1d : (Instr.lookup 85 (.map (some B2)) (.string (nb [108, 105, 110, 107])) false).run Tryz.prog w4.drew = .ok (Value.func (.func 38) #[(.pointer (some ⟨d, 0, none⟩))] #[]) w4.drew := run_lookZ (P := Tryz.prog) Tryz.underlying85 Tryz.underlying9 (zero2 w4.drew) (hp_drew HX4.out.m2.1) HK2.out (nb [108, 105, 110, 107])
        have nf1 := neq_fn2 (.func 38) #[(.pointer (some ⟨d, 0, none⟩))] #[] w4
        have hDo := dlink_calls w w4.drew Ki Qi d b n E oa ob (HX4.out.sys.chg0 (Chg.refl [] w4).drew) HM.out (Nat.le_trans HZ.out.1 (by decide)) (Nat.le_trans HZ.out.2 (by decide)) HSE.out.1 HSE.out.2
        have HDo := Asd.mk (hDo.mono fun e w' hP => (HX4.out.chg0 (Chg.refl [] w4).drew).next (o := ⟨4, oa, ob⟩) HRu.out hP)
        clear hv hcv hC4 hDo HRd HX c1 HZ HRu
        go_upto_region 11 with fail
        go_region_with (refine HDo.out.mono ?_
                        rintro e w5 ⟨rfl, E', K', Q', hX5⟩
                        rw [← HTk.out] at hX5
                        have HX5 := Asd.mk hX5
                        clear hX5 HDo)
        all_goals
          clear d0 d1 l1 l1d nf1 HX4
          go_wp2_with fail
          go_roundg (m + 1 - (i + 1))
          case rel => exact ⟨i + 1, E', K', Q', by omega, by omega, by go_num, HX5⟩
          case measure => omega
      · have HRd := Asd.mk (read_told [114, 101, 110, 97, 109, 101] [oa.data.toList, ob.data.toList] wr (by decide) (by simp) (by simp) (fun x hx => by
          simp only [List.mem_cons, List.not_mem_nil, or_false] at hx
          rcases hx with rfl | rfl
          · rw [list_size]; exact HZ.out.1
          · rw [list_size]; exact HZ.out.2) (by decide) HMr.out)
        rw [show nb (toldL [114, 101, 110, 97, 109, 101] [oa.data.toList, ob.data.toList]) = toldO ⟨5, oa, ob⟩ from rfl] at HRd
        obtain ⟨told, htd⟩ : ∃ x, toldO ⟨5, oa, ob⟩ = x := ⟨_, rfl⟩
        rw [htd] at HRd c1
        clear htd
        go_wp2_with fail
        refine HRd.out.mono ?_
        rintro e w4 ⟨⟨v, rfl, hv⟩, hC4⟩
        have HX4 := Asd.mk (HX.out.chg0 hC4)
        rw [show ([oa.data.toList, ob.data.toList].map nb) = [oa, ob] by simp [nb_list]] at hv
        obtain ⟨g, cv, rfl, hcv⟩ : ∃ g cv, v = .slice (some ⟨g, 0, none⟩) 2 cv ∧ ∀ j x, ([oa, ob].map Value.string)[j]? = some x → w4.cell? ⟨g, j, none⟩ = some x := by
          rcases row_form hv with ⟨_, h⟩ | ⟨g, cv, h, _, _, hc⟩
          · cases h
          · exact ⟨g, cv, h, hc⟩
        have d0 := hcv 0 _ rfl
        have d1 := hcv 1 _ rfl
        have l1 := run_lookZ (P := Tryz.prog) Tryz.underlying85 Tryz.underlying9 (zero2 w4) HX4.out.m2.1 HK2.out (nb [114, 101, 110, 97, 109, 101])
        rw [show ((List.lookup (nb [114, 101, 110, 97, 109, 101]).data.toList [([97, 112, 112, 101, 110, 100], (Value.func (.func 35) #[(.pointer (some ⟨d, 0, none⟩))] #[])), ([108, 105, 110, 107], (Value.func (.func 38) #[(.pointer (some ⟨d, 0, none⟩))] #[])), ([114, 101, 110, 97, 109, 101], (Value.func (.func 39) #[(.pointer (some ⟨d, 0, none⟩))] #[]))]).getD .nilFunc) = (Value.func (.func 39) #[(.pointer (some ⟨d, 0, none⟩))] #[]) from rfl] at l1
        have l1d : (Instr.lookup 85 (.map (some B2)) (.string (nb [114, 101, 110, 97, 109, 101])) false).run Tryz.prog w4.drew = .ok (Value.func (.func 39) #[(.pointer (some ⟨d, 0, none⟩))] #[]) w4.drew := run_lookZ (P := Tryz.prog) Tryz.underlying85 Tryz.underlying9 (zero2 w4.drew) (hp_drew HX4.out.m2.1) HK2.out (nb [114, 101, 110, 97, 109, 101])
        have nf1 := neq_fn2 (.func 39) #[(.pointer (some ⟨d, 0, none⟩))] #[] w4
        have hDo := drename_calls w w4.drew Ki Qi d b n E oa ob (HX4.out.sys.chg0 (Chg.refl [] w4).drew) HM.out (Nat.le_trans HZ.out.1 (by decide)) (Nat.le_trans HZ.out.2 (by decide)) HSE.out.1 HSE.out.2
        have HDo := Asd.mk (hDo.mono fun e w' hP => (HX4.out.chg0 (Chg.refl [] w4).drew).next (o := ⟨5, oa, ob⟩) HRu.out hP)
        clear hv hcv hC4 hDo HRd HX c1 HZ HRu
        go_upto_region 11 with fail
        go_region_with (refine HDo.out.mono ?_
                        rintro e w5 ⟨rfl, E', K', Q', hX5⟩
                        rw [← HTk.out] at hX5
                        have HX5 := Asd.mk hX5
                        clear hX5 HDo)
        all_goals
          clear d0 d1 l1 l1d nf1 HX4
          go_wp2_with fail
          go_roundg (m + 1 - (i + 1))
          case rel => exact ⟨i + 1, E', K', Q', by omega, by omega, by go_num, HX5⟩
          case measure => omega
      · have HRd := Asd.mk (read_told [114, 101, 109, 111, 118, 101] [oa.data.toList] wr (by decide) (by simp) (by simp) (fun x hx => by rw [List.mem_singleton] at hx; rw [hx, list_size]; exact HZ.out.1) (by decide) HMr.out)
        rw [show nb (toldL [114, 101, 109, 111, 118, 101] [oa.data.toList]) = toldO ⟨6, oa, ob⟩ from rfl] at HRd
        obtain ⟨told, htd⟩ : ∃ x, toldO ⟨6, oa, ob⟩ = x := ⟨_, rfl⟩
        rw [htd] at HRd c1
        clear htd
        go_wp2_with fail
        refine HRd.out.mono ?_
        rintro e w4 ⟨⟨v, rfl, hv⟩, hC4⟩
        have HX4 := Asd.mk (HX.out.chg0 hC4)
        rw [show ([oa.data.toList].map nb) = [oa] by simp [nb_list]] at hv
        obtain ⟨Av, cv, hav, hcv⟩ := strL_of_own hv
        subst hav
        obtain ⟨q, rfl, hq0⟩ := hcv 0 (by simp)
        have d0 : w4.cell? q = some (.string oa) := by
          have := hq0
          rw [addr0] at this
          exact this
        have l1 := run_lookZ (P := Tryz.prog) Tryz.underlying84 Tryz.underlying9 (zero1 w4) HX4.out.m1.1 HK1.out (nb [114, 101, 109, 111, 118, 101])
        rw [show ((List.lookup (nb [114, 101, 109, 111, 118, 101]).data.toList [([109, 97, 107, 101], (Value.func (.func 37) #[(.pointer (some ⟨d, 0, none⟩))] #[])), ([99, 114, 101, 97, 116, 101], (Value.func (.func 34) #[(.pointer (some ⟨d, 0, none⟩))] #[])), ([114, 101, 109, 111, 118, 101], (Value.func (.func 40) #[(.pointer (some ⟨d, 0, none⟩))] #[]))]).getD .nilFunc) = (Value.func (.func 40) #[(.pointer (some ⟨d, 0, none⟩))] #[]) from rfl] at l1
        have l1d : (Instr.lookup 84 (.map (some B1)) (.string (nb [114, 101, 109, 111, 118, 101])) false).run Tryz.prog w4.drew = .ok (Value.func (.func 40) #[(.pointer (some ⟨d, 0, none⟩))] #[]) w4.drew := run_lookZ (P := Tryz.prog) Tryz.underlying84 Tryz.underlying9 (zero1 w4.drew) (hp_drew HX4.out.m1.1) HK1.out (nb [114, 101, 109, 111, 118, 101])
        have nf1 := neq_fn1 (.func 40) #[(.pointer (some ⟨d, 0, none⟩))] #[] w4
        have hDo := dremove_calls w w4.drew Ki Qi d b n E oa ob (HX4.out.sys.chg0 (Chg.refl [] w4).drew) HM.out (Nat.le_trans HZ.out.1 (by decide)) (Nat.le_trans HZ.out.2 (by decide)) HSE.out.1 HSE.out.2
        have HDo := Asd.mk (hDo.mono fun e w' hP => (HX4.out.chg0 (Chg.refl [] w4).drew).next (o := ⟨6, oa, ob⟩) HRu.out hP)
        clear hv hcv hq0 hC4 hDo HRd HX c1 HZ HRu
        go_upto_region 9 with fail
        go_region_with (refine HDo.out.mono ?_
                        rintro e w5 ⟨rfl, E', K', Q', hX5⟩
                        rw [← HTk.out] at hX5
                        have HX5 := Asd.mk hX5
                        clear hX5 HDo)
        all_goals
          clear d0 l1 l1d nf1 HX4
          go_wp2_with fail
          go_roundg (m + 1 - (i + 1))
          case rel => exact ⟨i + 1, E', K', Q', by omega, by omega, by go_num, HX5⟩
          case measure => omega
    · obtain rfl : i = m := by omega
      have HA := Asd.mk (show O.take i = O by rw [List.take_of_length_le (by rw [HMq.out]; exact Nat.le_refl _)])
      go_wp2_with fail
      go_ret2
      exact ⟨rfl, E, Ki, Qi, HX.out.sys, HX.out.calm.1, by rw [HX.out.now, HA.out], by rw [HX.out.log, HA.out], HX.out.chg, HX.out.kn, HX.out.qn⟩
end Go.Proofs.YthojofeocjmglaaGreatDoor.I
/- The laws' logged: plain, and the walk. -/
namespace Go.Proofs.YthojofeocjmglaaGreatDoor.I
open Go.RowKit Go.Proofs.YthojofeocjmglaaGreatDoor.B Go.Sort
set_option linter.unusedVariables false
set_option linter.unusedSimpArgs false
def L1f : FS := [([[97, 32, 98]], ⟨1, ⟨#[]⟩⟩)]
def L2f : FS := [([[97, 32, 98]], ⟨1, ⟨#[120, 10]⟩⟩)]
def lv1 : OpV := ⟨2, ⟨#[97, 32, 98]⟩, ⟨#[]⟩⟩
def lv2 : OpV := ⟨3, ⟨#[97, 32, 98]⟩, ⟨#[120, 10]⟩⟩
def DL1 : DK := ⟨L1f, [], [lv1], 1, 0, 0, 0, false⟩
def DL2 : DK := ⟨L2f, [], [lv1, lv2], 2, 0, 0, 0, false⟩
theorem lts : partsF ⟨#[97, 32, 98]⟩ = .ok ([] ++ [[97, 32, 98]]) := by kernel_rfl
theorem lg1 : createF [] 100 10 ⟨#[97, 32, 98]⟩ = (0, L1f) := createF_new fsOk_nil (y := rootN) rfl rfl rfl lts (by decide) (by unfold usedF; simp)
theorem lk1 : FsOk L1f ∧ Room L1f 100 10 := by have := createF_keep fsOk_nil uroom0 ⟨#[97, 32, 98]⟩; rw [lg1] at this; exact this
theorem lg2 : appendF L1f 100 ⟨#[97, 32, 98]⟩ ⟨#[120, 10]⟩ = (0, L2f) := by
  rw [appendF_file lk1.1 (x := ⟨1, ⟨#[]⟩⟩) (p := [[97, 32, 98]]) rfl rfl lts (by decide), if_neg (by decide)]
  kernel_rfl
theorem lk2 : FsOk L2f ∧ Room L2f 100 10 := by have := appendF_keep lk1.1 lk1.2 ⟨#[97, 32, 98]⟩ ⟨#[120, 10]⟩; rw [lg2] at this; exact this
theorem lg3 : readF L2f ⟨#[97, 32, 98]⟩ = (0, ⟨#[120, 10]⟩) := readF_file lk2.1 (x := ⟨1, ⟨#[120, 10]⟩⟩) (p := [[97, 32, 98]]) rfl rfl lts
theorem lo1 : opF [] 100 10 lv1 = (0, L1f) := by unfold opF; rw [if_neg (by show ¬ (2 : Int) = 1; decide), if_pos (by rfl)]; exact lg1
theorem lo2 : opF L1f 100 10 lv2 = (0, L2f) := by unfold opF; rw [if_neg (by show ¬ (3 : Int) = 1; decide), if_neg (by show ¬ (3 : Int) = 2; decide), if_pos (by rfl)]; exact lg2
theorem ll1 : doD 100 10 newD lv1 = (0, DL1) := by
  rw [do_free _ rfl rfl (by decide), show newD.now = [] from rfl, lo1]
  rfl
theorem ll2 : doD 100 10 DL1 lv2 = (0, DL2) := by
  rw [do_free _ rfl rfl (by decide), show DL1.now = L1f from rfl, lo2]
  rfl
theorem lr1 : runAll 100 10 [] [lv1] = L1f := by show (opF [] 100 10 lv1).2 = _; rw [lo1]
theorem lr2 : runAll 100 10 [] [lv1, lv2] = L2f := by
  show (opF (opF [] 100 10 lv1).2 100 10 lv2).2 = _
  rw [lo1]
  show (opF L1f 100 10 lv2).2 = _
  rw [lo2]
theorem lruns : RunsOk 100 10 [] [lv1, lv2] := by
  have h1 : RunsOk 100 10 [] ([] ++ [lv1]) := runs_snoc (runs_nil _ _ _) (by show (opF [] 100 10 lv1).1 = 0; rw [lo1])
  exact runs_snoc (l := [lv1]) h1 (by rw [lr1, lo2])
theorem ltold : [lv1, lv2].map toldO = [(⟨#[99, 114, 101, 97, 116, 101, 32, 34, 97, 32, 98, 34]⟩ : ByteArray), (⟨#[97, 112, 112, 101, 110, 100, 32, 34, 97, 32, 98, 34, 32, 34, 120, 92, 110, 34]⟩ : ByteArray)] := by
  have h1 : toldO lv1 = (⟨#[99, 114, 101, 97, 116, 101, 32, 34, 97, 32, 98, 34]⟩ : ByteArray) := by kernel_rfl
  have h2 : toldO lv2 = (⟨#[97, 112, 112, 101, 110, 100, 32, 34, 97, 32, 98, 34, 32, 34, 120, 92, 110, 34]⟩ : ByteArray) := by kernel_rfl
  rw [List.map_cons, List.map_cons, List.map_nil, h1, h2]
set_option maxRecDepth 100000 in
set_option maxHeartbeats 16000000 in
theorem logged_calls (w : World) (hm : MaxLenAt w) : Calls Tryz.prog 10 #[] w fun e w' => e = .returned (.bool true) ∧ Chg [] w w' := by
  have HM := Asd.mk hm
  have H0 := Asd.mk (dnew_ok 100 10 w w (Chg.refl _ _) (by omega) (by omega))
  clear hm
  (go_enter Tryz.func10, Tryz.ntmps10)
  go_wp2_with fail
  refine H0.out.mono ?_
  rintro e w1 ⟨d, K, rfl, hS, _, _⟩
  have h1 := dcreate_calls w w1 K [] d 100 10 newD ⟨#[97, 32, 98]⟩ ⟨#[]⟩ hS HM.out (by decide) (by decide) (by decide) (by decide)
  rw [show doD 100 10 newD ⟨2, ⟨#[97, 32, 98]⟩, ⟨#[]⟩⟩ = (0, DL1) from ll1] at h1
  have H1 := Asd.mk h1
  clear hS H0 h1
  go_wp2_with fail
  refine H1.out.mono ?_
  rintro e w2 ⟨rfl, K2, Q2, hS, _, _, _⟩
  have h2 := dappend_calls w w2 K2 Q2 d 100 10 DL1 ⟨#[97, 32, 98]⟩ ⟨#[120, 10]⟩ hS HM.out (by decide) (by decide) (by decide) (by decide)
  rw [show doD 100 10 DL1 ⟨3, ⟨#[97, 32, 98]⟩, ⟨#[120, 10]⟩⟩ = (0, DL2) from ll2] at h2
  have H2 := Asd.mk h2
  clear hS H1 h2
  simp only [errV, if_true]
  go_wp2_with fail
  refine H2.out.mono ?_
  rintro e w3 ⟨rfl, K3, Q3, hS, _, _, _⟩
  have h3 := dlog_on w w3 K3 Q3 d 100 10 DL2 hS rfl (by decide)
  have HS3 := Asd.mk hS
  have H3 := Asd.mk h3
  clear hS H2 h3
  simp only [errV, if_true]
  go_wp2_with fail
  refine H3.out.mono ?_
  rintro e w4 ⟨⟨v, rfl, hv⟩, hC⟩
  have HS4 := Asd.mk (HS3.out.1.trans hC)
  rw [show DL2.log.map toldO = [lv1, lv2].map toldO from rfl] at hv
  obtain ⟨A, cp, rfl, _⟩ := own_form hv
  have HV := Asd.mk hv
  have HLe := Asd.mk HS3.out.1.size
  have H4 := Asd.mk (dnew_ok 100 10 w w4 (HS3.out.1.trans hC) (by omega) (by omega))
  clear hv hC H3 HS3
  go_wp2_with fail
  refine H4.out.mono ?_
  rintro e w5 ⟨k, K5, rfl, hS, hC, hK5⟩
  have HV5 := Asd.mk (own_off HV.out hC (fun _ _ => by simp))
  have hLk : ∀ X, Chg K5 w5 X → StrL X (.slice A [lv1, lv2].length cp) ([lv1, lv2].map toldO) := fun X hX => strL_of_own (own_off HV5.out hX (fun g hg hi => by
    have h1 := hK5 g hi
    obtain ⟨_, cur, hc⟩ := own_block HV.out hg
    have := lt_of_heap hc
    omega))
  have h5 := replay_told w w5 K5 [] k 100 10 newD A cp [lv1, lv2] hS HM.out rfl rfl rfl (by decide) (by decide) (by decide) (fun o ho => by
    simp only [List.mem_cons, List.not_mem_nil, or_false] at ho
    rcases ho with rfl | rfl
    · exact ⟨⟨by show (1 : Int) ≤ 2; decide, by show (2 : Int) ≤ 6; decide⟩, by decide, by decide⟩
    · exact ⟨⟨by show (1 : Int) ≤ 3; decide, by show (3 : Int) ≤ 6; decide⟩, by decide, by decide⟩) lruns hLk
  rw [show [lv1, lv2].length = 2 from rfl] at h5
  have H5 := Asd.mk h5
  have HKn := Asd.mk (show ∀ g, (Value.slice A [lv1, lv2].length cp).ownBlock = some g → g ∉ K5 from fun g hg hi => by
    have h1 := hK5 g hi
    obtain ⟨_, cur, hc⟩ := own_block HV.out hg
    have := lt_of_heap hc
    omega)
  clear hS hC hK5 H4 h5 hLk
  go_wp2_with fail
  refine H5.out.mono ?_
  rintro e w6 ⟨rfl, E, K6, Q6, hS, hoff, hnow, _, hC, _, _⟩
  have HV6 := Asd.mk (own_off HV5.out hC (fun g hg hi => HKn.out g hg hi))
  have h6 := dread_on ⟨#[97, 32, 98]⟩ hS HM.out (by decide) hoff
  rw [hnow, show newD.now = [] from rfl, lr2, lg3] at h6
  have H6 := Asd.mk h6
  have HS6 := Asd.mk hS.1
  clear hS hoff hnow hC H5 h6
  go_wp2_with fail
  refine H6.out.mono ?_
  rintro e w7 ⟨rfl, hC⟩
  have HS7 := Asd.mk (HS6.out.trans hC)
  have HV7 := Asd.mk (own_off HV6.out hC (fun _ _ => by simp))
  clear hC H6
  simp only [errV, if_true]
  go_wp2_with fail
  have hnm := sameTexts_calls [(⟨#[99, 114, 101, 97, 116, 101, 32, 34, 97, 32, 98, 34]⟩ : ByteArray), (⟨#[97, 112, 112, 101, 110, 100, 32, 34, 97, 32, 98, 34, 32, 34, 120, 92, 110, 34]⟩ : ByteArray)] [(⟨#[99, 114, 101, 97, 116, 101, 32, 34, 97, 32, 98, 34]⟩ : ByteArray), (⟨#[97, 112, 112, 101, 110, 100, 32, 34, 97, 32, 98, 34, 32, 34, 120, 92, 110, 34]⟩ : ByteArray)] (.slice A 2 cp) (.slice (some ⟨w7.heap.size, 0, none⟩) 2 2) (w7.alloc (.cells #[.string (⟨#[99, 114, 101, 97, 116, 101, 32, 34, 97, 32, 98, 34]⟩ : ByteArray), .string (⟨#[97, 112, 112, 101, 110, 100, 32, 34, 97, 32, 98, 34, 32, 34, 120, 92, 110, 34]⟩ : ByteArray)] 9)) (by
    have h := (strL_of_own HV7.out).chg ((Chg.refl [] w7).alloc (.cells #[.string (⟨#[99, 114, 101, 97, 116, 101, 32, 34, 97, 32, 98, 34]⟩ : ByteArray), .string (⟨#[97, 112, 112, 101, 110, 100, 32, 34, 97, 32, 98, 34, 32, 34, 120, 92, 110, 34]⟩ : ByteArray)] 9))
    rw [ltold] at h
    exact h) ⟨_, 2, rfl, fun i hi => ⟨_, rfl, by
      rcases i with _ | _ | i
      · exact cell_of_heap (hp_new w7 _) 0
      · exact cell_of_heap (hp_new w7 _) 1
      · simp at hi; omega⟩⟩ (by decide) (by decide)
  rw [decide_eq_true (show ([(⟨#[99, 114, 101, 97, 116, 101, 32, 34, 97, 32, 98, 34]⟩ : ByteArray), (⟨#[97, 112, 112, 101, 110, 100, 32, 34, 97, 32, 98, 34, 32, 34, 120, 92, 110, 34]⟩ : ByteArray)] : List ByteArray) = [(⟨#[99, 114, 101, 97, 116, 101, 32, 34, 97, 32, 98, 34]⟩ : ByteArray), (⟨#[97, 112, 112, 101, 110, 100, 32, 34, 97, 32, 98, 34, 32, 34, 120, 92, 110, 34]⟩ : ByteArray)] from rfl)] at hnm
  refine hnm.mono ?_
  rintro e w8 ⟨rfl, hC⟩
  have HC8 := Asd.mk ((HS7.out.alloc _).trans hC)
  clear hC hnm
  go_wp2
  go_ret
  exact ⟨rfl, HC8.out⟩
end Go.Proofs.YthojofeocjmglaaGreatDoor.I
