/- Merged out of these texts: DTell, DOps. -/
import Derived.Test.YthojofeocjmglaaGreatDoorDk16
import Derived.Test.YthojofeocjmglaaGreatDoorDk7
import Derived.Test.YthojofeocjmglaaGreatDoorDk15
/- An operation's text: the walk. -/
namespace Go.Proofs.YthojofeocjmglaaGreatDoor.I
open Go.RowKit Go.Proofs.YthojofeocjmglaaGreatDoor.B Go.Sort
set_option linter.unusedVariables false
theorem nb_app (l m : List UInt8) : nb l ++ nb m = nb (l ++ m) := by
  apply ByteArray.ext
  simp [nb]
theorem told_len (Z : Nat) : ∀ L : List (List UInt8), (∀ x ∈ L, x.length ≤ Z) → (L.flatMap fun s => 32 :: quotB s).length ≤ L.length * (4 * Z + 3)
  | [], _ => by simp
  | x :: L, h => by
    have h1 := told_len Z L (fun y hy => h y (List.mem_cons_of_mem _ hy))
    have h2 := (quotB_len x).2
    have h3 := h x (List.mem_cons_self ..)
    rw [List.flatMap_cons, List.length_append, List.length_cons, List.length_cons, Nat.add_mul]
    omega
theorem toldL_len (word : List UInt8) (Z : Nat) (L : List (List UInt8)) (h : ∀ x ∈ L, x.length ≤ Z) : (toldL word L).length ≤ word.length + L.length * (4 * Z + 3) := by
  unfold toldL
  rw [List.length_append]
  have := told_len Z L h
  omega
set_option maxRecDepth 100000 in
set_option maxHeartbeats 4000000 in
theorem tell_calls (word : ByteArray) (v : Value) (L : List ByteArray) (w : World) (hL : StrL w v L) (hz : ∀ x ∈ L, x.size ≤ 4294967280) (hn : L.length ≤ 2) (hw : word.size ≤ 4294967280) :
    Calls Tryz.prog 65 #[.string word, v] w fun e w' => e = .returned (.string (nb (toldL word.data.toList (L.map (·.data.toList))))) ∧ Chg [] w w' := by
  obtain ⟨A, cp, rfl, hc⟩ := hL
  have HC := Asd.mk hc
  have HZ := Asd.mk hz
  obtain ⟨n, hn1⟩ : ∃ n, L.length = n := ⟨_, rfl⟩
  have HN := Asd.mk hn1
  rw [hn1] at hn ⊢
  clear hc hz hn1
  (go_enter Tryz.func65, Tryz.ntmps65)
  go_wp2
  go_loopg [0, 10] (n + 1) (fun gk v0 v10 wx => ∃ (i : Nat) (V : ByteArray), i ≤ n ∧ gk = n + 1 - i ∧ v0 = .string V ∧ v10 = .int .i64 (i : Int) ∧ Asd (V = nb (toldL word.data.toList ((L.take i).map (·.data.toList)))) ∧ Asd (Chg [] w wx))
  case atStart => exact ⟨0, word, by omega, rfl, rfl, rfl, ⟨by simp [toldL, nb_list]⟩, ⟨Chg.refl _ _⟩⟩
  case round =>
    obtain ⟨i, V, hi, rfl, rfl, rfl, HV, HX⟩ := hrel
    by_cases hlt : i < n
    · have k1 : (i : Int) < (n : Int) := by omega
      have hl1 : i < L.length := by rw [HN.out]; exact hlt
      obtain ⟨a, rfl, hcell⟩ := HC.out i hl1
      have c1 := (HX.out.below.cell (World.block_lt_of_cell? w _ hcell)).trans hcell
      obtain ⟨x, hx⟩ : ∃ x, L[i] = x := ⟨_, rfl⟩
      rw [hx] at c1 hcell
      have hzx := HZ.out x (by rw [← hx]; exact List.getElem_mem hl1)
      have HQ := Asd.mk (quote_calls x wr hzx)
      have HS := Asd.mk (show toldL word.data.toList ((L.take (i + 1)).map (·.data.toList)) = toldL word.data.toList ((L.take i).map (·.data.toList)) ++ 32 :: quotB x.data.toList by
        rw [List.take_add_one, List.getElem?_eq_getElem hl1, hx]
        simp [toldL])
      have hVs : V.size ≤ 60000000000 := by
        rw [HV.out, nb_size]
        have h1 := toldL_len word.data.toList 4294967280 ((L.take i).map (·.data.toList)) (fun y hy => by
          obtain ⟨z, hz, rfl⟩ := List.mem_map.1 hy
          rw [list_size]
          exact HZ.out z (List.mem_of_mem_take hz))
        rw [List.length_map, List.length_take, list_size] at h1
        have h2 : min i L.length ≤ 1 := by omega
        have h3 := Nat.mul_le_mul_right (4 * 4294967280 + 3) h2
        omega
      obtain ⟨c, r, hq1, hq2, hq3⟩ := quoted_is x.data.toList
      have hql : (quoteL x.data.toList).length ≤ 20000000000 := by
        unfold quoteL
        have := quotB_len x.data.toList
        have := list_size x
        split <;> omega
      obtain ⟨q, hq⟩ : ∃ q, nb (quoteL x.data.toList) = q := ⟨_, rfl⟩
      have hqs : q.size = (quoteL x.data.toList).length := by rw [← hq]; exact nb_size _
      have hqz : q.size ≤ 20000000000 := by omega
      have hs1 : (⟨#[32]⟩ ++ q : ByteArray).size = q.size + 1 := by rw [ByteArray.size_append]; show 1 + q.size = _; omega
      have hs2 : (⟨#[34]⟩ ++ q : ByteArray).size = q.size + 1 := by rw [ByteArray.size_append]; show 1 + q.size = _; omega
      have hs3 : ((⟨#[34]⟩ ++ q) ++ ⟨#[34]⟩ : ByteArray).size = q.size + 2 := by rw [ByteArray.size_append, hs2]; rfl
      have hs4 : (⟨#[32]⟩ ++ ((⟨#[34]⟩ ++ q) ++ ⟨#[34]⟩) : ByteArray).size = q.size + 3 := by rw [ByteArray.size_append, hs3]; show 1 + (q.size + 2) = _; omega
      have z1 : ¬ 9223372036854775807 < (⟨#[32]⟩ : ByteArray).size + q.size := by show ¬ 9223372036854775807 < 1 + q.size; omega
      have z2 : ¬ 9223372036854775807 < V.size + (⟨#[32]⟩ ++ q : ByteArray).size := by omega
      have z3 : ¬ 9223372036854775807 < (⟨#[34]⟩ : ByteArray).size + q.size := by show ¬ 9223372036854775807 < 1 + q.size; omega
      have z4 : ¬ 9223372036854775807 < (⟨#[34]⟩ ++ q : ByteArray).size + (⟨#[34]⟩ : ByteArray).size := by rw [hs2]; show ¬ 9223372036854775807 < q.size + 1 + 1; omega
      have z5 : ¬ 9223372036854775807 < (⟨#[32]⟩ : ByteArray).size + ((⟨#[34]⟩ ++ q) ++ ⟨#[34]⟩ : ByteArray).size := by rw [hs3]; show ¬ 9223372036854775807 < 1 + (q.size + 2); omega
      have z6 : ¬ 9223372036854775807 < V.size + (⟨#[32]⟩ ++ ((⟨#[34]⟩ ++ q) ++ ⟨#[34]⟩) : ByteArray).size := by omega
      clear hs1 hs2 hs3 hs4
      have hq0 : 0 < q.size := by rw [hqs, hq1]; simp
      have hqc : (q[0]'hq0) = c := by
        subst hq
        show ((quoteL x.data.toList).toArray)[0] = c
        simp [hq1]
      rw [hq] at HQ
      have HQ1 := Asd.mk hq
      have HQ2 := Asd.mk hq2
      have HQ3 := Asd.mk hq3
      have hcn : (q[0]'hq0).toNat = c.toNat := by rw [hqc]
      clear hcell hx hl1 hzx hq1 hq2 hq3 hq hqc
      by_cases h34 : c = 34
      · have t1 : ((c.toNat : Int) != 34) = false := by rw [h34]; rfl
        have HV2 := Asd.mk (show V ++ (⟨#[32]⟩ ++ q) = nb (toldL word.data.toList ((L.take (i + 1)).map (·.data.toList))) by
          rw [HS.out, HV.out, ← HQ1.out, HQ2.out h34, show (⟨#[32]⟩ : ByteArray) = nb [32] from rfl, nb_app, nb_app]
          rfl)
        clear h34
        go_wp2_with fail
        refine HQ.out.mono ?_
        rintro e w3 ⟨rfl, hC⟩
        have HX2 := Asd.mk (HX.out.trans hC)
        clear hC HQ c1
        go_wp2
        go_roundg (n + 1 - (i + 1))
        case rel => exact ⟨i + 1, _, by omega, by omega, rfl, by go_num, HV2, HX2⟩
        case measure => omega
      · have t1 : ((c.toNat : Int) != 34) = true := by
          have : c.toNat ≠ 34 := fun e => h34 (UInt8.toNat_inj.1 e)
          simp only [bne_iff_ne, ne_eq]
          omega
        have HV2 := Asd.mk (show V ++ (⟨#[32]⟩ ++ ((⟨#[34]⟩ ++ q) ++ ⟨#[34]⟩)) = nb (toldL word.data.toList ((L.take (i + 1)).map (·.data.toList))) by
          rw [HS.out, HV.out, ← HQ1.out, ← HQ3.out h34, show (⟨#[32]⟩ : ByteArray) = nb [32] from rfl, show (⟨#[34]⟩ : ByteArray) = nb [34] from rfl, nb_app, nb_app, nb_app, nb_app]
          rfl)
        clear h34
        go_wp2_with fail
        refine HQ.out.mono ?_
        rintro e w3 ⟨rfl, hC⟩
        have HX2 := Asd.mk (HX.out.trans hC)
        clear hC HQ c1
        go_wp2
        go_roundg (n + 1 - (i + 1))
        case rel => exact ⟨i + 1, _, by omega, by omega, rfl, by go_num, HV2, HX2⟩
        case measure => omega
    · obtain rfl : i = n := by omega
      have HA := Asd.mk (show V = nb (toldL word.data.toList (L.map (·.data.toList))) by
        have := HV.out
        rw [List.take_of_length_le (by have := HN.out; omega)] at this
        exact this)
      go_wp2
      go_ret
      exact ⟨by rw [HA.out]; rfl, HX.out⟩
end Go.Proofs.YthojofeocjmglaaGreatDoor.I
/- The disk's six operations: the walks. (Printed by dops.py.) -/
namespace Go.Proofs.YthojofeocjmglaaGreatDoor.I
open Go.RowKit Go.Proofs.YthojofeocjmglaaGreatDoor.B Go.Sort
set_option linter.unusedVariables false
set_option linter.unusedSimpArgs false
theorem buildStr2 (s t : ByteArray) (w : World) : (Instr.buildSlice 35 2 #[(0, .string s), (1, .string t)]).run Tryz.prog w = .ok (.slice (some ⟨w.heap.size, 0, none⟩) 2 2) (w.alloc (.cells #[.string s, .string t] 9)) := by
  obtain ⟨ie, h1, h2, h3, h4⟩ := info9'
  refine Go.run_buildSlice w 35 9 2 _ _ ie _ Tryz.underlying35 h1 h2 (by rw [h3]; decide) (by rw [h3]; decide) ?_
  rw [h3]
  have := Great.fill_whole (s := 1) (by omega) [.string s, .string t] ((Array.range (2 * 1)).map ((Value.string ⟨#[]⟩).cells[· % (Value.string ⟨#[]⟩).cells.size]!)) (by simp [Value.cells]) (by simp)
  simpa [Value.cells] using this
attribute [local go_sem high] buildStr buildStr2
/-- Blocks that no call turns are read by one more closure. -/
theorem DiskAt.reads {W : World} {K Q : List Nat} {base d b n : Nat} {D : DK} {tn ts : Nat} {lv : Value} {Ln Ls : List Nat} (h : DiskAt W K Q base d b n D tn ts lv Ln Ls) {N : List Nat} (hN : ∀ i ∈ N, i < W.heap.size ∧ i ∉ K) : DiskAt W K (Q ++ N) base d b n D tn ts lv Ln Ls := by
  obtain ⟨E, h1, h2, h3⟩ := h.row
  exact ⟨h.blk, h.now, h.safe, ⟨E, h1, h2, fun i o x ho hx => (h3 i o x ho hx).more (fun j hj => List.mem_append_left _ hj)⟩, h.dK, h.nK, h.sK, h.rK, h.dn, h.ds, h.apart, h.rn, h.rs, h.rd, fun i hi => (List.mem_append.1 hi).elim (h.q i) (hN i), h.kl⟩
theorem do_dpost {w W W1 w' : World} {K Q Q' : List Nat} {d b n ts : Nat} {D : DK} {Ls : List Nat} {R : Nat × DK} {e : Ending} (h : DiskS w W K Q d b n D) (hC1 : Chg [] W W1) (hQ : ∀ i ∈ Q', i ∈ Q ∨ W.heap.size ≤ i) (hP : DoPost W1 K Q' w.heap.size d b n ts Ls R e w') (hR : DOk b n R.2) : DPost w W K Q d b n R e w' := by
  obtain ⟨he, K', tn', lv', Ln', hD, hC, hK'⟩ := hP
  have hCW : Chg K W w' := (hC1.mono (by simp)).trans hC
  have hK2 : ∀ i ∈ K', i ∈ K ∨ W.heap.size ≤ i := fun i hi => (hK' i hi).imp id (fun h => Nat.le_trans hC1.size h)
  exact ⟨he, K', Q', ⟨Chg.fresh ((h.1.mono (by simp)).trans hCW) h.2.1, fun i hi => (hK2 i hi).elim (h.2.1 i) (fun hx => Nat.le_trans h.1.size hx), hR, tn', ts, lv', Ln', Ls, hD⟩, hCW, hK2, hQ⟩
theorem maxlen_on {w W : World} {K : List Nat} (hm : MaxLenAt w) (hC : Chg [] w W) (hK : ∀ i ∈ K, w.heap.size ≤ i) : ∀ X, Chg K W X → MaxLenAt X := fun X hX => hm.chg (Chg.fresh ((hC.mono (by simp)).trans hX) hK)
set_option maxRecDepth 100000 in
set_option maxHeartbeats 16000000 in
theorem dmake_calls (w W : World) (K Q : List Nat) (d b n : Nat) (D : DK) (s z : ByteArray) (h : DiskS w W K Q d b n D) (hm : MaxLenAt w) (hs : s.size ≤ 4294967280) (hz : z.size ≤ 4294967280) (hst : D.steps ≤ 1000000) (hll : D.log.length ≤ 1000000) :
    Calls Tryz.prog 37 #[(.pointer (some ⟨d, 0, none⟩)), .string s] W fun e w' => DPost w W K Q d b n (doD b n D ⟨1, s, z⟩) e w' := by
  obtain ⟨hC, hKw, hOk, tn, ts, lv, Ln, Ls, hD⟩ := id h
  have HH := Asd.mk h
  have HMx := Asd.mk (maxlen_on hm hC hKw)
  obtain ⟨q, hq⟩ : ∃ q, W.heap.size = q := ⟨_, rfl⟩
  obtain ⟨W1, hW1⟩ : ∃ W1, W.alloc (.cells #[.string s] 9) = W1 := ⟨_, rfl⟩
  have hC1 : Chg [] W W1 := by rw [← hW1]; exact (Chg.refl _ _).alloc _
  have hB1 : W1.heap[q]? = some (.cells #[.string s] 9 (0, 0)) := by rw [← hW1, ← hq]; exact hp_new _ _
  have hqK : q ∉ K := fun hi => by have := hD.kl q hi; omega
  have HD1 := Asd.mk ((hD.keep0 hC1).reads (N := [q]) (fun i hi => by
    rw [List.mem_singleton] at hi
    rw [hi]
    exact ⟨lt_of_heap hB1, hqK⟩))
  have HC1 := Asd.mk hC1
  have HB1 := Asd.mk hB1
  have HT := Asd.mk (fun (X : World) (v : Value) (hX : StrL X v [s]) => tell_calls ⟨#[109, 97, 107, 101]⟩ v [s] X hX (fun x hx => by rw [List.mem_singleton] at hx; rw [hx]; exact hs) (by simp) (by decide))
  have c0 := cell_of_heap hB1 0
  have HOk := Asd.mk hOk
  have HQq := Asd.mk hq
  have HSz := Asd.mk (And.intro hs hz)
  have HSL := Asd.mk (And.intro hst hll)
  clear h hC hKw hD hm hC1 hB1 hqK hq hOk hs hz hst hll
  (go_enter Tryz.func37, Tryz.ntmps37)
  go_upto_region 1 with fail
  (try rw [hW1])
  (try rw [HQq.out])
  go_wp2_with fail
  refine (HT.out _ _ ⟨_, 1, rfl, fun i hi => ⟨_, rfl, by
    rcases i with _ | i
    · exact cell_of_heap (hp_new W1 _) 0
    · simp at hi⟩⟩).mono ?_
  rintro e w3 ⟨rfl, hC⟩
  have HC3 := Asd.mk (show Chg [] W1 w3 from ((Chg.refl [] W1).alloc _).trans hC)
  have HTo := Asd.mk (show nb (toldL (⟨#[109, 97, 107, 101]⟩ : ByteArray).data.toList ([s].map (·.data.toList))) = toldO ⟨1, s, z⟩ from rfl)
  rw [HTo.out]
  obtain ⟨told, htold⟩ : ∃ x, toldO ⟨1, s, z⟩ = x := ⟨_, rfl⟩
  have HE := Asd.mk (show EntAt w3 (Q ++ [q]) ⟨1, s, z⟩ (.func (.func 69) #[] #[(.pointer (some ⟨q, 0, none⟩))], .string told) from ⟨⟨q, q, by rw [← htold]; rfl, List.mem_append_right _ (List.mem_singleton_self _), HC3.out.heap HB1.out (by simp), fun h => absurd h (by show ¬ twoO 1 = true; decide)⟩, ⟨by show (1 : Int) ≤ 1; decide, by show (1 : Int) ≤ 6; decide⟩, HSz.out.1, HSz.out.2⟩)
  have HDo := Asd.mk (do_calls K (Q ++ [q]) w.heap.size d b n D tn ts lv Ln Ls ⟨1, s, z⟩ 69 #[(.pointer (some ⟨q, 0, none⟩))] told w3 (HD1.out.keep0 HC3.out) HOk.out HE.out (fun X hX => HMx.out X (((HC1.out.trans HC3.out).mono (by simp)).trans hX)) HSL.out.1 HSL.out.2 (Nat.le_trans HH.out.1.size (Nat.le_trans HC1.out.size HC3.out.size)))
  rw [htold]
  clear hC HT HE HTo htold c0
  go_wp2_with fail
  refine HDo.out.mono ?_
  rintro e w4 hP
  have he : e = .returned (errV (doD b n D ⟨1, s, z⟩).1) := hP.1
  subst he
  have HP := Asd.mk (do_dpost HH.out (HC1.out.trans HC3.out) (fun i hi => (List.mem_append.1 hi).imp id (fun h => by rw [List.mem_singleton] at h; rw [h]; exact Nat.le_of_eq HQq.out)) hP (doD_ok HOk.out _))
  clear hP HDo
  go_wp2
  go_ret
  exact HP.out
set_option maxRecDepth 100000 in
set_option maxHeartbeats 16000000 in
theorem dcreate_calls (w W : World) (K Q : List Nat) (d b n : Nat) (D : DK) (s z : ByteArray) (h : DiskS w W K Q d b n D) (hm : MaxLenAt w) (hs : s.size ≤ 4294967280) (hz : z.size ≤ 4294967280) (hst : D.steps ≤ 1000000) (hll : D.log.length ≤ 1000000) :
    Calls Tryz.prog 34 #[(.pointer (some ⟨d, 0, none⟩)), .string s] W fun e w' => DPost w W K Q d b n (doD b n D ⟨2, s, z⟩) e w' := by
  obtain ⟨hC, hKw, hOk, tn, ts, lv, Ln, Ls, hD⟩ := id h
  have HH := Asd.mk h
  have HMx := Asd.mk (maxlen_on hm hC hKw)
  obtain ⟨q, hq⟩ : ∃ q, W.heap.size = q := ⟨_, rfl⟩
  obtain ⟨W1, hW1⟩ : ∃ W1, W.alloc (.cells #[.string s] 9) = W1 := ⟨_, rfl⟩
  have hC1 : Chg [] W W1 := by rw [← hW1]; exact (Chg.refl _ _).alloc _
  have hB1 : W1.heap[q]? = some (.cells #[.string s] 9 (0, 0)) := by rw [← hW1, ← hq]; exact hp_new _ _
  have hqK : q ∉ K := fun hi => by have := hD.kl q hi; omega
  have HD1 := Asd.mk ((hD.keep0 hC1).reads (N := [q]) (fun i hi => by
    rw [List.mem_singleton] at hi
    rw [hi]
    exact ⟨lt_of_heap hB1, hqK⟩))
  have HC1 := Asd.mk hC1
  have HB1 := Asd.mk hB1
  have HT := Asd.mk (fun (X : World) (v : Value) (hX : StrL X v [s]) => tell_calls ⟨#[99, 114, 101, 97, 116, 101]⟩ v [s] X hX (fun x hx => by rw [List.mem_singleton] at hx; rw [hx]; exact hs) (by simp) (by decide))
  have c0 := cell_of_heap hB1 0
  have HOk := Asd.mk hOk
  have HQq := Asd.mk hq
  have HSz := Asd.mk (And.intro hs hz)
  have HSL := Asd.mk (And.intro hst hll)
  clear h hC hKw hD hm hC1 hB1 hqK hq hOk hs hz hst hll
  (go_enter Tryz.func34, Tryz.ntmps34)
  go_upto_region 1 with fail
  (try rw [hW1])
  (try rw [HQq.out])
  go_wp2_with fail
  refine (HT.out _ _ ⟨_, 1, rfl, fun i hi => ⟨_, rfl, by
    rcases i with _ | i
    · exact cell_of_heap (hp_new W1 _) 0
    · simp at hi⟩⟩).mono ?_
  rintro e w3 ⟨rfl, hC⟩
  have HC3 := Asd.mk (show Chg [] W1 w3 from ((Chg.refl [] W1).alloc _).trans hC)
  have HTo := Asd.mk (show nb (toldL (⟨#[99, 114, 101, 97, 116, 101]⟩ : ByteArray).data.toList ([s].map (·.data.toList))) = toldO ⟨2, s, z⟩ from rfl)
  rw [HTo.out]
  obtain ⟨told, htold⟩ : ∃ x, toldO ⟨2, s, z⟩ = x := ⟨_, rfl⟩
  have HE := Asd.mk (show EntAt w3 (Q ++ [q]) ⟨2, s, z⟩ (.func (.func 63) #[] #[(.pointer (some ⟨q, 0, none⟩))], .string told) from ⟨⟨q, q, by rw [← htold]; rfl, List.mem_append_right _ (List.mem_singleton_self _), HC3.out.heap HB1.out (by simp), fun h => absurd h (by show ¬ twoO 2 = true; decide)⟩, ⟨by show (1 : Int) ≤ 2; decide, by show (2 : Int) ≤ 6; decide⟩, HSz.out.1, HSz.out.2⟩)
  have HDo := Asd.mk (do_calls K (Q ++ [q]) w.heap.size d b n D tn ts lv Ln Ls ⟨2, s, z⟩ 63 #[(.pointer (some ⟨q, 0, none⟩))] told w3 (HD1.out.keep0 HC3.out) HOk.out HE.out (fun X hX => HMx.out X (((HC1.out.trans HC3.out).mono (by simp)).trans hX)) HSL.out.1 HSL.out.2 (Nat.le_trans HH.out.1.size (Nat.le_trans HC1.out.size HC3.out.size)))
  rw [htold]
  clear hC HT HE HTo htold c0
  go_wp2_with fail
  refine HDo.out.mono ?_
  rintro e w4 hP
  have he : e = .returned (errV (doD b n D ⟨2, s, z⟩).1) := hP.1
  subst he
  have HP := Asd.mk (do_dpost HH.out (HC1.out.trans HC3.out) (fun i hi => (List.mem_append.1 hi).imp id (fun h => by rw [List.mem_singleton] at h; rw [h]; exact Nat.le_of_eq HQq.out)) hP (doD_ok HOk.out _))
  clear hP HDo
  go_wp2
  go_ret
  exact HP.out
set_option maxRecDepth 100000 in
set_option maxHeartbeats 16000000 in
theorem dappend_calls (w W : World) (K Q : List Nat) (d b n : Nat) (D : DK) (s z : ByteArray) (h : DiskS w W K Q d b n D) (hm : MaxLenAt w) (hs : s.size ≤ 4294967280) (hz : z.size ≤ 4294967280) (hst : D.steps ≤ 1000000) (hll : D.log.length ≤ 1000000) :
    Calls Tryz.prog 35 #[(.pointer (some ⟨d, 0, none⟩)), .string s, .string z] W fun e w' => DPost w W K Q d b n (doD b n D ⟨3, s, z⟩) e w' := by
  obtain ⟨hC, hKw, hOk, tn, ts, lv, Ln, Ls, hD⟩ := id h
  have HH := Asd.mk h
  have HMx := Asd.mk (maxlen_on hm hC hKw)
  obtain ⟨q, hq⟩ : ∃ q, W.heap.size = q := ⟨_, rfl⟩
  obtain ⟨W1, hW1⟩ : ∃ W1, (W.alloc (.cells #[.string s] 9)).alloc (.cells #[.string z] 9) = W1 := ⟨_, rfl⟩
  have hC1 : Chg [] W W1 := by rw [← hW1]; exact ((Chg.refl _ _).alloc _).alloc _
  have hB1 : W1.heap[q]? = some (.cells #[.string s] 9 (0, 0)) := by rw [← hW1, ← hq]; exact hp_alloc (hp_new _ _) _
  have hB2 : W1.heap[q + 1]? = some (.cells #[.string z] 9 (0, 0)) := by
    have := hp_new (W.alloc (.cells #[.string s] 9)) (.cells #[.string z] 9)
    rw [World.size_alloc, hq] at this
    rw [← hW1]
    exact this
  have hqK : q ∉ K ∧ q + 1 ∉ K := ⟨fun hi => by have := hD.kl q hi; omega, fun hi => by have := hD.kl _ hi; omega⟩
  have HD1 := Asd.mk ((hD.keep0 hC1).reads (N := [q, q + 1]) (fun i hi => by
    simp only [List.mem_cons, List.not_mem_nil, or_false] at hi
    rcases hi with rfl | rfl
    · exact ⟨lt_of_heap hB1, hqK.1⟩
    · exact ⟨lt_of_heap hB2, hqK.2⟩))
  have HC1 := Asd.mk hC1
  have HB1 := Asd.mk hB1
  have HB2 := Asd.mk hB2
  have c1 := cell_of_heap hB2 0
  have HT := Asd.mk (fun (X : World) (v : Value) (hX : StrL X v [s, z]) => tell_calls ⟨#[97, 112, 112, 101, 110, 100]⟩ v [s, z] X hX (fun x hx => by
    simp only [List.mem_cons, List.not_mem_nil, or_false] at hx
    rcases hx with rfl | rfl
    · exact hs
    · exact hz) (by simp) (by decide))
  have c0 := cell_of_heap hB1 0
  have HOk := Asd.mk hOk
  have HQq := Asd.mk hq
  have HSz := Asd.mk (And.intro hs hz)
  have HSL := Asd.mk (And.intro hst hll)
  clear h hC hKw hD hm hC1 hB1 hB2 hqK hq hOk hs hz hst hll
  (go_enter Tryz.func35, Tryz.ntmps35)
  go_upto_region 1 with fail
  (try rw [hW1])
  (try rw [HQq.out])
  go_wp2_with fail
  refine (HT.out _ _ ⟨_, 2, rfl, fun i hi => ⟨_, rfl, by
    rcases i with _ | _ | i
    · exact cell_of_heap (hp_new W1 _) 0
    · exact cell_of_heap (hp_new W1 _) 1
    · simp at hi; omega⟩⟩).mono ?_
  rintro e w3 ⟨rfl, hC⟩
  have HC3 := Asd.mk (show Chg [] W1 w3 from ((Chg.refl [] W1).alloc _).trans hC)
  have HTo := Asd.mk (show nb (toldL (⟨#[97, 112, 112, 101, 110, 100]⟩ : ByteArray).data.toList ([s, z].map (·.data.toList))) = toldO ⟨3, s, z⟩ from rfl)
  rw [HTo.out]
  obtain ⟨told, htold⟩ : ∃ x, toldO ⟨3, s, z⟩ = x := ⟨_, rfl⟩
  have HE := Asd.mk (show EntAt w3 (Q ++ [q, q + 1]) ⟨3, s, z⟩ (.func (.func 66) #[] #[(.pointer (some ⟨q, 0, none⟩)), (.pointer (some ⟨q + 1, 0, none⟩))], .string told) from ⟨⟨q, q + 1, by rw [← htold]; rfl, List.mem_append_right _ (List.mem_cons_self ..), HC3.out.heap HB1.out (by simp), fun _ => ⟨List.mem_append_right _ (List.mem_cons_of_mem _ (List.mem_singleton_self _)), HC3.out.heap HB2.out (by simp)⟩⟩, ⟨by show (1 : Int) ≤ 3; decide, by show (3 : Int) ≤ 6; decide⟩, HSz.out.1, HSz.out.2⟩)
  have HDo := Asd.mk (do_calls K (Q ++ [q, q + 1]) w.heap.size d b n D tn ts lv Ln Ls ⟨3, s, z⟩ 66 #[(.pointer (some ⟨q, 0, none⟩)), (.pointer (some ⟨q + 1, 0, none⟩))] told w3 (HD1.out.keep0 HC3.out) HOk.out HE.out (fun X hX => HMx.out X (((HC1.out.trans HC3.out).mono (by simp)).trans hX)) HSL.out.1 HSL.out.2 (Nat.le_trans HH.out.1.size (Nat.le_trans HC1.out.size HC3.out.size)))
  rw [htold]
  clear hC HT HE HTo htold c0 c1
  go_wp2_with fail
  refine HDo.out.mono ?_
  rintro e w4 hP
  have he : e = .returned (errV (doD b n D ⟨3, s, z⟩).1) := hP.1
  subst he
  have HP := Asd.mk (do_dpost HH.out (HC1.out.trans HC3.out) (fun i hi => (List.mem_append.1 hi).imp id (fun h => by
    have := HQq.out
    simp only [List.mem_cons, List.not_mem_nil, or_false] at h
    rcases h with rfl | rfl <;> omega)) hP (doD_ok HOk.out _))
  clear hP HDo
  go_wp2
  go_ret
  exact HP.out
set_option maxRecDepth 100000 in
set_option maxHeartbeats 16000000 in
theorem dlink_calls (w W : World) (K Q : List Nat) (d b n : Nat) (D : DK) (s z : ByteArray) (h : DiskS w W K Q d b n D) (hm : MaxLenAt w) (hs : s.size ≤ 4294967280) (hz : z.size ≤ 4294967280) (hst : D.steps ≤ 1000000) (hll : D.log.length ≤ 1000000) :
    Calls Tryz.prog 38 #[(.pointer (some ⟨d, 0, none⟩)), .string s, .string z] W fun e w' => DPost w W K Q d b n (doD b n D ⟨4, s, z⟩) e w' := by
  obtain ⟨hC, hKw, hOk, tn, ts, lv, Ln, Ls, hD⟩ := id h
  have HH := Asd.mk h
  have HMx := Asd.mk (maxlen_on hm hC hKw)
  obtain ⟨q, hq⟩ : ∃ q, W.heap.size = q := ⟨_, rfl⟩
  obtain ⟨W1, hW1⟩ : ∃ W1, (W.alloc (.cells #[.string s] 9)).alloc (.cells #[.string z] 9) = W1 := ⟨_, rfl⟩
  have hC1 : Chg [] W W1 := by rw [← hW1]; exact ((Chg.refl _ _).alloc _).alloc _
  have hB1 : W1.heap[q]? = some (.cells #[.string s] 9 (0, 0)) := by rw [← hW1, ← hq]; exact hp_alloc (hp_new _ _) _
  have hB2 : W1.heap[q + 1]? = some (.cells #[.string z] 9 (0, 0)) := by
    have := hp_new (W.alloc (.cells #[.string s] 9)) (.cells #[.string z] 9)
    rw [World.size_alloc, hq] at this
    rw [← hW1]
    exact this
  have hqK : q ∉ K ∧ q + 1 ∉ K := ⟨fun hi => by have := hD.kl q hi; omega, fun hi => by have := hD.kl _ hi; omega⟩
  have HD1 := Asd.mk ((hD.keep0 hC1).reads (N := [q, q + 1]) (fun i hi => by
    simp only [List.mem_cons, List.not_mem_nil, or_false] at hi
    rcases hi with rfl | rfl
    · exact ⟨lt_of_heap hB1, hqK.1⟩
    · exact ⟨lt_of_heap hB2, hqK.2⟩))
  have HC1 := Asd.mk hC1
  have HB1 := Asd.mk hB1
  have HB2 := Asd.mk hB2
  have c1 := cell_of_heap hB2 0
  have HT := Asd.mk (fun (X : World) (v : Value) (hX : StrL X v [s, z]) => tell_calls ⟨#[108, 105, 110, 107]⟩ v [s, z] X hX (fun x hx => by
    simp only [List.mem_cons, List.not_mem_nil, or_false] at hx
    rcases hx with rfl | rfl
    · exact hs
    · exact hz) (by simp) (by decide))
  have c0 := cell_of_heap hB1 0
  have HOk := Asd.mk hOk
  have HQq := Asd.mk hq
  have HSz := Asd.mk (And.intro hs hz)
  have HSL := Asd.mk (And.intro hst hll)
  clear h hC hKw hD hm hC1 hB1 hB2 hqK hq hOk hs hz hst hll
  (go_enter Tryz.func38, Tryz.ntmps38)
  go_upto_region 1 with fail
  (try rw [hW1])
  (try rw [HQq.out])
  go_wp2_with fail
  refine (HT.out _ _ ⟨_, 2, rfl, fun i hi => ⟨_, rfl, by
    rcases i with _ | _ | i
    · exact cell_of_heap (hp_new W1 _) 0
    · exact cell_of_heap (hp_new W1 _) 1
    · simp at hi; omega⟩⟩).mono ?_
  rintro e w3 ⟨rfl, hC⟩
  have HC3 := Asd.mk (show Chg [] W1 w3 from ((Chg.refl [] W1).alloc _).trans hC)
  have HTo := Asd.mk (show nb (toldL (⟨#[108, 105, 110, 107]⟩ : ByteArray).data.toList ([s, z].map (·.data.toList))) = toldO ⟨4, s, z⟩ from rfl)
  rw [HTo.out]
  obtain ⟨told, htold⟩ : ∃ x, toldO ⟨4, s, z⟩ = x := ⟨_, rfl⟩
  have HE := Asd.mk (show EntAt w3 (Q ++ [q, q + 1]) ⟨4, s, z⟩ (.func (.func 71) #[] #[(.pointer (some ⟨q, 0, none⟩)), (.pointer (some ⟨q + 1, 0, none⟩))], .string told) from ⟨⟨q, q + 1, by rw [← htold]; rfl, List.mem_append_right _ (List.mem_cons_self ..), HC3.out.heap HB1.out (by simp), fun _ => ⟨List.mem_append_right _ (List.mem_cons_of_mem _ (List.mem_singleton_self _)), HC3.out.heap HB2.out (by simp)⟩⟩, ⟨by show (1 : Int) ≤ 4; decide, by show (4 : Int) ≤ 6; decide⟩, HSz.out.1, HSz.out.2⟩)
  have HDo := Asd.mk (do_calls K (Q ++ [q, q + 1]) w.heap.size d b n D tn ts lv Ln Ls ⟨4, s, z⟩ 71 #[(.pointer (some ⟨q, 0, none⟩)), (.pointer (some ⟨q + 1, 0, none⟩))] told w3 (HD1.out.keep0 HC3.out) HOk.out HE.out (fun X hX => HMx.out X (((HC1.out.trans HC3.out).mono (by simp)).trans hX)) HSL.out.1 HSL.out.2 (Nat.le_trans HH.out.1.size (Nat.le_trans HC1.out.size HC3.out.size)))
  rw [htold]
  clear hC HT HE HTo htold c0 c1
  go_wp2_with fail
  refine HDo.out.mono ?_
  rintro e w4 hP
  have he : e = .returned (errV (doD b n D ⟨4, s, z⟩).1) := hP.1
  subst he
  have HP := Asd.mk (do_dpost HH.out (HC1.out.trans HC3.out) (fun i hi => (List.mem_append.1 hi).imp id (fun h => by
    have := HQq.out
    simp only [List.mem_cons, List.not_mem_nil, or_false] at h
    rcases h with rfl | rfl <;> omega)) hP (doD_ok HOk.out _))
  clear hP HDo
  go_wp2
  go_ret
  exact HP.out
set_option maxRecDepth 100000 in
set_option maxHeartbeats 16000000 in
theorem drename_calls (w W : World) (K Q : List Nat) (d b n : Nat) (D : DK) (s z : ByteArray) (h : DiskS w W K Q d b n D) (hm : MaxLenAt w) (hs : s.size ≤ 4294967280) (hz : z.size ≤ 4294967280) (hst : D.steps ≤ 1000000) (hll : D.log.length ≤ 1000000) :
    Calls Tryz.prog 39 #[(.pointer (some ⟨d, 0, none⟩)), .string s, .string z] W fun e w' => DPost w W K Q d b n (doD b n D ⟨5, s, z⟩) e w' := by
  obtain ⟨hC, hKw, hOk, tn, ts, lv, Ln, Ls, hD⟩ := id h
  have HH := Asd.mk h
  have HMx := Asd.mk (maxlen_on hm hC hKw)
  obtain ⟨q, hq⟩ : ∃ q, W.heap.size = q := ⟨_, rfl⟩
  obtain ⟨W1, hW1⟩ : ∃ W1, (W.alloc (.cells #[.string s] 9)).alloc (.cells #[.string z] 9) = W1 := ⟨_, rfl⟩
  have hC1 : Chg [] W W1 := by rw [← hW1]; exact ((Chg.refl _ _).alloc _).alloc _
  have hB1 : W1.heap[q]? = some (.cells #[.string s] 9 (0, 0)) := by rw [← hW1, ← hq]; exact hp_alloc (hp_new _ _) _
  have hB2 : W1.heap[q + 1]? = some (.cells #[.string z] 9 (0, 0)) := by
    have := hp_new (W.alloc (.cells #[.string s] 9)) (.cells #[.string z] 9)
    rw [World.size_alloc, hq] at this
    rw [← hW1]
    exact this
  have hqK : q ∉ K ∧ q + 1 ∉ K := ⟨fun hi => by have := hD.kl q hi; omega, fun hi => by have := hD.kl _ hi; omega⟩
  have HD1 := Asd.mk ((hD.keep0 hC1).reads (N := [q, q + 1]) (fun i hi => by
    simp only [List.mem_cons, List.not_mem_nil, or_false] at hi
    rcases hi with rfl | rfl
    · exact ⟨lt_of_heap hB1, hqK.1⟩
    · exact ⟨lt_of_heap hB2, hqK.2⟩))
  have HC1 := Asd.mk hC1
  have HB1 := Asd.mk hB1
  have HB2 := Asd.mk hB2
  have c1 := cell_of_heap hB2 0
  have HT := Asd.mk (fun (X : World) (v : Value) (hX : StrL X v [s, z]) => tell_calls ⟨#[114, 101, 110, 97, 109, 101]⟩ v [s, z] X hX (fun x hx => by
    simp only [List.mem_cons, List.not_mem_nil, or_false] at hx
    rcases hx with rfl | rfl
    · exact hs
    · exact hz) (by simp) (by decide))
  have c0 := cell_of_heap hB1 0
  have HOk := Asd.mk hOk
  have HQq := Asd.mk hq
  have HSz := Asd.mk (And.intro hs hz)
  have HSL := Asd.mk (And.intro hst hll)
  clear h hC hKw hD hm hC1 hB1 hB2 hqK hq hOk hs hz hst hll
  (go_enter Tryz.func39, Tryz.ntmps39)
  go_upto_region 1 with fail
  (try rw [hW1])
  (try rw [HQq.out])
  go_wp2_with fail
  refine (HT.out _ _ ⟨_, 2, rfl, fun i hi => ⟨_, rfl, by
    rcases i with _ | _ | i
    · exact cell_of_heap (hp_new W1 _) 0
    · exact cell_of_heap (hp_new W1 _) 1
    · simp at hi; omega⟩⟩).mono ?_
  rintro e w3 ⟨rfl, hC⟩
  have HC3 := Asd.mk (show Chg [] W1 w3 from ((Chg.refl [] W1).alloc _).trans hC)
  have HTo := Asd.mk (show nb (toldL (⟨#[114, 101, 110, 97, 109, 101]⟩ : ByteArray).data.toList ([s, z].map (·.data.toList))) = toldO ⟨5, s, z⟩ from rfl)
  rw [HTo.out]
  obtain ⟨told, htold⟩ : ∃ x, toldO ⟨5, s, z⟩ = x := ⟨_, rfl⟩
  have HE := Asd.mk (show EntAt w3 (Q ++ [q, q + 1]) ⟨5, s, z⟩ (.func (.func 73) #[] #[(.pointer (some ⟨q, 0, none⟩)), (.pointer (some ⟨q + 1, 0, none⟩))], .string told) from ⟨⟨q, q + 1, by rw [← htold]; rfl, List.mem_append_right _ (List.mem_cons_self ..), HC3.out.heap HB1.out (by simp), fun _ => ⟨List.mem_append_right _ (List.mem_cons_of_mem _ (List.mem_singleton_self _)), HC3.out.heap HB2.out (by simp)⟩⟩, ⟨by show (1 : Int) ≤ 5; decide, by show (5 : Int) ≤ 6; decide⟩, HSz.out.1, HSz.out.2⟩)
  have HDo := Asd.mk (do_calls K (Q ++ [q, q + 1]) w.heap.size d b n D tn ts lv Ln Ls ⟨5, s, z⟩ 73 #[(.pointer (some ⟨q, 0, none⟩)), (.pointer (some ⟨q + 1, 0, none⟩))] told w3 (HD1.out.keep0 HC3.out) HOk.out HE.out (fun X hX => HMx.out X (((HC1.out.trans HC3.out).mono (by simp)).trans hX)) HSL.out.1 HSL.out.2 (Nat.le_trans HH.out.1.size (Nat.le_trans HC1.out.size HC3.out.size)))
  rw [htold]
  clear hC HT HE HTo htold c0 c1
  go_wp2_with fail
  refine HDo.out.mono ?_
  rintro e w4 hP
  have he : e = .returned (errV (doD b n D ⟨5, s, z⟩).1) := hP.1
  subst he
  have HP := Asd.mk (do_dpost HH.out (HC1.out.trans HC3.out) (fun i hi => (List.mem_append.1 hi).imp id (fun h => by
    have := HQq.out
    simp only [List.mem_cons, List.not_mem_nil, or_false] at h
    rcases h with rfl | rfl <;> omega)) hP (doD_ok HOk.out _))
  clear hP HDo
  go_wp2
  go_ret
  exact HP.out
set_option maxRecDepth 100000 in
set_option maxHeartbeats 16000000 in
theorem dremove_calls (w W : World) (K Q : List Nat) (d b n : Nat) (D : DK) (s z : ByteArray) (h : DiskS w W K Q d b n D) (hm : MaxLenAt w) (hs : s.size ≤ 4294967280) (hz : z.size ≤ 4294967280) (hst : D.steps ≤ 1000000) (hll : D.log.length ≤ 1000000) :
    Calls Tryz.prog 40 #[(.pointer (some ⟨d, 0, none⟩)), .string s] W fun e w' => DPost w W K Q d b n (doD b n D ⟨6, s, z⟩) e w' := by
  obtain ⟨hC, hKw, hOk, tn, ts, lv, Ln, Ls, hD⟩ := id h
  have HH := Asd.mk h
  have HMx := Asd.mk (maxlen_on hm hC hKw)
  obtain ⟨q, hq⟩ : ∃ q, W.heap.size = q := ⟨_, rfl⟩
  obtain ⟨W1, hW1⟩ : ∃ W1, W.alloc (.cells #[.string s] 9) = W1 := ⟨_, rfl⟩
  have hC1 : Chg [] W W1 := by rw [← hW1]; exact (Chg.refl _ _).alloc _
  have hB1 : W1.heap[q]? = some (.cells #[.string s] 9 (0, 0)) := by rw [← hW1, ← hq]; exact hp_new _ _
  have hqK : q ∉ K := fun hi => by have := hD.kl q hi; omega
  have HD1 := Asd.mk ((hD.keep0 hC1).reads (N := [q]) (fun i hi => by
    rw [List.mem_singleton] at hi
    rw [hi]
    exact ⟨lt_of_heap hB1, hqK⟩))
  have HC1 := Asd.mk hC1
  have HB1 := Asd.mk hB1
  have HT := Asd.mk (fun (X : World) (v : Value) (hX : StrL X v [s]) => tell_calls ⟨#[114, 101, 109, 111, 118, 101]⟩ v [s] X hX (fun x hx => by rw [List.mem_singleton] at hx; rw [hx]; exact hs) (by simp) (by decide))
  have c0 := cell_of_heap hB1 0
  have HOk := Asd.mk hOk
  have HQq := Asd.mk hq
  have HSz := Asd.mk (And.intro hs hz)
  have HSL := Asd.mk (And.intro hst hll)
  clear h hC hKw hD hm hC1 hB1 hqK hq hOk hs hz hst hll
  (go_enter Tryz.func40, Tryz.ntmps40)
  go_upto_region 1 with fail
  (try rw [hW1])
  (try rw [HQq.out])
  go_wp2_with fail
  refine (HT.out _ _ ⟨_, 1, rfl, fun i hi => ⟨_, rfl, by
    rcases i with _ | i
    · exact cell_of_heap (hp_new W1 _) 0
    · simp at hi⟩⟩).mono ?_
  rintro e w3 ⟨rfl, hC⟩
  have HC3 := Asd.mk (show Chg [] W1 w3 from ((Chg.refl [] W1).alloc _).trans hC)
  have HTo := Asd.mk (show nb (toldL (⟨#[114, 101, 109, 111, 118, 101]⟩ : ByteArray).data.toList ([s].map (·.data.toList))) = toldO ⟨6, s, z⟩ from rfl)
  rw [HTo.out]
  obtain ⟨told, htold⟩ : ∃ x, toldO ⟨6, s, z⟩ = x := ⟨_, rfl⟩
  have HE := Asd.mk (show EntAt w3 (Q ++ [q]) ⟨6, s, z⟩ (.func (.func 75) #[] #[(.pointer (some ⟨q, 0, none⟩))], .string told) from ⟨⟨q, q, by rw [← htold]; rfl, List.mem_append_right _ (List.mem_singleton_self _), HC3.out.heap HB1.out (by simp), fun h => absurd h (by show ¬ twoO 6 = true; decide)⟩, ⟨by show (1 : Int) ≤ 6; decide, by show (6 : Int) ≤ 6; decide⟩, HSz.out.1, HSz.out.2⟩)
  have HDo := Asd.mk (do_calls K (Q ++ [q]) w.heap.size d b n D tn ts lv Ln Ls ⟨6, s, z⟩ 75 #[(.pointer (some ⟨q, 0, none⟩))] told w3 (HD1.out.keep0 HC3.out) HOk.out HE.out (fun X hX => HMx.out X (((HC1.out.trans HC3.out).mono (by simp)).trans hX)) HSL.out.1 HSL.out.2 (Nat.le_trans HH.out.1.size (Nat.le_trans HC1.out.size HC3.out.size)))
  rw [htold]
  clear hC HT HE HTo htold c0
  go_wp2_with fail
  refine HDo.out.mono ?_
  rintro e w4 hP
  have he : e = .returned (errV (doD b n D ⟨6, s, z⟩).1) := hP.1
  subst he
  have HP := Asd.mk (do_dpost HH.out (HC1.out.trans HC3.out) (fun i hi => (List.mem_append.1 hi).imp id (fun h => by rw [List.mem_singleton] at h; rw [h]; exact Nat.le_of_eq HQq.out)) hP (doD_ok HOk.out _))
  clear hP HDo
  go_wp2
  go_ret
  exact HP.out
end Go.Proofs.YthojofeocjmglaaGreatDoor.I
