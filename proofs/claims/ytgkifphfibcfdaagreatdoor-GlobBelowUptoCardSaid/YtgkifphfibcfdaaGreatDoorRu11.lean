/- Merged out of these texts: PRead, PMeans. -/
import Derived.Test.YtgkifphfibcfdaaGreatDoorRuPParse
import Derived.Test.YtgkifphfibcfdaaGreatDoorRu10
import Derived.Test.YtgkifphfibcfdaaGreatDoorRu8
import Derived.Test.YtgkifphfibcfdaaGreatDoorRu7
import Derived.Test.YtgkifphfibcfdaaGreatDoorRu9
/- The program's Read: the walk. Printed by pread.py. -/
namespace Go.Proofs.YtgkifphfibcfdaaGreatDoor.G
open Go.RowKit Go.Proofs.YtgkifphfibcfdaaGreatDoor.B
set_option linter.unusedVariables false
theorem info87 : (Tryz.prog.info? 87).map (fun i => (i.zero, i.size, i.bytes)) = some (some (.agg #[.bool false, .bool false, .bool false, .slice none 0 0]), 4, 32) := by kernel_rfl
theorem info87' : ∃ ie, Tryz.prog.info? 87 = some ie ∧ ie.zero = some (.agg #[.bool false, .bool false, .bool false, .slice none 0 0]) ∧ ie.size = 4 ∧ ie.bytes = 32 := by
  cases hie : Tryz.prog.info? 87 with
  | none => have := info87; rw [hie] at this; cases this
  | some ie =>
    have h := info87
    rw [hie] at h
    simp only [Option.map_some, Option.some.injEq, Prod.mk.injEq] at h
    exact ⟨ie, rfl, h.1, h.2.1, h.2.2⟩
theorem build81 (b1 b2 b3 : Bool) (A : Option Addr) (n m : Nat) (w : World) : (Instr.buildSlice 81 1 #[(0, .agg #[.bool b1, .bool b2, .bool b3, .slice A n m])]).run Tryz.prog w = .ok (.slice (some ⟨w.heap.size, 0, none⟩) 1 1) (w.alloc (.cells #[.bool b1, .bool b2, .bool b3, .slice A n m] 87)) := by
  obtain ⟨ie, h1, h2, h3, h4⟩ := info87'
  refine Go.run_buildSlice w 81 87 1 _ _ ie _ Tryz.underlying81 h1 h2 (by rw [h3]; decide) (by rw [h3]; decide) ?_
  rw [h3]
  have := Great.fill_whole (s := 4) (by omega) [.agg #[.bool b1, .bool b2, .bool b3, .slice A n m]] ((Array.range (1 * 4)).map ((Value.agg #[.bool false, .bool false, .bool false, .slice none 0 0]).cells[· % (Value.agg #[.bool false, .bool false, .bool false, .slice none 0 0]).cells.size]!)) (by simp [Value.cells]) (by simp)
  simpa [Value.cells] using this
theorem exC87 (b1 b2 b3 : Bool) (A : Option Addr) (n m : Nat) (C : Array Value) (hC : C = #[.bool b1, .bool b2, .bool b3, .slice A n m]) (c : Nat) (w : World) (p : Operand) (a : Act) (hp : a.eval p = .pointer (some ⟨c, 0, none⟩)) (h : w.heap[c]? = some (.cells C 87 (0, 0))) {d : Option Tmp} {t g x y} : (execOp a.eval (⟨d, .load 87 p, t, g, x, y⟩ : Oper)).run Tryz.prog w = .ok (.value (.agg C)) w := by
  subst hC
  have h2 : (Instr.loadAt 87 (.pointer (some ⟨c, 0, none⟩))).run Tryz.prog w = .ok (.agg #[.bool b1, .bool b2, .bool b3, .slice A n m]) w := by
    have := run_loadVar_row (P := Tryz.prog) w c 87 87 _ (0, 0) _ h Tryz.underlying87 rfl (size87 _ _ _ _ _ _)
    simp only [Instr.loadAt, Instr.sureAddr, Sem.run_bind, Sem.run_pure, Result.andThen_ok]
    exact this
  simp only [execOp, hp, Sem.run_bind, h2, Result.andThen_ok]
  rfl
theorem wp_build87 (b1 b2 b3 : Bool) (A : Option Addr) (n m : Nat) (C : Array Value) (hC : C = #[.bool b1, .bool b2, .bool b3, .slice A n m]) {o : Oper} {a : Act} {w : World} {K : Act → World → Prop} {Q : Exit → Act → World → Prop} (x : Operand) (ho : o.op = .buildSlice 81 1 #[(0, x)]) (hx : a.eval x = .agg C)
    (h : K (a.put o.dst (.slice (some ⟨w.heap.size, 0, none⟩) 1 1)) (w.alloc (.cells C 87))) : o.wp Tryz.prog a w K Q := by
  subst hC
  unfold Oper.wp execOp
  simp only [ho, List.map_toArray, List.map_cons, List.map_nil, hx, Sem.run_bind, build81, Result.andThen_ok]
  exact h
set_option maxRecDepth 100000 in
theorem wp_append87 (x : XR) (A : Option Addr) (k m : Nat) (hv : x.v = .slice A k m) (C : Array Value) (hC : C = #[.bool x.r.back, .bool x.r.dir, .bool x.r.rooted, .slice A k m]) {o : Oper} {a : Act} {w : World} {K : Act → World → Prop} {Q : Exit → Act → World → Prop} (s y : Operand)
    (ho : o.op = .call { callee := .builtin .append, args := #[s, y], argTypes := #[81, 81] }) (base : Nat) (v : Value) (X : List XR) (hs : a.eval s = v) (hown : w.ownsRow base 87 4 v X.length (xcells X))
    (g : Nat) (hx : a.eval y = .slice (some ⟨g, 0, none⟩) 1 1) (hg : w.heap[g]? = some (.cells C 87 (0, 0))) (hL : X.length ≤ 16777216) (hb : base ≤ w.heap.size)
    (h : ∀ v' w', w'.ownsRow base 87 4 v' (X ++ [x]).length (xcells (X ++ [x])) → w.grownBy w' v.ownBlock → K (a.put o.dst v') w') : o.wp Tryz.prog a w K Q := by
  subst hC
  obtain ⟨ie, h1, h2, h3, h4⟩ := info87'
  refine wp_append_own w s y 81 ho base 87 ie _ 4 32 Tryz.underlying81 h1 h2 h3 h4 rfl (by decide) v X.length (xcells X) hs hown ⟨g, 0, none⟩ 1 1 [.bool x.r.back, .bool x.r.dir, .bool x.r.rooted, .slice A k m] hx rfl ?_ (fun u hu => by simp at hu; rcases hu with rfl | rfl | rfl | rfl <;> rfl) ?_ ?_ hb ?_
  · intro j u hu
    have e : (⟨g, 0, none⟩ : Addr).add j = ⟨g, j, none⟩ := by
      unfold Addr.add
      split
      · subst_vars; rfl
      · simp
    rw [e, cell_of_heap hg]
    simpa using hu
  · unfold maxLen; omega
  · omega
  · intro v' w' q1 q2 q3
    refine h v' w' ?_ q2
    rw [List.length_append, xcells_snoc, hv]
    exact q1
theorem ex_field83 {ev : Operand → Value} {x : Operand} {b : Nat} {d : Option Tmp} {t g y z} (h : ev x = .pointer (some ⟨b, 0, none⟩)) (w : World) : (execOp ev (⟨d, .fieldAddr 83 x 0, t, g, y, z⟩ : Oper)).run Tryz.prog w = .ok (.value (.pointer (some ⟨b, 0, none⟩))) w := by
  simp only [execOp, h]
  go_simp
theorem wp_load81 {o : Oper} {a : Act} {w : World} {K : Act → World → Prop} {Q : Exit → Act → World → Prop} (p : Operand) (ho : o.op = .load 81 p) (b : Nat) (v : Value) (hp : a.eval p = .pointer (some ⟨b, 0, none⟩)) (hc : w.cell? ⟨b, 0, none⟩ = some v) (h : K (a.put o.dst v) w) : o.wp Tryz.prog a w K Q := by
  obtain ⟨d, op, t, g, y, z⟩ := o
  simp only at ho
  subst ho
  unfold Oper.wp
  simp only [execOp, hp]
  go_simp
  exact h
theorem wp_store81 {o : Oper} {a : Act} {w : World} {K : Act → World → Prop} {Q : Exit → Act → World → Prop} (p x : Operand) (ho : o.op = .store 81 p x) (hd : o.dst = none) (b : Nat) (u : Value) (sp : Option Addr) (n m : Nat) (hp : a.eval p = .pointer (some ⟨b, 0, none⟩)) (hx : a.eval x = .slice sp n m) (hc : w.cell? ⟨b, 0, none⟩ = some u) (hf : w.frozen? ⟨b, 0, none⟩ = false)
    (h : K a (w.setCell ⟨b, 0, none⟩ (.slice sp n m))) : o.wp Tryz.prog a w K Q := by
  obtain ⟨d, op, t, g, y, z⟩ := o
  simp only at ho hd
  subst ho hd
  unfold Oper.wp
  simp only [execOp, hp, hx]
  go_simp
  exact h
/-- A rule of the program's, where its pieces lie, what they are. -/
def PXH (w : World) (x : XR) : Prop := (∃ b, w.ownsRow b 22 1 x.v x.Z.length (x.Z.map (·.2))) ∧ (∀ z ∈ x.Z, PPieceH w z) ∧ x.Z.map (·.1) = x.r.pieces
theorem PXH.keeps {T : List TypeId} {w w' : World} {x : XR} (h : PXH w x) (hk : Keeps T w w') (h1 : 22 ∉ T) (h2 : 60 ∉ T) (h3 : 66 ∉ T) : PXH w' x := by
  obtain ⟨⟨b, hb⟩, hz, he⟩ := h
  exact ⟨⟨b, own_keeps hb hk h1⟩, fun z hz' => (hz z hz').keeps hk h2 h3, he⟩
/-- What Read holds behind a rule. -/
structure PReadAt (w W W' : World) (X : List XR) (v : Value) : Prop where
  chg : Chg [] w W'
  box : W'.heap[w.heap.size]? = some (.cells #[v] 83 (0, 0))
  own : W'.ownsRow (w.heap.size + 1) 87 4 v X.length (xcells X)
  keeps : Keeps [83, 87] W W'
/-- What Read leaves. -/
def PReadPost (w : World) (R : Except (Nat × Nat) (List RuleV)) (e : Ending) (w' : World) : Prop :=
  Chg [] w w' ∧ match R with
  | .ok rs => ∃ (gp : Nat) (v : Value) (X : List XR), e = .returned (.tuple #[.pointer (some ⟨gp, 0, none⟩), .int .i64 0, .nilIface]) ∧ w'.heap[gp]? = some (.cells #[v] 83 (0, 0)) ∧ (∃ b, w'.ownsRow b 87 4 v X.length (xcells X)) ∧ (∀ x ∈ X, PXH w' x) ∧ X.map (·.r) = rs
  | .error (i, n) => e = .returned (.tuple #[.pointer none, .int .i64 (i : Int), .iface 57 (.int .i64 (n : Int))])
set_option maxRecDepth 100000 in
set_option maxHeartbeats 16000000 in
theorem read_calls (s : ByteArray) (w : World) (hm : MaxLenAt w) (hs : s.size ≤ 4194304) (hls : ∀ p ∈ spl 10 s, p.size ≤ 1048576) :
    Calls Tryz.prog 22 #[.string s] w fun e w' => PReadPost w (readL (spl 10 s) 0) e w' := by
  have HM := Asd.mk hm
  have hsl := spl_len 10 s
  have HLS := Asd.mk hls
  clear hls
  have hal : Chg [] w (w.alloc (.cells #[.slice none 0 0] 83)) := (Chg.refl _ _).alloc _
  have hP := psplit_calls 10 s (w.alloc (.cells #[.slice none 0 0] 83)) (hm.chg hal) hs
  rw [show (10 : UInt8).toNat = 10 from rfl] at hP
  obtain ⟨l, hl⟩ : ∃ l, spl 10 s = l := ⟨_, rfl⟩
  rw [hl] at hsl HLS hP
  obtain ⟨RL, hRL⟩ : ∃ R, readL l 0 = R := ⟨_, rfl⟩
  have HAcc := Asd.mk (show accR [] l 0 = RL by rw [accR_nil]; exact hRL)
  have HRR := Asd.mk (show readL (spl 10 s) 0 = RL by rw [hl]; exact hRL)
  have HP := Asd.mk hP
  have HA0 := Asd.mk hal
  clear hm hRL hP hal
  go_enter Tryz.func22, Tryz.ntmps22
  go_wp2_with fail
  refine HP.out.mono ?_
  rintro e w1 ⟨v5, rfl, hC1, hv5, hS1⟩
  subst hv5
  have HC1 := Asd.mk (HA0.out.trans hC1)
  have HG1 := Asd.mk (show w1.heap[w.heap.size]? = some (.cells #[.slice none 0 0] 83 (0, 0)) from hC1.heap (hp_new _ _) (by simp))
  have HS1 := Asd.mk hS1
  obtain ⟨g, hg⟩ : ∃ g, (w.alloc (.cells #[.slice none 0 0] 83)).heap.size = g := ⟨_, rfl⟩
  try rw [hg] at HS1 ⊢
  try rw [show w.heap.size + 1 = g by rw [← hg]; simp] at ⊢
  have hgw : g = w.heap.size + 1 := by rw [← hg]; simp
  clear hC1 hS1 HP HA0 hg hl
  subst hgw
  go_wp2
  go_loopg [19] (l.length + 1) (fun gk v19 wx => ∃ (i : Nat) (X : List XR) (A5 : Option Addr) (c5 n5 : Nat), i ≤ l.length ∧ n5 = X.length ∧ gk = l.length + 1 - i ∧ v19 = .int .i64 (i : Int) ∧ X.length ≤ i ∧ Asd (accR (X.map (·.r)) (l.drop i) i = RL) ∧ Asd (Chg [] w wx) ∧ Asd (wx.heap[w.heap.size]? = some (.cells #[.slice A5 n5 c5] 83 (0, 0))) ∧ Asd (StrR wx (w.heap.size + 1) 0 l) ∧ Asd (wx.ownsRow (w.heap.size + 1) 87 4 (.slice A5 n5 c5) n5 (xcells X)) ∧ Asd (∀ x ∈ X, PXH wx x))
  case atStart => exact ⟨0, [], none, 0, 0, by omega, rfl, by omega, rfl, by simp, ⟨by rw [List.drop_zero]; exact HAcc.out⟩, HC1, HG1, HS1, ⟨World.ownsRow_nil _ _ _ _⟩, ⟨fun x hx => by cases hx⟩⟩
  case round =>
    obtain ⟨i, X, A5, c5, n5, hi, rfl, rfl, rfl, hX, HA, HC, HG, HS, HO, HXX⟩ := hrel
    have hwz := HC.out.size
    by_cases hlt : i < l.length
    · have hR := HA.out
      obtain ⟨p0, hp⟩ : ∃ p, l[i] = p := ⟨_, rfl⟩
      rw [List.drop_eq_getElem_cons hlt, hp] at hR
      have hpsz : p0.size ≤ 1048576 := HLS.out p0 (by rw [← hp]; exact List.getElem_mem hlt)
      have hcell : wr.cell? ⟨w.heap.size + 1, i, none⟩ = some (.string p0) := by
        have h := HS.out.cell hlt
        rw [Nat.zero_add, hp] at h
        exact h
      have k1 : (i : Int) < (l.length : Int) := by omega
      go_wp2_with fail
      refine (trimmed_calls p0 wr hpsz).mono ?_
      rintro e w2 ⟨rfl, hw2⟩
      subst hw2
      have htz := trimS_le p0
      obtain ⟨t, ht⟩ : ∃ t, trimS p0 = t := ⟨_, rfl⟩
      rw [ht] at htz ⊢
      have HT := Asd.mk ht
      have hsel : (isSilent t = true ∧ (t.toList.isEmpty = true ∨ (t.toList.isEmpty = false ∧ ∃ h : 0 < t.size, (((t[0].toNat : Nat) : Int) == 35) = true))) ∨ (isSilent t = false ∧ t.toList.isEmpty = false ∧ ∃ h : 0 < t.size, (((t[0].toNat : Nat) : Int) == 35) = false) := by
        by_cases hz : 0 < t.size
        · have b0 : bn t 0 = t[0].toNat := by unfold bn; rw [dif_pos hz]
          by_cases h35 : bn t 0 = 35
          · exact .inl ⟨silent_hash h35, .inr ⟨isEmpty_no hz, hz, by rw [← b0, h35]; rfl⟩⟩
          · exact .inr ⟨silent_no hz h35, isEmpty_no hz, hz, by rw [← b0]; simp; omega⟩
        · exact .inl ⟨silent_nil hz, .inl (isEmpty_yes hz)⟩
      clear ht
      rcases hsel with ⟨hsil, hsel⟩ | ⟨hsil, te, hz, t1⟩
      · rw [accR_skip (by rw [HT.out]; exact hsil)] at hR
        have HQR := Asd.mk hR
        clear hR HA hsil
        rcases hsel with te | ⟨te, hz, t1⟩
        · have he : t = ⟨#[]⟩ := empty_bytes (fun h => by rw [isEmpty_no h] at te; cases te)
          go_wp2
          go_roundg (l.length + 1 - (i + 1))
          case rel => exact ⟨i + 1, X, A5, c5, X.length, by omega, rfl, by omega, by go_num, by omega, HQR, HC, HG, HS, HO, HXX⟩
          case measure => omega
        · go_wp2
          go_roundg (l.length + 1 - (i + 1))
          case rel => exact ⟨i + 1, X, A5, c5, X.length, by omega, rfl, by omega, by go_num, by omega, HQR, HC, HG, HS, HO, HXX⟩
          case measure => omega
      · cases hrf : ruleF t with
        | error n =>
          rw [accR_bad (by rw [HT.out]; exact hsil) (by rw [HT.out]; exact hrf)] at hR
          have HQR := Asd.mk hR
          have hru := parse_calls t w2 (HM.out.chg HC.out) (by omega)
          rw [hrf] at hru
          have HRu := Asd.mk hru
          clear hR HA hsil hru hrf
          go_wp2_with fail
          refine HRu.out.mono ?_
          rintro e w3 ⟨hC3, b1, b2, b3, A, k, m, rfl⟩
          have HC3 := Asd.mk (HC.out.trans hC3)
          clear hC3 HRu
          go_wp2
          go_ret3
          rw [HRR.out, ← HQR.out]
          exact ⟨HC3.out.alloc _, by simp⟩
        | ok xr =>
          rw [accR_go (by rw [HT.out]; exact hsil) (by rw [HT.out]; exact hrf)] at hR
          have HQR := Asd.mk hR
          have hru := parse_calls t w2 (HM.out.chg HC.out) (by omega)
          rw [hrf] at hru
          have HRu := Asd.mk hru
          clear hR HA hsil hru hrf
          go_wp2_with fail
          refine HRu.out.mono ?_
          rintro e w3 ⟨hC3, vZ, Z, rfl, hOZ, hPZ, hZe⟩
          obtain ⟨AZ, cZ, hv⟩ := own_len hOZ
          subst hv
          obtain ⟨nZ, hnZ⟩ : ∃ n, Z.length = n := ⟨_, rfl⟩
          rw [hnZ] at hOZ ⊢
          have hk3 : Keeps [] w2 w3 := Keeps.of_chg hC3
          obtain ⟨p, hpp⟩ : ∃ p, w3.heap.size = p := ⟨_, rfl⟩
          obtain ⟨x, hx⟩ : ∃ x : XR, x = ⟨xr, .slice AZ nZ cZ, Z⟩ := ⟨_, rfl⟩
          have hxb : x.r = xr := by rw [hx]
          have HXV' : x.v = .slice AZ nZ cZ := by rw [hx]
          have HXN := Asd.mk (show PXH w3 x by rw [hx]; exact ⟨⟨_, by simp only [hnZ]; exact hOZ⟩, hPZ, hZe⟩)
          clear hx
          subst hxb
          have HXV := HXV'
          have HHX := Asd.mk HXV
          clear HXV HXV'
          have hob0 : (Value.slice A5 X.length c5).ownBlock ≠ some p := fun e => by have := (HO.out.lt _ e).2; have := hC3.size; omega
          have HO3 := Asd.mk (own_keeps HO.out hk3 (by simp))
          have HG3 := Asd.mk (hC3.heap HG.out (by simp))
          have HS3 := Asd.mk (HS.out.keeps hk3 (by simp))
          have HX3 := Asd.mk (show ∀ y ∈ X, PXH w3 y from fun y hy => (HXX.out y hy).keeps hk3 (by simp) (by simp) (by simp))
          have HC3 := Asd.mk (HC.out.trans hC3)
          have hz3 := hC3.size
          clear hC3 hk3 HRu hOZ hPZ hZe
          go_upto_region 12 with fail
          refine wp_opaque (fun W hW => ?_)
          have hG : W.heap[w.heap.size]? = some (.cells #[.slice A5 X.length c5] 83 (0, 0)) := by rw [hW]; exact hp_alloc HG3.out _
          have hO := Asd.mk (show W.ownsRow (w.heap.size + 1) 87 4 (.slice A5 X.length c5) X.length (xcells X) by rw [hW]; exact HO3.out.alloc _)
          have hCh := Asd.mk (show Chg [] w W by rw [hW]; exact HC3.out.alloc _)
          obtain ⟨C, hCC⟩ : ∃ C, C = #[Value.bool x.r.back, .bool x.r.dir, .bool x.r.rooted, .slice AZ nZ cZ] := ⟨_, rfl⟩
          have hC : W.heap[p]? = some (.cells C 87 (0, 0)) := by rw [hW, hCC, ← hpp]; exact hp_new _ _
          have hKW := Asd.mk (show Keeps [] w3 W by rw [hW]; exact Keeps.alloc _ _)
          have HCC := Asd.mk hCC
          clear hCC hW
          have hz0 : w.heap.size < p := by have := lt_of_heap HG.out; omega
          have hob := hob0
          have HXV := HHX.out
          obtain ⟨v, hvv⟩ : ∃ v, Value.slice A5 X.length c5 = v := ⟨_, rfl⟩
          rw [hvv] at hG hO hob
          clear hvv
          refine wp_gen (F := fun A A' W' => ∃ (sp : Option Addr) (n m : Nat) (x43 x44 x45 x46 x47 x48 x49 x50 x51 x52 : Value), (A' = ((((((((((A.put (some 43) x43).put (some 44) x44).put (some 45) x45).put (some 46) x46).put (some 48) x48).put (some 47) x47).put (some 49) x49).put (some 50) x50).put (some 51) x51).put (some 52) x52) ∨ A' = ((((((((((A.put (some 43) x43).put (some 44) x44).put (some 45) x45).put (some 46) x46).put (some 48) x48).put (some 49) x49).put (some 47) x47).put (some 50) x50).put (some 51) x51).put (some 52) x52)) ∧
            Asd (PReadAt w W W' (X ++ [x]) (.slice sp n m))) (fun K A hA hKp hK => ?_) (fun _ _ _ _ _ h => h) (fun A' W' hF => ?_)
          · have e5 : A.eval (.tmp 5) = .pointer (some ⟨w.heap.size, 0, none⟩) := by rw [hA]; rfl
            have e8 : A.eval (.tmp 8) = .pointer (some ⟨p, 0, none⟩) := by rw [hA]; rfl
            have hsz : A.tmps.size = 55 := by rw [hA]; rfl
            clear hA
            refine wp_region_held_drew (S := fun w' => w'.heap[p]? = some (.cells C 87 (0, 0))) (by kernel_rfl) hC (fun hHeld => ?_)
            refine wpAnyH_take (i := 0) (v := .pointer (some ⟨w.heap.size, 0, none⟩)) rfl (by kernel_rfl) (by kernel_rfl) (by kernel_rfl) (fun _ _ _ h => hKp _ _ _ _ _ h) (Or.inl ⟨by rfl, fun w' hw' => ex_move e5 _⟩) (by assumption) ?_
            refine any_opaque (fun A43 hA43 => ?_)
            replace hA43 : A43 = A.put (some 43) (.pointer (some ⟨w.heap.size, 0, none⟩)) := hA43
            have s43 : A43.tmps.size = 55 := by rw [hA43, sz_put]; exact hsz
            have e5_43 : A43.eval (.tmp 5) = .pointer (some ⟨w.heap.size, 0, none⟩) := by rw [hA43, ev_ne _ _ _ _ (by decide)]; exact e5
            have e8_43 : A43.eval (.tmp 8) = .pointer (some ⟨p, 0, none⟩) := by rw [hA43, ev_ne _ _ _ _ (by decide)]; exact e8
            have e43_43 : A43.eval (.tmp 43) = .pointer (some ⟨w.heap.size, 0, none⟩) := by rw [hA43]; exact ev_same _ _ _ (by rw [hsz]; decide)
            try simp only [List.setIfInBounds_toArray, List.set_cons_zero, List.set_cons_succ]
            refine wpAnyH_take (i := 1) (v := .pointer (some ⟨w.heap.size, 0, none⟩)) rfl (by kernel_rfl) (by kernel_rfl) (by kernel_rfl) (fun _ _ _ h => hKp _ _ _ _ _ h) (Or.inl ⟨by rfl, fun w' hw' => ex_move e5_43 _⟩) (by assumption) ?_
            refine any_opaque (fun A44 hA44 => ?_)
            replace hA44 : A44 = A43.put (some 44) (.pointer (some ⟨w.heap.size, 0, none⟩)) := hA44
            have s44 : A44.tmps.size = 55 := by rw [hA44, sz_put]; exact s43
            have e5_44 : A44.eval (.tmp 5) = .pointer (some ⟨w.heap.size, 0, none⟩) := by rw [hA44, ev_ne _ _ _ _ (by decide)]; exact e5_43
            have e8_44 : A44.eval (.tmp 8) = .pointer (some ⟨p, 0, none⟩) := by rw [hA44, ev_ne _ _ _ _ (by decide)]; exact e8_43
            have e43_44 : A44.eval (.tmp 43) = .pointer (some ⟨w.heap.size, 0, none⟩) := by rw [hA44, ev_ne _ _ _ _ (by decide)]; exact e43_43
            have e44_44 : A44.eval (.tmp 44) = .pointer (some ⟨w.heap.size, 0, none⟩) := by rw [hA44]; exact ev_same _ _ _ (by rw [s43]; decide)
            try simp only [List.setIfInBounds_toArray, List.set_cons_zero, List.set_cons_succ]
            refine wpAnyH_take (i := 2) (v := .pointer (some ⟨w.heap.size, 0, none⟩)) rfl (by kernel_rfl) (by kernel_rfl) (by kernel_rfl) (fun _ _ _ h => hKp _ _ _ _ _ h) (Or.inl ⟨by rfl, fun w' hw' => ex_nil e44_44 _⟩) (by assumption) ?_
            refine any_opaque (fun A45 hA45 => ?_)
            replace hA45 : A45 = A44.put (some 45) (.pointer (some ⟨w.heap.size, 0, none⟩)) := hA45
            have s45 : A45.tmps.size = 55 := by rw [hA45, sz_put]; exact s44
            have e5_45 : A45.eval (.tmp 5) = .pointer (some ⟨w.heap.size, 0, none⟩) := by rw [hA45, ev_ne _ _ _ _ (by decide)]; exact e5_44
            have e8_45 : A45.eval (.tmp 8) = .pointer (some ⟨p, 0, none⟩) := by rw [hA45, ev_ne _ _ _ _ (by decide)]; exact e8_44
            have e43_45 : A45.eval (.tmp 43) = .pointer (some ⟨w.heap.size, 0, none⟩) := by rw [hA45, ev_ne _ _ _ _ (by decide)]; exact e43_44
            have e44_45 : A45.eval (.tmp 44) = .pointer (some ⟨w.heap.size, 0, none⟩) := by rw [hA45, ev_ne _ _ _ _ (by decide)]; exact e44_44
            have e45_45 : A45.eval (.tmp 45) = .pointer (some ⟨w.heap.size, 0, none⟩) := by rw [hA45]; exact ev_same _ _ _ (by rw [s44]; decide)
            try simp only [List.setIfInBounds_toArray, List.set_cons_zero, List.set_cons_succ]
            refine wpAnyH_take (i := 3) (v := .pointer (some ⟨w.heap.size, 0, none⟩)) rfl (by kernel_rfl) (by kernel_rfl) (by kernel_rfl) (fun _ _ _ h => hKp _ _ _ _ _ h) (Or.inl ⟨by rfl, fun w' hw' => ex_field83 e45_45 _⟩) (by assumption) ?_
            refine any_opaque (fun A46 hA46 => ?_)
            replace hA46 : A46 = A45.put (some 46) (.pointer (some ⟨w.heap.size, 0, none⟩)) := hA46
            have s46 : A46.tmps.size = 55 := by rw [hA46, sz_put]; exact s45
            have e8_46 : A46.eval (.tmp 8) = .pointer (some ⟨p, 0, none⟩) := by rw [hA46, ev_ne _ _ _ _ (by decide)]; exact e8_45
            have e43_46 : A46.eval (.tmp 43) = .pointer (some ⟨w.heap.size, 0, none⟩) := by rw [hA46, ev_ne _ _ _ _ (by decide)]; exact e43_45
            have e45_46 : A46.eval (.tmp 45) = .pointer (some ⟨w.heap.size, 0, none⟩) := by rw [hA46, ev_ne _ _ _ _ (by decide)]; exact e45_45
            have e46_46 : A46.eval (.tmp 46) = .pointer (some ⟨w.heap.size, 0, none⟩) := by rw [hA46]; exact ev_same _ _ _ (by rw [s45]; decide)
            try simp only [List.setIfInBounds_toArray, List.set_cons_zero, List.set_cons_succ]
            refine wpAnyH_take (i := 5) (oi := ⟨some 48, .load 87 (.tmp 8), _, _, _, _⟩) (v := .agg C) rfl (by kernel_rfl) (by kernel_rfl) (by kernel_rfl) (fun _ _ _ h => hKp _ _ _ _ _ h) (Or.inl ⟨by rfl, fun w' hw' => exC87 x.r.back x.r.dir x.r.rooted AZ nZ cZ C HCC.out p w' (.tmp 8) _ e8_46 hw'⟩) (by assumption) ?_
            refine any_opaque (fun A48 hA48 => ?_)
            replace hA48 : A48 = A46.put (some 48) (.agg C) := hA48
            have s48 : A48.tmps.size = 55 := by rw [hA48, sz_put]; exact s46
            have e8_48 : A48.eval (.tmp 8) = .pointer (some ⟨p, 0, none⟩) := by rw [hA48, ev_ne _ _ _ _ (by decide)]; exact e8_46
            have e43_48 : A48.eval (.tmp 43) = .pointer (some ⟨w.heap.size, 0, none⟩) := by rw [hA48, ev_ne _ _ _ _ (by decide)]; exact e43_46
            have e46_48 : A48.eval (.tmp 46) = .pointer (some ⟨w.heap.size, 0, none⟩) := by rw [hA48, ev_ne _ _ _ _ (by decide)]; exact e46_46
            have e48_48 : A48.eval (.tmp 48) = .agg C := by rw [hA48]; exact ev_same _ _ _ (by rw [s46]; decide)
            try simp only [List.setIfInBounds_toArray, List.set_cons_zero, List.set_cons_succ]
            refine wpAnyH_ready (rs := [4, 6]) (by kernel_rfl) (by simp) ?_
            refine AllReadyH.cons (o := ⟨some 47, .load 81 (.tmp 46), _, _, _, _⟩) rfl (fun J hJ => ?_) (AllReadyH.cons (o := ⟨some 49, .buildSlice 81 1 #[(0, .tmp 48)], _, _, _, _⟩) rfl (fun J hJ => ?_) AllReadyH.nil)
            · rw [if_pos (by rfl)]
              refine wp_load81 (.tmp 46) rfl w.heap.size v e46_48 (cell_of_heap (hp_drew hG) 0) ?_
              refine hJ.out _ _ hHeld (fun _ => ?_)
              clear hJ J
              refine any_opaque (fun A47 hA47 => ?_)
              replace hA47 : A47 = A48.put (some 47) (v) := hA47
              have s47 : A47.tmps.size = 55 := by rw [hA47, sz_put]; exact s48
              have e43_47 : A47.eval (.tmp 43) = .pointer (some ⟨w.heap.size, 0, none⟩) := by rw [hA47, ev_ne _ _ _ _ (by decide)]; exact e43_48
              have e46_47 : A47.eval (.tmp 46) = .pointer (some ⟨w.heap.size, 0, none⟩) := by rw [hA47, ev_ne _ _ _ _ (by decide)]; exact e46_48
              have e48_47 : A47.eval (.tmp 48) = .agg C := by rw [hA47, ev_ne _ _ _ _ (by decide)]; exact e48_48
              have e47_47 : A47.eval (.tmp 47) = v := by rw [hA47]; exact ev_same _ _ _ (by rw [s48]; decide)
              try simp only [List.setIfInBounds_toArray, List.set_cons_zero, List.set_cons_succ]
              refine wpAnyH_ready (rs := [6]) (by kernel_rfl) (by simp) ?_
              refine AllReadyH.cons (o := ⟨some 49, .buildSlice 81 1 #[(0, .tmp 48)], _, _, _, _⟩) rfl (fun J hJ => ?_) AllReadyH.nil
              rw [if_pos (by rfl)]
              refine wp_build87 x.r.back x.r.dir x.r.rooted AZ nZ cZ C HCC.out (.tmp 48) rfl e48_47 ?_
              have hG1 := hp_alloc (hp_drew hG) (.cells C 87)
              have hC1 := hp_alloc hHeld (.cells C 87)
              have hO1 := (show W.drew.ownsRow (w.heap.size + 1) 87 4 v X.length (xcells X) from hO.out).alloc (.cells C 87)
              have hn1 := hp_new W.drew (.cells C 87)
              refine hJ.out _ _ hC1 (fun _ => ?_)
              clear hJ J
              refine any_opaque (fun A49 hA49 => ?_)
              replace hA49 : A49 = A47.put (some 49) (.slice (some ⟨W.drew.heap.size, 0, none⟩) 1 1) := hA49
              have s49 : A49.tmps.size = 55 := by rw [hA49, sz_put]; exact s47
              have e43_49 : A49.eval (.tmp 43) = .pointer (some ⟨w.heap.size, 0, none⟩) := by rw [hA49, ev_ne _ _ _ _ (by decide)]; exact e43_47
              have e46_49 : A49.eval (.tmp 46) = .pointer (some ⟨w.heap.size, 0, none⟩) := by rw [hA49, ev_ne _ _ _ _ (by decide)]; exact e46_47
              have e48_49 : A49.eval (.tmp 48) = .agg C := by rw [hA49, ev_ne _ _ _ _ (by decide)]; exact e48_47
              have e47_49 : A49.eval (.tmp 47) = v := by rw [hA49, ev_ne _ _ _ _ (by decide)]; exact e47_47
              have e49_49 : A49.eval (.tmp 49) = .slice (some ⟨W.drew.heap.size, 0, none⟩) 1 1 := by rw [hA49]; exact ev_same _ _ _ (by rw [s47]; decide)
              try simp only [List.setIfInBounds_toArray, List.set_cons_zero, List.set_cons_succ]
              refine wpAnyH_ready (rs := [7]) (by kernel_rfl) (by simp) ?_
              refine AllReadyH.cons (o := ⟨some 50, .call { callee := .builtin .append, args := #[.tmp 47, .tmp 49], argTypes := #[81, 81] }, _, _, _, _⟩) rfl (fun J hJ => ?_) AllReadyH.nil
              rw [if_pos (by rfl)]
              have hltO := hO1.lt
              have h9 : p < W.heap.size := lt_of_heap hC
              have h8 : W.drew.heap.size = W.heap.size := rfl
              refine wp_append87 x AZ nZ cZ HXV C HCC.out (.tmp 47) (.tmp 49) rfl (w.heap.size + 1) v X e47_49 hO1 W.drew.heap.size e49_49 hn1 (by omega) (by
                have : (W.drew.alloc (.cells C 87)).heap.size = W.drew.heap.size + 1 := by simp
                omega) ?_
              intro v' w' hown' hgrow
              obtain ⟨sp, m, hv'⟩ := own_len hown'
              subst hv'
              have hG2 : w'.heap[w.heap.size]? = some (.cells #[v] 83 (0, 0)) := (hgrow.block _ (lt_of_heap hG1) (fun e => by have := hltO _ e.symm; omega)).trans hG1
              have hCh2 : Chg [] w w' := Chg.grown ((hCh.out.drew).alloc _) hgrow (fun g e hg => by have := hltO _ e; omega)
              have hC2 : w'.heap[p]? = some (.cells C 87 (0, 0)) := (hgrow.block _ (lt_of_heap hC1) (fun e => hob e.symm)).trans hC1
              refine hJ.out _ _ hC2 (fun _ => ?_)
              clear hJ J
              refine any_opaque (fun A50 hA50 => ?_)
              replace hA50 : A50 = A49.put (some 50) (.slice sp (X ++ [x]).length m) := hA50
              have s50 : A50.tmps.size = 55 := by rw [hA50, sz_put]; exact s49
              have e43_50 : A50.eval (.tmp 43) = .pointer (some ⟨w.heap.size, 0, none⟩) := by rw [hA50, ev_ne _ _ _ _ (by decide)]; exact e43_49
              have e47_50 : A50.eval (.tmp 47) = v := by rw [hA50, ev_ne _ _ _ _ (by decide)]; exact e47_49
              have e49_50 : A50.eval (.tmp 49) = .slice (some ⟨W.drew.heap.size, 0, none⟩) 1 1 := by rw [hA50, ev_ne _ _ _ _ (by decide)]; exact e49_49
              have e50_50 : A50.eval (.tmp 50) = .slice sp (X ++ [x]).length m := by rw [hA50]; exact ev_same _ _ _ (by rw [s49]; decide)
              try simp only [List.setIfInBounds_toArray, List.set_cons_zero, List.set_cons_succ]
              refine wpAnyH_take (i := 8) (v := .pointer (some ⟨w.heap.size, 0, none⟩)) rfl (by kernel_rfl) (by kernel_rfl) (by kernel_rfl) (fun _ _ _ h => hKp _ _ _ _ _ h) (Or.inl ⟨by rfl, fun w' hw' => ex_nil e43_50 _⟩) (by assumption) ?_
              refine any_opaque (fun A51 hA51 => ?_)
              replace hA51 : A51 = A50.put (some 51) (.pointer (some ⟨w.heap.size, 0, none⟩)) := hA51
              have s51 : A51.tmps.size = 55 := by rw [hA51, sz_put]; exact s50
              have e43_51 : A51.eval (.tmp 43) = .pointer (some ⟨w.heap.size, 0, none⟩) := by rw [hA51, ev_ne _ _ _ _ (by decide)]; exact e43_50
              have e50_51 : A51.eval (.tmp 50) = .slice sp (X ++ [x]).length m := by rw [hA51, ev_ne _ _ _ _ (by decide)]; exact e50_50
              have e51_51 : A51.eval (.tmp 51) = .pointer (some ⟨w.heap.size, 0, none⟩) := by rw [hA51]; exact ev_same _ _ _ (by rw [s50]; decide)
              try simp only [List.setIfInBounds_toArray, List.set_cons_zero, List.set_cons_succ]
              refine wpAnyH_take (i := 9) (v := .pointer (some ⟨w.heap.size, 0, none⟩)) rfl (by kernel_rfl) (by kernel_rfl) (by kernel_rfl) (fun _ _ _ h => hKp _ _ _ _ _ h) (Or.inl ⟨by rfl, fun w' hw' => ex_field83 e51_51 _⟩) (by assumption) ?_
              refine any_opaque (fun A52 hA52 => ?_)
              replace hA52 : A52 = A51.put (some 52) (.pointer (some ⟨w.heap.size, 0, none⟩)) := hA52
              have s52 : A52.tmps.size = 55 := by rw [hA52, sz_put]; exact s51
              have e50_52 : A52.eval (.tmp 50) = .slice sp (X ++ [x]).length m := by rw [hA52, ev_ne _ _ _ _ (by decide)]; exact e50_51
              have e51_52 : A52.eval (.tmp 51) = .pointer (some ⟨w.heap.size, 0, none⟩) := by rw [hA52, ev_ne _ _ _ _ (by decide)]; exact e51_51
              have e52_52 : A52.eval (.tmp 52) = .pointer (some ⟨w.heap.size, 0, none⟩) := by rw [hA52]; exact ev_same _ _ _ (by rw [s51]; decide)
              try simp only [List.setIfInBounds_toArray, List.set_cons_zero, List.set_cons_succ]
              refine wpAnyH_ready (rs := [10]) (by kernel_rfl) (by simp) ?_
              refine AllReadyH.cons (o := ⟨none, .store 81 (.tmp 52) (.tmp 50), _, _, _, _⟩) rfl (fun J hJ => ?_) AllReadyH.nil
              rw [if_pos (by rfl)]
              refine wp_store81 (.tmp 52) (.tmp 50) rfl rfl w.heap.size v sp (X ++ [x]).length m e52_52 e50_52 (cell_of_heap hG2 0) (frozen_of_heap hG2 0) ?_
              refine hJ.out _ _ (hp_set_other hC2 (by omega) _ _) (fun _ => ?_)
              refine wpAnyH_done (by kernel_rfl) ?_ _
              refine hK _ _ ⟨sp, (X ++ [x]).length, m, _, _, _, _, _, _, _, _, _, _, .inl (by rw [hA52, hA51, hA50, hA49, hA47, hA48, hA46, hA45, hA44, hA43]), ⟨?_⟩⟩
              exact ⟨hCh2.setCell (by simp) _, hp_set hG2 0 _, own_keeps hown' (Keeps.setCell (T := [83]) hG2 (by simp) _ _) (by simp), ((((Keeps.drew W).trans (Keeps.alloc W.drew (.cells C 87))).trans (Keeps.grown hO1 (by simp) hgrow)).trans (Keeps.setCell hG2 (by simp) _ _))⟩
            · rw [if_pos (by rfl)]
              refine wp_build87 x.r.back x.r.dir x.r.rooted AZ nZ cZ C HCC.out (.tmp 48) rfl e48_48 ?_
              have hG1 := hp_alloc (hp_drew hG) (.cells C 87)
              have hC1 := hp_alloc hHeld (.cells C 87)
              have hO1 := (show W.drew.ownsRow (w.heap.size + 1) 87 4 v X.length (xcells X) from hO.out).alloc (.cells C 87)
              have hn1 := hp_new W.drew (.cells C 87)
              refine hJ.out _ _ hC1 (fun _ => ?_)
              clear hJ J
              refine any_opaque (fun A49 hA49 => ?_)
              replace hA49 : A49 = A48.put (some 49) (.slice (some ⟨W.drew.heap.size, 0, none⟩) 1 1) := hA49
              have s49 : A49.tmps.size = 55 := by rw [hA49, sz_put]; exact s48
              have e43_49 : A49.eval (.tmp 43) = .pointer (some ⟨w.heap.size, 0, none⟩) := by rw [hA49, ev_ne _ _ _ _ (by decide)]; exact e43_48
              have e46_49 : A49.eval (.tmp 46) = .pointer (some ⟨w.heap.size, 0, none⟩) := by rw [hA49, ev_ne _ _ _ _ (by decide)]; exact e46_48
              have e48_49 : A49.eval (.tmp 48) = .agg C := by rw [hA49, ev_ne _ _ _ _ (by decide)]; exact e48_48
              have e49_49 : A49.eval (.tmp 49) = .slice (some ⟨W.drew.heap.size, 0, none⟩) 1 1 := by rw [hA49]; exact ev_same _ _ _ (by rw [s48]; decide)
              try simp only [List.setIfInBounds_toArray, List.set_cons_zero, List.set_cons_succ]
              refine wpAnyH_ready (rs := [4]) (by kernel_rfl) (by simp) ?_
              refine AllReadyH.cons (o := ⟨some 47, .load 81 (.tmp 46), _, _, _, _⟩) rfl (fun J hJ => ?_) AllReadyH.nil
              rw [if_pos (by rfl)]
              refine wp_load81 (.tmp 46) rfl w.heap.size v e46_49 (cell_of_heap hG1 0) ?_
              refine hJ.out _ _ hC1 (fun _ => ?_)
              clear hJ J
              refine any_opaque (fun A47 hA47 => ?_)
              replace hA47 : A47 = A49.put (some 47) (v) := hA47
              have s47 : A47.tmps.size = 55 := by rw [hA47, sz_put]; exact s49
              have e43_47 : A47.eval (.tmp 43) = .pointer (some ⟨w.heap.size, 0, none⟩) := by rw [hA47, ev_ne _ _ _ _ (by decide)]; exact e43_49
              have e46_47 : A47.eval (.tmp 46) = .pointer (some ⟨w.heap.size, 0, none⟩) := by rw [hA47, ev_ne _ _ _ _ (by decide)]; exact e46_49
              have e48_47 : A47.eval (.tmp 48) = .agg C := by rw [hA47, ev_ne _ _ _ _ (by decide)]; exact e48_49
              have e49_47 : A47.eval (.tmp 49) = .slice (some ⟨W.drew.heap.size, 0, none⟩) 1 1 := by rw [hA47, ev_ne _ _ _ _ (by decide)]; exact e49_49
              have e47_47 : A47.eval (.tmp 47) = v := by rw [hA47]; exact ev_same _ _ _ (by rw [s49]; decide)
              try simp only [List.setIfInBounds_toArray, List.set_cons_zero, List.set_cons_succ]
              refine wpAnyH_ready (rs := [7]) (by kernel_rfl) (by simp) ?_
              refine AllReadyH.cons (o := ⟨some 50, .call { callee := .builtin .append, args := #[.tmp 47, .tmp 49], argTypes := #[81, 81] }, _, _, _, _⟩) rfl (fun J hJ => ?_) AllReadyH.nil
              rw [if_pos (by rfl)]
              have hltO := hO1.lt
              have h9 : p < W.heap.size := lt_of_heap hC
              have h8 : W.drew.heap.size = W.heap.size := rfl
              refine wp_append87 x AZ nZ cZ HXV C HCC.out (.tmp 47) (.tmp 49) rfl (w.heap.size + 1) v X e47_47 hO1 W.drew.heap.size e49_47 hn1 (by omega) (by
                have : (W.drew.alloc (.cells C 87)).heap.size = W.drew.heap.size + 1 := by simp
                omega) ?_
              intro v' w' hown' hgrow
              obtain ⟨sp, m, hv'⟩ := own_len hown'
              subst hv'
              have hG2 : w'.heap[w.heap.size]? = some (.cells #[v] 83 (0, 0)) := (hgrow.block _ (lt_of_heap hG1) (fun e => by have := hltO _ e.symm; omega)).trans hG1
              have hCh2 : Chg [] w w' := Chg.grown ((hCh.out.drew).alloc _) hgrow (fun g e hg => by have := hltO _ e; omega)
              have hC2 : w'.heap[p]? = some (.cells C 87 (0, 0)) := (hgrow.block _ (lt_of_heap hC1) (fun e => hob e.symm)).trans hC1
              refine hJ.out _ _ hC2 (fun _ => ?_)
              clear hJ J
              refine any_opaque (fun A50 hA50 => ?_)
              replace hA50 : A50 = A47.put (some 50) (.slice sp (X ++ [x]).length m) := hA50
              have s50 : A50.tmps.size = 55 := by rw [hA50, sz_put]; exact s47
              have e43_50 : A50.eval (.tmp 43) = .pointer (some ⟨w.heap.size, 0, none⟩) := by rw [hA50, ev_ne _ _ _ _ (by decide)]; exact e43_47
              have e49_50 : A50.eval (.tmp 49) = .slice (some ⟨W.drew.heap.size, 0, none⟩) 1 1 := by rw [hA50, ev_ne _ _ _ _ (by decide)]; exact e49_47
              have e47_50 : A50.eval (.tmp 47) = v := by rw [hA50, ev_ne _ _ _ _ (by decide)]; exact e47_47
              have e50_50 : A50.eval (.tmp 50) = .slice sp (X ++ [x]).length m := by rw [hA50]; exact ev_same _ _ _ (by rw [s47]; decide)
              try simp only [List.setIfInBounds_toArray, List.set_cons_zero, List.set_cons_succ]
              refine wpAnyH_take (i := 8) (v := .pointer (some ⟨w.heap.size, 0, none⟩)) rfl (by kernel_rfl) (by kernel_rfl) (by kernel_rfl) (fun _ _ _ h => hKp _ _ _ _ _ h) (Or.inl ⟨by rfl, fun w' hw' => ex_nil e43_50 _⟩) (by assumption) ?_
              refine any_opaque (fun A51 hA51 => ?_)
              replace hA51 : A51 = A50.put (some 51) (.pointer (some ⟨w.heap.size, 0, none⟩)) := hA51
              have s51 : A51.tmps.size = 55 := by rw [hA51, sz_put]; exact s50
              have e43_51 : A51.eval (.tmp 43) = .pointer (some ⟨w.heap.size, 0, none⟩) := by rw [hA51, ev_ne _ _ _ _ (by decide)]; exact e43_50
              have e50_51 : A51.eval (.tmp 50) = .slice sp (X ++ [x]).length m := by rw [hA51, ev_ne _ _ _ _ (by decide)]; exact e50_50
              have e51_51 : A51.eval (.tmp 51) = .pointer (some ⟨w.heap.size, 0, none⟩) := by rw [hA51]; exact ev_same _ _ _ (by rw [s50]; decide)
              try simp only [List.setIfInBounds_toArray, List.set_cons_zero, List.set_cons_succ]
              refine wpAnyH_take (i := 9) (v := .pointer (some ⟨w.heap.size, 0, none⟩)) rfl (by kernel_rfl) (by kernel_rfl) (by kernel_rfl) (fun _ _ _ h => hKp _ _ _ _ _ h) (Or.inl ⟨by rfl, fun w' hw' => ex_field83 e51_51 _⟩) (by assumption) ?_
              refine any_opaque (fun A52 hA52 => ?_)
              replace hA52 : A52 = A51.put (some 52) (.pointer (some ⟨w.heap.size, 0, none⟩)) := hA52
              have s52 : A52.tmps.size = 55 := by rw [hA52, sz_put]; exact s51
              have e50_52 : A52.eval (.tmp 50) = .slice sp (X ++ [x]).length m := by rw [hA52, ev_ne _ _ _ _ (by decide)]; exact e50_51
              have e51_52 : A52.eval (.tmp 51) = .pointer (some ⟨w.heap.size, 0, none⟩) := by rw [hA52, ev_ne _ _ _ _ (by decide)]; exact e51_51
              have e52_52 : A52.eval (.tmp 52) = .pointer (some ⟨w.heap.size, 0, none⟩) := by rw [hA52]; exact ev_same _ _ _ (by rw [s51]; decide)
              try simp only [List.setIfInBounds_toArray, List.set_cons_zero, List.set_cons_succ]
              refine wpAnyH_ready (rs := [10]) (by kernel_rfl) (by simp) ?_
              refine AllReadyH.cons (o := ⟨none, .store 81 (.tmp 52) (.tmp 50), _, _, _, _⟩) rfl (fun J hJ => ?_) AllReadyH.nil
              rw [if_pos (by rfl)]
              refine wp_store81 (.tmp 52) (.tmp 50) rfl rfl w.heap.size v sp (X ++ [x]).length m e52_52 e50_52 (cell_of_heap hG2 0) (frozen_of_heap hG2 0) ?_
              refine hJ.out _ _ (hp_set_other hC2 (by omega) _ _) (fun _ => ?_)
              refine wpAnyH_done (by kernel_rfl) ?_ _
              refine hK _ _ ⟨sp, (X ++ [x]).length, m, _, _, _, _, _, _, _, _, _, _, .inr (by rw [hA52, hA51, hA50, hA47, hA49, hA48, hA46, hA45, hA44, hA43]), ⟨?_⟩⟩
              exact ⟨hCh2.setCell (by simp) _, hp_set hG2 0 _, own_keeps hown' (Keeps.setCell (T := [83]) hG2 (by simp) _ _) (by simp), ((((Keeps.drew W).trans (Keeps.alloc W.drew (.cells C 87))).trans (Keeps.grown hO1 (by simp) hgrow)).trans (Keeps.setCell hG2 (by simp) _ _))⟩
          · obtain ⟨sp, n, m, x43, x44, x45, x46, x47, x48, x49, x50, x51, x52, rfl | rfl, hCA⟩ := hF
            all_goals
              simp only [Act.put, List.setIfInBounds_toArray, List.set_cons_zero, List.set_cons_succ]
              go_wp2
              go_roundg (l.length + 1 - (i + 1))
              case rel =>
                obtain ⟨A6, c6, hv6⟩ := own_len hCA.out.own
                have hbx := hCA.out.box
                have hown6 := hCA.out.own
                rw [hv6] at hbx hown6
                have hk9 := (hKW.out.2)
                exact ⟨i + 1, X ++ [x], A6, c6, (X ++ [x]).length, by omega, rfl, by omega, by go_num, by rw [List.length_append]; simp; omega, ⟨by rw [List.map_append]; exact HQR.out⟩, ⟨hCA.out.chg⟩, ⟨hbx⟩, ⟨(HS3.out.keeps hKW.out (by simp)).keeps hCA.out.keeps (by simp)⟩, ⟨hown6⟩, ⟨fun y hy => by
                  rcases List.mem_append.1 hy with hy | hy
                  · exact ((HX3.out y hy).keeps hKW.out (by simp) (by simp) (by simp)).keeps hCA.out.keeps (by simp) (by simp) (by simp)
                  · obtain rfl := List.mem_singleton.1 hy
                    exact (HXN.out.keeps hKW.out (by simp) (by simp) (by simp)).keeps hCA.out.keeps (by simp) (by simp) (by simp)⟩⟩
              case measure => omega
    · obtain rfl : i = l.length := by omega
      have HF := Asd.mk (show readL (spl 10 s) 0 = .ok (X.map (·.r)) by rw [HRR.out, ← HA.out, List.drop_length, accR_end])
      clear HA HRR
      go_wp2
      go_ret3
      rw [HF.out]
      exact ⟨HC.out, _, _, X, rfl, HG.out, ⟨_, HO.out⟩, HXX.out, rfl⟩
end Go.Proofs.YtgkifphfibcfdaaGreatDoor.G
/- The program's means: the walk. -/
namespace Go.Proofs.YtgkifphfibcfdaaGreatDoor.G
open Go.RowKit Go.Proofs.YtgkifphfibcfdaaGreatDoor.B Go.Sort
set_option linter.unusedVariables false
/-- Match at a piece of the program's in memory. -/
theorem ppiece_match {w : World} {gp : Nat} {L : List PartV} (h : GlobH w gp L) (n : ByteArray) (hn : n.size ≤ 16777216) (W : World) (hc : Chg [] w W) : Calls Tryz.prog 15 #[.pointer (some ⟨gp, 0, none⟩), .string n] W fun e w' => e = .returned (.bool (mt L (bl n))) ∧ Chg [] W w' := by
  refine (match_mt gp L n W ((h.keeps (Keeps.of_chg (T := []) hc) (by simp) (by simp)).glob) hn).mono ?_
  rintro e w' ⟨h1, nn, hw⟩
  exact ⟨h1, by rw [hw]; exact (Chg.refl _ _).drewN nn⟩
set_option maxRecDepth 100000 in
set_option maxHeartbeats 16000000 in
theorem pmeans_flat (x : XR) (ns : List ByteArray) (g2 o2 c2 : Nat) (dir : Bool) (w : World) (hx : PXH w x) (hwf : WFR x.r) (hn : StrR w g2 o2 ns) (hn0 : ns ≠ []) (h2 : ns.length ≤ c2) (b2 : ns.length ≤ 16777215) (b3 : ∀ n ∈ ns, n.size ≤ 16777216) (hrt : x.r.rooted = false ∨ (x.r.dir = true ∧ dir = false)) :
    Calls Tryz.prog 42 #[.agg #[.bool x.r.back, .bool x.r.dir, .bool x.r.rooted, x.v], .slice (some ⟨g2, o2, none⟩) ns.length c2, .bool dir] w fun e w' => e = .returned (.bool (meansF x.r ns dir)) ∧ Chg [] w w' := by
  obtain ⟨r, v, Z⟩ := x
  obtain ⟨bk, dr, rt, ps⟩ := r
  obtain ⟨⟨b, hown⟩, hpz, hze⟩ := hx
  simp only at hown hpz hze hrt ⊢
  subst hze
  have hZ0 : Z ≠ [] := fun e => hwf.1 (by simp [e])
  have hZl : 0 < Z.length := List.length_pos_iff.2 hZ0
  obtain ⟨g, c, rfl, hc0⟩ := own_cell hown (i := 0) (by rw [List.length_map]; exact hZl)
  obtain ⟨m, hm⟩ : ∃ m, ns.length = m + 1 := ⟨ns.length - 1, by have := List.length_pos_iff.2 hn0; omega⟩
  have k6 : IntKind.i64.wrap (m : Int) = (m : Int) := w64 (by omega) (by omega)
  have HC := Asd.mk ((Chg.refl [] w).alloc (.cells #[.bool bk, .bool dr, .bool rt, .slice (some ⟨g, 0, none⟩) Z.length c] 87))
  by_cases hd : dr = true ∧ dir = false
  · obtain ⟨rfl, rfl⟩ := hd
    have HV := Asd.mk (show meansF ⟨bk, true, rt, Z.map (·.1)⟩ ns false = false by simp [meansF])
    rw [hm]
    clear hown hpz hwf hn hc0 hm
    go_enter Tryz.func42, Tryz.ntmps42
    go_wp2
    go_ret
    exact ⟨by rw [HV.out]; rfl, HC.out⟩
  · have hrf : rt = false := by
      rcases hrt with h | h
      · exact h
      · exact absurd h hd
    subst hrf
    have hsel : (dr = true ∧ dir = true) ∨ dr = false := by
      cases dr with
      | false => exact .inr rfl
      | true =>
        cases dir with
        | true => exact .inl ⟨rfl, rfl⟩
        | false => exact absurd ⟨rfl, rfl⟩ hd
    obtain ⟨L, ps, hps⟩ := hwf.2.1 rfl
    simp only at hps
    cases Z with
    | nil => exact absurd rfl hZ0
    | cons z Z =>
      obtain ⟨zp, zv⟩ := z
      simp only [List.map_cons, List.cons.injEq] at hps
      obtain ⟨rfl, hpq⟩ := hps
      clear hpq
      obtain ⟨n, hln⟩ : ∃ n, ns.getLast? = some n := by
        cases h : ns.getLast? with
        | none => exact absurd (List.getLast?_eq_none_iff.1 h) hn0
        | some n => exact ⟨n, rfl⟩
      have hcell : w.cell? ⟨g2, o2 + m, none⟩ = some (.string n) := by
        rw [hn.cell (i := m) (by omega)]
        rw [List.getLast?_eq_getElem?, hm, Nat.add_sub_cancel, List.getElem?_eq_getElem (by omega)] at hln
        rw [Option.some.inj hln]
      have hz := hpz (some L, zv) (by simp)
      obtain ⟨gp, hzv, hG⟩ := hz
      simp only at hzv
      subst hzv
      simp only [List.map_cons, List.getElem_cons_zero] at hc0
      have hM := ppiece_match hG n (b3 n (List.mem_of_getLast? hln))
      have HV := Asd.mk (show meansF ⟨bk, dr, false, ((some L, Value.pointer (some ⟨gp, 0, none⟩)) :: Z).map (·.1)⟩ ns dir = mt L (bl n) by
        unfold meansF
        rw [if_neg hd]
        simp [hln])
      have hal : Chg [] w (w.alloc (.cells #[.bool bk, .bool dr, .bool false, .slice (some ⟨g, 0, none⟩) ((some L, Value.pointer (some ⟨gp, 0, none⟩)) :: Z).length c] 87)) := (Chg.refl [] w).alloc _
      have cM := quiet_of (fun W (h : Chg [] (w.alloc (.cells #[.bool bk, .bool dr, .bool false, .slice (some ⟨g, 0, none⟩) ((some L, Value.pointer (some ⟨gp, 0, none⟩)) :: Z).length c] 87)) W) => hM W (hal.trans h))
      obtain ⟨q, hq⟩ : ∃ q, mt L (bl n) = q := ⟨_, rfl⟩
      rw [hq] at cM HV
      have p1' := fun d os => cell_regrown ((hal.below.cell (p := ⟨g, 0, none⟩) (World.block_lt_of_cell? w _ hc0)).trans hc0) d os
      have s1' := fun d os => cell_regrown ((hal.below.cell (p := ⟨g2, o2 + m, none⟩) (World.block_lt_of_cell? w _ hcell)).trans hcell) d os
      have w3' := fun d os => cell_regrown (cell_of_heap (hp_new w (.cells #[.bool bk, .bool dr, .bool false, .slice (some ⟨g, 0, none⟩) ((some L, Value.pointer (some ⟨gp, 0, none⟩)) :: Z).length c] 87)) 3) d os
      rw [hm]
      simp only [List.length_cons] at cM p1' s1' w3' ⊢
      have k1 : (0 : Int) < (Z.length : Int) + 1 := by omega
      have k2 : (m : Int) < (m : Int) + 1 := by omega
      have HCC := Asd.mk (show Chg [] w (w.alloc (.cells #[.bool bk, .bool dr, .bool false, .slice (some ⟨g, 0, none⟩) (Z.length + 1) c] 87)) from hal)
      clear hq hM hal hcell hown hpz hn hwf hd hln HC b2 b3 h2 hG hc0 hm
      rcases hsel with ⟨rfl, rfl⟩ | rfl
      · go_enter Tryz.func42, Tryz.ntmps42
        go_upto_region 5 with fail
        refine wp_region_quiet_below (by kernel_rfl) (by kernel_rfl) ?_
        repeat (quiet_step ((go_at_call 15; exact cM _ _)))
        refine wpQuiet_nil ?_
        rintro w' ⟨q, rfl⟩
        go_wp2
        go_ret
        exact ⟨congrArg (fun x => Ending.returned (Value.bool x)) HV.out.symm, HCC.out.trans (chg_regrown _ _ _)⟩
      · go_enter Tryz.func42, Tryz.ntmps42
        go_upto_region 5 with fail
        refine wp_region_quiet_below (by kernel_rfl) (by kernel_rfl) ?_
        repeat (quiet_step ((go_at_call 15; exact cM _ _)))
        refine wpQuiet_nil ?_
        rintro w' ⟨q, rfl⟩
        go_wp2
        go_ret
        exact ⟨congrArg (fun x => Ending.returned (Value.bool x)) HV.out.symm, HCC.out.trans (chg_regrown _ _ _)⟩
end Go.Proofs.YtgkifphfibcfdaaGreatDoor.G
