/- Merged out of these texts: Own, RefName, Again. -/
import Derived.Test.YtiijbecklkccfaaGreatDoorPl13
import Derived.Test.YtiijbecklkccfaaGreatDoorPl3
import Derived.Test.YtiijbecklkccfaaGreatDoorPl12
/- The law InodeOwn: the walk. -/
namespace Go.Proofs.YtiijbecklkccfaaGreatDoor.I
open Go.RowKit Go.Proofs.YtiijbecklkccfaaGreatDoor.B Go.Sort
set_option linter.unusedVariables false
theorem chg_app {w w' : World} {row : Option Nat} {ob : Obj} (h : (w.alloc ob).grownBy w' row) : Chg row.toList w w' := (((Chg.refl [] w).alloc ob).mono (by simp)).trans (chg_grown h)
theorem same_ents {E : List Ent} {v1 v2 : Value} {w : World} (h1 : EntL w v1 E) (h2 : EntL w v2 E) (hz : E.length ≤ 16777216) : Calls Tryz.prog 14 #[v1, v2] w fun e w' => e = .returned (.bool true) ∧ Chg [] w w' := by
  have h := sameEntries_calls E E v1 v2 w h1 h2 hz hz
  have e : decide (E = E) = true := decide_eq_true rfl
  rw [e] at h
  exact h
theorem same_texts {E : List ByteArray} {v1 v2 : Value} {w : World} (h1 : StrL w v1 E) (h2 : StrL w v2 E) (hz : E.length ≤ 16777216) : Calls Tryz.prog 20 #[v1, v2] w fun e w' => e = .returned (.bool true) ∧ Chg [] w w' := by
  have h := sameTexts_calls E E v1 v2 w h1 h2 hz hz
  have e : decide (E = E) = true := decide_eq_true rfl
  rw [e] at h
  exact h
theorem off_list {v v' : Value} (h : ∀ g g', v.ownBlock = some g → v'.ownBlock = some g' → g ≠ g') : Off v v'.ownBlock.toList := fun g hg hi => by
  cases hv : v'.ownBlock with
  | none => rw [hv] at hi; simp at hi
  | some g' =>
    rw [hv] at hi
    simp at hi
    exact h g g' hg hv hi
theorem sys_off {w W W' : World} {L : List Nat} {t : Nat} {fs : FS} {by' nd : Nat} {v : Value} (h : SysL w W L t fs by' nd) (hC : Chg v.ownBlock.toList W W') (hO : Off v L) (hv : ∀ g, v.ownBlock = some g → w.heap.size ≤ g) : SysL w W' L t fs by' nd := by
  refine h.chg hC (fun i hi hk => ?_) (fun i hk => ?_)
  · cases hb : v.ownBlock with
    | none => rw [hb] at hk; simp at hk
    | some g =>
      rw [hb] at hk
      simp at hk
      subst hk
      exact hO i hb hi
  · cases hb : v.ownBlock with
    | none => rw [hb] at hk; simp at hk
    | some g =>
      rw [hb] at hk
      simp at hk
      subst hk
      exact hv i hb
set_option maxRecDepth 100000 in
set_option maxHeartbeats 32000000 in
theorem inodeown_calls (sp : Option Addr) (n cap : Nat) (O : Nat → OpV) (w : World) (hO : OpsAt w sp n O) (hn : n ≤ 1048576) (hm : MaxLenAt w) (he : ErrType w) :
    Calls Tryz.prog 5 #[.slice sp n cap] w fun e w' => e = .returned (.bool true) ∧ Chg [] w w' := by
  have HM := Asd.mk hm
  have HE := Asd.mk he
  have HO := Asd.mk hO
  have H0 := Asd.mk (sysl_new 2147483647 1000 w w (Chg.refl _ _) (by omega) (by omega))
  clear hm he hO
  (go_enter Tryz.func5, Tryz.ntmps5)
  go_wp2_with fail
  refine H0.out.mono ?_
  rintro e w1 ⟨t, L1, rfl, hS, _, _⟩
  have HS := Asd.mk hS
  clear hS H0
  go_wp2_with fail
  go_loopg [5] 41 (fun gk v5 wx => ∃ (i : Nat) (L : List Nat) (fs : FS), i ≤ 40 ∧ gk = 41 - i ∧ v5 = .int .i64 (i : Int) ∧ Asd (SysL w wx L t fs 2147483647 1000))
  case atStart => exact ⟨0, L1, [], by omega, rfl, rfl, HS⟩
  case round =>
    obtain ⟨i, L, fs, hi, rfl, rfl, HS⟩ := hrel
    go_upto_region 5 with fail
    go_cut [37] from 30 to 37 (fun v37 wx => wr = wx ∧ ∃ c : Bool, v37 = .bool c ∧ Asd (c = true → i < n ∧ i < 40))
    case first =>
      by_cases h1 : i < n
      · have k1 : (i : Int) < (n : Int) := by omega
        by_cases h2 : i < 40
        · have k2 : (i : Int) < 40 := by omega
          go_wp2
          go_meet
          case rel => exact ⟨rfl, true, rfl, ⟨fun _ => ⟨h1, h2⟩⟩⟩
        · have k2 : ¬ (i : Int) < 40 := by omega
          go_wp2
          go_meet
          case rel => exact ⟨rfl, false, rfl, ⟨fun h => by cases h⟩⟩
      · have k1 : ¬ (i : Int) < (n : Int) := by omega
        go_wp2
        go_meet
        case rel => exact ⟨rfl, false, rfl, ⟨fun h => by cases h⟩⟩
    case rest =>
      obtain ⟨rfl, c, rfl, HR⟩ := hcut
      cases c with
      | true =>
        obtain ⟨hin, hi40⟩ := HR.out rfl
        obtain ⟨a, rfl, o0, o1, o2, z1, z2⟩ := (HO.out.chg HS.out.1) i hin
        have HD := Asd.mk (sysl_done (O i).kind (O i).a (O i).b HS.out HM.out (by omega) (by omega))
        have k1 : (i : Int) < (n : Int) := by omega
        have p0 : wr.cell? ((a.add (i * 3)).add 0) = some (.int .i64 (O i).kind) := by rw [Go.Deep.add_add]; exact o0
        have p1 : wr.cell? ((a.add (i * 3)).add 1) = some (.string (O i).a) := by rw [Go.Deep.add_add]; exact o1
        have p2 : wr.cell? ((a.add (i * 3)).add 2) = some (.string (O i).b) := by rw [Go.Deep.add_add]; exact o2
        have P012 := Asd.mk (And.intro p0 (And.intro p1 p2))
        clear o0 o1 o2 z1 z2 p0 p1 p2 HR
        go_wp2_with (refine wpList_load_op rfl (.tmp 43) rfl (a.add (i * 3)) rfl _ _ _ P012.out.1 P012.out.2.1 P012.out.2.2 ?_)
        refine HD.out.mono ?_
        rintro e w4 ⟨rfl, L', hS, _, _⟩
        have HS4 := Asd.mk hS
        clear hS HD HS P012
        go_wp2_with fail
        go_roundg (41 - (i + 1))
        case rel => exact ⟨i + 1, L', _, by omega, rfl, by go_num, HS4⟩
        case measure => omega
      | false =>
        clear HR HO
        have HT1 := Asd.mk (sysl_tree HS.out HM.out)
        go_wp2_with fail
        refine HT1.out.mono ?_
        rintro e w4 ⟨⟨va, rfl, hA⟩, hC⟩
        have HA := Asd.mk (And.intro hA (off_new hA HS.out.lt))
        have HS4 := Asd.mk (HS.out.chg0 hC)
        have HT2 := Asd.mk (sysl_tree HS4.out HM.out)
        clear hA hC HT1
        go_wp2_with fail
        refine HT2.out.mono ?_
        rintro e w5 ⟨⟨vb, rfl, hB⟩, hC⟩
        have HB := Asd.mk (And.intro hB (off_new hB HS4.out.lt))
        have HA5 := Asd.mk (And.intro (own_off HA.out.1 hC (fun _ _ => by simp)) HA.out.2)
        have HS5 := Asd.mk (HS4.out.chg0 hC)
        have HT3 := Asd.mk (sysl_list HS5.out HM.out)
        have HZ5 := Asd.mk hC.size
        clear hB hC HT2
        go_wp2_with fail
        refine HT3.out.mono ?_
        rintro e w6 ⟨⟨vn, rfl, hN⟩, hC⟩
        have HN := Asd.mk (And.intro hN (off_new hN HS5.out.lt))
        have HA6 := Asd.mk (And.intro (own_off HA5.out.1 hC (fun _ _ => by simp)) HA5.out.2)
        have HB6 := Asd.mk (And.intro (own_off HB.out.1 hC (fun _ _ => by simp)) HB.out.2)
        have HS6 := Asd.mk (HS5.out.chg0 hC)
        have HT4 := Asd.mk (sysl_list HS6.out HM.out)
        have HZ6 := Asd.mk hC.size
        clear hN hC HT3 HA5
        go_wp2_with fail
        refine HT4.out.mono ?_
        rintro e w7 ⟨⟨vm, rfl, hM⟩, hC⟩
        have HMm := Asd.mk (And.intro hM (off_new hM HS6.out.lt))
        have HA7 := Asd.mk (And.intro (own_off HA6.out.1 hC (fun _ _ => by simp)) HA6.out.2)
        have HB7 := Asd.mk (And.intro (own_off HB6.out.1 hC (fun _ _ => by simp)) HB6.out.2)
        have HN7 := Asd.mk (And.intro (own_off HN.out.1 hC (fun _ _ => by simp)) HN.out.2)
        have HS7 := Asd.mk (HS6.out.chg0 hC)
        clear hM HT4 HA6 HB6
        have HLa := Asd.mk (show ∀ g, va.ownBlock = some g → w.heap.size ≤ g ∧ g < w4.heap.size from fun g hg => by
          obtain ⟨h1, cur, h2⟩ := own_block HA.out.1 hg
          exact ⟨Nat.le_trans HS.out.1.size h1, lt_of_heap h2⟩)
        have HLb := Asd.mk (show ∀ g, vb.ownBlock = some g → w4.heap.size ≤ g ∧ g < w5.heap.size from fun g hg => by
          obtain ⟨h1, cur, h2⟩ := own_block HB.out.1 hg
          exact ⟨h1, lt_of_heap h2⟩)
        have HLn := Asd.mk (show ∀ g, vn.ownBlock = some g → w5.heap.size ≤ g ∧ g < w6.heap.size from fun g hg => by
          obtain ⟨h1, cur, h2⟩ := own_block HN.out.1 hg
          exact ⟨h1, lt_of_heap h2⟩)
        have HLm := Asd.mk (show ∀ g, vm.ownBlock = some g → w6.heap.size ≤ g from fun g hg => (own_block HMm.out.1 hg).1)
        have HZ := Asd.mk (show w.heap.size ≤ w4.heap.size ∧ w4.heap.size ≤ w5.heap.size ∧ w5.heap.size ≤ w6.heap.size ∧ w6.heap.size ≤ w7.heap.size from ⟨HS4.out.1.size, HZ5.out, HZ6.out, hC.size⟩)
        obtain ⟨Na, hNa⟩ : ∃ N, (treeF fs []).length = N := ⟨_, rfl⟩
        obtain ⟨Nn, hNn⟩ : ∃ N, (kidsF fs []).length = N := ⟨_, rfl⟩
        have hNa2 : Na ≤ 200000 := by
          have := treeL_len HS7.out.2.1 (m := 65) (p := []) (by rw [at_root]; simp)
          have := HS7.out.2.2.1.n
          have := HS7.out.2.2.1.count
          rw [← hNa]
          show (treeL fs 65 []).length ≤ _
          omega
        obtain ⟨Aa, ca, hva, hca⟩ := own_form HA7.out.1
        obtain ⟨An, cn, hvn, hcn⟩ := own_form HN7.out.1
        rw [hNa] at hva hca
        rw [hNn] at hvn hcn
        obtain ⟨ba, hba⟩ : ∃ b, wr.heap.size = b := ⟨_, rfl⟩
        have HXa := Asd.mk (show ∃ xs, w7.ownsRow ba 41 3 (.slice Aa Na ca) Na xs from ⟨_, by rw [← hva, ← hNa, ← hba]; exact HA7.out.1⟩)
        have HXn := Asd.mk (show ∃ xs, w7.ownsRow w5.heap.size 9 1 (.slice An Nn cn) Nn xs from ⟨_, by rw [← hvn, ← hNn]; exact HN7.out.1⟩)
        have HOa := Asd.mk (show Off (.slice Aa Na ca) L by rw [← hva]; exact HA7.out.2)
        have HOn := Asd.mk (show Off (.slice An Nn cn) L by rw [← hvn]; exact HN7.out.2)
        have HBM := Asd.mk (And.intro HB7.out HMm.out)
        have hNn2 : Nn ≤ 200000 := by
          have h1 := nodup_len' (m := fs.map (·.1)) (l := (kidsF fs []).map fun k => [] ++ [k]) (List.pairwise_map.2 ((nodup_kidsF HS7.out.2.1.nodup []).imp fun h e => h (snoc_inj e).2)) (fun r hr => by
            obtain ⟨k, hk, rfl⟩ := List.mem_map.1 hr
            exact (at_mem (by simp)).1 (mem_kidsF.1 hk))
          have := HS7.out.2.2.1.n
          have := HS7.out.2.2.1.count
          rw [List.length_map, List.length_map, hNn] at h1
          omega
        rw [hva] at HLa
        rw [hvn] at HLn
        obtain ⟨s4, hs4⟩ : ∃ s, w4.heap.size = s := ⟨_, rfl⟩
        obtain ⟨s5, hs5⟩ : ∃ s, w5.heap.size = s := ⟨_, rfl⟩
        obtain ⟨s6, hs6⟩ : ∃ s, w6.heap.size = s := ⟨_, rfl⟩
        rw [hs4] at HLa HLb HZ HBM
        rw [hs5] at HLb HLn HZ HXn
        rw [hs6] at HLn HLm HZ HBM
        have HNa := Asd.mk hNa
        have HNn := Asd.mk hNn
        rw [hva, hvn]
        clear HS4 HS5 HS6 HA HB HN HA7 HB7 HN7 HMm HZ5 HZ6 hC hba hs4 hs5 hs6 hNa hNn hva hvn HS
        go_wp2_with fail
        go_loopg [14] (Na + 1) (fun gk v14 wx => ∃ i : Nat, i ≤ Na ∧ gk = Na + 1 - i ∧ v14 = .int .i64 (i : Int) ∧ Asd (Chg (Value.slice Aa Na ca).ownBlock.toList w7 wx) ∧ Asd (∃ xs, wx.ownsRow ba 41 3 (.slice Aa Na ca) Na xs))
        case atStart => exact ⟨0, by omega, rfl, rfl, ⟨Chg.refl _ _⟩, HXa⟩
        case round =>
          obtain ⟨i2, hi2, rfl, rfl, HC2, HX2⟩ := hrel
          by_cases hlt : i2 < Na
          · have k1 : (i2 : Int) < (Na : Int) := by omega
            obtain ⟨xs, hxs⟩ := HX2.out
            obtain ⟨g, cur, rfl, hbg, hcg, hsz⟩ := own_cells hxs (by omega)
            have HT := Asd.mk (there_row hcg (o := i2 * 3) (n := 3) (by omega))
            have HW := Asd.mk (own_write hxs (i2 * 3) [.string ⟨#[115, 112, 111, 105, 108, 116]⟩, .int .i64 0, .string ⟨#[]⟩])
            clear hxs hcg hsz
            go_wp2_with (refine wpList_store_mid rfl 41 (.tmp 75) (.tmp 74) rfl g (i2 * 3) #[.string ⟨#[115, 112, 111, 105, 108, 116]⟩, .int .i64 0, .string ⟨#[]⟩] rfl rfl HT.out (size_entry _ _ _) (one_entry _ _ _) ?_)
            go_roundg (Na + 1 - (i2 + 1))
            case rel => exact ⟨i2 + 1, by omega, by omega, by go_num, ⟨Chg.setCells (fun _ => by simp [Value.ownBlock]) _ _ _ HC2.out⟩, HW⟩
            case measure => omega
          · have k1 : ¬ (i2 : Int) < (Na : Int) := by omega
            have HSy := Asd.mk (sys_off HS7.out HC2.out HOa.out (fun g hg => (HLa.out g hg).1))
            have HN2 := Asd.mk (show ∃ xs, _ from by
              obtain ⟨xs, h⟩ := HXn.out
              exact ⟨xs, own_off h HC2.out (off_list fun g g' h1 h2 => by have := (HLn.out g h1).1; have := (HLa.out g' h2).2; have := HZ.out; omega)⟩)
            have HB2 := Asd.mk (own_off HBM.out.1.1 HC2.out (off_list fun g g' h1 h2 => by have := (HLb.out g h1).1; have := (HLa.out g' h2).2; omega))
            have HM2 := Asd.mk (own_off HBM.out.2.1 HC2.out (off_list fun g g' h1 h2 => by have := HLm.out g h1; have := (HLa.out g' h2).2; have := HZ.out; omega))
            have HA2 := HX2
            have HZw := Asd.mk HC2.out.size
            clear HX2 HXn HC2 HS7 HXa hlt
            go_wp2_with fail
            obtain ⟨wy, hwy⟩ : ∃ W, wr = W := ⟨_, rfl⟩
            rw [hwy] at HSy HN2 HB2 HM2 HA2 HZw ⊢
            clear hwy
            go_loopg [15] (Nn + 1) (fun gk v15 wx => ∃ i : Nat, i ≤ Nn ∧ gk = Nn + 1 - i ∧ v15 = .int .i64 (i : Int) ∧ Asd (Chg (Value.slice An Nn cn).ownBlock.toList wy wx) ∧ Asd (∃ xs, wx.ownsRow s5 9 1 (.slice An Nn cn) Nn xs))
            case atStart => exact ⟨0, by omega, rfl, rfl, ⟨Chg.refl _ _⟩, HN2⟩
            case round =>
              obtain ⟨i3, hi3, rfl, rfl, HC3, HX3⟩ := hrel
              by_cases hlt : i3 < Nn
              · have k1 : (i3 : Int) < (Nn : Int) := by omega
                obtain ⟨xs, hxs⟩ := HX3.out
                obtain ⟨g, cur, rfl, hbg, hcg, hsz⟩ := own_cells hxs (by omega)
                have HW := Asd.mk (own_write hxs i3 [.string ⟨#[115, 112, 111, 105, 108, 116]⟩])
                have f1 := frozen_of_heap hcg i3
                have c1 : wr.cell? ⟨g, i3, none⟩ = some (cur[i3]'(by omega)) := by rw [cell_of_heap hcg, Array.getElem?_eq_getElem (by omega)]
                obtain ⟨u, hu⟩ : ∃ u, cur[i3]'(by omega) = u := ⟨_, rfl⟩
                rw [hu] at c1
                clear hxs hcg hsz hu
                go_wp2_with fail
                go_roundg (Nn + 1 - (i3 + 1))
                case rel => exact ⟨i3 + 1, by omega, by omega, by go_num, ⟨HC3.out.setCell (fun _ => by simp [Value.ownBlock]) _⟩, HW⟩
                case measure => omega
              · have k1 : ¬ (i3 : Int) < (Nn : Int) := by omega
                have HSz := Asd.mk (sys_off HSy.out HC3.out HOn.out (fun g hg => by have := (HLn.out g hg).1; have := HZ.out; omega))
                obtain ⟨xa, hxa⟩ := HA2.out
                obtain ⟨xn, hxn⟩ := HX3.out
                have HA3 := Asd.mk (own_off hxa HC3.out (off_list fun g g' h1 h2 => by have := (HLa.out g h1).2; have := (HLn.out g' h2).1; have := HZ.out; omega))
                have HN3 := Asd.mk hxn
                have HB3 := Asd.mk (own_off HB2.out HC3.out (off_list fun g g' h1 h2 => by have := (HLb.out g h1).2; have := (HLn.out g' h2).1; omega))
                have HM3 := Asd.mk (own_off HM2.out HC3.out (off_list fun g g' h1 h2 => by have := HLm.out g h1; have := (HLn.out g' h2).2; omega))
                have hsz3 : s6 ≤ wr.heap.size := by have := HC3.out.size; have := HZw.out; have := HZ.out; omega
                have hba : ba ≤ s4 ∨ Na = 0 := by
                  rcases hxa.2 with ⟨_, h0⟩ | ⟨g, cap, cur, hv, hb, hg, hr⟩
                  · exact .inr h0
                  · exact .inl (by have := (HLa.out g (by rw [hv]; rfl)).2; omega)
                have hNpos : 0 < Na := by
                  rw [← HNa.out]
                  show 0 < (treeL fs 65 []).length
                  rw [treeL_succ]; simp
                have HBa := Asd.mk (show ba ≤ wr.heap.size by have := HZ.out; rcases hba with h | h <;> omega)
                have HS5 := Asd.mk (show s5 ≤ wr.heap.size by have := HZ.out; omega)
                clear hxa hxn HX3 HC3 HSy HB2 HM2 HA2 hlt hba hNpos
                go_wp2_with (first
                  | (refine wpList_build_ent rfl (⟨#[]⟩, 0, ⟨#[]⟩) (.tmp 86) rfl rfl wr.heap.size rfl ?_; simp only [Act.put, List.setIfInBounds_toArray, List.set_cons_zero, List.set_cons_succ])
                  | (at_builtin; refine wpList_append_entx rfl (⟨#[]⟩, 0, ⟨#[]⟩) (.tmp 85) (.tmp 87) rfl ba (.slice Aa Na ca) Na xa rfl (HA3.out.alloc _) wr.heap.size rfl (hp_new _ _) (by omega) (Nat.le_trans HBa.out ((Chg.refl [] wr).alloc _).size) ?_; intro ga' ca' w9 hown9 hgrow9; have HG9 := Asd.mk (chg_app hgrow9); clear hown9 hgrow9; simp only [Act.put, List.setIfInBounds_toArray, List.set_cons_zero, List.set_cons_succ])
                  | (refine wpList_buildStr rfl ⟨#[109, 111, 114, 101]⟩ w9.heap.size rfl _ rfl rfl ?_; simp only [Act.put, List.setIfInBounds_toArray, List.set_cons_zero, List.set_cons_succ])
                  | (at_builtin; refine wpList_append_strx rfl ⟨#[109, 111, 114, 101]⟩ (.tmp 89) (.tmp 90) rfl s5 (.slice An Nn cn) Nn xn rfl ((own_off HN3.out HG9.out (off_list fun g g' h1 h2 => by have := (HLn.out g h1).1; have := (HLa.out g' h2).2; have := HZ.out; omega)).alloc _) w9.heap.size rfl (hp_new _ _) (by omega) (Nat.le_trans HS5.out (Nat.le_trans HG9.out.size ((Chg.refl [] w9).alloc _).size)) ?_; intro gn' cn' w10 hown10 hgrow10; have HG10 := Asd.mk (chg_app hgrow10); clear hown10 hgrow10; simp only [Act.put, List.setIfInBounds_toArray, List.set_cons_zero, List.set_cons_succ]))
                have HSq := Asd.mk (sys_off (sys_off HSz.out HG9.out HOa.out (fun g hg => (HLa.out g hg).1)) HG10.out HOn.out (fun g hg => by have := (HLn.out g hg).1; have := HZ.out; omega))
                have HBq := Asd.mk (own_off (own_off HB3.out HG9.out (off_list fun g g' h1 h2 => by have := (HLb.out g h1).1; have := (HLa.out g' h2).2; omega)) HG10.out (off_list fun g g' h1 h2 => by have := (HLb.out g h1).2; have := (HLn.out g' h2).1; omega))
                have HMq := Asd.mk (own_off (own_off HM3.out HG9.out (off_list fun g g' h1 h2 => by have := HLm.out g h1; have := (HLa.out g' h2).2; have := HZ.out; omega)) HG10.out (off_list fun g g' h1 h2 => by have := HLm.out g h1; have := (HLn.out g' h2).2; omega))
                have HT5 := Asd.mk (sysl_tree HSq.out HM.out)
                clear HSz HB3 HM3 HG9 HG10 HA3 HN3
                refine HT5.out.mono ?_
                rintro e w11 ⟨⟨vc, rfl, hc1⟩, hC⟩
                have HCc := Asd.mk hc1
                have HS11 := Asd.mk (HSq.out.chg0 hC)
                have HB11 := Asd.mk (own_off HBq.out hC (fun _ _ => by simp))
                have HM11 := Asd.mk (own_off HMq.out hC (fun _ _ => by simp))
                have HT6 := Asd.mk (sysl_list HS11.out HM.out)
                clear hc1 hC HSq HBq HMq HT5
                go_wp2_with fail
                refine HT6.out.mono ?_
                rintro e w12 ⟨⟨vk, rfl, hk1⟩, hC⟩
                have HKk := Asd.mk hk1
                have HC12 := Asd.mk (own_off HCc.out hC (fun _ _ => by simp))
                have HS12 := Asd.mk (HS11.out.chg0 hC)
                have HB12 := Asd.mk (own_off HB11.out hC (fun _ _ => by simp))
                have HM12 := Asd.mk (own_off HM11.out hC (fun _ _ => by simp))
                have HE1 := Asd.mk (same_ents (E := treeF fs []) (v1 := vb) (v2 := vc) (w := w12) (entL_of_own HB12.out) (entL_of_own HC12.out) (by rw [HNa.out]; omega))
                obtain ⟨Ab, cb, hvb, _⟩ := own_form HB12.out
                obtain ⟨Ak, ck, hvk, _⟩ := own_form HKk.out
                rw [HNa.out] at hvb
                rw [HNn.out] at hvk
                subst hvb hvk
                clear hk1 hC HS11 HB11 HM11 HCc HT6
                go_wp2_with fail
                refine HE1.out.mono ?_
                rintro e w13 ⟨rfl, hC⟩
                have HS13 := Asd.mk (HS12.out.chg0 hC)
                have HM13 := Asd.mk (own_off HM12.out hC (fun _ _ => by simp))
                have HK13 := Asd.mk (own_off HKk.out hC (fun _ _ => by simp))
                have HE2 := Asd.mk (same_texts (E := (kidsF fs []).map nb) (v1 := vm) (v2 := .slice Ak Nn ck) (w := w13) (strL_of_own (by rw [List.length_map, List.map_map]; exact HM13.out)) (strL_of_own (by rw [List.length_map, List.map_map]; exact HK13.out)) (by rw [List.length_map, HNn.out]; omega))
                clear hC HE1 HS12 HM12 HKk HC12 HB12
                go_wp2_with fail
                refine HE2.out.mono ?_
                rintro e w14 ⟨rfl, hC⟩
                have HC14 := Asd.mk (HS13.out.1.trans hC)
                clear hC HE2 HS13 HM13 HK13
                go_wp2_with fail
                refine (works_calls w14 (HM.out.chg HC14.out) (HE.out.chg HC14.out)).mono ?_
                rintro e w15 ⟨rfl, hC⟩
                have HC15 := Asd.mk (HC14.out.trans hC)
                clear hC HC14
                go_wp2
                go_ret
                exact ⟨rfl, HC15.out⟩
end Go.Proofs.YtiijbecklkccfaaGreatDoor.I
/- The reference's Name (layer 3): the walk. -/
namespace Go.Proofs.YtiijbecklkccfaaGreatDoor.I
open Go.RowKit Go.Proofs.YtiijbecklkccfaaGreatDoor.B Go.Sort
set_option linter.unusedVariables false
def nameE (s : ByteArray) : Int := if okNm s.data.toList = true then 0 else 30
theorem list_get {s : ByteArray} {i : Nat} (hi : i < s.size) : s.data.toList[i]? = some s[i] := by
  have : i < s.data.toList.length := by simpa using hi
  rw [List.getElem?_eq_getElem this]
  rfl
theorem list_size (s : ByteArray) : s.data.toList.length = s.size := by show _ = s.data.size; simp
theorem ba_tests (s : ByteArray) (l : List UInt8) : (s.toList == l) = decide (s.data.toList = l) := by
  rw [ByteArray.toList_eq]
  by_cases h : s.data.toList = l
  · rw [decide_eq_true h]; simpa using h
  · rw [decide_eq_false h]; simpa using h
set_option maxRecDepth 100000 in
set_option maxHeartbeats 16000000 in
theorem refname_calls (s : ByteArray) (w : World) (hs : s.size ≤ 4294967280) :
    Calls Tryz.prog 40 #[.string s] w fun e w' => e = .returned (.int .i64 (nameE s)) ∧ w' = w := by
  have t1 := ba_tests s []
  have t2 := ba_tests s [46]
  have t3 := ba_tests s [46, 46]
  have hl := list_size s
  by_cases h1 : s.data.toList = []
  · have HA := Asd.mk (show nameE s = 30 by unfold nameE; rw [if_neg (by unfold okNm; rw [decide_eq_true_eq]; exact fun h => h.1 h1)])
    rw [decide_eq_true h1] at t1
    clear t2 t3 h1 hl
    (go_enter Tryz.func40, Tryz.ntmps40)
    go_wp2
    go_ret
    exact ⟨by rw [HA.out]; rfl, rfl⟩
  · rw [decide_eq_false h1] at t1
    by_cases h2 : s.data.toList = [46]
    · have HA := Asd.mk (show nameE s = 30 by unfold nameE; rw [if_neg (by unfold okNm; rw [decide_eq_true_eq]; exact fun h => h.2.2.1 h2)])
      rw [decide_eq_true h2] at t2
      clear t3 h1 h2 hl
      (go_enter Tryz.func40, Tryz.ntmps40)
      go_wp2
      go_ret
      exact ⟨by rw [HA.out]; rfl, rfl⟩
    · rw [decide_eq_false h2] at t2
      by_cases h3 : s.data.toList = [46, 46]
      · have HA := Asd.mk (show nameE s = 30 by unfold nameE; rw [if_neg (by unfold okNm; rw [decide_eq_true_eq]; exact fun h => h.2.2.2.1 h3)])
        rw [decide_eq_true h3] at t3
        clear h1 h2 h3 hl
        (go_enter Tryz.func40, Tryz.ntmps40)
        go_wp2
        go_ret
        exact ⟨by rw [HA.out]; rfl, rfl⟩
      · rw [decide_eq_false h3] at t3
        by_cases h4 : 255 < s.size
        · have HA := Asd.mk (show nameE s = 30 by unfold nameE; rw [if_neg (by unfold okNm; rw [decide_eq_true_eq]; exact fun h => by have := h.2.1; omega)])
          have k1 : (255 : Int) < (s.size : Int) := by omega
          clear h1 h2 h3 hl h4
          (go_enter Tryz.func40, Tryz.ntmps40)
          go_wp2
          go_ret
          exact ⟨by rw [HA.out]; rfl, rfl⟩
        · have k1 : ¬ (255 : Int) < (s.size : Int) := by omega
          have HN := Asd.mk (show ∀ (hz : (47 : UInt8) ∉ s.data.toList ∧ (0 : UInt8) ∉ s.data.toList), nameE s = 0 from fun hz => by unfold nameE; rw [if_pos (by unfold okNm; rw [decide_eq_true_eq]; exact ⟨h1, by omega, h2, h3, hz⟩)])
          have HB := Asd.mk (show (47 : UInt8) ∈ s.data.toList ∨ (0 : UInt8) ∈ s.data.toList → nameE s = 30 from fun hz => by unfold nameE; rw [if_neg (by unfold okNm; rw [decide_eq_true_eq]; exact fun h => hz.elim h.2.2.2.2.1 h.2.2.2.2.2)])
          have HL := Asd.mk hl
          clear h1 h2 h3 hl h4
          (go_enter Tryz.func40, Tryz.ntmps40)
          go_wp2
          go_loopg [3] (s.size + 1) (fun gk v3 wx => wx = w ∧ ∃ i : Nat, i ≤ s.size ∧ gk = s.size + 1 - i ∧ v3 = .int .i64 (i : Int) ∧ Asd (∀ j, j < i → s.data.toList[j]? ≠ some 47 ∧ s.data.toList[j]? ≠ some 0))
          case atStart => exact ⟨rfl, 0, by omega, rfl, rfl, ⟨fun j hj => by omega⟩⟩
          case round =>
            obtain ⟨rfl, i, hi, rfl, rfl, HJ⟩ := hrel
            by_cases hlt : i < s.size
            · have k2 : (i : Int) < (s.size : Int) := by omega
              have hg := list_get hlt
              by_cases e1 : s[i] = 47
              · have HA := Asd.mk (HB.out (.inl (List.mem_of_getElem? (hg.trans (by rw [e1])))))
                have t5 : (((s[i].toNat : Nat) : Int) == 47) = true := by rw [e1]; rfl
                clear hg e1 HB HN HJ
                go_wp2
                go_ret
                exact ⟨by rw [HA.out]; rfl, rfl⟩
              · have t5 : (((s[i].toNat : Nat) : Int) == 47) = false := by
                  refine beq_eq_false_iff_ne.2 fun h => e1 ?_
                  apply UInt8.toNat_inj.1
                  have : s[i].toNat = 47 := by omega
                  rw [this]; rfl
                by_cases e2 : s[i] = 0
                · have HA := Asd.mk (HB.out (.inr (List.mem_of_getElem? (hg.trans (by rw [e2])))))
                  have t6 : (((s[i].toNat : Nat) : Int) == 0) = true := by rw [e2]; rfl
                  clear hg e1 e2 HB HN HJ
                  go_wp2
                  go_ret
                  exact ⟨by rw [HA.out]; rfl, rfl⟩
                · have t6 : (((s[i].toNat : Nat) : Int) == 0) = false := by
                    refine beq_eq_false_iff_ne.2 fun h => e2 ?_
                    apply UInt8.toNat_inj.1
                    have : s[i].toNat = 0 := by omega
                    rw [this]; rfl
                  have HJ2 := Asd.mk (show ∀ j, j < i + 1 → s.data.toList[j]? ≠ some 47 ∧ s.data.toList[j]? ≠ some 0 from fun j hj => by
                    rcases Nat.lt_or_ge j i with h | h
                    · exact HJ.out j h
                    · obtain rfl : j = i := by omega
                      rw [hg]
                      exact ⟨fun h => e1 (Option.some.inj h), fun h => e2 (Option.some.inj h)⟩)
                  clear hg e1 e2 HJ
                  go_wp2
                  go_roundg (s.size + 1 - (i + 1))
                  case rel => exact ⟨rfl, i + 1, by omega, by omega, by go_num, HJ2⟩
                  case measure => omega
            · have k2 : ¬ (i : Int) < (s.size : Int) := by omega
              have HA := Asd.mk (HN.out ⟨fun h => by
                obtain ⟨j, hj⟩ := List.getElem?_of_mem h
                have hjl := (List.getElem?_eq_some_iff.1 hj).1
                exact (HJ.out j (by have := HL.out; omega)).1 hj, fun h => by
                obtain ⟨j, hj⟩ := List.getElem?_of_mem h
                have hjl := (List.getElem?_eq_some_iff.1 hj).1
                exact (HJ.out j (by have := HL.out; omega)).2 hj⟩)
              clear HB HN HJ
              go_wp2
              go_ret
              exact ⟨by rw [HA.out]; rfl, rfl⟩
end Go.Proofs.YtiijbecklkccfaaGreatDoor.I
/- The law's again: a file system made anew of the entries of a tree. The walk. -/
namespace Go.Proofs.YtiijbecklkccfaaGreatDoor.I
open Go.RowKit Go.Proofs.YtiijbecklkccfaaGreatDoor.B Go.Sort
set_option linter.unusedVariables false
theorem sysl_op {w W w' : World} {L : List Nat} {t : Nat} {fs : FS} {b n : Nat} {R : Nat × FS} {e : Ending} (h : SysL w W L t fs b n) (hp : OpPost W L t b n R e w') (hk : FsOk R.2 ∧ Room R.2 b n) : e = .returned (errV R.1) ∧ ∃ L', SysL w w' L' t R.2 b n ∧ Chg L W w' ∧ ∀ i ∈ L', i ∈ L ∨ W.heap.size ≤ i := by
  obtain ⟨h1, h2, h3, h4, A, M, h5⟩ := h
  obtain ⟨he, hC, L', A', M', h6, h7⟩ := hp
  exact ⟨he, L', ⟨Chg.fresh ((h1.mono (by simp)).trans hC) h4, hk.1, hk.2, fun i hi => by
    rcases h7 i hi with h | h
    · exact h4 i h
    · exact Nat.le_trans h1.size h, A', M', h6⟩, hC, h7⟩
section
variable {w W : World} {L : List Nat} {t : Nat} {fs : FS} {b n : Nat}
theorem sysl_make (s : ByteArray) (h : SysL w W L t fs b n) (hm : MaxLenAt w) (hs : s.size ≤ 4294967280) : Calls Tryz.prog 33 #[(.pointer (some ⟨t, 0, none⟩)), .string s] W fun e w' => e = .returned (errV (makeF fs b n s).1) ∧ ∃ L', SysL w w' L' t (makeF fs b n s).2 b n ∧ Chg L W w' ∧ ∀ i ∈ L', i ∈ L ∨ W.heap.size ≤ i := by
  obtain ⟨h1, h2, h3, h4, A, M, h5⟩ := id h
  exact (make_calls L t fs b n A M s W h5 h2 h3 (hm.chg h1) hs).mono fun e w' hp => sysl_op h hp (makeF_keep h2 h3 s)
theorem sysl_create (s : ByteArray) (h : SysL w W L t fs b n) (hm : MaxLenAt w) (hs : s.size ≤ 4294967280) : Calls Tryz.prog 30 #[(.pointer (some ⟨t, 0, none⟩)), .string s] W fun e w' => e = .returned (errV (createF fs b n s).1) ∧ ∃ L', SysL w w' L' t (createF fs b n s).2 b n ∧ Chg L W w' ∧ ∀ i ∈ L', i ∈ L ∨ W.heap.size ≤ i := by
  obtain ⟨h1, h2, h3, h4, A, M, h5⟩ := id h
  exact (create_calls L t fs b n A M s W h5 h2 h3 (hm.chg h1) hs).mono fun e w' hp => sysl_op h hp (createF_keep h2 h3 s)
theorem sysl_append (s z : ByteArray) (h : SysL w W L t fs b n) (hm : MaxLenAt w) (hs : s.size ≤ 4294967280) (hz : z.size ≤ 4294967280) : Calls Tryz.prog 31 #[(.pointer (some ⟨t, 0, none⟩)), .string s, .string z] W fun e w' => e = .returned (errV (appendF fs b s z).1) ∧ ∃ L', SysL w w' L' t (appendF fs b s z).2 b n ∧ Chg L W w' ∧ ∀ i ∈ L', i ∈ L ∨ W.heap.size ≤ i := by
  obtain ⟨h1, h2, h3, h4, A, M, h5⟩ := id h
  exact (append_calls L t fs b n A M s z W h5 h2 h3 (hm.chg h1) hs hz).mono fun e w' hp => sysl_op h hp (appendF_keep h2 h3 s z)
theorem sysl_link (g s : ByteArray) (h : SysL w W L t fs b n) (hm : MaxLenAt w) (hs : s.size ≤ 4294967280) : Calls Tryz.prog 38 #[(.pointer (some ⟨t, 0, none⟩)), .string g, .string s] W fun e w' => e = .returned (errV (linkF fs b n g s).1) ∧ ∃ L', SysL w w' L' t (linkF fs b n g s).2 b n ∧ Chg L W w' ∧ ∀ i ∈ L', i ∈ L ∨ W.heap.size ≤ i := by
  obtain ⟨h1, h2, h3, h4, A, M, h5⟩ := id h
  exact (link_calls L t fs b n A M g s W h5 h2 h3 (hm.chg h1) hs).mono fun e w' hp => sysl_op h hp (linkF_keep h2 h3 g s)
end
theorem ent_cells {w : World} {A : Option Addr} {n c : Nat} {E : List Ent} (h : EntL w (.slice A n c) E) {i : Nat} (hi : i < E.length) : ∃ g, A = some ⟨g, 0, none⟩ ∧
    w.cell? ⟨g, i * 3, none⟩ = some (.string (E[i]'hi).1) ∧ w.cell? ⟨g, i * 3 + 1, none⟩ = some (.int .i64 ((E[i]'hi).2.1 : Int)) ∧ w.cell? ⟨g, i * 3 + 2, none⟩ = some (.string (E[i]'hi).2.2) := by
  obtain ⟨A', c', hv, h1⟩ := h
  have e : A = A' := by simp only [Value.slice.injEq] at hv; exact hv.1
  subst e
  exact h1 i hi
theorem EntL.chg {w w' : World} {v : Value} {E : List Ent} (h : EntL w v E) (hC : Chg [] w w') : EntL w' v E := by
  obtain ⟨A, c, hv, h1⟩ := h
  have mv : ∀ {p : Addr} {u : Value}, w.cell? p = some u → w'.cell? p = some u := fun h => (hC.below.cell (World.block_lt_of_cell? w _ h)).trans h
  refine ⟨A, c, hv, fun i hi => ?_⟩
  obtain ⟨g, a, b, c, d⟩ := h1 i hi
  exact ⟨g, a, mv b, mv c, mv d⟩
set_option maxRecDepth 100000 in
set_option maxHeartbeats 16000000 in
theorem again_calls (bb nn : Nat) (A0 : Option Addr) (c N : Nat) (E : List Ent) (F : FS) (w : World) (hm : MaxLenAt w) (hE : EntL w (.slice A0 N c) E) (hN : E.length = N) (hNz : N ≤ 200000) (hz : ∀ x ∈ E, x.1.size ≤ 4294967280 ∧ x.2.2.size ≤ 4294967280) (hr : runsF bb nn E [] = some F) (hbb : bb ≤ 2147483647) (hnn : nn ≤ 65536) :
    Calls Tryz.prog 17 #[.agg #[.int .i64 (bb : Int), .int .i64 (nn : Int)], .slice A0 N c] w fun e w' => ∃ t L, e = .returned (.tuple #[(.pointer (some ⟨t, 0, none⟩)), .bool true]) ∧ SysL w w' L t F bb nn := by
  have HC := Asd.mk (show Chg [] w (w.alloc (.cells #[.int .i64 (bb : Int), .int .i64 (nn : Int)] 23)) from (Chg.refl _ _).alloc _)
  have hB := hp_new w (.cells #[.int .i64 (bb : Int), .int .i64 (nn : Int)] 23)
  have b0 := cell_of_heap hB 0
  have b1 := cell_of_heap hB 1
  have HNw := Asd.mk (sysl_new bb nn w (w.alloc (.cells #[.int .i64 (bb : Int), .int .i64 (nn : Int)] 23)) HC.out hbb hnn)
  have HM := Asd.mk hm
  have HEn := Asd.mk hE
  have HNe := Asd.mk hN
  have HZ := Asd.mk hz
  have HR := Asd.mk (show runsF bb nn (E.drop 0) [] = some F from hr)
  clear hB hm hE hN hz hr
  (go_enter Tryz.func17, Tryz.ntmps17)
  go_wp2_with fail
  refine HNw.out.mono ?_
  rintro e w1 ⟨t, L1, rfl, hS, _, _⟩
  have HS := Asd.mk hS
  clear hS HNw b0 b1 HC
  go_wp2_with fail
  go_loopg [8] (N + 1) (fun gk v8 wx => ∃ (i : Nat) (L : List Nat) (f : FS), i ≤ N ∧ gk = N + 1 - i ∧ v8 = .int .i64 (i : Int) ∧ Asd (SysL w wx L t f bb nn) ∧ Asd (runsF bb nn (E.drop i) f = some F))
  case atStart => exact ⟨0, L1, [], by omega, rfl, rfl, HS, HR⟩
  case round =>
    obtain ⟨i, L, f, hi, rfl, rfl, HS, HR⟩ := hrel
    by_cases hlt : i < N
    · have k1 : (i : Int) < (N : Int) := by omega
      have hil : i < E.length := by rw [HNe.out]; exact hlt
      obtain ⟨P, kd, Z, hx⟩ : ∃ P kd Z, E[i] = (P, kd, Z) := ⟨_, _, _, rfl⟩
      obtain ⟨g, rfl, c0, c1, c2⟩ := ent_cells (HEn.out.chg HS.out.1) hil
      rw [hx] at c0 c1 c2
      have hd := HR.out
      rw [List.drop_eq_getElem_cons hil, hx] at hd
      simp only [runsF] at hd
      have hs0 : (stepF bb nn f (P, kd, Z)).1 = 0 := by
        by_cases h : (stepF bb nn f (P, kd, Z)).1 = 0
        · exact h
        · rw [if_neg h] at hd; cases hd
      rw [if_pos hs0] at hd
      have HD := Asd.mk hd
      have HS0 := Asd.mk hs0
      obtain ⟨zP, zZ⟩ := HZ.out E[i] (List.getElem_mem hil)
      rw [hx] at zP zZ
      clear hd hs0 HR hx hil
      go_upto_region 8 with fail
      refine wp_opaque2 (fun V hV => ?_)
      have HCV := Asd.mk (show Chg [] wr V by rw [hV]; exact (Chg.refl _ _).alloc _)
      have hBV : V.heap[wr.heap.size]? = some (.cells #[.string P, .int .i64 (kd : Int), .string Z] 41 (0, 0)) := by rw [hV]; exact hp_new _ _
      have HBV := Asd.mk hBV
      have HBn := Asd.mk (show wr.heap.size ∉ L from fun h => by have := HS.out.lt _ h; omega)
      obtain ⟨B, hBq⟩ : ∃ B, wr.heap.size = B := ⟨_, rfl⟩
      rw [hBq] at hBV HBV HBn ⊢
      have e0 := cell_of_heap hBV 0
      have e1 := cell_of_heap hBV 1
      have e2 := cell_of_heap hBV 2
      have HSV := Asd.mk (HS.out.chg0 HCV.out)
      have t1 := ba_tests P []
      have hPl := list_size P
      clear hV hBq hBV HS c0 c1 c2
      by_cases h0 : P.size = 0
      · have hp0 : P.data.toList = [] := List.eq_nil_of_length_eq_zero (by omega)
        rw [decide_eq_true hp0] at t1
        have HDn := Asd.mk (show runsF bb nn (E.drop (i + 1)) f = some F by
          have h := HD.out
          rw [show stepF bb nn f (P, kd, Z) = (0, f) by unfold stepF; rw [if_pos h0]] at h
          exact h)
        clear h0 hp0 hPl HD HS0
        go_wp2_with fail
        go_roundg (N + 1 - (i + 1))
        case rel => exact ⟨i + 1, L, f, by omega, by omega, by go_num, HSV, HDn⟩
        case measure => omega
      · have hp0 : ¬ P.data.toList = [] := fun e => by rw [e] at hPl; exact h0 hPl.symm
        rw [decide_eq_false hp0] at t1
        clear hp0 hPl
        by_cases h2 : kd = 2
        · have HSt := Asd.mk (show stepF bb nn f (P, kd, Z) = makeF f bb nn P by unfold stepF; rw [if_neg h0, if_pos h2])
          rw [HSt.out] at HD HS0
          have h1 := sysl_make P HSV.out HM.out zP
          rw [HS0.out] at h1
          have H1 := Asd.mk h1
          subst h2
          clear h0 h1 HS0 HSt
          go_wp2_with fail
          refine H1.out.mono ?_
          rintro e w4 ⟨rfl, L', hS, _, _⟩
          have HSn := Asd.mk hS
          clear hS H1
          simp only [errV, if_true]
          go_wp2_with fail
          go_roundg (N + 1 - (i + 1))
          case rel => exact ⟨i + 1, L', _, by omega, by omega, by go_num, HSn, HD⟩
          case measure => omega
        · have k2 : ¬ (kd : Int) = 2 := by omega
          by_cases h3 : kd = 3
          · have HSt := Asd.mk (show stepF bb nn f (P, kd, Z) = linkF f bb nn Z P by unfold stepF; rw [if_neg h0, if_neg h2, if_pos h3])
            rw [HSt.out] at HD HS0
            have h1 := sysl_link Z P HSV.out HM.out zP
            rw [HS0.out] at h1
            have H1 := Asd.mk h1
            subst h3
            clear h0 h1 HS0 HSt h2
            go_wp2_with fail
            refine H1.out.mono ?_
            rintro e w4 ⟨rfl, L', hS, _, _⟩
            have HSn := Asd.mk hS
            clear hS H1
            simp only [errV, if_true]
            go_wp2_with fail
            go_roundg (N + 1 - (i + 1))
            case rel => exact ⟨i + 1, L', _, by omega, by omega, by go_num, HSn, HD⟩
            case measure => omega
          · have k3 : ¬ (kd : Int) = 3 := by omega
            have hSt : stepF bb nn f (P, kd, Z) = if (createF f bb nn P).1 = 0 then appendF (createF f bb nn P).2 bb P Z else createF f bb nn P := by unfold stepF; rw [if_neg h0, if_neg h2, if_neg h3]
            have hc0 : (createF f bb nn P).1 = 0 := by
              by_cases h : (createF f bb nn P).1 = 0
              · exact h
              · have := HS0.out
                rw [hSt, if_neg h] at this
                exact this
            rw [if_pos hc0] at hSt
            have HSt := Asd.mk hSt
            rw [HSt.out] at HD HS0
            have h1 := sysl_create P HSV.out HM.out zP
            rw [hc0] at h1
            have H1 := Asd.mk h1
            clear h0 h1 h2 h3 hSt hc0
            go_wp2_with fail
            refine H1.out.mono ?_
            rintro e w4 ⟨rfl, L', hS, hCL, hL'⟩
            have hB4 := hCL.heap HBV.out HBn.out
            have h1 := sysl_append P Z hS HM.out zP zZ
            rw [HS0.out] at h1
            have H2 := Asd.mk h1
            have e0 := cell_of_heap hB4 0
            have e2 := cell_of_heap hB4 2
            clear hS H1 hCL hL' h1 hB4
            simp only [errV, if_true]
            go_wp2_with fail
            refine H2.out.mono ?_
            rintro e w5 ⟨rfl, L'', hS, _, _⟩
            have HSn := Asd.mk hS
            clear hS H2
            simp only [errV, if_true]
            go_wp2_with fail
            go_roundg (N + 1 - (i + 1))
            case rel => exact ⟨i + 1, L'', _, by omega, by omega, by go_num, HSn, HD⟩
            case measure => omega
    · have k1 : ¬ (i : Int) < (N : Int) := by omega
      have hF : f = F := by
        have := HR.out
        rw [List.drop_eq_nil_of_le (by have := HNe.out; omega)] at this
        exact Option.some.inj this
      subst hF
      clear HR
      go_wp2_with fail
      go_ret2
      exact ⟨t, rfl, L, HS.out⟩
end Go.Proofs.YtiijbecklkccfaaGreatDoor.I
