/- Merged out of these texts: Own, OpsOpen. -/
import Derived.Test.YtiijbecklkccfaaGreatDoorOw12
import Derived.Test.YtiijbecklkccfaaGreatDoorRows
import Derived.ChangeSame
import Derived.ChangeArms
import Derived.SliceStrings
/- The law InodeOwn: the walk. -/
namespace Go.Proofs.YtiijbecklkccfaaGreatDoor.I
open Go.RowKit Go.Proofs.YtiijbecklkccfaaGreatDoor.B Go.Sort
set_option linter.unusedVariables false
theorem chg_app {w w' : World} {row : Option Nat} {ob : Obj} (h : (w.alloc ob).grownBy w' row) : Chg row.toList w w' := (((Chg.refl [] w).alloc ob).mono (by simp)).trans (chg_grown h)
theorem same_ents {E : List Ent} {v1 v2 : Value} {w : World} (h1 : EntL w v1 E) (h2 : EntL w v2 E) (hz : E.length ≤ 16777216) : Calls Tryz.prog 14 #[v1, v2] w fun e w' => e = .returned (.bool true) ∧ Chg [] w w' := by
  have h := sameEntries_calls E E v1 v2 w h1 h2 hz hz
  have e : decide (E = E) = true := decide_eq_true rfl
  rw [e] at h
  exact h
theorem same_texts {E : List ByteArray} {v1 v2 : Value} {w : World} (h1 : StrL w v1 E) (h2 : StrL w v2 E) (hz : E.length ≤ 16777216) : Calls Tryz.prog 20 #[v1, v2] w fun e w' => e = .returned (.bool true) ∧ Chg [] w w' := by
  have h := sameTexts_calls E E v1 v2 w h1 h2 hz hz
  have e : decide (E = E) = true := decide_eq_true rfl
  rw [e] at h
  exact h
theorem off_list {v v' : Value} (h : ∀ g g', v.ownBlock = some g → v'.ownBlock = some g' → g ≠ g') : Off v v'.ownBlock.toList := fun g hg hi => by
  cases hv : v'.ownBlock with
  | none => rw [hv] at hi; simp at hi
  | some g' =>
    rw [hv] at hi
    simp at hi
    exact h g g' hg hv hi
theorem sys_off {w W W' : World} {L : List Nat} {t : Nat} {fs : FS} {by' nd : Nat} {v : Value} (h : SysL w W L t fs by' nd) (hC : Chg v.ownBlock.toList W W') (hO : Off v L) (hv : ∀ g, v.ownBlock = some g → w.heap.size ≤ g) : SysL w W' L t fs by' nd := by
  refine h.chg hC (fun i hi hk => ?_) (fun i hk => ?_)
  · cases hb : v.ownBlock with
    | none => rw [hb] at hk; simp at hk
    | some g =>
      rw [hb] at hk
      simp at hk
      subst hk
      exact hO i hb hi
  · cases hb : v.ownBlock with
    | none => rw [hb] at hk; simp at hk
    | some g =>
      rw [hb] at hk
      simp at hk
      subst hk
      exact hv i hb
set_option maxRecDepth 100000 in
set_option maxHeartbeats 32000000 in
theorem inodeown_calls (sp : Option Addr) (n cap : Nat) (O : Nat → OpV) (w : World) (hO : OpsAt w sp n O) (hn : n ≤ 1048576) (hm : MaxLenAt w) (he : ErrType w) :
    Calls Tryz.prog 5 #[.slice sp n cap] w fun e w' => e = .returned (.bool true) ∧ Chg [] w w' := by
  have HM := Asd.mk hm
  have HE := Asd.mk he
  have HO := Asd.mk hO
  have H0 := Asd.mk (sysl_new 2147483647 1000 w w (Chg.refl _ _) (by omega) (by omega))
  clear hm he hO
  (go_enter Tryz.func5, Tryz.ntmps5)
  go_wp2_with fail
  refine H0.out.mono ?_
  rintro e w1 ⟨t, L1, rfl, hS, _, _⟩
  have HS := Asd.mk hS
  clear hS H0
  go_wp2_with fail
  go_loopg [5] 41 (fun gk v5 wx => ∃ (i : Nat) (L : List Nat) (fs : FS), i ≤ 40 ∧ gk = 41 - i ∧ v5 = .int .i64 (i : Int) ∧ Asd (SysL w wx L t fs 2147483647 1000))
  case atStart => exact ⟨0, L1, [], by omega, rfl, rfl, HS⟩
  case round =>
    obtain ⟨i, L, fs, hi, rfl, rfl, HS⟩ := hrel
    go_upto_region 5 with fail
    go_cut [37] from 30 to 37 (fun v37 wx => wr = wx ∧ ∃ c : Bool, v37 = .bool c ∧ Asd (c = true → i < n ∧ i < 40))
    case first =>
      by_cases h1 : i < n
      · have k1 : (i : Int) < (n : Int) := by omega
        by_cases h2 : i < 40
        · have k2 : (i : Int) < 40 := by omega
          go_wp2
          go_meet
          case rel => exact ⟨rfl, true, rfl, ⟨fun _ => ⟨h1, h2⟩⟩⟩
        · have k2 : ¬ (i : Int) < 40 := by omega
          go_wp2
          go_meet
          case rel => exact ⟨rfl, false, rfl, ⟨fun h => by cases h⟩⟩
      · have k1 : ¬ (i : Int) < (n : Int) := by omega
        go_wp2
        go_meet
        case rel => exact ⟨rfl, false, rfl, ⟨fun h => by cases h⟩⟩
    case rest =>
      obtain ⟨rfl, c, rfl, HR⟩ := hcut
      cases c with
      | true =>
        obtain ⟨hin, hi40⟩ := HR.out rfl
        obtain ⟨a, rfl, o0, o1, o2, z1, z2⟩ := (HO.out.chg HS.out.1) i hin
        have HD := Asd.mk (sysl_done (O i).kind (O i).a (O i).b HS.out HM.out (by omega) (by omega))
        have k1 : (i : Int) < (n : Int) := by omega
        have p0 : wr.cell? ((a.add (i * 3)).add 0) = some (.int .i64 (O i).kind) := by rw [Go.Deep.add_add]; exact o0
        have p1 : wr.cell? ((a.add (i * 3)).add 1) = some (.string (O i).a) := by rw [Go.Deep.add_add]; exact o1
        have p2 : wr.cell? ((a.add (i * 3)).add 2) = some (.string (O i).b) := by rw [Go.Deep.add_add]; exact o2
        have P012 := Asd.mk (And.intro p0 (And.intro p1 p2))
        clear o0 o1 o2 z1 z2 p0 p1 p2 HR
        go_wp2_with (refine wpList_load_op rfl (.tmp 43) rfl (a.add (i * 3)) rfl _ _ _ P012.out.1 P012.out.2.1 P012.out.2.2 ?_)
        refine HD.out.mono ?_
        rintro e w4 ⟨rfl, L', hS, _, _⟩
        have HS4 := Asd.mk hS
        clear hS HD HS P012
        go_wp2_with fail
        go_roundg (41 - (i + 1))
        case rel => exact ⟨i + 1, L', _, by omega, rfl, by go_num, HS4⟩
        case measure => omega
      | false =>
        clear HR HO
        have HT1 := Asd.mk (sysl_tree HS.out HM.out)
        go_wp2_with fail
        refine HT1.out.mono ?_
        rintro e w4 ⟨⟨va, rfl, hA⟩, hC⟩
        have HA := Asd.mk (And.intro hA (off_new hA HS.out.lt))
        have HS4 := Asd.mk (HS.out.chg0 hC)
        have HT2 := Asd.mk (sysl_tree HS4.out HM.out)
        clear hA hC HT1
        go_wp2_with fail
        refine HT2.out.mono ?_
        rintro e w5 ⟨⟨vb, rfl, hB⟩, hC⟩
        have HB := Asd.mk (And.intro hB (off_new hB HS4.out.lt))
        have HA5 := Asd.mk (And.intro (own_off HA.out.1 hC (fun _ _ => by simp)) HA.out.2)
        have HS5 := Asd.mk (HS4.out.chg0 hC)
        have HT3 := Asd.mk (sysl_list HS5.out HM.out)
        have HZ5 := Asd.mk hC.size
        clear hB hC HT2
        go_wp2_with fail
        refine HT3.out.mono ?_
        rintro e w6 ⟨⟨vn, rfl, hN⟩, hC⟩
        have HN := Asd.mk (And.intro hN (off_new hN HS5.out.lt))
        have HA6 := Asd.mk (And.intro (own_off HA5.out.1 hC (fun _ _ => by simp)) HA5.out.2)
        have HB6 := Asd.mk (And.intro (own_off HB.out.1 hC (fun _ _ => by simp)) HB.out.2)
        have HS6 := Asd.mk (HS5.out.chg0 hC)
        have HT4 := Asd.mk (sysl_list HS6.out HM.out)
        have HZ6 := Asd.mk hC.size
        clear hN hC HT3 HA5
        go_wp2_with fail
        refine HT4.out.mono ?_
        rintro e w7 ⟨⟨vm, rfl, hM⟩, hC⟩
        have HMm := Asd.mk (And.intro hM (off_new hM HS6.out.lt))
        have HA7 := Asd.mk (And.intro (own_off HA6.out.1 hC (fun _ _ => by simp)) HA6.out.2)
        have HB7 := Asd.mk (And.intro (own_off HB6.out.1 hC (fun _ _ => by simp)) HB6.out.2)
        have HN7 := Asd.mk (And.intro (own_off HN.out.1 hC (fun _ _ => by simp)) HN.out.2)
        have HS7 := Asd.mk (HS6.out.chg0 hC)
        clear hM HT4 HA6 HB6
        have HLa := Asd.mk (show ∀ g, va.ownBlock = some g → w.heap.size ≤ g ∧ g < w4.heap.size from fun g hg => by
          obtain ⟨h1, cur, h2⟩ := own_block HA.out.1 hg
          exact ⟨Nat.le_trans HS.out.1.size h1, lt_of_heap h2⟩)
        have HLb := Asd.mk (show ∀ g, vb.ownBlock = some g → w4.heap.size ≤ g ∧ g < w5.heap.size from fun g hg => by
          obtain ⟨h1, cur, h2⟩ := own_block HB.out.1 hg
          exact ⟨h1, lt_of_heap h2⟩)
        have HLn := Asd.mk (show ∀ g, vn.ownBlock = some g → w5.heap.size ≤ g ∧ g < w6.heap.size from fun g hg => by
          obtain ⟨h1, cur, h2⟩ := own_block HN.out.1 hg
          exact ⟨h1, lt_of_heap h2⟩)
        have HLm := Asd.mk (show ∀ g, vm.ownBlock = some g → w6.heap.size ≤ g from fun g hg => (own_block HMm.out.1 hg).1)
        have HZ := Asd.mk (show w.heap.size ≤ w4.heap.size ∧ w4.heap.size ≤ w5.heap.size ∧ w5.heap.size ≤ w6.heap.size ∧ w6.heap.size ≤ w7.heap.size from ⟨HS4.out.1.size, HZ5.out, HZ6.out, hC.size⟩)
        obtain ⟨Na, hNa⟩ : ∃ N, (treeF fs []).length = N := ⟨_, rfl⟩
        obtain ⟨Nn, hNn⟩ : ∃ N, (kidsF fs []).length = N := ⟨_, rfl⟩
        have hNa2 : Na ≤ 200000 := by
          have := treeL_len HS7.out.2.1 (m := 65) (p := []) (by rw [at_root]; simp)
          have := HS7.out.2.2.1.n
          have := HS7.out.2.2.1.count
          rw [← hNa]
          show (treeL fs 65 []).length ≤ _
          omega
        obtain ⟨Aa, ca, hva, hca⟩ := own_form HA7.out.1
        obtain ⟨An, cn, hvn, hcn⟩ := own_form HN7.out.1
        rw [hNa] at hva hca
        rw [hNn] at hvn hcn
        obtain ⟨ba, hba⟩ : ∃ b, wr.heap.size = b := ⟨_, rfl⟩
        have HXa := Asd.mk (show ∃ xs, w7.ownsRow ba 41 3 (.slice Aa Na ca) Na xs from ⟨_, by rw [← hva, ← hNa, ← hba]; exact HA7.out.1⟩)
        have HXn := Asd.mk (show ∃ xs, w7.ownsRow w5.heap.size 9 1 (.slice An Nn cn) Nn xs from ⟨_, by rw [← hvn, ← hNn]; exact HN7.out.1⟩)
        have HOa := Asd.mk (show Off (.slice Aa Na ca) L by rw [← hva]; exact HA7.out.2)
        have HOn := Asd.mk (show Off (.slice An Nn cn) L by rw [← hvn]; exact HN7.out.2)
        have HBM := Asd.mk (And.intro HB7.out HMm.out)
        have hNn2 : Nn ≤ 200000 := by
          have h1 := nodup_len' (m := fs.map (·.1)) (l := (kidsF fs []).map fun k => [] ++ [k]) (List.pairwise_map.2 ((nodup_kidsF HS7.out.2.1.nodup []).imp fun h e => h (snoc_inj e).2)) (fun r hr => by
            obtain ⟨k, hk, rfl⟩ := List.mem_map.1 hr
            exact (at_mem (by simp)).1 (mem_kidsF.1 hk))
          have := HS7.out.2.2.1.n
          have := HS7.out.2.2.1.count
          rw [List.length_map, List.length_map, hNn] at h1
          omega
        rw [hva] at HLa
        rw [hvn] at HLn
        obtain ⟨s4, hs4⟩ : ∃ s, w4.heap.size = s := ⟨_, rfl⟩
        obtain ⟨s5, hs5⟩ : ∃ s, w5.heap.size = s := ⟨_, rfl⟩
        obtain ⟨s6, hs6⟩ : ∃ s, w6.heap.size = s := ⟨_, rfl⟩
        rw [hs4] at HLa HLb HZ HBM
        rw [hs5] at HLb HLn HZ HXn
        rw [hs6] at HLn HLm HZ HBM
        have HNa := Asd.mk hNa
        have HNn := Asd.mk hNn
        rw [hva, hvn]
        clear HS4 HS5 HS6 HA HB HN HA7 HB7 HN7 HMm HZ5 HZ6 hC hba hs4 hs5 hs6 hNa hNn hva hvn HS
        go_wp2_with fail
        go_loopg [14] (Na + 1) (fun gk v14 wx => ∃ i : Nat, i ≤ Na ∧ gk = Na + 1 - i ∧ v14 = .int .i64 (i : Int) ∧ Asd (Chg (Value.slice Aa Na ca).ownBlock.toList w7 wx) ∧ Asd (∃ xs, wx.ownsRow ba 41 3 (.slice Aa Na ca) Na xs))
        case atStart => exact ⟨0, by omega, rfl, rfl, ⟨Chg.refl _ _⟩, HXa⟩
        case round =>
          obtain ⟨i2, hi2, rfl, rfl, HC2, HX2⟩ := hrel
          by_cases hlt : i2 < Na
          · have k1 : (i2 : Int) < (Na : Int) := by omega
            obtain ⟨xs, hxs⟩ := HX2.out
            obtain ⟨g, cur, rfl, hbg, hcg, hsz⟩ := own_cells hxs (by omega)
            have HT := Asd.mk (there_row hcg (o := i2 * 3) (n := 3) (by omega))
            have HW := Asd.mk (own_write hxs (i2 * 3) [.string ⟨#[115, 112, 111, 105, 108, 116]⟩, .int .i64 0, .string ⟨#[]⟩])
            clear hxs hcg hsz
            go_wp2_with (refine wpList_store_mid rfl 41 (.tmp 75) (.tmp 74) rfl g (i2 * 3) #[.string ⟨#[115, 112, 111, 105, 108, 116]⟩, .int .i64 0, .string ⟨#[]⟩] rfl rfl HT.out (size_entry _ _ _) (one_entry _ _ _) ?_)
            go_roundg (Na + 1 - (i2 + 1))
            case rel => exact ⟨i2 + 1, by omega, by omega, by go_num, ⟨Chg.setCells (fun _ => by simp [Value.ownBlock]) _ _ _ HC2.out⟩, HW⟩
            case measure => omega
          · have k1 : ¬ (i2 : Int) < (Na : Int) := by omega
            have HSy := Asd.mk (sys_off HS7.out HC2.out HOa.out (fun g hg => (HLa.out g hg).1))
            have HN2 := Asd.mk (show ∃ xs, _ from by
              obtain ⟨xs, h⟩ := HXn.out
              exact ⟨xs, own_off h HC2.out (off_list fun g g' h1 h2 => by have := (HLn.out g h1).1; have := (HLa.out g' h2).2; have := HZ.out; omega)⟩)
            have HB2 := Asd.mk (own_off HBM.out.1.1 HC2.out (off_list fun g g' h1 h2 => by have := (HLb.out g h1).1; have := (HLa.out g' h2).2; omega))
            have HM2 := Asd.mk (own_off HBM.out.2.1 HC2.out (off_list fun g g' h1 h2 => by have := HLm.out g h1; have := (HLa.out g' h2).2; have := HZ.out; omega))
            have HA2 := HX2
            have HZw := Asd.mk HC2.out.size
            clear HX2 HXn HC2 HS7 HXa hlt
            go_wp2_with fail
            obtain ⟨wy, hwy⟩ : ∃ W, wr = W := ⟨_, rfl⟩
            rw [hwy] at HSy HN2 HB2 HM2 HA2 HZw ⊢
            clear hwy
            go_loopg [15] (Nn + 1) (fun gk v15 wx => ∃ i : Nat, i ≤ Nn ∧ gk = Nn + 1 - i ∧ v15 = .int .i64 (i : Int) ∧ Asd (Chg (Value.slice An Nn cn).ownBlock.toList wy wx) ∧ Asd (∃ xs, wx.ownsRow s5 9 1 (.slice An Nn cn) Nn xs))
            case atStart => exact ⟨0, by omega, rfl, rfl, ⟨Chg.refl _ _⟩, HN2⟩
            case round =>
              obtain ⟨i3, hi3, rfl, rfl, HC3, HX3⟩ := hrel
              by_cases hlt : i3 < Nn
              · have k1 : (i3 : Int) < (Nn : Int) := by omega
                obtain ⟨xs, hxs⟩ := HX3.out
                obtain ⟨g, cur, rfl, hbg, hcg, hsz⟩ := own_cells hxs (by omega)
                have HW := Asd.mk (own_write hxs i3 [.string ⟨#[115, 112, 111, 105, 108, 116]⟩])
                have f1 := frozen_of_heap hcg i3
                have c1 : wr.cell? ⟨g, i3, none⟩ = some (cur[i3]'(by omega)) := by rw [cell_of_heap hcg, Array.getElem?_eq_getElem (by omega)]
                obtain ⟨u, hu⟩ : ∃ u, cur[i3]'(by omega) = u := ⟨_, rfl⟩
                rw [hu] at c1
                clear hxs hcg hsz hu
                go_wp2_with fail
                go_roundg (Nn + 1 - (i3 + 1))
                case rel => exact ⟨i3 + 1, by omega, by omega, by go_num, ⟨HC3.out.setCell (fun _ => by simp [Value.ownBlock]) _⟩, HW⟩
                case measure => omega
              · have k1 : ¬ (i3 : Int) < (Nn : Int) := by omega
                have HSz := Asd.mk (sys_off HSy.out HC3.out HOn.out (fun g hg => by have := (HLn.out g hg).1; have := HZ.out; omega))
                obtain ⟨xa, hxa⟩ := HA2.out
                obtain ⟨xn, hxn⟩ := HX3.out
                have HA3 := Asd.mk (own_off hxa HC3.out (off_list fun g g' h1 h2 => by have := (HLa.out g h1).2; have := (HLn.out g' h2).1; have := HZ.out; omega))
                have HN3 := Asd.mk hxn
                have HB3 := Asd.mk (own_off HB2.out HC3.out (off_list fun g g' h1 h2 => by have := (HLb.out g h1).2; have := (HLn.out g' h2).1; omega))
                have HM3 := Asd.mk (own_off HM2.out HC3.out (off_list fun g g' h1 h2 => by have := HLm.out g h1; have := (HLn.out g' h2).2; omega))
                have hsz3 : s6 ≤ wr.heap.size := by have := HC3.out.size; have := HZw.out; have := HZ.out; omega
                have hba : ba ≤ s4 ∨ Na = 0 := by
                  rcases hxa.2 with ⟨_, h0⟩ | ⟨g, cap, cur, hv, hb, hg, hr⟩
                  · exact .inr h0
                  · exact .inl (by have := (HLa.out g (by rw [hv]; rfl)).2; omega)
                have hNpos : 0 < Na := by
                  rw [← HNa.out]
                  show 0 < (treeL fs 65 []).length
                  rw [treeL_succ]; simp
                have HBa := Asd.mk (show ba ≤ wr.heap.size by have := HZ.out; rcases hba with h | h <;> omega)
                have HS5 := Asd.mk (show s5 ≤ wr.heap.size by have := HZ.out; omega)
                clear hxa hxn HX3 HC3 HSy HB2 HM2 HA2 hlt hba hNpos
                go_wp2_with (first
                  | (refine wpList_build_ent rfl (⟨#[]⟩, 0, ⟨#[]⟩) (.tmp 86) rfl rfl wr.heap.size rfl ?_; simp only [Act.put, List.setIfInBounds_toArray, List.set_cons_zero, List.set_cons_succ])
                  | (at_builtin; refine wpList_append_entx rfl (⟨#[]⟩, 0, ⟨#[]⟩) (.tmp 85) (.tmp 87) rfl ba (.slice Aa Na ca) Na xa rfl (HA3.out.alloc _) wr.heap.size rfl (hp_new _ _) (by omega) (Nat.le_trans HBa.out ((Chg.refl [] wr).alloc _).size) ?_; intro ga' ca' w9 hown9 hgrow9; have HG9 := Asd.mk (chg_app hgrow9); clear hown9 hgrow9; simp only [Act.put, List.setIfInBounds_toArray, List.set_cons_zero, List.set_cons_succ])
                  | (refine wpList_buildStr rfl ⟨#[109, 111, 114, 101]⟩ w9.heap.size rfl _ rfl rfl ?_; simp only [Act.put, List.setIfInBounds_toArray, List.set_cons_zero, List.set_cons_succ])
                  | (at_builtin; refine wpList_append_strx rfl ⟨#[109, 111, 114, 101]⟩ (.tmp 89) (.tmp 90) rfl s5 (.slice An Nn cn) Nn xn rfl ((own_off HN3.out HG9.out (off_list fun g g' h1 h2 => by have := (HLn.out g h1).1; have := (HLa.out g' h2).2; have := HZ.out; omega)).alloc _) w9.heap.size rfl (hp_new _ _) (by omega) (Nat.le_trans HS5.out (Nat.le_trans HG9.out.size ((Chg.refl [] w9).alloc _).size)) ?_; intro gn' cn' w10 hown10 hgrow10; have HG10 := Asd.mk (chg_app hgrow10); clear hown10 hgrow10; simp only [Act.put, List.setIfInBounds_toArray, List.set_cons_zero, List.set_cons_succ]))
                have HSq := Asd.mk (sys_off (sys_off HSz.out HG9.out HOa.out (fun g hg => (HLa.out g hg).1)) HG10.out HOn.out (fun g hg => by have := (HLn.out g hg).1; have := HZ.out; omega))
                have HBq := Asd.mk (own_off (own_off HB3.out HG9.out (off_list fun g g' h1 h2 => by have := (HLb.out g h1).1; have := (HLa.out g' h2).2; omega)) HG10.out (off_list fun g g' h1 h2 => by have := (HLb.out g h1).2; have := (HLn.out g' h2).1; omega))
                have HMq := Asd.mk (own_off (own_off HM3.out HG9.out (off_list fun g g' h1 h2 => by have := HLm.out g h1; have := (HLa.out g' h2).2; have := HZ.out; omega)) HG10.out (off_list fun g g' h1 h2 => by have := HLm.out g h1; have := (HLn.out g' h2).2; omega))
                have HT5 := Asd.mk (sysl_tree HSq.out HM.out)
                clear HSz HB3 HM3 HG9 HG10 HA3 HN3
                refine HT5.out.mono ?_
                rintro e w11 ⟨⟨vc, rfl, hc1⟩, hC⟩
                have HCc := Asd.mk hc1
                have HS11 := Asd.mk (HSq.out.chg0 hC)
                have HB11 := Asd.mk (own_off HBq.out hC (fun _ _ => by simp))
                have HM11 := Asd.mk (own_off HMq.out hC (fun _ _ => by simp))
                have HT6 := Asd.mk (sysl_list HS11.out HM.out)
                clear hc1 hC HSq HBq HMq HT5
                go_wp2_with fail
                refine HT6.out.mono ?_
                rintro e w12 ⟨⟨vk, rfl, hk1⟩, hC⟩
                have HKk := Asd.mk hk1
                have HC12 := Asd.mk (own_off HCc.out hC (fun _ _ => by simp))
                have HS12 := Asd.mk (HS11.out.chg0 hC)
                have HB12 := Asd.mk (own_off HB11.out hC (fun _ _ => by simp))
                have HM12 := Asd.mk (own_off HM11.out hC (fun _ _ => by simp))
                have HE1 := Asd.mk (same_ents (E := treeF fs []) (v1 := vb) (v2 := vc) (w := w12) (entL_of_own HB12.out) (entL_of_own HC12.out) (by rw [HNa.out]; omega))
                obtain ⟨Ab, cb, hvb, _⟩ := own_form HB12.out
                obtain ⟨Ak, ck, hvk, _⟩ := own_form HKk.out
                rw [HNa.out] at hvb
                rw [HNn.out] at hvk
                subst hvb hvk
                clear hk1 hC HS11 HB11 HM11 HCc HT6
                go_wp2_with fail
                refine HE1.out.mono ?_
                rintro e w13 ⟨rfl, hC⟩
                have HS13 := Asd.mk (HS12.out.chg0 hC)
                have HM13 := Asd.mk (own_off HM12.out hC (fun _ _ => by simp))
                have HK13 := Asd.mk (own_off HKk.out hC (fun _ _ => by simp))
                have HE2 := Asd.mk (same_texts (E := (kidsF fs []).map nb) (v1 := vm) (v2 := .slice Ak Nn ck) (w := w13) (strL_of_own (by rw [List.length_map, List.map_map]; exact HM13.out)) (strL_of_own (by rw [List.length_map, List.map_map]; exact HK13.out)) (by rw [List.length_map, HNn.out]; omega))
                clear hC HE1 HS12 HM12 HKk HC12 HB12
                go_wp2_with fail
                refine HE2.out.mono ?_
                rintro e w14 ⟨rfl, hC⟩
                have HC14 := Asd.mk (HS13.out.1.trans hC)
                clear hC HE2 HS13 HM13 HK13
                go_wp2_with fail
                refine (works_calls w14 (HM.out.chg HC14.out) (HE.out.chg HC14.out)).mono ?_
                rintro e w15 ⟨rfl, hC⟩
                have HC15 := Asd.mk (HC14.out.trans hC)
                clear hC HC14
                go_wp2
                go_ret
                exact ⟨rfl, HC15.out⟩
end Go.Proofs.YtiijbecklkccfaaGreatDoor.I
/- The argument that is a list of calls, out of a row's reading. -/
namespace Go.Proofs.YtiijbecklkccfaaGreatDoor.I
open Go.ChangeShapes Go.WideShapes Go.ChangeAt Go.RowKit Go.Proofs.YtiijbecklkccfaaGreatDoor.B Go.Deep
set_option linter.unusedVariables false
theorem cells_op : Tryz.prog.cellsOf 36 = 3 := by kernel_rfl
theorem cells_i : Tryz.prog.cellsOf 3 = 1 := by kernel_rfl
theorem cells_s : Tryz.prog.cellsOf 9 = 1 := by kernel_rfl
section
variable {H : Type} {enc : TypeId × Value → H} {w : World} {base : Nat} {spare : Nat → Bool} {held : Bool}
set_option maxRecDepth 100000 in
theorem op_of_cells {n : Nat} {cs : List Value} {x : DataW H × List MemPlace} (h : DataW.trod enc Tryz.prog w base spare held n 36 cs = some x) :
    ∃ (k : Int) (a b : ByteArray), cs = [.int .i64 k, .string a, .string b] ∧ x.1 = .agg [.lit (.int .i64 k), .lit (.string a.data.toList), .lit (.string b.data.toList)] := by
  obtain ⟨xs, m, _, rfl, hl, hxl, hf⟩ := DataW.trod_struct Tryz.underlying36 h
  rw [cells_op] at hl
  match xs, hxl, cs, hl with
  | [y0, y1, y2], _, [v0, v1, v2], _ =>
    have g0 : DataW.trod enc Tryz.prog w base spare held m 3 (([v0, v1, v2].drop 0).take (Tryz.prog.cellsOf 3)) = some y0 := hf 0 _ rfl
    have g1 : DataW.trod enc Tryz.prog w base spare held m 9 (([v0, v1, v2].drop 1).take (Tryz.prog.cellsOf 9)) = some y1 := hf 1 _ rfl
    have g2 : DataW.trod enc Tryz.prog w base spare held m 9 (([v0, v1, v2].drop 2).take (Tryz.prog.cellsOf 9)) = some y2 := hf 2 _ rfl
    rw [cells_i] at g0
    rw [cells_s] at g1 g2
    obtain ⟨k, e0, rfl, _⟩ := DataW.trod_int Tryz.underlying3 g0
    obtain ⟨a, e1, rfl, _⟩ := DataW.trod_string Tryz.underlying9 g1
    obtain ⟨b, e2, rfl, _⟩ := DataW.trod_string Tryz.underlying9 g2
    have e0' : [v0] = [Value.int .i64 k] := e0
    have e1' : [v1] = [Value.string a] := e1
    have e2' : [v2] = [Value.string b] := e2
    simp only [List.cons.injEq, and_true] at e0' e1' e2'
    exact ⟨k, a, b, by rw [e0', e1', e2'], rfl⟩
theorem bulk_map {n : Nat} {D : Nat → DataW H} {i : Nat} (hi : i < n) : Rows.uptoBulk (D i) ≤ Rows.uptoBulkAll ((List.range n).map D) ∧ n ≤ Rows.uptoBulkAll ((List.range n).map D) := by
  have pos : ∀ d : DataW H, 1 ≤ Rows.uptoBulk d := fun d => by
    cases d with
    | lit l => cases l <;> simp only [Rows.uptoBulk] <;> omega
    | _ => simp only [Rows.uptoBulk] <;> omega
  have all : ∀ l : List (DataW H), l.length ≤ Rows.uptoBulkAll l := fun l => by
    induction l with
    | nil => simp
    | cons d l ih =>
      simp only [Rows.uptoBulkAll, List.length_cons]
      have := pos d
      omega
  have mem : ∀ (l : List (DataW H)) (d : DataW H), d ∈ l → Rows.uptoBulk d ≤ Rows.uptoBulkAll l := fun l d hd => by
    induction l with
    | nil => cases hd
    | cons e l ih =>
      simp only [Rows.uptoBulkAll]
      rcases List.mem_cons.1 hd with rfl | h
      · omega
      · have := ih h; omega
  exact ⟨mem _ _ (List.mem_map.2 ⟨i, List.mem_range.2 hi, rfl⟩), by have := all ((List.range n).map D); simpa using this⟩
/-- A list of calls, read out of a row. -/
theorem open_ops {fuel : Nat} {cs : List Value} {x : DataW H × List MemPlace} (h : DataW.trod enc Tryz.prog w base spare held fuel 24 cs = some x) (hb : Rows.uptoBulk x.1 ≤ 1048576) :
    ∃ sp n cap O, cs = [.slice sp n cap] ∧ n ≤ 1048576 ∧ OpsAt w sp n O := by
  rcases open_slice Tryz.underlying24 h with ⟨rfl, _⟩ | ⟨a, len, cap, m, nn, D, Pl, rfl, _, hl, hm, hmm, rfl, hx⟩
  · exact ⟨none, 0, 0, fun _ => ⟨0, ⟨#[]⟩, ⟨#[]⟩⟩, rfl, by omega, fun i hi => by omega⟩
  · have hlm : len ≤ m := by rw [hmm]; split <;> omega
    have each : ∀ i, i < len → ∃ o : OpV, w.cell? (a.add (i * 3)) = some (.int .i64 o.kind) ∧ w.cell? (a.add (i * 3 + 1)) = some (.string o.a) ∧ w.cell? (a.add (i * 3 + 2)) = some (.string o.b) ∧ o.a.size ≤ 1048576 ∧ o.b.size ≤ 1048576 := fun i hi => by
      obtain ⟨cs', h1, h2⟩ := hx i (by omega)
      obtain ⟨k, s, z, rfl, e⟩ := op_of_cells h2
      rw [cells_op] at h1
      obtain ⟨_, _, hcell⟩ := World.cells?_some h1
      have c0 := hcell 0 (by omega)
      have c1 := hcell 1 (by omega)
      have c2 := hcell 2 (by omega)
      rw [Go.Deep.add_add] at c0 c1 c2
      have hbi := (bulk_map (D := D) hi).1
      have e' : D i = .agg [.lit (.int .i64 k), .lit (.string s.data.toList), .lit (.string z.data.toList)] := e
      rw [e'] at hbi
      simp only [Rows.uptoBulk, Rows.uptoBulkAll] at hbi hb
      have es : s.data.toList.length = s.size := by simp
      have ez : z.data.toList.length = z.size := by simp
      exact ⟨⟨k, s, z⟩, by simpa using c0, by simpa using c1, by simpa using c2, by show s.size ≤ _; omega, by show z.size ≤ _; omega⟩
    refine ⟨some a, len, cap, fun i => if h : i < len then Classical.choose (each i h) else ⟨0, ⟨#[]⟩, ⟨#[]⟩⟩, rfl, ?_, fun i hi => ⟨a, rfl, ?_⟩⟩
    rotate_left
    · simp only [dif_pos hi]
      exact Classical.choose_spec (each i hi)
    by_cases h0 : len = 0
    · omega
    · have := (bulk_map (D := D) (n := len) (i := 0) (by omega)).2
      simp only [Rows.uptoBulk] at hb
      omega
end
end Go.Proofs.YtiijbecklkccfaaGreatDoor.I
