/- The law InodeBack: the walk. -/
import Derived.Test.YtiijbecklkccfaaGreatDoorOw16
import Derived.Test.YtiijbecklkccfaaGreatDoorOw13
namespace Go.Proofs.YtiijbecklkccfaaGreatDoor.I
open Go.RowKit Go.Proofs.YtiijbecklkccfaaGreatDoor.B Go.Sort
set_option linter.unusedVariables false
/-- A file system, its clone that goes on, and a row of the first's entries. -/
def Two (w W : World) (L Lc : List Nat) (t c : Nat) (fs g : FS) (v : Value) : Prop := SysL w W L t fs 2147483647 1000 ∧ SysL w W Lc c g 2147483647 1000 ∧ (∀ i ∈ L, i ∉ Lc) ∧ ∃ b, RowE W b v (treeF fs []) ∧ Off v L ∧ Off v Lc
theorem Two.chg0 {w W W' : World} {L Lc : List Nat} {t c : Nat} {fs g : FS} {v : Value} (h : Two w W L Lc t c fs g v) (hC : Chg [] W W') : Two w W' L Lc t c fs g v := by
  obtain ⟨h1, h2, h3, b, h4, h5, h6⟩ := h
  exact ⟨h1.chg0 hC, h2.chg0 hC, h3, b, own_off h4 hC (fun _ _ => by simp), h5, h6⟩
theorem Two.op {w W W' : World} {L Lc L' : List Nat} {t c : Nat} {fs g g' : FS} {v : Value} (h : Two w W L Lc t c fs g v) (hC : Chg Lc W W') (hS : SysL w W' L' c g' 2147483647 1000) (hL : ∀ i ∈ L', i ∈ Lc ∨ W.heap.size ≤ i) : Two w W' L L' t c fs g' v := by
  obtain ⟨h1, h2, h3, b, h4, h5, h6⟩ := h
  refine ⟨h1.chg hC h3 h2.2.2.2.1, hS, fun i hi hi' => ?_, b, own_off h4 hC h6, h5, off_next h4 h6 hL⟩
  rcases hL i hi' with h | h
  · exact h3 i hi h
  · have := h1.lt i hi; omega
section
variable {w W : World} {L : List Nat} {t : Nat} {fs : FS} {b n : Nat}
theorem sysl_rename (x y : ByteArray) (h : SysL w W L t fs b n) (hm : MaxLenAt w) (hx : x.size ≤ 4294967280) (hy : y.size ≤ 4294967280) : Calls Tryz.prog 28 #[(.pointer (some ⟨t, 0, none⟩)), .string x, .string y] W fun e w' => e = .returned (errV (renameF fs x y).1) ∧ ∃ L', SysL w w' L' t (renameF fs x y).2 b n ∧ Chg L W w' ∧ ∀ i ∈ L', i ∈ L ∨ W.heap.size ≤ i := by
  obtain ⟨h1, h2, h3, h4, A, M, h5⟩ := id h
  exact (rename_calls L t fs b n A M x y W h5 h2 h3 (hm.chg h1) hx hy).mono fun e w' hp => sysl_op h hp (renameF_keep h2 h3 x y)
theorem sysl_remove (s : ByteArray) (h : SysL w W L t fs b n) (hm : MaxLenAt w) (hs : s.size ≤ 4294967280) : Calls Tryz.prog 29 #[(.pointer (some ⟨t, 0, none⟩)), .string s] W fun e w' => e = .returned (errV (removeF fs s).1) ∧ ∃ L', SysL w w' L' t (removeF fs s).2 b n ∧ Chg L W w' ∧ ∀ i ∈ L', i ∈ L ∨ W.heap.size ≤ i := by
  obtain ⟨h1, h2, h3, h4, A, M, h5⟩ := id h
  exact (remove_calls L t fs b n A M s W h5 h2 h3 (hm.chg h1) hs).mono fun e w' hp => sysl_op h hp (removeF_keep h2 h3 s)
theorem sysl_look (s : ByteArray) (h : SysL w W L t fs b n) (hm : MaxLenAt w) (hs : s.size ≤ 4294967280) : Calls Tryz.prog 27 #[(.pointer (some ⟨t, 0, none⟩)), .string s] W fun e w' => e = .returned (.tuple #[entV (lookF fs s).2, errV (lookF fs s).1]) ∧ Chg [] W w' := by
  obtain ⟨h1, h2, h3, h4, A, M, h5⟩ := h
  exact look_calls L t fs b n A M s W h5 h2 (hm.chg h1) hs
end
set_option maxRecDepth 100000 in
set_option maxHeartbeats 32000000 in
theorem inodeback_calls (sp : Option Addr) (n cap : Nat) (O : Nat → OpV) (x y : ByteArray) (w : World) (hO : OpsAt w sp n O) (hn : n ≤ 1048576) (hx : x.size ≤ 4294967280) (hy : y.size ≤ 4294967280) (hm : MaxLenAt w) (he : ErrType w) :
    Calls Tryz.prog 8 #[.slice sp n cap, .string x, .string y] w fun e w' => e = .returned (.bool true) ∧ Chg [] w w' := by
  have HM := Asd.mk hm
  have HE := Asd.mk he
  have HO := Asd.mk hO
  have HXY := Asd.mk (And.intro hx hy)
  have H0 := Asd.mk (sysl_new 2147483647 1000 w w (Chg.refl _ _) (by omega) (by omega))
  clear hm he hO hx hy
  (go_enter Tryz.func8, Tryz.ntmps8)
  go_wp2_with fail
  refine H0.out.mono ?_
  rintro e w1 ⟨t, L1, rfl, hS, _, _⟩
  have HS := Asd.mk hS
  clear hS H0
  go_wp2_with fail
  go_loopg [9] 41 (fun gk v9 wx => ∃ (i : Nat) (L : List Nat) (fs : FS), i ≤ 40 ∧ gk = 41 - i ∧ v9 = .int .i64 (i : Int) ∧ Asd (SysL w wx L t fs 2147483647 1000))
  case atStart => exact ⟨0, L1, [], by omega, rfl, rfl, HS⟩
  case round =>
    obtain ⟨i, L, fs, hi, rfl, rfl, HS⟩ := hrel
    go_upto_region 5 with fail
    go_cut [38] from 31 to 38 (fun v38 wx => wr = wx ∧ ∃ c : Bool, v38 = .bool c ∧ Asd (c = true → i < n ∧ i < 40))
    case first =>
      by_cases h1 : i < n
      · have k1 : (i : Int) < (n : Int) := by omega
        by_cases h2 : i < 40
        · have k2 : (i : Int) < 40 := by omega
          go_wp2
          go_meet
          case rel => exact ⟨rfl, true, rfl, ⟨fun _ => ⟨h1, h2⟩⟩⟩
        · have k2 : ¬ (i : Int) < 40 := by omega
          go_wp2
          go_meet
          case rel => exact ⟨rfl, false, rfl, ⟨fun h => by cases h⟩⟩
      · have k1 : ¬ (i : Int) < (n : Int) := by omega
        go_wp2
        go_meet
        case rel => exact ⟨rfl, false, rfl, ⟨fun h => by cases h⟩⟩
    case rest =>
      obtain ⟨rfl, c, rfl, HRc⟩ := hcut
      cases c with
      | true =>
        obtain ⟨hin, hi40⟩ := HRc.out rfl
        obtain ⟨a, rfl, o0, o1, o2, z1, z2⟩ := (HO.out.chg HS.out.1) i hin
        have HD := Asd.mk (sysl_done (O i).kind (O i).a (O i).b HS.out HM.out (by omega) (by omega))
        have k1 : (i : Int) < (n : Int) := by omega
        have P012 := Asd.mk (show wr.cell? ((a.add (i * 3)).add 0) = some (.int .i64 (O i).kind) ∧ wr.cell? ((a.add (i * 3)).add 1) = some (.string (O i).a) ∧ wr.cell? ((a.add (i * 3)).add 2) = some (.string (O i).b) from ⟨by rw [Go.Deep.add_add]; exact o0, by rw [Go.Deep.add_add]; exact o1, by rw [Go.Deep.add_add]; exact o2⟩)
        clear o0 o1 o2 z1 z2 HRc
        go_wp2_with (refine wpList_load_op rfl (.tmp 44) rfl (a.add (i * 3)) rfl _ _ _ P012.out.1 P012.out.2.1 P012.out.2.2 ?_)
        refine HD.out.mono ?_
        rintro e w4 ⟨rfl, L', hS, _, _⟩
        have HS4 := Asd.mk hS
        clear hS HD HS P012
        go_wp2_with fail
        go_roundg (41 - (i + 1))
        case rel => exact ⟨i + 1, L', _, by omega, rfl, by go_num, HS4⟩
        case measure => omega
      | false =>
        clear HRc HO
        have HT1 := Asd.mk (sysl_tree HS.out HM.out)
        go_wp2_with fail
        refine HT1.out.mono ?_
        rintro e w4 ⟨⟨v, rfl, hR⟩, hC⟩
        have HS4 := Asd.mk (HS.out.chg0 hC)
        have hOf := off_new hR HS.out.lt
        obtain ⟨A, cp, hv, hc⟩ := own_form hR
        obtain ⟨N, hN⟩ : ∃ N, (treeF fs []).length = N := ⟨_, rfl⟩
        have hNc : N = fs.length + 1 := by rw [← hN]; exact tree_count HS.out.2.1
        have hNz : fs.length ≤ 1000 := HS.out.2.2.1.count
        rw [hN] at hv
        subst hv
        have HR4 := Asd.mk (And.intro hR hOf)
        have HNN := Asd.mk (And.intro hN (And.intro hNc hNz))
        have HCl := Asd.mk (sysl_clone HS4.out)
        clear hR hC hc hOf hN hNc hNz HT1
        go_wp2_with fail
        refine HCl.out.mono ?_
        rintro e w5 ⟨c, Lc, rfl, hU, hC, hLc⟩
        have HT5 := Asd.mk (show Two w w5 L Lc t c fs fs (.slice A N cp) from ⟨HS4.out.chg0 hC, hU, fun i hi h => by have := HS4.out.lt i hi; have := hLc i h; omega, _, own_off HR4.out.1 hC (fun _ _ => by simp), HR4.out.2, fun q hq hm => by
          obtain ⟨_, cur, hh⟩ := own_block HR4.out.1 hq
          have := lt_of_heap hh
          have := hLc q hm
          omega⟩)
        have HLk := Asd.mk (sysl_look y HT5.out.1 HM.out HXY.out.2)
        clear hU hC hLc HCl HS4 HR4 HS
        go_wp2_with fail
        refine HLk.out.mono ?_
        rintro e w6 ⟨rfl, hC⟩
        obtain ⟨R, hR⟩ : ∃ R, (lookF fs y).1 = R := ⟨_, rfl⟩
        obtain ⟨s1, hs1⟩ : ∃ s, (lookF fs y).2.1 = s := ⟨_, rfl⟩
        obtain ⟨i1, hi1⟩ : ∃ s, (lookF fs y).2.2.1 = s := ⟨_, rfl⟩
        obtain ⟨s2, hs2⟩ : ∃ s, (lookF fs y).2.2.2 = s := ⟨_, rfl⟩
        rw [show entV (lookF fs y).2 = .agg #[.string s1, .int .i64 (i1 : Int), .string s2] by unfold entV; rw [hs1, hi1, hs2], hR]
        obtain ⟨ev, hev⟩ : ∃ ev, errV R = ev := ⟨_, rfl⟩
        rw [hev]
        have HEv := Asd.mk (show (R = 0 ∧ ev = .nilIface) ∨ (R ≠ 0 ∧ ev = .iface 71 (.int .i64 (R : Int))) by
          by_cases hz : R = 0
          · exact .inl ⟨hz, by rw [← hev, hz]; rfl⟩
          · exact .inr ⟨hz, by rw [← hev]; unfold errV; rw [if_neg hz]⟩)
        have HRq := Asd.mk hR
        have HT6 := Asd.mk (HT5.out.chg0 hC)
        clear hC HLk HT5 hs1 hi1 hs2 hR hev
        go_upto_region 13 with fail
        refine wp_opaque2 (fun V hV => ?_)
        have HTV := Asd.mk (HT6.out.chg0 (show Chg [] w6 V by rw [hV]; exact (Chg.refl _ _).alloc _))
        clear hV HT6
        go_cut [71] from 62 to 71 (fun v71 wx => ∃ (k : Bool) (g : FS) (Lc : List Nat), v71 = .bool k ∧ Asd (Two w wx L Lc t c fs g (.slice A N cp)) ∧ Asd (k = true → (renameF fs x y).1 = 0 ∧ g = (renameF fs x y).2 ∧ (lookF fs y).1 = 200))
        case first =>
          have h1 := sysl_rename x y HTV.out.2.1 HM.out HXY.out.1 HXY.out.2
          obtain ⟨Q, hQ⟩ : ∃ Q, renameF fs x y = Q := ⟨_, rfl⟩
          rw [hQ] at h1
          have H1 := Asd.mk h1
          have HQ := Asd.mk hQ
          clear h1 hQ
          go_wp2_with fail
          refine H1.out.mono ?_
          rintro e w7 ⟨rfl, L', hS, hCL, hL'⟩
          have HT7 := Asd.mk (HTV.out.op hCL hS hL')
          clear H1 hS hCL hL' HTV
          by_cases hz : Q.1 = 0
          · rw [show errV Q.1 = .nilIface by rw [hz]; rfl]
            have HZ0 := Asd.mk hz
            clear hz
            rcases HEv.out with ⟨hz, rfl⟩ | ⟨hz, rfl⟩
            · clear HEv
              have HN1 := Asd.mk (fun W => num_nil W)
              go_wp2_with fail
              refine (HN1.out _).mono ?_
              rintro e w8 ⟨rfl, hw⟩
              have hw' := hw.symm
              subst hw'
              clear hw
              go_wp2
              go_meet
              case rel => exact ⟨false, _, _, rfl, HT7, ⟨fun h => by cases h⟩⟩
            · clear HEv hz
              have HN1 := Asd.mk (num_errno (R : Int) w7 (HE.out.chg HT7.out.1.1))
              go_wp2_with fail
              refine HN1.out.mono ?_
              rintro e w8 ⟨rfl, hC⟩
              have HT8 := Asd.mk (HT7.out.chg0 hC)
              clear hC HN1 HT7
              by_cases h2 : R = 200
              · have k2 : (R : Int) = 200 := by omega
                have k3 : decide ((R : Int) = 200) = true := decide_eq_true k2
                have k4 : ((R : Int) == 200) = true := by simp [k2]
                have HR2 := Asd.mk (show (lookF fs y).1 = 200 by rw [HRq.out]; exact h2)
                clear h2 k2
                go_wp2
                go_meet
                case rel => exact ⟨true, _, _, rfl, HT8, ⟨fun _ => by rw [HQ.out]; exact ⟨HZ0.out, rfl, HR2.out⟩⟩⟩
              · have k2 : ¬ (R : Int) = 200 := by omega
                have k3 : decide ((R : Int) = 200) = false := decide_eq_false k2
                have k4 : ((R : Int) == 200) = false := by simp [k2]
                clear h2
                go_wp2
                go_meet
                case rel => exact ⟨false, _, _, rfl, HT8, ⟨fun h => by cases h⟩⟩
          · rw [show errV Q.1 = .iface 71 (.int .i64 (Q.1 : Int)) by unfold errV; rw [if_neg hz]]
            clear HEv hz
            go_wp2_with fail
            go_meet
            case rel => exact ⟨false, _, _, rfl, HT7, ⟨fun h => by cases h⟩⟩
        case rest =>
          obtain ⟨k, g, Lc, rfl, HT, HK⟩ := hcut
          go_upto_if 71 with fail
          go_cut [15, 16, 17, 18] from 72 to 97 (fun v15 v16 v17 v18 wx => ∃ (g : FS) (Lc : List Nat), Asd (Two w wx L Lc t c fs g (.slice A N cp)))
          case first =>
            cases k with
            | false =>
              go_wp2_with fail
              go_meet
              case rel => exact ⟨g, Lc, HT⟩
            | true =>
              obtain ⟨hz, rfl, hlk⟩ := HK.out rfl
              have HBk := Asd.mk (back_ok HT.out.1.2.1 HT.out.1.2.2.1 hz hlk)
              have HT1 := Asd.mk (sysl_tree HT.out.2.1 HM.out)
              clear HK hz hlk
              obtain ⟨G, hG⟩ : ∃ G, (renameF fs x y).2 = G := ⟨_, rfl⟩
              rw [hG] at HT HBk HT1
              clear hG
              go_wp2_with fail
              refine HT1.out.mono ?_
              rintro e w7 ⟨⟨v, rfl, hR⟩, hC⟩
              have HT7 := Asd.mk (HT.out.chg0 hC)
              obtain ⟨A2, cp2, hv, _⟩ := own_form hR
              have hl : (treeF G []).length = N := by rw [show treeF G [] = treeF0 G from rfl, tree_count HT.out.2.1.2.1, HBk.out.1, HNN.out.2.1]
              rw [hl] at hv
              subst hv
              have h1 := sysl_rename y x HT7.out.2.1 HM.out HXY.out.2 HXY.out.1
              rw [HBk.out.2.1] at h1
              have H1 := Asd.mk h1
              clear hR hC hl HT HT1 h1
              go_wp2_with fail
              refine H1.out.mono ?_
              rintro e w8 ⟨rfl, L', hS, hCL, hL'⟩
              have HT8 := Asd.mk (HT7.out.op hCL hS hL')
              have HT2 := Asd.mk (sysl_tree HT8.out.2.1 HM.out)
              clear H1 hS hCL hL' HT7
              simp only [errV, if_true]
              go_wp2_with fail
              refine HT2.out.mono ?_
              rintro e w9 ⟨⟨v, rfl, hR⟩, hC⟩
              have HT9 := Asd.mk (HT8.out.chg0 hC)
              have hq : treeF (renameF G y x).2 [] = treeF fs [] := HBk.out.2.2.tree
              rw [hq] at hR
              obtain ⟨_, _, _, b, hb, _, _⟩ := HT9.out
              have HSm := Asd.mk (same_ents (entL_of_own hR) (entL_of_own hb) (by have := HNN.out; omega))
              clear hR hC hq hb HT2 HT8
              go_wp2_with fail
              refine HSm.out.mono ?_
              rintro e w10 ⟨rfl, hC⟩
              have HT10 := Asd.mk (HT9.out.chg0 hC)
              clear hC HSm HT9
              go_wp2
              go_meet
              case rel => exact ⟨_, _, HT10⟩
          case rest =>
            obtain ⟨g, Lc, HT⟩ := hcut
            have H1 := Asd.mk (sysl_remove x HT.out.2.1 HM.out HXY.out.1)
            clear HK
            go_wp2_with fail
            refine H1.out.mono ?_
            rintro e w7 ⟨rfl, L', hS, hCL, hL'⟩
            have HT7 := Asd.mk (HT.out.op hCL hS hL')
            have H2 := Asd.mk (sysl_create y HT7.out.2.1 HM.out HXY.out.2)
            clear H1 hS hCL hL' HT
            go_wp2_with fail
            refine H2.out.mono ?_
            rintro e w8 ⟨rfl, L', hS, hCL, hL'⟩
            have HT8 := Asd.mk (HT7.out.op hCL hS hL')
            have H3 := Asd.mk (sysl_append y ⟨#[109, 111, 114, 101]⟩ HT8.out.2.1 HM.out HXY.out.2 (by decide))
            clear H2 hS hCL hL' HT7
            go_wp2_with fail
            refine H3.out.mono ?_
            rintro e w9 ⟨rfl, L', hS, hCL, hL'⟩
            have HT9 := Asd.mk (HT8.out.op hCL hS hL')
            have H4 := Asd.mk (sysl_tree HT9.out.1 HM.out)
            clear H3 hS hCL hL' HT8
            go_wp2_with fail
            refine H4.out.mono ?_
            rintro e w10 ⟨⟨v, rfl, hR⟩, hC⟩
            have HT10 := Asd.mk (HT9.out.chg0 hC)
            obtain ⟨_, _, _, b, hb, _, _⟩ := HT10.out
            have HSm := Asd.mk (same_ents (entL_of_own hR) (entL_of_own hb) (by have := HNN.out; omega))
            clear hR hC hb H4 HT9
            go_wp2_with fail
            refine HSm.out.mono ?_
            rintro e w11 ⟨rfl, hC⟩
            have HC11 := Asd.mk (HT10.out.1.1.trans hC)
            clear hC HSm HT10
            go_wp2_with fail
            refine (works_calls _ (HM.out.chg HC11.out) (HE.out.chg HC11.out)).mono ?_
            rintro e w3 ⟨rfl, hC⟩
            have HC3 := Asd.mk (HC11.out.trans hC)
            clear hC HC11
            go_wp2
            go_ret
            exact ⟨rfl, HC3.out⟩
end Go.Proofs.YtiijbecklkccfaaGreatDoor.I
