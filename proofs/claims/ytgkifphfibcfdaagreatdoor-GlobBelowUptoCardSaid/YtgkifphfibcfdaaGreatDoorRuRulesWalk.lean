/- GlobRules: the walk. -/
import Derived.Test.YtgkifphfibcfdaaGreatDoorRuPIgn
import Derived.Test.YtgkifphfibcfdaaGreatDoorRu10
import Derived.Test.YtgkifphfibcfdaaGreatDoorRu9
namespace Go.Proofs.YtgkifphfibcfdaaGreatDoor.G
open Go.RowKit Go.Proofs.YtgkifphfibcfdaaGreatDoor.B Go.Sort
set_option linter.unusedVariables false
theorem lines_one {s p : ByteArray} (hs : s.size ≤ 1048576) (h : p ∈ spl 10 s) : p.size ≤ 1048576 := by
  have := spl_size h
  omega
theorem rules_small {s : ByteArray} {rs : List RuleV} (h : readL (spl 10 s) 0 = .ok rs) (hs : s.size ≤ 4194304) (hl : ∀ p ∈ spl 10 s, p.size ≤ 1048576) : (∀ r ∈ rs, WFR r) ∧ rs.length ≤ 16777216 := by
  have h1 := readL_len h
  have h2 := (spl_len 10 s).2
  exact ⟨readL_wf h hl, by omega⟩
/-- The program's Ignored at what Read has left. -/
theorem pign_at {w1 : World} {gp : Nat} {v : Value} {X : List XR} {rs : List RuleV} (hg : w1.heap[gp]? = some (.cells #[v] 83 (0, 0))) (hown : ∃ b, w1.ownsRow b 87 4 v X.length (xcells X)) (hx : ∀ x ∈ X, PXH w1 x) (hX : X.map (·.r) = rs) (hwf : ∀ r ∈ rs, WFR r) (hl : rs.length ≤ 16777216)
    (path : ByteArray) (hp : path.size ≤ 2097152) (dir : Bool) (W : World) (hc : Chg [] w1 W) : Calls Tryz.prog 24 #[.pointer (some ⟨gp, 0, none⟩), .string path, .bool dir] W fun e w' => e = .returned (.bool (ignoredP rs path dir)) ∧ Chg [] W w' := by
  obtain ⟨b, hown⟩ := hown
  subst hX
  exact pignored_calls gp b v X path dir W (hc.heap hg (by simp)) (own_keeps hown (Keeps.of_chg (T := []) hc) (by simp)) (fun x hx' => (hx x hx').keeps (Keeps.of_chg (T := []) hc) (by simp) (by simp) (by simp)) (fun x hx' => hwf x.r (List.mem_map_of_mem hx')) hp (by rw [List.length_map] at hl; exact hl)
/-- The reference's Ignored at what Read has left. -/
theorem rign_at {w1 : World} {b : Nat} {v : Value} {X : List XR} {rs : List RuleV} (hown : w1.ownsRow b 93 4 v X.length (xcells X)) (hx : ∀ x ∈ X, XRH w1 x) (hX : X.map (·.r) = rs) (hwf : ∀ r ∈ rs, WFR r) (hl : rs.length ≤ 16777216)
    (path : ByteArray) (hp : path.size ≤ 1048576) (dir : Bool) (W : World) (hc : Chg [] w1 W) : Calls Tryz.prog 25 #[v, .string path, .bool dir] W fun e w' => e = .returned (.bool (ignoredP rs path dir)) ∧ Chg [] W w' := by
  subst hX
  exact rignored_calls X v b path dir W (own_keeps hown (Keeps.of_chg (T := []) hc) (by simp)) (fun x hx' => (hx x hx').keeps (Keeps.of_chg (T := []) hc) (by simp) (by simp)) (fun x hx' => hwf x.r (List.mem_map_of_mem hx')) hp (by rw [List.length_map] at hl; exact hl)
set_option maxRecDepth 100000 in
set_option maxHeartbeats 16000000 in
theorem globrules_calls (text : ByteArray) (sp : Option Addr) (n cap : Nat) (S : Nat → ByteArray) (w : World) (hE : ErrType w) (hM : MaxLenAt w) (hS : StrsAt w sp n S) (hn : n ≤ 9223372036854775806) (ht : text.size ≤ 1048576) :
    Calls Tryz.prog 10 #[.string text, .slice sp n cap] w fun e w' => e = .returned (.bool true) ∧ Chg [] w w' := by
  have HE := Asd.mk hE
  have HS := Asd.mk hS
  have hP := read_calls text w hM (by omega) (fun p hp => lines_one ht hp)
  have hR := fun W => rread_calls text W ht
  have hsm := fun rs (h : readL (spl 10 text) 0 = .ok rs) => rules_small h (by omega) (fun p hp => lines_one ht hp)
  rw [readL_lines] at hP
  simp only [readL_lines] at hsm
  obtain ⟨R, hRR⟩ : ∃ R, readL (linesS text) 0 = R := ⟨_, rfl⟩
  simp only [hRR] at hP hR hsm
  clear hE hS hM hRR
  cases R with
  | error x =>
    obtain ⟨i, m⟩ := x
    have HP := Asd.mk hP
    have HR := Asd.mk hR
    clear hP hR hsm
    go_enter Tryz.func10, Tryz.ntmps10
    go_wp2_with fail
    refine HP.out.mono ?_
    rintro e w1 ⟨hC1, rfl⟩
    have HC1 := Asd.mk hC1
    clear hC1 HP
    go_wp2_with fail
    refine (HR.out w1).mono ?_
    rintro e w2 ⟨hC2, rfl, hm⟩
    have HC2 := Asd.mk (HC1.out.trans hC2)
    clear hC2 HR
    have ti : ((i : Int) != (i : Int)) = false := by simp
    go_wp2_with fail
    refine (num_errno m w2 (HE.out.chg HC2.out)).mono ?_
    rintro e w3 ⟨rfl, hC3⟩
    have HC3 := Asd.mk (HC2.out.trans hC3)
    clear hC3
    have tm : ((m : Int) != (m : Int)) = false := by simp
    have tm0 : ((m : Int) != 0) = true := by simp; omega
    go_wp2
    go_loopg [11] 1 (fun gk v11 wx => v11 = .int .i64 0 ∧ gk = 1 ∧ Asd (Chg [] w wx))
    case atStart => exact ⟨rfl, rfl, HC3⟩
    case round =>
      obtain ⟨rfl, rfl, HC7⟩ := hrel
      by_cases h0 : 0 < n
      · have k0 : (0 : Int) < (n : Int) := by omega
        go_wp2_with fail
        refine (works_calls wr (HE.out.chg HC7.out)).mono ?_
        rintro e w5 ⟨rfl, hC5⟩
        have HC5 := Asd.mk (HC7.out.trans hC5)
        clear hC5
        go_wp2
        go_ret
        exact ⟨rfl, HC5.out⟩
      · obtain rfl : n = 0 := by omega
        go_wp2_with fail
        refine (works_calls wr (HE.out.chg HC7.out)).mono ?_
        rintro e w5 ⟨rfl, hC5⟩
        have HC5 := Asd.mk (HC7.out.trans hC5)
        clear hC5
        go_wp2
        go_ret
        exact ⟨rfl, HC5.out⟩
  | ok rs =>
    obtain ⟨hwf, hlen⟩ := hsm rs rfl
    have HP := Asd.mk hP
    have HR := Asd.mk hR
    have HWF := Asd.mk hwf
    clear hP hR hsm hwf
    go_enter Tryz.func10, Tryz.ntmps10
    go_wp2_with fail
    refine HP.out.mono ?_
    rintro e w1 ⟨hC1, gp, v, X, rfl, hg, hown, hx, hX⟩
    have HI := Asd.mk (fun (path : ByteArray) (hp : path.size ≤ 2097152) (dir : Bool) (W : World) (hc : Chg [] w1 W) => pign_at hg hown hx hX HWF.out hlen path hp dir W hc)
    have HC1 := Asd.mk hC1
    clear hC1 HP hg hown hx hX
    go_wp2_with fail
    refine (HR.out w1).mono ?_
    rintro e w2 ⟨hC2, v8, X8, rfl, hown, hx, hX⟩
    have HJ := Asd.mk (fun (path : ByteArray) (hp : path.size ≤ 1048576) (dir : Bool) (W : World) (hc : Chg [] w2 W) => rign_at hown hx hX HWF.out hlen path hp dir W hc)
    obtain ⟨A8, c8, hv8⟩ := own_len hown
    subst hv8
    have HC12 := Asd.mk hC2
    have HC2 := Asd.mk (HC1.out.trans hC2)
    clear hC2 HR hown hx hX
    obtain ⟨n8, hn8⟩ : ∃ k, X8.length = k := ⟨_, rfl⟩
    rw [hn8] at HJ ⊢
    clear hn8
    go_wp2_with fail
    refine (num_nil w2).mono ?_
    rintro e w3 ⟨rfl, hw3⟩
    subst hw3
    have HCr := Asd.mk (Chg.refl [] w3)
    go_wp2
    go_loopg [11] (n + 1) (fun gk v11 wx => ∃ i : Nat, i ≤ n ∧ gk = n + 1 - i ∧ v11 = .int .i64 (i : Int) ∧ Asd (Chg [] w3 wx))
    case atStart => exact ⟨0, by omega, rfl, rfl, HCr⟩
    case round =>
      obtain ⟨i, hi, rfl, rfl, HC3⟩ := hrel
      by_cases hgo : i < n ∧ i < 30
      · obtain ⟨hlt, h30⟩ := hgo
        have k1 : (i : Int) < (n : Int) := by omega
        have k2 : (i : Int) < 30 := by omega
        obtain ⟨a, rfl, hcell, hsz⟩ := HS.out i hlt
        obtain ⟨p, hp⟩ : ∃ p, S i = p := ⟨_, rfl⟩
        rw [hp] at hcell hsz
        have hce : wr.cell? (a.add i) = some (.string p) := ((HC2.out.trans HC3.out).below.cell (World.block_lt_of_cell? w _ hcell)).trans hcell
        have ce := fun d os => cell_regrown hce d os
        have hI := fun dir W (hc : Chg [] wr W) => HI.out p (by omega) dir W (HC12.out.trans (HC3.out.trans hc))
        have hJ := fun dir W (hc : Chg [] wr W) => HJ.out p (by omega) dir W (HC3.out.trans hc)
        have hI1 := hI true
        have hI0 := hI false
        have hJ1 := hJ true
        have hJ0 := hJ false
        obtain ⟨q1, hq1⟩ : ∃ q, ignoredP rs p true = q := ⟨_, rfl⟩
        obtain ⟨q0, hq0⟩ : ∃ q, ignoredP rs p false = q := ⟨_, rfl⟩
        rw [hq1] at hI1 hJ1
        rw [hq0] at hI0 hJ0
        have cI1 := quiet_of hI1
        have cI0 := quiet_of hI0
        have cJ1 := quiet_of hJ1
        have cJ0 := quiet_of hJ0
        have e1 : (q1 != q1) = false := by simp
        have e0 : (q0 != q0) = false := by simp
        clear hI hJ hI1 hI0 hJ1 hJ0 hq1 hq0 hcell hce hp
        go_upto_region 8 with fail
        refine wp_region_quiet_below (by kernel_rfl) (by kernel_rfl) ?_
        repeat (quiet_step ((go_at_call 24; exact cI1 _ _)))
        clear cI1
        repeat (quiet_step ((go_at_call 25; exact cJ1 _ _)))
        clear cJ1
        repeat (quiet_step ((go_at_call 24; exact cI0 _ _)))
        clear cI0
        repeat (quiet_step ((go_at_call 25; exact cJ0 _ _)))
        clear cJ0
        refine wpQuiet_nil ?_
        rintro w' ⟨q, rfl⟩
        have HC5 := Asd.mk (HC3.out.trans (chg_regrown wr q.d q.os))
        go_wp2
        go_roundg (n + 1 - (i + 1))
        case rel => exact ⟨i + 1, by omega, rfl, by go_num, HC5⟩
        case measure => omega
      · have hsel : (i < n ∧ ¬ i < 30) ∨ i = n := by omega
        rcases hsel with ⟨h1, h2⟩ | rfl
        · have k1 : (i : Int) < (n : Int) := by omega
          have k2 : ¬ (i : Int) < 30 := by omega
          go_wp2_with fail
          refine (works_calls wr (HE.out.chg (HC2.out.trans HC3.out))).mono ?_
          rintro e w5 ⟨rfl, hC5⟩
          have HC5 := Asd.mk ((HC2.out.trans HC3.out).trans hC5)
          clear hC5
          go_wp2
          go_ret
          exact ⟨rfl, HC5.out⟩
        · go_wp2_with fail
          refine (works_calls wr (HE.out.chg (HC2.out.trans HC3.out))).mono ?_
          rintro e w5 ⟨rfl, hC5⟩
          have HC5 := Asd.mk ((HC2.out.trans HC3.out).trans hC5)
          clear hC5
          go_wp2
          go_ret
          exact ⟨rfl, HC5.out⟩
end Go.Proofs.YtgkifphfibcfdaaGreatDoor.G
