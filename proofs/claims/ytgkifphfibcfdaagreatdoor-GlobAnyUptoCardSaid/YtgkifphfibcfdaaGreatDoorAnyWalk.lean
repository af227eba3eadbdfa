/- GlobAny: Any and the reference's Any as one plain function; the walk. -/
import Derived.Test.YtgkifphfibcfdaaGreatDoorWorks
import Derived.Test.YtgkifphfibcfdaaGreatDoorRMatch
import Derived.Test.YtgkifphfibcfdaaGreatDoorRComp
import Derived.Deep.LoopGhost
namespace Go.Proofs.YtgkifphfibcfdaaGreatDoor.G
open Go.RowKit Go.Proofs.YtgkifphfibcfdaaGreatDoor.B
set_option linter.unusedVariables false
/-- Any, from one text on: whether one means the name; the first error's number (0: none). -/
def anyF (S : Nat → ByteArray) (name : ByteArray) : Nat → Nat → Bool → Bool × Nat
  | 0, _, is => (is, 0)
  | k + 1, i, is => if 1024 < (S i).size then (false, 2) else match parts (S i) with | some L => anyF S name k (i + 1) (is || mt L (bl name)) | none => (false, 40)
/-- A row of strings. -/
def StrsAt (w : World) (sp : Option Addr) (n : Nat) (S : Nat → ByteArray) : Prop := ∀ i, i < n → ∃ a, sp = some a ∧ w.cell? (a.add i) = some (.string (S i)) ∧ (S i).size ≤ 1048576
theorem StrsAt.chg {w w' : World} {sp : Option Addr} {n : Nat} {S : Nat → ByteArray} (h : StrsAt w sp n S) (hc : Chg [] w w') : StrsAt w' sp n S := by
  intro i hi
  obtain ⟨a, h1, h2, h3⟩ := h i hi
  exact ⟨a, h1, (hc.below.cell (World.block_lt_of_cell? w _ h2)).trans h2, h3⟩
def errV (n : Nat) : Value := if n = 0 then .nilIface else .iface 57 (.int .i64 (n : Int))
theorem anyF_err (S : Nat → ByteArray) (name : ByteArray) : ∀ k i is, (anyF S name k i is).2 = 0 ∨ (anyF S name k i is).2 = 2 ∨ (anyF S name k i is).2 = 40
  | 0, _, _ => .inl rfl
  | k + 1, i, is => by
    simp only [anyF]
    split
    · exact .inr (.inl rfl)
    · split
      · exact anyF_err S name k _ _
      · exact .inr (.inr rfl)
set_option maxRecDepth 100000 in
set_option maxHeartbeats 8000000 in
theorem any_calls (sp : Option Addr) (n cap : Nat) (S : Nat → ByteArray) (name : ByteArray) (w : World) (hS : StrsAt w sp n S) (hn : n ≤ 9223372036854775807) (hname : name.size ≤ 1048576) (R : Bool × Nat) (hR : anyF S name n 0 false = R) :
    Calls Tryz.prog 20 #[.slice sp n cap, .string name] w fun e w' => e = .returned (.tuple #[.bool R.1, errV R.2]) ∧ Chg [] w w' := by
  have HS := Asd.mk hS
  have HR := Asd.mk hR
  clear hS hR
  go_enter Tryz.func20, Tryz.ntmps20
  go_wp2
  go_loopg [6, 13] (n + 1) (fun gk v6 v13 wx => ∃ (i : Nat) (is : Bool), i ≤ n ∧ gk = n + 1 - i ∧ v6 = .bool is ∧ v13 = .int .i64 (i : Int) ∧ Asd (anyF S name (n - i) i is = R) ∧ Asd (Chg [] w wx))
  case atStart => exact ⟨0, false, by omega, rfl, rfl, rfl, HR, ⟨Chg.refl _ _⟩⟩
  case round =>
    obtain ⟨i, is, hi, rfl, rfl, rfl, HI, HC⟩ := hrel
    by_cases hlt : i < n
    · obtain ⟨a, ha, hcell, hsz⟩ := (HS.out.chg HC.out) i hlt
      subst ha
      have hI := HI.out
      rw [show n - i = (n - (i + 1)) + 1 by omega] at hI
      simp only [anyF] at hI
      obtain ⟨s, hs⟩ : ∃ s, S i = s := ⟨_, rfl⟩
      rw [hs] at hI hcell hsz
      by_cases hlong : 1024 < s.size
      · rw [if_pos hlong] at hI
        have HQ := Asd.mk hI
        clear hI hs HI
        go_wp2_with fail
        refine (compile_long s wr hlong (by omega)).mono ?_
        rintro e w1 ⟨rfl, hw1⟩
        have HC1 := Asd.mk (show Chg [] w w1 by rw [hw1]; exact HC.out)
        clear hw1
        go_wp2
        go_ret2
        exact ⟨by rw [← HQ.out]; rfl, HC1.out⟩
      · rw [if_neg hlong] at hI
        have hcomp := compile_parts s wr (by omega)
        cases hpar : parts s with
        | none =>
          rw [hpar] at hI hcomp
          have HQ := Asd.mk hI
          have HComp := Asd.mk hcomp
          clear hI hs HI hcomp hpar
          go_wp2_with fail
          refine HComp.out.mono ?_
          rintro e w1 ⟨rfl, hC1⟩
          have HC1 := Asd.mk (HC.out.trans hC1)
          clear hC1
          go_wp2
          go_ret2
          exact ⟨by rw [← HQ.out]; rfl, HC1.out⟩
        | some L =>
          rw [hpar] at hI hcomp
          have HQ := Asd.mk hI
          have HComp := Asd.mk hcomp
          clear hI hs HI hcomp hpar
          go_wp2_with fail
          refine HComp.out.mono ?_
          rintro e w1 ⟨gp, rfl, hC1, hG1⟩
          have HC1 := Asd.mk (HC.out.trans hC1)
          have HG1 := Asd.mk hG1
          clear hC1 hG1 HComp
          cases is with
          | true =>
            go_wp2
            go_roundg (n + 1 - (i + 1))
            case rel => exact ⟨i + 1, true, by omega, rfl, rfl, by go_num, HQ, HC1⟩
            case measure => omega
          | false =>
            go_wp2_with fail
            refine (match_mt gp _ name w1 HG1.out (by omega)).mono ?_
            rintro e w2 ⟨rfl, nn, hw⟩
            have HC2 := Asd.mk (show Chg [] w w2 by rw [hw]; exact HC1.out.drewN nn)
            clear hw
            go_wp2
            go_roundg (n + 1 - (i + 1))
            case rel => exact ⟨i + 1, mt L (bl name), by omega, rfl, rfl, by go_num, ⟨by rw [← HQ.out, Bool.false_or]⟩, HC2⟩
            case measure => omega
    · obtain rfl : i = n := by omega
      have HQ := Asd.mk (show R = (is, 0) by rw [← HI.out, Nat.sub_self]; rfl)
      clear HI
      go_wp2
      go_ret2
      exact ⟨by rw [HQ.out]; rfl, HC.out⟩
set_option maxRecDepth 100000 in
set_option maxHeartbeats 8000000 in
theorem rany_calls (sp : Option Addr) (n cap : Nat) (S : Nat → ByteArray) (name : ByteArray) (w : World) (hS : StrsAt w sp n S) (hn : n ≤ 9223372036854775806) (hname : name.size ≤ 1048576) (R : Bool × Nat) (hR : anyF S name n 0 false = R) :
    Calls Tryz.prog 21 #[.slice sp n cap, .string name] w fun e w' => e = .returned (.tuple #[.bool R.1, .int .i64 (R.2 : Int)]) ∧ Chg [] w w' := by
  have HS := Asd.mk hS
  have HR := Asd.mk hR
  clear hS hR
  go_enter Tryz.func21, Tryz.ntmps21
  go_wp2
  go_loopg [6, 7] (n + 1) (fun gk v6 v7 wx => ∃ (i : Nat) (is : Bool), i ≤ n ∧ gk = n + 1 - i ∧ v6 = .bool is ∧ v7 = .int .i64 (i : Int) ∧ Asd (anyF S name (n - i) i is = R) ∧ Asd (Chg [] w wx))
  case atStart => exact ⟨0, false, by omega, rfl, rfl, rfl, HR, ⟨Chg.refl _ _⟩⟩
  case round =>
    obtain ⟨i, is, hi, rfl, rfl, rfl, HI, HC⟩ := hrel
    by_cases hlt : i < n
    · obtain ⟨a, ha, hcell, hsz⟩ := (HS.out.chg HC.out) i hlt
      subst ha
      have hI := HI.out
      rw [show n - i = (n - (i + 1)) + 1 by omega] at hI
      simp only [anyF] at hI
      obtain ⟨s, hs⟩ : ∃ s, S i = s := ⟨_, rfl⟩
      rw [hs] at hI hcell hsz
      by_cases hlong : 1024 < s.size
      · rw [if_pos hlong] at hI
        have HQ := Asd.mk hI
        clear hI hs HI
        go_wp2_with fail
        refine (rcompile_long s wr hlong (by omega)).mono ?_
        rintro e w1 ⟨rfl, hw1⟩
        have HC1 := Asd.mk (show Chg [] w w1 by rw [hw1]; exact HC.out)
        clear hw1
        go_wp2
        go_ret2
        exact ⟨by rw [← HQ.out]; rfl, HC1.out⟩
      · rw [if_neg hlong] at hI
        have hcomp := rcompile_parts s wr (by omega)
        cases hpar : parts s with
        | none =>
          rw [hpar] at hI hcomp
          have HQ := Asd.mk hI
          have HComp := Asd.mk hcomp
          clear hI hs HI hcomp hpar
          go_wp2_with fail
          refine HComp.out.mono ?_
          rintro e w1 ⟨hC1, rfl⟩
          have HC1 := Asd.mk (HC.out.trans hC1)
          clear hC1
          go_wp2
          go_ret2
          exact ⟨by rw [← HQ.out]; rfl, HC1.out⟩
        | some L =>
          rw [hpar] at hI hcomp
          have HQ := Asd.mk hI
          have HComp := Asd.mk hcomp
          clear hI hs HI hcomp hpar
          go_wp2_with fail
          refine HComp.out.mono ?_
          rintro e w1 ⟨hC1, A, c, rfl, hP1, hL⟩
          have HC1 := Asd.mk (HC.out.trans hC1)
          have HP1 := Asd.mk hP1
          clear hC1 hP1 HComp
          cases is with
          | true =>
            go_wp2
            go_roundg (n + 1 - (i + 1))
            case rel => exact ⟨i + 1, true, by omega, rfl, rfl, by go_num, HQ, HC1⟩
            case measure => omega
          | false =>
            go_wp2_with fail
            refine (rmatch_calls A c L name w1 HP1.out hL (by omega)).mono ?_
            rintro e w2 ⟨rfl, hC2⟩
            have HC2 := Asd.mk (HC1.out.trans hC2)
            clear hC2
            go_wp2
            go_roundg (n + 1 - (i + 1))
            case rel => exact ⟨i + 1, mt L (bl name), by omega, rfl, rfl, by go_num, ⟨by rw [← HQ.out, Bool.false_or]⟩, HC2⟩
            case measure => omega
    · obtain rfl : i = n := by omega
      have HQ := Asd.mk (show R = (is, 0) by rw [← HI.out, Nat.sub_self]; rfl)
      clear HI
      go_wp2
      go_ret2
      exact ⟨by rw [HQ.out]; rfl, HC.out⟩
set_option maxHeartbeats 4000000 in
theorem globany_calls (sp : Option Addr) (n cap : Nat) (S : Nat → ByteArray) (name : ByteArray) (w : World) (hE : ErrType w) (hS : StrsAt w sp n S) (hn : n ≤ 9223372036854775806) (hname : name.size ≤ 1048576) :
    Calls Tryz.prog 9 #[.slice sp n cap, .string name] w fun e w' => e = .returned (.bool true) ∧ Chg [] w w' := by
  obtain ⟨R, hR⟩ : ∃ R, anyF S name n 0 false = R := ⟨_, rfl⟩
  have herr := anyF_err S name n 0 false
  rw [hR] at herr
  have HE := Asd.mk hE
  have HA := Asd.mk (any_calls sp n cap S name w hS (by omega) hname R hR)
  have HB := Asd.mk (fun W (hc : Chg [] w W) => rany_calls sp n cap S name W (hS.chg hc) hn hname R hR)
  clear hE hS hR
  obtain ⟨b, m⟩ := R
  simp only at herr
  have tb : (b == b) = true := by simp
  rcases herr with rfl | rfl | rfl
  · go_enter Tryz.func9, Tryz.ntmps9
    go_wp2_with fail
    refine HA.out.mono ?_
    rintro e w1 ⟨rfl, hC1⟩
    have HB1 := Asd.mk (HB.out w1 hC1)
    have HC1 := Asd.mk hC1
    clear hC1 HA HB
    rw [show errV 0 = Value.nilIface from rfl]
    go_wp2_with fail
    refine HB1.out.mono ?_
    rintro e w2 ⟨rfl, hC2⟩
    have HC2 := Asd.mk (HC1.out.trans hC2)
    clear hC2 HB1
    go_wp2_with fail
    refine (num_nil w2).mono ?_
    rintro e w3 ⟨rfl, hw3⟩
    subst hw3
    go_wp2_with fail
    refine (works_calls w3 (HE.out.chg HC2.out)).mono ?_
    rintro e w4 ⟨rfl, hC4⟩
    have HC4 := Asd.mk (HC2.out.trans hC4)
    clear hC4
    go_wp2
    go_ret
    exact ⟨rfl, HC4.out⟩
  · go_enter Tryz.func9, Tryz.ntmps9
    go_wp2_with fail
    refine HA.out.mono ?_
    rintro e w1 ⟨rfl, hC1⟩
    have HB1 := Asd.mk (HB.out w1 hC1)
    have HC1 := Asd.mk hC1
    clear hC1 HA HB
    rw [show errV 2 = Value.iface 57 (.int .i64 2) from rfl]
    go_wp2_with fail
    refine HB1.out.mono ?_
    rintro e w2 ⟨rfl, hC2⟩
    have HC2 := Asd.mk (HC1.out.trans hC2)
    clear hC2 HB1
    go_wp2_with fail
    refine (num_errno 2 w2 (HE.out.chg HC2.out)).mono ?_
    rintro e w3 ⟨rfl, hC3⟩
    have HC3 := Asd.mk (HC2.out.trans hC3)
    clear hC3
    go_wp2_with fail
    refine (works_calls w3 (HE.out.chg HC3.out)).mono ?_
    rintro e w4 ⟨rfl, hC4⟩
    have HC4 := Asd.mk (HC3.out.trans hC4)
    clear hC4
    go_wp2
    go_ret
    exact ⟨rfl, HC4.out⟩
  · go_enter Tryz.func9, Tryz.ntmps9
    go_wp2_with fail
    refine HA.out.mono ?_
    rintro e w1 ⟨rfl, hC1⟩
    have HB1 := Asd.mk (HB.out w1 hC1)
    have HC1 := Asd.mk hC1
    clear hC1 HA HB
    rw [show errV 40 = Value.iface 57 (.int .i64 40) from rfl]
    go_wp2_with fail
    refine HB1.out.mono ?_
    rintro e w2 ⟨rfl, hC2⟩
    have HC2 := Asd.mk (HC1.out.trans hC2)
    clear hC2 HB1
    go_wp2_with fail
    refine (num_errno 40 w2 (HE.out.chg HC2.out)).mono ?_
    rintro e w3 ⟨rfl, hC3⟩
    have HC3 := Asd.mk (HC2.out.trans hC3)
    clear hC3
    go_wp2_with fail
    refine (works_calls w3 (HE.out.chg HC3.out)).mono ?_
    rintro e w4 ⟨rfl, hC4⟩
    have HC4 := Asd.mk (HC3.out.trans hC4)
    clear hC4
    go_wp2
    go_ret
    exact ⟨rfl, HC4.out⟩
end Go.Proofs.YtgkifphfibcfdaaGreatDoor.G
