/- An item of a set: a class, a byte, a range. Printed by item.py, one theorem for each way through. -/
import Derived.Test.YtgkifphfibcfdaaGreatDoorRuClass
namespace Go.Proofs.YtgkifphfibcfdaaGreatDoor.G
open Go.RowKit Go.Proofs.YtgkifphfibcfdaaGreatDoor.B
set_option linter.unusedVariables false
/-- The bytes from x to z are taken, too. -/
def addRange (T : Nat → Bool) (x z : Nat) : Nat → Bool := fun t => T t || (decide (x ≤ t) && decide (t ≤ z))
set_option maxHeartbeats 2000000 in
theorem item_class_yes (b c : Nat) (s : ByteArray) (i : Nat) (a : Bool) (T : Nat → Bool) (k : Nat) (w : World) (hb : RdAt w b s i) (hc : PartAt w c a T) (hne : b ≠ c) (hi : i ≤ s.size) (hs : s.size ≤ 1048576)
    (h0 : startsAt s i ⟨#[91, 58]⟩ = true) (hk : k < 12) (hyes : startsAt s i (cpat k) = true) (hno : ∀ j, j < k → startsAt s i (cpat j) = false) :
    Calls Tryz.prog 46 #[.pointer (some ⟨b, 0, none⟩), .pointer (some ⟨c, 0, none⟩)] w fun e w' =>
      e = .returned (.bool true) ∧ Chg [b, c] w w' ∧ RdAt w' b s (i + (cpat k).size) ∧ PartAt w' c a (fun j => T j || (decide (j < 128) && chas k j)) := by
  have HB := Asd.mk hb
  have HP := Asd.mk hc
  have HY := Asd.mk hyes
  have HN := Asd.mk hno
  have H0 := Asd.mk h0
  clear hb hc hyes hno h0
  go_enter Tryz.func46, Tryz.ntmps46
  go_wp2_with fail
  refine (starts_calls b s i _ _ HB.out hi hs (by decide)).mono ?_
  rw [H0.out]
  rintro e w' ⟨rfl, n, rfl⟩
  go_wp2_with fail
  refine (class_yes b c s i a T k _ (hp_drewN HB.out n) (hp_drewN HP.out n) hne hi hs hk HY.out HN.out).mono ?_
  rintro e w1 ⟨rfl, hC, hR, hQ⟩
  have HC := Asd.mk hC
  have HR := Asd.mk hR
  have HQ := Asd.mk hQ
  clear hC hR hQ
  go_wp2
  go_ret
  exact ⟨rfl, ((Chg.refl _ _).drewN n).trans HC.out, HR.out, HQ.out⟩
set_option maxHeartbeats 2000000 in
theorem item_class_no (b c : Nat) (s : ByteArray) (i : Nat) (w : World) (hb : RdAt w b s i) (hi : i ≤ s.size) (hs : s.size ≤ 1048576)
    (h0 : startsAt s i ⟨#[91, 58]⟩ = true) (hno : ∀ j, j < 12 → startsAt s i (cpat j) = false) :
    Calls Tryz.prog 46 #[.pointer (some ⟨b, 0, none⟩), .pointer (some ⟨c, 0, none⟩)] w fun e w' => e = .returned (.bool false) ∧ Chg [] w w' := by
  have HB := Asd.mk hb
  have HN := Asd.mk hno
  have H0 := Asd.mk h0
  clear hb hno h0
  go_enter Tryz.func46, Tryz.ntmps46
  go_wp2_with fail
  refine (starts_calls b s i _ _ HB.out hi hs (by decide)).mono ?_
  rw [H0.out]
  rintro e w' ⟨rfl, n, rfl⟩
  go_wp2_with fail
  refine (class_no b c s i _ (hp_drewN HB.out n) hi hs HN.out).mono ?_
  rintro e w1 ⟨rfl, hC⟩
  have HC := Asd.mk hC
  clear hC
  go_wp2
  go_ret
  exact ⟨rfl, ((Chg.refl _ _).drewN n).trans HC.out⟩
set_option maxHeartbeats 2000000 in
theorem item_end (b c : Nat) (s : ByteArray) (i : Nat) (w : World) (hb : RdAt w b s i) (hi : i ≤ s.size) (hs : s.size ≤ 1048576)
    (h0 : startsAt s i ⟨#[91, 58]⟩ = false) (hin : s.size ≤ bytePlace s i) :
    Calls Tryz.prog 46 #[.pointer (some ⟨b, 0, none⟩), .pointer (some ⟨c, 0, none⟩)] w fun e w' => e = .returned (.bool false) ∧ Chg [b] w w' := by
  have HB := Asd.mk hb
  have H0 := Asd.mk h0
  clear hb h0
  go_enter Tryz.func46, Tryz.ntmps46
  go_wp2_with fail
  refine (starts_calls b s i _ _ HB.out hi hs (by decide)).mono ?_
  rw [H0.out]
  rintro e w' ⟨rfl, n, rfl⟩
  go_wp2_with fail
  refine (byte_no b s i _ (hp_drewN HB.out n) hi hs hin).mono ?_
  rintro e w1 ⟨rfl, hC, hR⟩
  have HC := Asd.mk hC
  clear hC hR
  go_wp2
  go_ret
  exact ⟨rfl, ((Chg.refl _ _).drewN n).trans HC.out⟩
set_option maxRecDepth 100000 in
set_option maxHeartbeats 4000000 in
theorem item_one_a (b c : Nat) (s : ByteArray) (i : Nat) (a : Bool) (T : Nat → Bool) (w : World) (hb : RdAt w b s i) (hc : PartAt w c a T) (hne : b ≠ c) (hi : i ≤ s.size) (hs : s.size ≤ 1048576)
    (h0 : startsAt s i ⟨#[91, 58]⟩ = false) (hin : bytePlace s i < s.size) (g1 : startsAt s (bytePlace s i + 1) ⟨#[45]⟩ = false) :
    Calls Tryz.prog 46 #[.pointer (some ⟨b, 0, none⟩), .pointer (some ⟨c, 0, none⟩)] w fun e w' =>
      e = .returned (.bool true) ∧ Chg [b, c] w w' ∧ RdAt w' b s (bytePlace s i + 1) ∧ PartAt w' c a (addRange T (bn s (bytePlace s i)) (bn s (bytePlace s i))) := by
  have HB := Asd.mk hb
  have HP := Asd.mk hc
  have H0 := Asd.mk h0
  obtain ⟨q, hq⟩ : ∃ q, q = bytePlace s i + 1 := ⟨_, rfl⟩
  obtain ⟨x, hx⟩ : ∃ x, x = bn s (bytePlace s i) := ⟨_, rfl⟩
  have hx5 : x ≤ 255 := by rw [hx]; exact bn_le _ _
  have hqs : q ≤ s.size := by omega
  rw [← hq, ← hx]
  rw [← hq] at g1
  have HX := Asd.mk hx.symm
  have HQ := Asd.mk hq.symm
  have G1 := Asd.mk g1
  clear g1
  clear hb hc h0 hx hq
  go_enter Tryz.func46, Tryz.ntmps46
  go_wp2_with fail
  refine (starts_calls b s i _ _ HB.out hi hs (by decide)).mono ?_
  rw [H0.out]
  rintro e w' ⟨rfl, n, rfl⟩
  go_wp2_with fail
  refine (byte_yes b s i _ (hp_drewN HB.out n) hi hs hin).mono ?_
  rw [HQ.out, HX.out]
  rintro e w1 ⟨rfl, hC1, hR1⟩
  have HC1 := Asd.mk (((Chg.refl [b] w).drewN n).trans hC1)
  have HR1 := Asd.mk hR1
  have HP1 := Asd.mk (show PartAt w1 c a T from hC1.heap (hp_drewN HP.out n) (by simp; exact fun e => hne e.symm))
  clear hC1 hR1
  have k1 : IntKind.i64.wrap ((q : Int) + 1) = (q : Int) + 1 := w64 (by omega) (by omega)
  have k2 : 0 ≤ (q : Int) + 1 := by omega
  have k3 : ((q : Int) + 1).toNat = q + 1 := by omega
  have r0 := HR1.out.c0
  have r1 := HR1.out.c1
  go_wp2
  go_quiet ((first | (go_at_call 45; exact quiet_v (starts_calls b s q ⟨#[45]⟩ _ (hp_drewN HR1.out _) hqs hs (by decide)) G1.out)))
  clear k1
  go_wp2
  go_loopw [8] (fun v wx => ∃ y : Nat, x ≤ y ∧ (y ≤ x + 1 ∨ y = x) ∧ v = .int .i64 y ∧ Asd (Chg [b, c] w wx) ∧ Asd (RdAt wx b s q) ∧ Asd (PartAt wx c a (fun t => T t || (decide (x ≤ t) && decide (t < y))))) (fun v _ => x + 1 - (intOf v).toNat)
  case atStart => exact ⟨x, Nat.le_refl _, .inr rfl, rfl, ⟨(HC1.out.mono (by simp)).drewN _⟩, ⟨hp_drewN HR1.out _⟩, ⟨(show PartAt _ c a T from hp_drewN HP1.out _).congr (fun t _ => by
    have : (decide (x ≤ t) && decide (t < x)) = false := by by_cases h : x ≤ t <;> simp [h] <;> omega
    rw [this, Bool.or_false])⟩⟩
  case round =>
    obtain ⟨y, hy, hy2, rfl, HC2, HB2, HP2⟩ := hrel
    by_cases hyz : y ≤ x
    · have pc := HP2.out.cell y (by omega)
      have pf := HP2.out.frozen (1 + y)
      have b1 : (y : Int) < 256 := by omega
      have b0 : 0 ≤ (y : Int) := by omega
      go_wp2
      exact ⟨⟨y + 1, by omega, .inl (by omega), by go_num, ⟨HC2.out.setCell (by simp) _⟩, ⟨hp_set_other HB2.out hne _ _⟩, ⟨(HP2.out.set y true).congr (fun t _ => by
        simp only [upd]
        by_cases ht : t = y
        · subst ht; rw [if_pos rfl, decide_eq_true hy, decide_eq_true (by omega : t < t + 1)]; simp
        · rw [if_neg ht, show decide (t < y) = decide (t < y + 1) from decide_eq_decide.mpr (by omega)])⟩⟩, by simp [intOf]; omega⟩
    · go_wp2
      go_ret
      refine ⟨rfl, HC2.out, HB2.out, HP2.out.congr (fun t _ => ?_)⟩
      simp only [addRange]
      have : (decide (x ≤ t) && decide (t < y)) = (decide (x ≤ t) && decide (t ≤ x)) := by
        by_cases h : x ≤ t
        · rw [decide_eq_true h, Bool.true_and, Bool.true_and]; exact decide_eq_decide.mpr (by omega)
        · rw [decide_eq_false h]; rfl
      rw [this]
set_option maxRecDepth 100000 in
set_option maxHeartbeats 4000000 in
theorem item_one_b (b c : Nat) (s : ByteArray) (i : Nat) (a : Bool) (T : Nat → Bool) (w : World) (hb : RdAt w b s i) (hc : PartAt w c a T) (hne : b ≠ c) (hi : i ≤ s.size) (hs : s.size ≤ 1048576)
    (h0 : startsAt s i ⟨#[91, 58]⟩ = false) (hin : bytePlace s i < s.size) (g1 : startsAt s (bytePlace s i + 1) ⟨#[45]⟩ = true) (g2 : s.size ≤ bytePlace s i + 1 + 1) :
    Calls Tryz.prog 46 #[.pointer (some ⟨b, 0, none⟩), .pointer (some ⟨c, 0, none⟩)] w fun e w' =>
      e = .returned (.bool true) ∧ Chg [b, c] w w' ∧ RdAt w' b s (bytePlace s i + 1) ∧ PartAt w' c a (addRange T (bn s (bytePlace s i)) (bn s (bytePlace s i))) := by
  have HB := Asd.mk hb
  have HP := Asd.mk hc
  have H0 := Asd.mk h0
  obtain ⟨q, hq⟩ : ∃ q, q = bytePlace s i + 1 := ⟨_, rfl⟩
  obtain ⟨x, hx⟩ : ∃ x, x = bn s (bytePlace s i) := ⟨_, rfl⟩
  have hx5 : x ≤ 255 := by rw [hx]; exact bn_le _ _
  have hqs : q ≤ s.size := by omega
  rw [← hq, ← hx]
  rw [← hq] at g1 g2
  have HX := Asd.mk hx.symm
  have HQ := Asd.mk hq.symm
  have G1 := Asd.mk g1
  clear g1
  have g2b : decide ((q : Int) + 1 < (s.size : Int)) = false := decide_eq_false (by omega)
  clear hb hc h0 hx hq
  go_enter Tryz.func46, Tryz.ntmps46
  go_wp2_with fail
  refine (starts_calls b s i _ _ HB.out hi hs (by decide)).mono ?_
  rw [H0.out]
  rintro e w' ⟨rfl, n, rfl⟩
  go_wp2_with fail
  refine (byte_yes b s i _ (hp_drewN HB.out n) hi hs hin).mono ?_
  rw [HQ.out, HX.out]
  rintro e w1 ⟨rfl, hC1, hR1⟩
  have HC1 := Asd.mk (((Chg.refl [b] w).drewN n).trans hC1)
  have HR1 := Asd.mk hR1
  have HP1 := Asd.mk (show PartAt w1 c a T from hC1.heap (hp_drewN HP.out n) (by simp; exact fun e => hne e.symm))
  clear hC1 hR1
  have k1 : IntKind.i64.wrap ((q : Int) + 1) = (q : Int) + 1 := w64 (by omega) (by omega)
  have k2 : 0 ≤ (q : Int) + 1 := by omega
  have k3 : ((q : Int) + 1).toNat = q + 1 := by omega
  have r0 := HR1.out.c0
  have r1 := HR1.out.c1
  go_wp2
  go_quiet ((first | (go_at_call 45; exact quiet_v (starts_calls b s q ⟨#[45]⟩ _ (hp_drewN HR1.out _) hqs hs (by decide)) G1.out)))
  clear k1
  go_wp2
  go_loopw [8] (fun v wx => ∃ y : Nat, x ≤ y ∧ (y ≤ x + 1 ∨ y = x) ∧ v = .int .i64 y ∧ Asd (Chg [b, c] w wx) ∧ Asd (RdAt wx b s q) ∧ Asd (PartAt wx c a (fun t => T t || (decide (x ≤ t) && decide (t < y))))) (fun v _ => x + 1 - (intOf v).toNat)
  case atStart => exact ⟨x, Nat.le_refl _, .inr rfl, rfl, ⟨(HC1.out.mono (by simp)).drewN _⟩, ⟨hp_drewN HR1.out _⟩, ⟨(show PartAt _ c a T from hp_drewN HP1.out _).congr (fun t _ => by
    have : (decide (x ≤ t) && decide (t < x)) = false := by by_cases h : x ≤ t <;> simp [h] <;> omega
    rw [this, Bool.or_false])⟩⟩
  case round =>
    obtain ⟨y, hy, hy2, rfl, HC2, HB2, HP2⟩ := hrel
    by_cases hyz : y ≤ x
    · have pc := HP2.out.cell y (by omega)
      have pf := HP2.out.frozen (1 + y)
      have b1 : (y : Int) < 256 := by omega
      have b0 : 0 ≤ (y : Int) := by omega
      go_wp2
      exact ⟨⟨y + 1, by omega, .inl (by omega), by go_num, ⟨HC2.out.setCell (by simp) _⟩, ⟨hp_set_other HB2.out hne _ _⟩, ⟨(HP2.out.set y true).congr (fun t _ => by
        simp only [upd]
        by_cases ht : t = y
        · subst ht; rw [if_pos rfl, decide_eq_true hy, decide_eq_true (by omega : t < t + 1)]; simp
        · rw [if_neg ht, show decide (t < y) = decide (t < y + 1) from decide_eq_decide.mpr (by omega)])⟩⟩, by simp [intOf]; omega⟩
    · go_wp2
      go_ret
      refine ⟨rfl, HC2.out, HB2.out, HP2.out.congr (fun t _ => ?_)⟩
      simp only [addRange]
      have : (decide (x ≤ t) && decide (t < y)) = (decide (x ≤ t) && decide (t ≤ x)) := by
        by_cases h : x ≤ t
        · rw [decide_eq_true h, Bool.true_and, Bool.true_and]; exact decide_eq_decide.mpr (by omega)
        · rw [decide_eq_false h]; rfl
      rw [this]
set_option maxRecDepth 100000 in
set_option maxHeartbeats 4000000 in
theorem item_one_c (b c : Nat) (s : ByteArray) (i : Nat) (a : Bool) (T : Nat → Bool) (w : World) (hb : RdAt w b s i) (hc : PartAt w c a T) (hne : b ≠ c) (hi : i ≤ s.size) (hs : s.size ≤ 1048576)
    (h0 : startsAt s i ⟨#[91, 58]⟩ = false) (hin : bytePlace s i < s.size) (g1 : startsAt s (bytePlace s i + 1) ⟨#[45]⟩ = true) (g2 : bytePlace s i + 1 + 1 < s.size) (g3 : bn s (bytePlace s i + 1 + 1) = 93) :
    Calls Tryz.prog 46 #[.pointer (some ⟨b, 0, none⟩), .pointer (some ⟨c, 0, none⟩)] w fun e w' =>
      e = .returned (.bool true) ∧ Chg [b, c] w w' ∧ RdAt w' b s (bytePlace s i + 1) ∧ PartAt w' c a (addRange T (bn s (bytePlace s i)) (bn s (bytePlace s i))) := by
  have HB := Asd.mk hb
  have HP := Asd.mk hc
  have H0 := Asd.mk h0
  obtain ⟨q, hq⟩ : ∃ q, q = bytePlace s i + 1 := ⟨_, rfl⟩
  obtain ⟨x, hx⟩ : ∃ x, x = bn s (bytePlace s i) := ⟨_, rfl⟩
  have hx5 : x ≤ 255 := by rw [hx]; exact bn_le _ _
  have hqs : q ≤ s.size := by omega
  rw [← hq, ← hx]
  rw [← hq] at g1 g2 g3
  have HX := Asd.mk hx.symm
  have HQ := Asd.mk hq.symm
  have G1 := Asd.mk g1
  clear g1
  have g2b : decide ((q : Int) + 1 < (s.size : Int)) = true := decide_eq_true (by omega)
  have g2i : (q : Int) + 1 < (s.size : Int) := by omega
  have g2j : (q : Int) + 1 ≤ (s.size : Int) := by omega
  have g3b : (((s[q + 1]'g2).toNat : Int) != 93) = false := by unfold bn at g3; rw [dif_pos g2] at g3; rw [g3]; rfl
  clear g3
  clear hb hc h0 hx hq
  go_enter Tryz.func46, Tryz.ntmps46
  go_wp2_with fail
  refine (starts_calls b s i _ _ HB.out hi hs (by decide)).mono ?_
  rw [H0.out]
  rintro e w' ⟨rfl, n, rfl⟩
  go_wp2_with fail
  refine (byte_yes b s i _ (hp_drewN HB.out n) hi hs hin).mono ?_
  rw [HQ.out, HX.out]
  rintro e w1 ⟨rfl, hC1, hR1⟩
  have HC1 := Asd.mk (((Chg.refl [b] w).drewN n).trans hC1)
  have HR1 := Asd.mk hR1
  have HP1 := Asd.mk (show PartAt w1 c a T from hC1.heap (hp_drewN HP.out n) (by simp; exact fun e => hne e.symm))
  clear hC1 hR1
  have k1 : IntKind.i64.wrap ((q : Int) + 1) = (q : Int) + 1 := w64 (by omega) (by omega)
  have k2 : 0 ≤ (q : Int) + 1 := by omega
  have k3 : ((q : Int) + 1).toNat = q + 1 := by omega
  have r0 := HR1.out.c0
  have r1 := HR1.out.c1
  go_wp2
  go_quiet ((first | (go_at_call 45; exact quiet_v (starts_calls b s q ⟨#[45]⟩ _ (hp_drewN HR1.out _) hqs hs (by decide)) G1.out)))
  clear k1
  go_wp2
  go_loopw [8] (fun v wx => ∃ y : Nat, x ≤ y ∧ (y ≤ x + 1 ∨ y = x) ∧ v = .int .i64 y ∧ Asd (Chg [b, c] w wx) ∧ Asd (RdAt wx b s q) ∧ Asd (PartAt wx c a (fun t => T t || (decide (x ≤ t) && decide (t < y))))) (fun v _ => x + 1 - (intOf v).toNat)
  case atStart => exact ⟨x, Nat.le_refl _, .inr rfl, rfl, ⟨(HC1.out.mono (by simp)).drewN _⟩, ⟨hp_drewN HR1.out _⟩, ⟨(show PartAt _ c a T from hp_drewN HP1.out _).congr (fun t _ => by
    have : (decide (x ≤ t) && decide (t < x)) = false := by by_cases h : x ≤ t <;> simp [h] <;> omega
    rw [this, Bool.or_false])⟩⟩
  case round =>
    obtain ⟨y, hy, hy2, rfl, HC2, HB2, HP2⟩ := hrel
    by_cases hyz : y ≤ x
    · have pc := HP2.out.cell y (by omega)
      have pf := HP2.out.frozen (1 + y)
      have b1 : (y : Int) < 256 := by omega
      have b0 : 0 ≤ (y : Int) := by omega
      go_wp2
      exact ⟨⟨y + 1, by omega, .inl (by omega), by go_num, ⟨HC2.out.setCell (by simp) _⟩, ⟨hp_set_other HB2.out hne _ _⟩, ⟨(HP2.out.set y true).congr (fun t _ => by
        simp only [upd]
        by_cases ht : t = y
        · subst ht; rw [if_pos rfl, decide_eq_true hy, decide_eq_true (by omega : t < t + 1)]; simp
        · rw [if_neg ht, show decide (t < y) = decide (t < y + 1) from decide_eq_decide.mpr (by omega)])⟩⟩, by simp [intOf]; omega⟩
    · go_wp2
      go_ret
      refine ⟨rfl, HC2.out, HB2.out, HP2.out.congr (fun t _ => ?_)⟩
      simp only [addRange]
      have : (decide (x ≤ t) && decide (t < y)) = (decide (x ≤ t) && decide (t ≤ x)) := by
        by_cases h : x ≤ t
        · rw [decide_eq_true h, Bool.true_and, Bool.true_and]; exact decide_eq_decide.mpr (by omega)
        · rw [decide_eq_false h]; rfl
      rw [this]
set_option maxRecDepth 100000 in
set_option maxHeartbeats 4000000 in
theorem item_one_d (b c : Nat) (s : ByteArray) (i : Nat) (a : Bool) (T : Nat → Bool) (w : World) (hb : RdAt w b s i) (hc : PartAt w c a T) (hne : b ≠ c) (hi : i ≤ s.size) (hs : s.size ≤ 1048576)
    (h0 : startsAt s i ⟨#[91, 58]⟩ = false) (hin : bytePlace s i < s.size) (g1 : startsAt s (bytePlace s i + 1) ⟨#[45]⟩ = true) (g2 : bytePlace s i + 1 + 1 < s.size) (g3 : bn s (bytePlace s i + 1 + 1) ≠ 93) (g4 : startsAt s (bytePlace s i + 1 + 1) ⟨#[91, 58]⟩ = true) :
    Calls Tryz.prog 46 #[.pointer (some ⟨b, 0, none⟩), .pointer (some ⟨c, 0, none⟩)] w fun e w' =>
      e = .returned (.bool true) ∧ Chg [b, c] w w' ∧ RdAt w' b s (bytePlace s i + 1) ∧ PartAt w' c a (addRange T (bn s (bytePlace s i)) (bn s (bytePlace s i))) := by
  have HB := Asd.mk hb
  have HP := Asd.mk hc
  have H0 := Asd.mk h0
  obtain ⟨q, hq⟩ : ∃ q, q = bytePlace s i + 1 := ⟨_, rfl⟩
  obtain ⟨x, hx⟩ : ∃ x, x = bn s (bytePlace s i) := ⟨_, rfl⟩
  have hx5 : x ≤ 255 := by rw [hx]; exact bn_le _ _
  have hqs : q ≤ s.size := by omega
  rw [← hq, ← hx]
  rw [← hq] at g1 g2 g3 g4
  have HX := Asd.mk hx.symm
  have HQ := Asd.mk hq.symm
  have G1 := Asd.mk g1
  clear g1
  have G4 := Asd.mk g4
  clear g4
  have g2b : decide ((q : Int) + 1 < (s.size : Int)) = true := decide_eq_true (by omega)
  have g2i : (q : Int) + 1 < (s.size : Int) := by omega
  have g2j : (q : Int) + 1 ≤ (s.size : Int) := by omega
  have g3b : (((s[q + 1]'g2).toNat : Int) != 93) = true := by unfold bn at g3; rw [dif_pos g2] at g3; rw [bne_iff_ne]; omega
  clear g3
  clear hb hc h0 hx hq
  go_enter Tryz.func46, Tryz.ntmps46
  go_wp2_with fail
  refine (starts_calls b s i _ _ HB.out hi hs (by decide)).mono ?_
  rw [H0.out]
  rintro e w' ⟨rfl, n, rfl⟩
  go_wp2_with fail
  refine (byte_yes b s i _ (hp_drewN HB.out n) hi hs hin).mono ?_
  rw [HQ.out, HX.out]
  rintro e w1 ⟨rfl, hC1, hR1⟩
  have HC1 := Asd.mk (((Chg.refl [b] w).drewN n).trans hC1)
  have HR1 := Asd.mk hR1
  have HP1 := Asd.mk (show PartAt w1 c a T from hC1.heap (hp_drewN HP.out n) (by simp; exact fun e => hne e.symm))
  clear hC1 hR1
  have k1 : IntKind.i64.wrap ((q : Int) + 1) = (q : Int) + 1 := w64 (by omega) (by omega)
  have k2 : 0 ≤ (q : Int) + 1 := by omega
  have k3 : ((q : Int) + 1).toNat = q + 1 := by omega
  have r0 := HR1.out.c0
  have r1 := HR1.out.c1
  go_wp2
  go_quiet ((first | (go_at_call 45; exact quiet_v (starts_calls b s q ⟨#[45]⟩ _ (hp_drewN HR1.out _) hqs hs (by decide)) G1.out) | (go_at_call 64; exact quiet_same_v (hasPrefix_calls _ _ _ (by simp; omega) (by decide)) (show startsB (s.extract (q + 1) s.size) ⟨#[91, 58]⟩ = true from G4.out))))
  clear k1
  go_wp2
  go_loopw [8] (fun v wx => ∃ y : Nat, x ≤ y ∧ (y ≤ x + 1 ∨ y = x) ∧ v = .int .i64 y ∧ Asd (Chg [b, c] w wx) ∧ Asd (RdAt wx b s q) ∧ Asd (PartAt wx c a (fun t => T t || (decide (x ≤ t) && decide (t < y))))) (fun v _ => x + 1 - (intOf v).toNat)
  case atStart => exact ⟨x, Nat.le_refl _, .inr rfl, rfl, ⟨(HC1.out.mono (by simp)).drewN _⟩, ⟨hp_drewN HR1.out _⟩, ⟨(show PartAt _ c a T from hp_drewN HP1.out _).congr (fun t _ => by
    have : (decide (x ≤ t) && decide (t < x)) = false := by by_cases h : x ≤ t <;> simp [h] <;> omega
    rw [this, Bool.or_false])⟩⟩
  case round =>
    obtain ⟨y, hy, hy2, rfl, HC2, HB2, HP2⟩ := hrel
    by_cases hyz : y ≤ x
    · have pc := HP2.out.cell y (by omega)
      have pf := HP2.out.frozen (1 + y)
      have b1 : (y : Int) < 256 := by omega
      have b0 : 0 ≤ (y : Int) := by omega
      go_wp2
      exact ⟨⟨y + 1, by omega, .inl (by omega), by go_num, ⟨HC2.out.setCell (by simp) _⟩, ⟨hp_set_other HB2.out hne _ _⟩, ⟨(HP2.out.set y true).congr (fun t _ => by
        simp only [upd]
        by_cases ht : t = y
        · subst ht; rw [if_pos rfl, decide_eq_true hy, decide_eq_true (by omega : t < t + 1)]; simp
        · rw [if_neg ht, show decide (t < y) = decide (t < y + 1) from decide_eq_decide.mpr (by omega)])⟩⟩, by simp [intOf]; omega⟩
    · go_wp2
      go_ret
      refine ⟨rfl, HC2.out, HB2.out, HP2.out.congr (fun t _ => ?_)⟩
      simp only [addRange]
      have : (decide (x ≤ t) && decide (t < y)) = (decide (x ≤ t) && decide (t ≤ x)) := by
        by_cases h : x ≤ t
        · rw [decide_eq_true h, Bool.true_and, Bool.true_and]; exact decide_eq_decide.mpr (by omega)
        · rw [decide_eq_false h]; rfl
      rw [this]
set_option maxRecDepth 100000 in
set_option maxHeartbeats 4000000 in
theorem item_range (b c : Nat) (s : ByteArray) (i : Nat) (a : Bool) (T : Nat → Bool) (w : World) (hb : RdAt w b s i) (hc : PartAt w c a T) (hne : b ≠ c) (hi : i ≤ s.size) (hs : s.size ≤ 1048576)
    (h0 : startsAt s i ⟨#[91, 58]⟩ = false) (hin : bytePlace s i < s.size) (g1 : startsAt s (bytePlace s i + 1) ⟨#[45]⟩ = true) (g2 : bytePlace s i + 1 + 1 < s.size) (g3 : bn s (bytePlace s i + 1 + 1) ≠ 93) (g4 : startsAt s (bytePlace s i + 1 + 1) ⟨#[91, 58]⟩ = false)
    (hin2 : bytePlace s (bytePlace s i + 1 + 1) < s.size) :
    Calls Tryz.prog 46 #[.pointer (some ⟨b, 0, none⟩), .pointer (some ⟨c, 0, none⟩)] w fun e w' =>
      e = .returned (.bool true) ∧ Chg [b, c] w w' ∧ RdAt w' b s (bytePlace s (bytePlace s i + 1 + 1) + 1) ∧ PartAt w' c a (addRange T (bn s (bytePlace s i)) (bn s (bytePlace s (bytePlace s i + 1 + 1)))) := by
  have HB := Asd.mk hb
  have HP := Asd.mk hc
  have H0 := Asd.mk h0
  obtain ⟨q, hq⟩ : ∃ q, q = bytePlace s i + 1 := ⟨_, rfl⟩
  obtain ⟨x, hx⟩ : ∃ x, x = bn s (bytePlace s i) := ⟨_, rfl⟩
  have hx5 : x ≤ 255 := by rw [hx]; exact bn_le _ _
  have hqs : q ≤ s.size := by omega
  rw [← hq, ← hx]
  rw [← hq] at g1 g2 g3 g4 hin2
  obtain ⟨q2, hq2⟩ : ∃ q2, q2 = bytePlace s (q + 1) + 1 := ⟨_, rfl⟩
  obtain ⟨z, hz⟩ : ∃ z, z = bn s (bytePlace s (q + 1)) := ⟨_, rfl⟩
  have hz5 : z ≤ 255 := by rw [hz]; exact bn_le _ _
  rw [← hq2, ← hz]
  have HZ := Asd.mk hz.symm
  have HQ2 := Asd.mk hq2.symm
  clear hz hq2
  have HX := Asd.mk hx.symm
  have HQ := Asd.mk hq.symm
  have G1 := Asd.mk g1
  clear g1
  have G4 := Asd.mk g4
  clear g4
  have g2b : decide ((q : Int) + 1 < (s.size : Int)) = true := decide_eq_true (by omega)
  have g2i : (q : Int) + 1 < (s.size : Int) := by omega
  have g2j : (q : Int) + 1 ≤ (s.size : Int) := by omega
  have g3b : (((s[q + 1]'g2).toNat : Int) != 93) = true := by unfold bn at g3; rw [dif_pos g2] at g3; rw [bne_iff_ne]; omega
  clear g3
  clear hb hc h0 hx hq
  go_enter Tryz.func46, Tryz.ntmps46
  go_wp2_with fail
  refine (starts_calls b s i _ _ HB.out hi hs (by decide)).mono ?_
  rw [H0.out]
  rintro e w' ⟨rfl, n, rfl⟩
  go_wp2_with fail
  refine (byte_yes b s i _ (hp_drewN HB.out n) hi hs hin).mono ?_
  rw [HQ.out, HX.out]
  rintro e w1 ⟨rfl, hC1, hR1⟩
  have HC1 := Asd.mk (((Chg.refl [b] w).drewN n).trans hC1)
  have HR1 := Asd.mk hR1
  have HP1 := Asd.mk (show PartAt w1 c a T from hC1.heap (hp_drewN HP.out n) (by simp; exact fun e => hne e.symm))
  clear hC1 hR1
  have k1 : IntKind.i64.wrap ((q : Int) + 1) = (q : Int) + 1 := w64 (by omega) (by omega)
  have k2 : 0 ≤ (q : Int) + 1 := by omega
  have k3 : ((q : Int) + 1).toNat = q + 1 := by omega
  have r0 := HR1.out.c0
  have r1 := HR1.out.c1
  have rf := HR1.out.f1
  go_wp2
  go_quiet ((first | (go_at_call 45; exact quiet_v (starts_calls b s q ⟨#[45]⟩ _ (hp_drewN HR1.out _) hqs hs (by decide)) G1.out) | (go_at_call 64; exact quiet_same_v (hasPrefix_calls _ _ _ (by simp; omega) (by decide)) (show startsB (s.extract (q + 1) s.size) ⟨#[91, 58]⟩ = false from G4.out))))
  clear k1
  go_wp2_with fail
  have HR2 := fun n : Nat => (show RdAt ((w1.drewN n).setCell ⟨b, 1, none⟩ (.int .i64 ((q : Int) + 1))) b s (q + 1) from hp_set (hp_drewN HR1.out n) _ _)
  have HP2 := fun n : Nat => (show PartAt ((w1.drewN n).setCell ⟨b, 1, none⟩ (.int .i64 ((q : Int) + 1))) c a T from hp_set_other (hp_drewN HP1.out n) (fun e => hne e.symm) _ _)
  have HC2 := fun n : Nat => (show Chg [b] w ((w1.drewN n).setCell ⟨b, 1, none⟩ (.int .i64 ((q : Int) + 1))) from (HC1.out.drewN n).setCell (by simp) _)
  refine (byte_yes b s (q + 1) _ (HR2 _) (by omega) hs hin2).mono ?_
  rw [HQ2.out, HZ.out]
  rintro e w3 ⟨rfl, hC3, hR3⟩
  have HC3 := Asd.mk (((HC2 _).trans hC3).mono (M := [b, c]) (by simp))
  have HR3 := Asd.mk hR3
  have HP3 := Asd.mk (show PartAt w3 c a T from hC3.heap (HP2 _) (by simp; exact fun e => hne e.symm))
  clear hC3 hR3 HR2 HP2 HC2
  go_wp2
  go_loopw [8] (fun v wx => ∃ y : Nat, x ≤ y ∧ (y ≤ z + 1 ∨ y = x) ∧ v = .int .i64 y ∧ Asd (Chg [b, c] w wx) ∧ Asd (RdAt wx b s q2) ∧ Asd (PartAt wx c a (fun t => T t || (decide (x ≤ t) && decide (t < y))))) (fun v _ => z + 1 - (intOf v).toNat)
  case atStart => exact ⟨x, Nat.le_refl _, .inr rfl, rfl, HC3, HR3, ⟨(show PartAt _ c a T from HP3.out).congr (fun t _ => by
    have : (decide (x ≤ t) && decide (t < x)) = false := by by_cases h : x ≤ t <;> simp [h] <;> omega
    rw [this, Bool.or_false])⟩⟩
  case round =>
    obtain ⟨y, hy, hy2, rfl, HC2, HB2, HP2⟩ := hrel
    by_cases hyz : y ≤ z
    · have pc := HP2.out.cell y (by omega)
      have pf := HP2.out.frozen (1 + y)
      have b1 : (y : Int) < 256 := by omega
      have b0 : 0 ≤ (y : Int) := by omega
      go_wp2
      exact ⟨⟨y + 1, by omega, .inl (by omega), by go_num, ⟨HC2.out.setCell (by simp) _⟩, ⟨hp_set_other HB2.out hne _ _⟩, ⟨(HP2.out.set y true).congr (fun t _ => by
        simp only [upd]
        by_cases ht : t = y
        · subst ht; rw [if_pos rfl, decide_eq_true hy, decide_eq_true (by omega : t < t + 1)]; simp
        · rw [if_neg ht, show decide (t < y) = decide (t < y + 1) from decide_eq_decide.mpr (by omega)])⟩⟩, by simp [intOf]; omega⟩
    · go_wp2
      go_ret
      refine ⟨rfl, HC2.out, HB2.out, HP2.out.congr (fun t _ => ?_)⟩
      simp only [addRange]
      have : (decide (x ≤ t) && decide (t < y)) = (decide (x ≤ t) && decide (t ≤ z)) := by
        by_cases h : x ≤ t
        · rw [decide_eq_true h, Bool.true_and, Bool.true_and]; exact decide_eq_decide.mpr (by omega)
        · rw [decide_eq_false h]; rfl
      rw [this]
set_option maxRecDepth 100000 in
set_option maxHeartbeats 4000000 in
theorem item_range_end (b c : Nat) (s : ByteArray) (i : Nat) (a : Bool) (T : Nat → Bool) (w : World) (hb : RdAt w b s i) (hc : PartAt w c a T) (hne : b ≠ c) (hi : i ≤ s.size) (hs : s.size ≤ 1048576)
    (h0 : startsAt s i ⟨#[91, 58]⟩ = false) (hin : bytePlace s i < s.size) (g1 : startsAt s (bytePlace s i + 1) ⟨#[45]⟩ = true) (g2 : bytePlace s i + 1 + 1 < s.size) (g3 : bn s (bytePlace s i + 1 + 1) ≠ 93) (g4 : startsAt s (bytePlace s i + 1 + 1) ⟨#[91, 58]⟩ = false)
    (hin2 : s.size ≤ bytePlace s (bytePlace s i + 1 + 1)) :
    Calls Tryz.prog 46 #[.pointer (some ⟨b, 0, none⟩), .pointer (some ⟨c, 0, none⟩)] w fun e w' => e = .returned (.bool false) ∧ Chg [b] w w' := by
  have HB := Asd.mk hb
  have HP := Asd.mk hc
  have H0 := Asd.mk h0
  obtain ⟨q, hq⟩ : ∃ q, q = bytePlace s i + 1 := ⟨_, rfl⟩
  obtain ⟨x, hx⟩ : ∃ x, x = bn s (bytePlace s i) := ⟨_, rfl⟩
  have hx5 : x ≤ 255 := by rw [hx]; exact bn_le _ _
  have hqs : q ≤ s.size := by omega
  rw [← hq] at g1 g2 g3 g4 hin2
  have HX := Asd.mk hx.symm
  have HQ := Asd.mk hq.symm
  have G1 := Asd.mk g1
  clear g1
  have G4 := Asd.mk g4
  clear g4
  have g2b : decide ((q : Int) + 1 < (s.size : Int)) = true := decide_eq_true (by omega)
  have g2i : (q : Int) + 1 < (s.size : Int) := by omega
  have g2j : (q : Int) + 1 ≤ (s.size : Int) := by omega
  have g3b : (((s[q + 1]'g2).toNat : Int) != 93) = true := by unfold bn at g3; rw [dif_pos g2] at g3; rw [bne_iff_ne]; omega
  clear g3
  clear hb hc h0 hx hq
  go_enter Tryz.func46, Tryz.ntmps46
  go_wp2_with fail
  refine (starts_calls b s i _ _ HB.out hi hs (by decide)).mono ?_
  rw [H0.out]
  rintro e w' ⟨rfl, n, rfl⟩
  go_wp2_with fail
  refine (byte_yes b s i _ (hp_drewN HB.out n) hi hs hin).mono ?_
  rw [HQ.out, HX.out]
  rintro e w1 ⟨rfl, hC1, hR1⟩
  have HC1 := Asd.mk (((Chg.refl [b] w).drewN n).trans hC1)
  have HR1 := Asd.mk hR1
  have HP1 := Asd.mk (show PartAt w1 c a T from hC1.heap (hp_drewN HP.out n) (by simp; exact fun e => hne e.symm))
  clear hC1 hR1
  have k1 : IntKind.i64.wrap ((q : Int) + 1) = (q : Int) + 1 := w64 (by omega) (by omega)
  have k2 : 0 ≤ (q : Int) + 1 := by omega
  have k3 : ((q : Int) + 1).toNat = q + 1 := by omega
  have r0 := HR1.out.c0
  have r1 := HR1.out.c1
  have rf := HR1.out.f1
  go_wp2
  go_quiet ((first | (go_at_call 45; exact quiet_v (starts_calls b s q ⟨#[45]⟩ _ (hp_drewN HR1.out _) hqs hs (by decide)) G1.out) | (go_at_call 64; exact quiet_same_v (hasPrefix_calls _ _ _ (by simp; omega) (by decide)) (show startsB (s.extract (q + 1) s.size) ⟨#[91, 58]⟩ = false from G4.out))))
  clear k1
  go_wp2_with fail
  have HR2 := fun n : Nat => (show RdAt ((w1.drewN n).setCell ⟨b, 1, none⟩ (.int .i64 ((q : Int) + 1))) b s (q + 1) from hp_set (hp_drewN HR1.out n) _ _)
  have HP2 := fun n : Nat => (show PartAt ((w1.drewN n).setCell ⟨b, 1, none⟩ (.int .i64 ((q : Int) + 1))) c a T from hp_set_other (hp_drewN HP1.out n) (fun e => hne e.symm) _ _)
  have HC2 := fun n : Nat => (show Chg [b] w ((w1.drewN n).setCell ⟨b, 1, none⟩ (.int .i64 ((q : Int) + 1))) from (HC1.out.drewN n).setCell (by simp) _)
  refine (byte_no b s (q + 1) _ (HR2 _) (by omega) hs hin2).mono ?_
  rintro e w3 ⟨rfl, hC3, hR3⟩
  have HC3 := Asd.mk ((HC2 _).trans hC3)
  clear hC3 hR3 HR2 HP2 HC2
  go_wp2
  go_ret
  exact ⟨rfl, HC3.out⟩
end Go.Proofs.YtgkifphfibcfdaaGreatDoor.G
