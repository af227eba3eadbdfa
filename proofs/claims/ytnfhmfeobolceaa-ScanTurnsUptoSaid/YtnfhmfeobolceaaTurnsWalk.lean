/- The walk of the law ScanTurns through the Go code, by the contracts of scan.All, scan.First, ahead and sure (its printed text is too long for a claim). One theorem for each way. -/
import Derived.Test.YtnfhmfeobolceaaPScanTurnsx3
import Derived.Handy
namespace Go.Proofs.Ytnfhmfeobolceaa.PScanTurns
open Go.RowKit Go.Proofs.YtnfhmfeobolceaaW.PrintWords Go.Proofs.YtnfhmfeobolceaaW.PrintLast Go.Proofs.YtnfhmfeobolceaaW.PrintMore
set_option linter.unusedVariables false
set_option linter.unusedSimpArgs false
attribute [local go_sem high] eqA23
theorem new_cells {w w1 : World} {o : Obj} (hb : Below (w.alloc o).heap.size (w.alloc o) w1) : (∀ j, w1.cell? ⟨w.heap.size, j, none⟩ = (w.alloc o).cell? ⟨w.heap.size, j, none⟩) ∧ w.heap.size < w1.heap.size :=
  ⟨fun j => hb.cell (p := ⟨w.heap.size, j, none⟩) (by simp), by have := hb.size; simp at this; omega⟩
theorem four_cells {w w1 : World} {a b c d : Value} {t : TypeId} (hb : Below (w.alloc (.cells #[a, b, c, d] t)).heap.size (w.alloc (.cells #[a, b, c, d] t)) w1) :
    w1.cell? ⟨w.heap.size, 0, none⟩ = some a ∧ w1.cell? ⟨w.heap.size, 1, none⟩ = some b ∧ w1.cell? ⟨w.heap.size, 2, none⟩ = some c ∧ w1.cell? ⟨w.heap.size, 3, none⟩ = some d ∧ w.heap.size < w1.heap.size := by
  obtain ⟨h, h2⟩ := new_cells hb
  refine ⟨?_, ?_, ?_, ?_, h2⟩ <;> rw [h, World.cell?_alloc_at _ _ _ _ rfl] <;> rfl
theorem ahead_quiet {a b : ByteArray} {p : Int} (h : selvagelaw19_ahead.f a b p = some true) (w : World) (x n : Nat) :
    Calls Try.prog 17 #[.string a, .string b, .int .i64 p] (w.drewN (x + n)) fun e w' => e = .returned (.bool true) ∧ ∃ m, w' = w.drewN (x + m) :=
  (selvagelaw19_ahead.calls a b p true _ h).mono fun e w' ⟨he, hd⟩ => ⟨he, by obtain ⟨m, hm⟩ := hd.out; exact ⟨n + m, by rw [hm, World.drewN_drewN, Nat.add_assoc]⟩⟩
set_option maxHeartbeats 4000000 in
set_option maxRecDepth 100000 in
theorem turns_none_1 (k : Nat) (a b : ByteArray) (w : World)
    (hab : Aside0 (scan_All.f k a b (-1) = some [])) (hba : Aside0 (scan_All.f k b a (-1) = some []))
    (fab : Aside0 (scan_First.f k a b = some (0, 0, 0, 0, false, 1))) (fba : Aside0 (scan_First.f k b a = some (0, 0, 0, 0, false, 2)))
    (hne : (a.toList == b.toList) = false) (hsure : Aside0 (selvagelaw19_sure.f k = some true)) :
    Calls Try.prog 6 #[.string a, .string b] w fun e w' => e = .returned (.bool true) ∧ Below w.heap.size w w' := by
  go_enter Try.func6, Try.ntmps6
  go_wp2_with fail
  refine (scan_All.calls k a b (-1) [] _ hab.out).mono ?_
  rintro e w1 ⟨v, rfl, hR, hb1⟩
  obtain ⟨A, c, rfl⟩ := Kd.R_slice hR
  have HB1 := Aside0.mk hb1
  clear hR hb1
  go_wp2_with fail
  refine (scan_All.calls k b a (-1) [] _ hba.out).mono ?_
  rintro e w2 ⟨v, rfl, hR, hb2⟩
  obtain ⟨A', c', rfl⟩ := Kd.R_slice hR
  have HB2 := Aside0.mk (HB1.out.trans (hb2.mono HB1.out.size))
  clear hR hb2 HB1
  go_wp2_with fail
  refine (scan_First.calls k a b 0 0 0 0 false 1 _ fab.out).mono ?_
  rintro e w3 ⟨rfl, hb3⟩
  have HB3 := Aside0.mk (HB2.out.trans (hb3.mono HB2.out.size))
  clear hb3 HB2
  go_wp2_with fail
  refine (scan_First.calls k b a 0 0 0 0 false 2 _ fba.out).mono ?_
  rintro e w4 ⟨rfl, hb4⟩
  obtain ⟨u0, u1, u2, u3, hs4⟩ := four_cells hb4
  have HB4 := Aside0.mk ((HB3.out.alloc HB3.out.size _).trans (hb4.mono (by have := HB3.out.size; simp; omega)))
  clear hb4 HB3
  go_wp2_with fail
  go_quiet (fail)
  go_wp2
  go_loopw [13] (fun i wr => i = .int .i64 0 ∧ Drawn0 (w4.alloc (.cells #[.int .i64 0, .int .i64 0, .int .i64 0, .int .i64 0] 23)) wr) (fun _ _ => 0)
  case atStart => exact ⟨rfl, by repeat (first | exact Drawn0.refl _ | apply Drawn0.step)⟩
  case round =>
    obtain ⟨rfl, ⟨n, rfl⟩⟩ := hrel
    go_wp2_with (go_at_call 11; refine (selvagelaw19_sure.calls k true _ hsure.out).mono ?_; rintro e w5 ⟨rfl, hb5⟩)
    go_ret
    refine ⟨rfl, ?_⟩
    have h4 : Below w.heap.size w (w4.alloc (.cells #[.int .i64 0, .int .i64 0, .int .i64 0, .int .i64 0] 23)) := HB4.out.alloc HB4.out.size _
    have h5 := pw_below_drewN h4 n
    exact h5.trans (hb5.mono h5.size)
set_option maxHeartbeats 4000000 in
set_option maxRecDepth 100000 in
theorem turns_none_2 (k : Nat) (a b : ByteArray) (w : World)
    (hab : Aside0 (scan_All.f k a b (-1) = some [])) (hba : Aside0 (scan_All.f k b a (-1) = some []))
    (fab : Aside0 (scan_First.f k a b = some (0, 0, 0, 0, false, 2))) (fba : Aside0 (scan_First.f k b a = some (0, 0, 0, 0, false, 1)))
    (hne : (a.toList == b.toList) = false) (hsure : Aside0 (selvagelaw19_sure.f k = some true)) :
    Calls Try.prog 6 #[.string a, .string b] w fun e w' => e = .returned (.bool true) ∧ Below w.heap.size w w' := by
  go_enter Try.func6, Try.ntmps6
  go_wp2_with fail
  refine (scan_All.calls k a b (-1) [] _ hab.out).mono ?_
  rintro e w1 ⟨v, rfl, hR, hb1⟩
  obtain ⟨A, c, rfl⟩ := Kd.R_slice hR
  have HB1 := Aside0.mk hb1
  clear hR hb1
  go_wp2_with fail
  refine (scan_All.calls k b a (-1) [] _ hba.out).mono ?_
  rintro e w2 ⟨v, rfl, hR, hb2⟩
  obtain ⟨A', c', rfl⟩ := Kd.R_slice hR
  have HB2 := Aside0.mk (HB1.out.trans (hb2.mono HB1.out.size))
  clear hR hb2 HB1
  go_wp2_with fail
  refine (scan_First.calls k a b 0 0 0 0 false 2 _ fab.out).mono ?_
  rintro e w3 ⟨rfl, hb3⟩
  have HB3 := Aside0.mk (HB2.out.trans (hb3.mono HB2.out.size))
  clear hb3 HB2
  go_wp2_with fail
  refine (scan_First.calls k b a 0 0 0 0 false 1 _ fba.out).mono ?_
  rintro e w4 ⟨rfl, hb4⟩
  obtain ⟨u0, u1, u2, u3, hs4⟩ := four_cells hb4
  have HB4 := Aside0.mk ((HB3.out.alloc HB3.out.size _).trans (hb4.mono (by have := HB3.out.size; simp; omega)))
  clear hb4 HB3
  go_wp2_with fail
  go_quiet (fail)
  go_wp2
  go_loopw [13] (fun i wr => i = .int .i64 0 ∧ Drawn0 (w4.alloc (.cells #[.int .i64 0, .int .i64 0, .int .i64 0, .int .i64 0] 23)) wr) (fun _ _ => 0)
  case atStart => exact ⟨rfl, by repeat (first | exact Drawn0.refl _ | apply Drawn0.step)⟩
  case round =>
    obtain ⟨rfl, ⟨n, rfl⟩⟩ := hrel
    go_wp2_with (go_at_call 11; refine (selvagelaw19_sure.calls k true _ hsure.out).mono ?_; rintro e w5 ⟨rfl, hb5⟩)
    go_ret
    refine ⟨rfl, ?_⟩
    have h4 : Below w.heap.size w (w4.alloc (.cells #[.int .i64 0, .int .i64 0, .int .i64 0, .int .i64 0] 23)) := HB4.out.alloc HB4.out.size _
    have h5 := pw_below_drewN h4 n
    exact h5.trans (hb5.mono h5.size)
set_option maxHeartbeats 4000000 in
set_option maxRecDepth 100000 in
theorem turns_none_0 (k : Nat) (a b : ByteArray) (w : World)
    (hab : Aside0 (scan_All.f k a b (-1) = some [])) (hba : Aside0 (scan_All.f k b a (-1) = some []))
    (fab : Aside0 (scan_First.f k a b = some (0, 0, 0, 0, false, 0))) (fba : Aside0 (scan_First.f k b a = some (0, 0, 0, 0, false, 0)))
    (hne : (a.toList == b.toList) = true) (hsure : Aside0 (selvagelaw19_sure.f k = some true)) :
    Calls Try.prog 6 #[.string a, .string b] w fun e w' => e = .returned (.bool true) ∧ Below w.heap.size w w' := by
  go_enter Try.func6, Try.ntmps6
  go_wp2_with fail
  refine (scan_All.calls k a b (-1) [] _ hab.out).mono ?_
  rintro e w1 ⟨v, rfl, hR, hb1⟩
  obtain ⟨A, c, rfl⟩ := Kd.R_slice hR
  have HB1 := Aside0.mk hb1
  clear hR hb1
  go_wp2_with fail
  refine (scan_All.calls k b a (-1) [] _ hba.out).mono ?_
  rintro e w2 ⟨v, rfl, hR, hb2⟩
  obtain ⟨A', c', rfl⟩ := Kd.R_slice hR
  have HB2 := Aside0.mk (HB1.out.trans (hb2.mono HB1.out.size))
  clear hR hb2 HB1
  go_wp2_with fail
  refine (scan_First.calls k a b 0 0 0 0 false 0 _ fab.out).mono ?_
  rintro e w3 ⟨rfl, hb3⟩
  have HB3 := Aside0.mk (HB2.out.trans (hb3.mono HB2.out.size))
  clear hb3 HB2
  go_wp2_with fail
  refine (scan_First.calls k b a 0 0 0 0 false 0 _ fba.out).mono ?_
  rintro e w4 ⟨rfl, hb4⟩
  obtain ⟨u0, u1, u2, u3, hs4⟩ := four_cells hb4
  have HB4 := Aside0.mk ((HB3.out.alloc HB3.out.size _).trans (hb4.mono (by have := HB3.out.size; simp; omega)))
  clear hb4 HB3
  go_wp2_with fail
  go_quiet (fail)
  go_wp2
  go_loopw [13] (fun i wr => i = .int .i64 0 ∧ Drawn0 (w4.alloc (.cells #[.int .i64 0, .int .i64 0, .int .i64 0, .int .i64 0] 23)) wr) (fun _ _ => 0)
  case atStart => exact ⟨rfl, by repeat (first | exact Drawn0.refl _ | apply Drawn0.step)⟩
  case round =>
    obtain ⟨rfl, ⟨n, rfl⟩⟩ := hrel
    go_wp2_with (go_at_call 11; refine (selvagelaw19_sure.calls k true _ hsure.out).mono ?_; rintro e w5 ⟨rfl, hb5⟩)
    go_ret
    refine ⟨rfl, ?_⟩
    have h4 : Below w.heap.size w (w4.alloc (.cells #[.int .i64 0, .int .i64 0, .int .i64 0, .int .i64 0] 23)) := HB4.out.alloc HB4.out.size _
    have h5 := pw_below_drewN h4 n
    exact h5.trans (hb5.mono h5.size)
set_option maxHeartbeats 4000000 in
set_option maxRecDepth 100000 in
theorem turns_some_1 (k : Nat) (a b : ByteArray) (l m : List S23) (x : S23) (w : World)
    (hab : Aside0 (scan_All.f k a b (-1) = some l)) (hba : Aside0 (scan_All.f k b a (-1) = some m))
    (fab : Aside0 (scan_First.f k a b = some (x.f0, x.f1, x.f2, x.f3, true, 1))) (fba : Aside0 (scan_First.f k b a = some (x.f0, x.f1, x.f3, x.f2, true, 2)))
    (hx : Aside0 (rd_T23 l 0 = x)) (hlen : ((l.length : Int) != (m.length : Int)) = false) (hpos : decide (0 < (l.length : Int)) = true) (hpos' : 0 < l.length) (hne : (a.toList == b.toList) = false) (hm : l.length ≤ 1048576)
    (hrow : Aside0 (∀ j : Nat, j < l.length → ∃ p0 p1 p2 p3 q : Int, rd_T23 l j = ⟨p0, p1, p2, p3⟩ ∧ rd_T23 m j = ⟨p0, q, p3, p2⟩ ∧ (q = p1 ∨ ((p1 != q) = true ∧ selvagelaw19_ahead.f a b p0 = some true))))
    (hll : m.length = l.length) (hsure : Aside0 (selvagelaw19_sure.f k = some true)) :
    Calls Try.prog 6 #[.string a, .string b] w fun e w' => e = .returned (.bool true) ∧ Below w.heap.size w w' := by
  go_enter Try.func6, Try.ntmps6
  go_wp2_with fail
  refine (scan_All.calls k a b (-1) l _ hab.out).mono ?_
  rintro e w1 ⟨v, rfl, hR, hb1⟩
  obtain ⟨A, c, rfl⟩ := Kd.R_slice hR
  have CL := Aside0.mk (Kd.R_reads' hR).2.2
  have HB1 := Aside0.mk hb1
  clear hR hb1
  go_wp2_with fail
  refine (scan_All.calls k b a (-1) m _ hba.out).mono ?_
  rintro e w2 ⟨v, rfl, hR, hb2⟩
  obtain ⟨A', c', rfl⟩ := Kd.R_slice hR
  replace CL := Aside0.mk (Kd.C_below CL.out hb2)
  have CM := Aside0.mk (Kd.R_reads' hR).2.2
  have HB2 := Aside0.mk (HB1.out.trans (hb2.mono HB1.out.size))
  clear hR hb2 HB1
  go_wp2_with fail
  refine (scan_First.calls k a b x.f0 x.f1 x.f2 x.f3 true 1 _ fab.out).mono ?_
  rintro e w3 ⟨rfl, hb3⟩
  replace CL := Aside0.mk (Kd.C_below CL.out hb3)
  replace CM := Aside0.mk (Kd.C_below CM.out hb3)
  have HB3 := Aside0.mk (HB2.out.trans (hb3.mono HB2.out.size))
  clear hb3 HB2
  go_wp2_with fail
  refine (scan_First.calls k b a x.f0 x.f1 x.f3 x.f2 true 2 _ fba.out).mono ?_
  rintro e w4 ⟨rfl, hb4⟩
  obtain ⟨u0, u1, u2, u3, hs4⟩ := four_cells hb4
  replace CL := Aside0.mk (Kd.C_below (Kd.C_alloc CL.out _) hb4)
  replace CM := Aside0.mk (Kd.C_below (Kd.C_alloc CM.out _) hb4)
  have HB4 := Aside0.mk ((HB3.out.alloc HB3.out.size _).trans (hb4.mono (by have := HB3.out.size; simp; omega)))
  clear hb4 HB3
  replace CL := Aside0.mk (Kd.C_alloc CL.out (.cells #[.int .i64 x.f0, .int .i64 x.f1, .int .i64 x.f3, .int .i64 x.f2] 23))
  replace CM := Aside0.mk (Kd.C_alloc CM.out (.cells #[.int .i64 x.f0, .int .i64 x.f1, .int .i64 x.f3, .int .i64 x.f2] 23))
  obtain ⟨ad, hA, e0, e1, e2, e3⟩ := at_T23 CL.out 0 (by omega) (by omega)
  subst hA
  rw [hx.out] at e0 e1 e2 e3
  simp [Addr.add] at e0 e1 e2 e3
  go_wp2_with fail
  go_quiet (fail)
  clear e0 e1 e2 e3
  go_wp2
  go_loopw [13] (fun i wr => ∃ j : Nat, j ≤ l.length ∧ i = .int .i64 j ∧ Drawn0 (w4.alloc (.cells #[.int .i64 x.f0, .int .i64 x.f1, .int .i64 x.f3, .int .i64 x.f2] 23)) wr) (fun i _ => l.length - (intOf i).toNat)
  case atStart => exact ⟨0, Nat.zero_le _, rfl, by repeat (first | exact Drawn0.refl _ | apply Drawn0.step)⟩
  case round =>
    obtain ⟨j, hj, rfl, ⟨n, rfl⟩⟩ := hrel
    by_cases hlt : j < l.length
    · obtain ⟨p0, p1, p2, p3, q, r1, r2, r3⟩ := hrow.out j hlt
      obtain ⟨adl, hA, e0, e1, e2, e3⟩ := at_T23 CL.out j (by omega) (by omega)
      obtain rfl : ad = adl := by injection hA
      obtain ⟨adm, hA', g0, g1, g2, g3⟩ := at_T23 CM.out j (by omega) (by omega)
      subst hA'
      rw [r1] at e0 e1 e2 e3
      rw [r2] at g0 g1 g2 g3
      clear r1 r2
      simp only [Int.toNat_natCast] at e0 e1 e2 e3 g0 g1 g2 g3
      rcases r3 with rfl | ⟨r3, r4⟩
      · go_wp2
        go_quiet (fail)
        go_wp2
        exact ⟨⟨j + 1, by omega, by go_num, by repeat (first | exact Drawn0.refl _ | apply Drawn0.step)⟩, by simp [intOf]; omega⟩
      · have R4 := Aside0.mk r4
        clear r4
        go_wp2
        go_quiet ((go_at_call 17; exact ahead_quiet R4.out _ _ _))
        go_wp2
        exact ⟨⟨j + 1, by omega, by go_num, by repeat (first | exact Drawn0.refl _ | apply Drawn0.step)⟩, by simp [intOf]; omega⟩
    · go_wp2_with (go_at_call 11; refine (selvagelaw19_sure.calls k true _ hsure.out).mono ?_; rintro e w5 ⟨rfl, hb5⟩)
      go_ret
      refine ⟨rfl, ?_⟩
      have h4 : Below w.heap.size w (w4.alloc (.cells #[.int .i64 x.f0, .int .i64 x.f1, .int .i64 x.f3, .int .i64 x.f2] 23)) := HB4.out.alloc HB4.out.size _
      have h5 := pw_below_drewN h4 n
      exact h5.trans (hb5.mono h5.size)
set_option maxHeartbeats 4000000 in
set_option maxRecDepth 100000 in
theorem turns_some_2 (k : Nat) (a b : ByteArray) (l m : List S23) (x : S23) (w : World)
    (hab : Aside0 (scan_All.f k a b (-1) = some l)) (hba : Aside0 (scan_All.f k b a (-1) = some m))
    (fab : Aside0 (scan_First.f k a b = some (x.f0, x.f1, x.f2, x.f3, true, 2))) (fba : Aside0 (scan_First.f k b a = some (x.f0, x.f1, x.f3, x.f2, true, 1)))
    (hx : Aside0 (rd_T23 l 0 = x)) (hlen : ((l.length : Int) != (m.length : Int)) = false) (hpos : decide (0 < (l.length : Int)) = true) (hpos' : 0 < l.length) (hne : (a.toList == b.toList) = false) (hm : l.length ≤ 1048576)
    (hrow : Aside0 (∀ j : Nat, j < l.length → ∃ p0 p1 p2 p3 q : Int, rd_T23 l j = ⟨p0, p1, p2, p3⟩ ∧ rd_T23 m j = ⟨p0, q, p3, p2⟩ ∧ (q = p1 ∨ ((p1 != q) = true ∧ selvagelaw19_ahead.f a b p0 = some true))))
    (hll : m.length = l.length) (hsure : Aside0 (selvagelaw19_sure.f k = some true)) :
    Calls Try.prog 6 #[.string a, .string b] w fun e w' => e = .returned (.bool true) ∧ Below w.heap.size w w' := by
  go_enter Try.func6, Try.ntmps6
  go_wp2_with fail
  refine (scan_All.calls k a b (-1) l _ hab.out).mono ?_
  rintro e w1 ⟨v, rfl, hR, hb1⟩
  obtain ⟨A, c, rfl⟩ := Kd.R_slice hR
  have CL := Aside0.mk (Kd.R_reads' hR).2.2
  have HB1 := Aside0.mk hb1
  clear hR hb1
  go_wp2_with fail
  refine (scan_All.calls k b a (-1) m _ hba.out).mono ?_
  rintro e w2 ⟨v, rfl, hR, hb2⟩
  obtain ⟨A', c', rfl⟩ := Kd.R_slice hR
  replace CL := Aside0.mk (Kd.C_below CL.out hb2)
  have CM := Aside0.mk (Kd.R_reads' hR).2.2
  have HB2 := Aside0.mk (HB1.out.trans (hb2.mono HB1.out.size))
  clear hR hb2 HB1
  go_wp2_with fail
  refine (scan_First.calls k a b x.f0 x.f1 x.f2 x.f3 true 2 _ fab.out).mono ?_
  rintro e w3 ⟨rfl, hb3⟩
  replace CL := Aside0.mk (Kd.C_below CL.out hb3)
  replace CM := Aside0.mk (Kd.C_below CM.out hb3)
  have HB3 := Aside0.mk (HB2.out.trans (hb3.mono HB2.out.size))
  clear hb3 HB2
  go_wp2_with fail
  refine (scan_First.calls k b a x.f0 x.f1 x.f3 x.f2 true 1 _ fba.out).mono ?_
  rintro e w4 ⟨rfl, hb4⟩
  obtain ⟨u0, u1, u2, u3, hs4⟩ := four_cells hb4
  replace CL := Aside0.mk (Kd.C_below (Kd.C_alloc CL.out _) hb4)
  replace CM := Aside0.mk (Kd.C_below (Kd.C_alloc CM.out _) hb4)
  have HB4 := Aside0.mk ((HB3.out.alloc HB3.out.size _).trans (hb4.mono (by have := HB3.out.size; simp; omega)))
  clear hb4 HB3
  replace CL := Aside0.mk (Kd.C_alloc CL.out (.cells #[.int .i64 x.f0, .int .i64 x.f1, .int .i64 x.f3, .int .i64 x.f2] 23))
  replace CM := Aside0.mk (Kd.C_alloc CM.out (.cells #[.int .i64 x.f0, .int .i64 x.f1, .int .i64 x.f3, .int .i64 x.f2] 23))
  obtain ⟨ad, hA, e0, e1, e2, e3⟩ := at_T23 CL.out 0 (by omega) (by omega)
  subst hA
  rw [hx.out] at e0 e1 e2 e3
  simp [Addr.add] at e0 e1 e2 e3
  go_wp2_with fail
  go_quiet (fail)
  clear e0 e1 e2 e3
  go_wp2
  go_loopw [13] (fun i wr => ∃ j : Nat, j ≤ l.length ∧ i = .int .i64 j ∧ Drawn0 (w4.alloc (.cells #[.int .i64 x.f0, .int .i64 x.f1, .int .i64 x.f3, .int .i64 x.f2] 23)) wr) (fun i _ => l.length - (intOf i).toNat)
  case atStart => exact ⟨0, Nat.zero_le _, rfl, by repeat (first | exact Drawn0.refl _ | apply Drawn0.step)⟩
  case round =>
    obtain ⟨j, hj, rfl, ⟨n, rfl⟩⟩ := hrel
    by_cases hlt : j < l.length
    · obtain ⟨p0, p1, p2, p3, q, r1, r2, r3⟩ := hrow.out j hlt
      obtain ⟨adl, hA, e0, e1, e2, e3⟩ := at_T23 CL.out j (by omega) (by omega)
      obtain rfl : ad = adl := by injection hA
      obtain ⟨adm, hA', g0, g1, g2, g3⟩ := at_T23 CM.out j (by omega) (by omega)
      subst hA'
      rw [r1] at e0 e1 e2 e3
      rw [r2] at g0 g1 g2 g3
      clear r1 r2
      simp only [Int.toNat_natCast] at e0 e1 e2 e3 g0 g1 g2 g3
      rcases r3 with rfl | ⟨r3, r4⟩
      · go_wp2
        go_quiet (fail)
        go_wp2
        exact ⟨⟨j + 1, by omega, by go_num, by repeat (first | exact Drawn0.refl _ | apply Drawn0.step)⟩, by simp [intOf]; omega⟩
      · have R4 := Aside0.mk r4
        clear r4
        go_wp2
        go_quiet ((go_at_call 17; exact ahead_quiet R4.out _ _ _))
        go_wp2
        exact ⟨⟨j + 1, by omega, by go_num, by repeat (first | exact Drawn0.refl _ | apply Drawn0.step)⟩, by simp [intOf]; omega⟩
    · go_wp2_with (go_at_call 11; refine (selvagelaw19_sure.calls k true _ hsure.out).mono ?_; rintro e w5 ⟨rfl, hb5⟩)
      go_ret
      refine ⟨rfl, ?_⟩
      have h4 : Below w.heap.size w (w4.alloc (.cells #[.int .i64 x.f0, .int .i64 x.f1, .int .i64 x.f3, .int .i64 x.f2] 23)) := HB4.out.alloc HB4.out.size _
      have h5 := pw_below_drewN h4 n
      exact h5.trans (hb5.mono h5.size)
set_option maxHeartbeats 4000000 in
set_option maxRecDepth 100000 in
theorem turns_some_0 (k : Nat) (a b : ByteArray) (l m : List S23) (x : S23) (w : World)
    (hab : Aside0 (scan_All.f k a b (-1) = some l)) (hba : Aside0 (scan_All.f k b a (-1) = some m))
    (fab : Aside0 (scan_First.f k a b = some (x.f0, x.f1, x.f2, x.f3, true, 0))) (fba : Aside0 (scan_First.f k b a = some (x.f0, x.f1, x.f3, x.f2, true, 0)))
    (hx : Aside0 (rd_T23 l 0 = x)) (hlen : ((l.length : Int) != (m.length : Int)) = false) (hpos : decide (0 < (l.length : Int)) = true) (hpos' : 0 < l.length) (hne : (a.toList == b.toList) = false) (hm : l.length ≤ 1048576)
    (hrow : Aside0 (∀ j : Nat, j < l.length → ∃ p0 p1 p2 p3 q : Int, rd_T23 l j = ⟨p0, p1, p2, p3⟩ ∧ rd_T23 m j = ⟨p0, q, p3, p2⟩ ∧ (q = p1 ∨ ((p1 != q) = true ∧ selvagelaw19_ahead.f a b p0 = some true))))
    (hll : m.length = l.length) (hsure : Aside0 (selvagelaw19_sure.f k = some true)) :
    Calls Try.prog 6 #[.string a, .string b] w fun e w' => e = .returned (.bool true) ∧ Below w.heap.size w w' := by
  go_enter Try.func6, Try.ntmps6
  go_wp2_with fail
  refine (scan_All.calls k a b (-1) l _ hab.out).mono ?_
  rintro e w1 ⟨v, rfl, hR, hb1⟩
  obtain ⟨A, c, rfl⟩ := Kd.R_slice hR
  have CL := Aside0.mk (Kd.R_reads' hR).2.2
  have HB1 := Aside0.mk hb1
  clear hR hb1
  go_wp2_with fail
  refine (scan_All.calls k b a (-1) m _ hba.out).mono ?_
  rintro e w2 ⟨v, rfl, hR, hb2⟩
  obtain ⟨A', c', rfl⟩ := Kd.R_slice hR
  replace CL := Aside0.mk (Kd.C_below CL.out hb2)
  have CM := Aside0.mk (Kd.R_reads' hR).2.2
  have HB2 := Aside0.mk (HB1.out.trans (hb2.mono HB1.out.size))
  clear hR hb2 HB1
  go_wp2_with fail
  refine (scan_First.calls k a b x.f0 x.f1 x.f2 x.f3 true 0 _ fab.out).mono ?_
  rintro e w3 ⟨rfl, hb3⟩
  replace CL := Aside0.mk (Kd.C_below CL.out hb3)
  replace CM := Aside0.mk (Kd.C_below CM.out hb3)
  have HB3 := Aside0.mk (HB2.out.trans (hb3.mono HB2.out.size))
  clear hb3 HB2
  go_wp2_with fail
  refine (scan_First.calls k b a x.f0 x.f1 x.f3 x.f2 true 0 _ fba.out).mono ?_
  rintro e w4 ⟨rfl, hb4⟩
  obtain ⟨u0, u1, u2, u3, hs4⟩ := four_cells hb4
  replace CL := Aside0.mk (Kd.C_below (Kd.C_alloc CL.out _) hb4)
  replace CM := Aside0.mk (Kd.C_below (Kd.C_alloc CM.out _) hb4)
  have HB4 := Aside0.mk ((HB3.out.alloc HB3.out.size _).trans (hb4.mono (by have := HB3.out.size; simp; omega)))
  clear hb4 HB3
  replace CL := Aside0.mk (Kd.C_alloc CL.out (.cells #[.int .i64 x.f0, .int .i64 x.f1, .int .i64 x.f3, .int .i64 x.f2] 23))
  replace CM := Aside0.mk (Kd.C_alloc CM.out (.cells #[.int .i64 x.f0, .int .i64 x.f1, .int .i64 x.f3, .int .i64 x.f2] 23))
  obtain ⟨ad, hA, e0, e1, e2, e3⟩ := at_T23 CL.out 0 (by omega) (by omega)
  subst hA
  rw [hx.out] at e0 e1 e2 e3
  simp [Addr.add] at e0 e1 e2 e3
  go_wp2_with fail
  go_quiet (fail)
  clear e0 e1 e2 e3
  go_wp2
  go_loopw [13] (fun i wr => ∃ j : Nat, j ≤ l.length ∧ i = .int .i64 j ∧ Drawn0 (w4.alloc (.cells #[.int .i64 x.f0, .int .i64 x.f1, .int .i64 x.f3, .int .i64 x.f2] 23)) wr) (fun i _ => l.length - (intOf i).toNat)
  case atStart => exact ⟨0, Nat.zero_le _, rfl, by repeat (first | exact Drawn0.refl _ | apply Drawn0.step)⟩
  case round =>
    obtain ⟨j, hj, rfl, ⟨n, rfl⟩⟩ := hrel
    by_cases hlt : j < l.length
    · obtain ⟨p0, p1, p2, p3, q, r1, r2, r3⟩ := hrow.out j hlt
      obtain ⟨adl, hA, e0, e1, e2, e3⟩ := at_T23 CL.out j (by omega) (by omega)
      obtain rfl : ad = adl := by injection hA
      obtain ⟨adm, hA', g0, g1, g2, g3⟩ := at_T23 CM.out j (by omega) (by omega)
      subst hA'
      rw [r1] at e0 e1 e2 e3
      rw [r2] at g0 g1 g2 g3
      clear r1 r2
      simp only [Int.toNat_natCast] at e0 e1 e2 e3 g0 g1 g2 g3
      rcases r3 with rfl | ⟨r3, r4⟩
      · go_wp2
        go_quiet (fail)
        go_wp2
        exact ⟨⟨j + 1, by omega, by go_num, by repeat (first | exact Drawn0.refl _ | apply Drawn0.step)⟩, by simp [intOf]; omega⟩
      · have R4 := Aside0.mk r4
        clear r4
        go_wp2
        go_quiet ((go_at_call 17; exact ahead_quiet R4.out _ _ _))
        go_wp2
        exact ⟨⟨j + 1, by omega, by go_num, by repeat (first | exact Drawn0.refl _ | apply Drawn0.step)⟩, by simp [intOf]; omega⟩
    · go_wp2_with (go_at_call 11; refine (selvagelaw19_sure.calls k true _ hsure.out).mono ?_; rintro e w5 ⟨rfl, hb5⟩)
      go_ret
      refine ⟨rfl, ?_⟩
      have h4 : Below w.heap.size w (w4.alloc (.cells #[.int .i64 x.f0, .int .i64 x.f1, .int .i64 x.f3, .int .i64 x.f2] 23)) := HB4.out.alloc HB4.out.size _
      have h5 := pw_below_drewN h4 n
      exact h5.trans (hb5.mono h5.size)
end Go.Proofs.Ytnfhmfeobolceaa.PScanTurns
