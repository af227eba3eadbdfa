/- Merged out of these texts: QOct, DClone, DLog. -/
import Derived.Test.YthojofeocjmglaaGreatDoorDk16
import Derived.Test.YthojofeocjmglaaGreatDoorDk18
import Derived.Test.YthojofeocjmglaaGreatDoorDk19
import Derived.Deep.RegionHeld3
/- The program's meant and octal: the walks. -/
namespace Go.Proofs.YthojofeocjmglaaGreatDoor.I
open Go.RowKit Go.Proofs.YthojofeocjmglaaGreatDoor.B Go.Sort
set_option linter.unusedVariables false
theorem lit_back (i : Nat) (h : i + 1 < (⟨#[7, 97, 8, 98, 9, 116, 10, 110, 11, 118, 12, 102, 13, 114, 34, 34, 92, 92]⟩ : ByteArray).size) (h2 : i % 2 = 0) (c : UInt8) (hc : ((⟨#[7, 97, 8, 98, 9, 116, 10, 110, 11, 118, 12, 102, 13, 114, 34, 34, 92, 92]⟩ : ByteArray)[i + 1]'h).toNat = c.toNat) : meantL c = some ((⟨#[7, 97, 8, 98, 9, 116, 10, 110, 11, 118, 12, 102, 13, 114, 34, 34, 92, 92]⟩ : ByteArray)[i]'(by omega)) := by
  have hb : i + 1 < 18 := h
  have hc2 : ((⟨#[7, 97, 8, 98, 9, 116, 10, 110, 11, 118, 12, 102, 13, 114, 34, 34, 92, 92]⟩ : ByteArray)[i + 1]'h) = c := UInt8.toNat_inj.1 hc
  rw [← hc2]
  clear hc hc2
  match i, hb, h2 with
  | 0, _, _ => rfl
  | 2, _, _ => rfl
  | 4, _, _ => rfl
  | 6, _, _ => rfl
  | 8, _, _ => rfl
  | 10, _, _ => rfl
  | 12, _, _ => rfl
  | 14, _, _ => rfl
  | 16, _, _ => rfl
  | i + 17, hb, _ => exact absurd hb (by omega)
theorem lit_none (c : UInt8) (h : ∀ i, i < 18 → i % 2 = 0 → ((⟨#[7, 97, 8, 98, 9, 116, 10, 110, 11, 118, 12, 102, 13, 114, 34, 34, 92, 92]⟩ : ByteArray).data[i + 1]!).toNat ≠ c.toNat) : meantL c = none := by
  have g : ∀ x : UInt8, x.toNat ≠ c.toNat → (c == x) = false := fun x hx => by
    simp only [beq_eq_false_iff_ne]
    rintro rfl
    exact hx rfl
  unfold meantL escM
  simp only [List.lookup_cons]
  rw [g 97 (h 0 (by omega) rfl), g 98 (h 2 (by omega) rfl), g 116 (h 4 (by omega) rfl), g 110 (h 6 (by omega) rfl), g 118 (h 8 (by omega) rfl), g 102 (h 10 (by omega) rfl), g 114 (h 12 (by omega) rfl), g 34 (h 14 (by omega) rfl), g 92 (h 16 (by omega) rfl)]
  rfl
set_option maxRecDepth 100000 in
set_option maxHeartbeats 4000000 in
theorem meant_calls (c : UInt8) (w : World) :
    Calls Tryz.prog 114 #[.int .u8 (c.toNat : Int)] w fun e w' => e = .returned (.tuple #[.int .u8 (((meantL c).getD 0).toNat : Int), .bool (meantL c).isSome]) ∧ w' = w := by
  obtain ⟨R, hR⟩ : ∃ R, meantL c = R := ⟨_, rfl⟩
  rw [hR]
  have HR := Asd.mk hR
  obtain ⟨cn, hcn⟩ : ∃ cn, c.toNat = cn := ⟨_, rfl⟩
  rw [hcn]
  have HC := Asd.mk hcn
  clear hR hcn
  (go_enter Tryz.func114, Tryz.ntmps114)
  go_wp2
  go_loopg [4] 20 (fun gk v4 wx => ∃ i : Nat, i ≤ 18 ∧ i % 2 = 0 ∧ gk = 20 - i ∧ v4 = .int .i64 (i : Int) ∧ wx = w ∧ Asd (∀ j, j < i → j % 2 = 0 → ((⟨#[7, 97, 8, 98, 9, 116, 10, 110, 11, 118, 12, 102, 13, 114, 34, 34, 92, 92]⟩ : ByteArray).data[j + 1]!).toNat ≠ cn))
  case atStart => exact ⟨0, by omega, rfl, rfl, rfl, rfl, ⟨fun j hj => absurd hj (by omega)⟩⟩
  case round =>
    obtain ⟨i, hi, h2, rfl, rfl, rfl, HN⟩ := hrel
    by_cases hlt : i < 18
    · have k1 : (i : Int) < 18 := by omega
      have k2 : i < (⟨#[7, 97, 8, 98, 9, 116, 10, 110, 11, 118, 12, 102, 13, 114, 34, 34, 92, 92]⟩ : ByteArray).size := hlt
      have k3 : i + 1 < (⟨#[7, 97, 8, 98, 9, 116, 10, 110, 11, 118, 12, 102, 13, 114, 34, 34, 92, 92]⟩ : ByteArray).size := by show i + 1 < 18; omega
      obtain ⟨x, hx⟩ : ∃ x, ((⟨#[7, 97, 8, 98, 9, 116, 10, 110, 11, 118, 12, 102, 13, 114, 34, 34, 92, 92]⟩ : ByteArray)[i + 1]'k3).toNat = x := ⟨_, rfl⟩
      obtain ⟨y, hy⟩ : ∃ y, ((⟨#[7, 97, 8, 98, 9, 116, 10, 110, 11, 118, 12, 102, 13, 114, 34, 34, 92, 92]⟩ : ByteArray)[i]'k2) = y := ⟨_, rfl⟩
      have HX := Asd.mk hx
      have HY := Asd.mk hy
      by_cases he : x = cn
      · have HA := Asd.mk (show R = some y by
          rw [← HR.out, ← HY.out]
          exact lit_back i k3 h2 c (by rw [HX.out, HC.out, he]))
        have t1 : ((x : Int) == (cn : Int)) = true := by rw [he]; simp
        go_wp2
        go_ret2
        exact ⟨by rw [HA.out]; rfl, rfl⟩
      · have t1 : ((x : Int) == (cn : Int)) = false := by
          simp only [beq_eq_false_iff_ne]; omega
        have HN2 := Asd.mk (show ∀ j, j < i + 2 → j % 2 = 0 → ((⟨#[7, 97, 8, 98, 9, 116, 10, 110, 11, 118, 12, 102, 13, 114, 34, 34, 92, 92]⟩ : ByteArray).data[j + 1]!).toNat ≠ cn from fun j hj hj2 => by
          by_cases e : j = i
          · subst e
            rw [show (⟨#[7, 97, 8, 98, 9, 116, 10, 110, 11, 118, 12, 102, 13, 114, 34, 34, 92, 92]⟩ : ByteArray).data[j + 1]! = (⟨#[7, 97, 8, 98, 9, 116, 10, 110, 11, 118, 12, 102, 13, 114, 34, 34, 92, 92]⟩ : ByteArray)[j + 1]'k3 from by rw [getElem!_pos (⟨#[7, 97, 8, 98, 9, 116, 10, 110, 11, 118, 12, 102, 13, 114, 34, 34, 92, 92]⟩ : ByteArray).data (j + 1) k3]; rfl, HX.out]
            exact he
          · exact HN.out j (by omega) hj2)
        go_wp2
        go_roundg (20 - (i + 2))
        case rel => exact ⟨i + 2, by omega, by omega, rfl, by go_num, rfl, HN2⟩
        case measure => omega
    · obtain rfl : i = 18 := by omega
      have HA := Asd.mk (show R = none by
        rw [← HR.out]
        exact lit_none c (fun j hj hj2 => by rw [HC.out]; exact HN.out j hj hj2))
      go_wp2
      go_ret2
      exact ⟨by rw [HA.out]; rfl, rfl⟩
/-- The byte of a text's first three octal digits. -/
def octF (l : List UInt8) : Option UInt8 := match l with
  | a :: b :: d :: _ => octN a b d
  | _ => none
theorem octN_bits (a b d : UInt8) : octN a b d = if a.toNat < 48 ∨ 51 < a.toNat ∨ b.toNat < 48 ∨ 55 < b.toNat ∨ d.toNat < 48 ∨ 55 < d.toNat then none else some (UInt8.ofNat ((a.toNat - 48) * 64 + (b.toNat - 48) * 8 + (d.toNat - 48))) := by
  unfold octN
  simp only [UInt8.lt_iff_toNat_lt]
  show (if a.toNat < 48 ∨ 51 < a.toNat ∨ b.toNat < 48 ∨ 55 < b.toNat ∨ d.toNat < 48 ∨ 55 < d.toNat then none else _) = _
  split
  · rfl
  · rename_i h
    congr 1
    apply UInt8.toNat_inj.1
    have ha := a.toNat_lt; have hb := b.toNat_lt; have hd := d.toNat_lt
    have ea : (a - 48).toNat = a.toNat - 48 := by rw [UInt8.toNat_sub]; show (256 - 48 + a.toNat) % 256 = _; omega
    have eb : (b - 48).toNat = b.toNat - 48 := by rw [UInt8.toNat_sub]; show (256 - 48 + b.toNat) % 256 = _; omega
    have ed : (d - 48).toNat = d.toNat - 48 := by rw [UInt8.toNat_sub]; show (256 - 48 + d.toNat) % 256 = _; omega
    rw [UInt8.toNat_add, UInt8.toNat_add, UInt8.toNat_mul, UInt8.toNat_mul, ea, eb, ed, UInt8.toNat_ofNat']
    simp only [show UInt8.toNat 64 = 64 from rfl, show UInt8.toNat 8 = 8 from rfl, show (2 : Nat) ^ 8 = 256 from rfl]
    omega
/-- The digits' value so far. -/
def dv (s : ByteArray) : Nat → Nat
  | 0 => 0
  | i + 1 => dv s i * 8 + ((s.data[i]!).toNat - 48)
theorem oct_short {s : ByteArray} (h : s.size < 3) : octF s.data.toList = none := by
  have := list_size s
  match hl : s.data.toList with
  | [] => rfl
  | [_] => rfl
  | [_, _] => rfl
  | a :: b :: c :: r => rw [hl] at this; simp at this; omega
theorem oct_three {s : ByteArray} (h : 3 ≤ s.size) : octF s.data.toList = octN s.data[0]! s.data[1]! s.data[2]! := by
  have h2 := list_size s
  match hl : s.data.toList with
  | [] => rw [hl] at h2; simp at h2; omega
  | [_] => rw [hl] at h2; simp at h2; omega
  | [_, _] => rw [hl] at h2; simp at h2; omega
  | a :: b :: c :: r =>
    have e : ∀ i (x : UInt8), (a :: b :: c :: r)[i]? = some x → s.data[i]! = x := fun i x hx => by
      rw [← hl, Array.getElem?_toList] at hx
      rw [getElem!_def, hx]
    rw [e 0 a rfl, e 1 b rfl, e 2 c rfl]
    rfl
set_option maxRecDepth 100000 in
set_option maxHeartbeats 4000000 in
theorem octal_calls (s : ByteArray) (w : World) (hs : s.size ≤ 4294967280) :
    Calls Tryz.prog 115 #[.string s] w fun e w' => e = .returned (.tuple #[.int .u8 (((octF s.data.toList).getD 0).toNat : Int), .bool (octF s.data.toList).isSome]) ∧ w' = w := by
  obtain ⟨R, hR⟩ : ∃ R, octF s.data.toList = R := ⟨_, rfl⟩
  rw [hR]
  have HR := Asd.mk hR
  clear hR
  by_cases h3 : s.size < 3
  · have HA := Asd.mk (show R = none by rw [← HR.out]; exact oct_short h3)
    have t1 : decide ((s.size : Int) < 3) = true := decide_eq_true (by omega)
    (go_enter Tryz.func115, Tryz.ntmps115)
    go_wp2
    go_ret2
    exact ⟨by rw [HA.out]; rfl, rfl⟩
  · have t1 : decide ((s.size : Int) < 3) = false := decide_eq_false (by omega)
    have hb := octN_bits s.data[0]! s.data[1]! s.data[2]!
    rw [← oct_three (by omega), HR.out] at hb
    have HB := Asd.mk hb
    have gx : ∀ i, (h : i < s.size) → (s[i]'h).toNat = (s.data[i]!).toNat := fun i h => by rw [getElem!_pos s.data i h]; rfl
    have h0 : 0 < s.size := by omega
    obtain ⟨x0, hx0⟩ : ∃ x, (s[0]'h0).toNat = x := ⟨_, rfl⟩
    have HX0 := Asd.mk ((gx 0 h0).symm.trans hx0)
    have HGx := Asd.mk gx
    clear hb gx
    by_cases h51 : 51 < x0
    · have HA := Asd.mk (show R = none by rw [HB.out, if_pos (by rw [HX0.out]; omega)])
      have t2 : decide ((51 : Int) < (x0 : Int)) = true := decide_eq_true (by omega)
      (go_enter Tryz.func115, Tryz.ntmps115)
      go_wp2
      go_ret2
      exact ⟨by rw [HA.out]; rfl, rfl⟩
    · have t2 : decide ((51 : Int) < (x0 : Int)) = false := decide_eq_false (by omega)
      have H51 := Asd.mk h51
      (go_enter Tryz.func115, Tryz.ntmps115)
      go_wp2
      go_loopg [4, 14] 4 (fun gk v4 v14 wx => ∃ i : Nat, i ≤ 3 ∧ gk = 4 - i ∧ v4 = .int .i64 (dv s i : Int) ∧ v14 = .int .i64 (i : Int) ∧ wx = w ∧ Asd (dv s i < 8 ^ i ∧ ∀ j, j < i → 48 ≤ (s.data[j]!).toNat ∧ (s.data[j]!).toNat ≤ 55))
      case atStart => exact ⟨0, by omega, rfl, rfl, rfl, rfl, ⟨by show 0 < 1; omega, fun j hj => absurd hj (by omega)⟩⟩
      case round =>
        obtain ⟨i, hi, rfl, rfl, rfl, rfl, HN⟩ := hrel
        by_cases hlt : i < 3
        · have k1 : (i : Int) < 3 := by omega
          have k2 : i < s.size := by omega
          have k3 : (i : Int) < (s.size : Int) := by omega
          obtain ⟨x, hx⟩ : ∃ x, (s[i]'k2).toNat = x := ⟨_, rfl⟩
          have HX := Asd.mk ((HGx.out i k2).symm.trans hx)
          obtain ⟨v, hv⟩ : ∃ v, dv s i = v := ⟨_, rfl⟩
          have HV := Asd.mk hv
          rw [hv] at HN ⊢
          have hvb : v < 64 := by
            have := HN.out.1
            have : 8 ^ i ≤ 8 ^ 2 := Nat.pow_le_pow_right (by omega) (by omega)
            omega
          clear hv
          by_cases b1 : x < 48
          · have HA := Asd.mk (show R = none by
              rw [HB.out, if_pos]
              have h := HX.out
              have e : i = 0 ∨ i = 1 ∨ i = 2 := by omega
              rcases e with rfl | rfl | rfl <;> omega)
            have q1 : decide ((x : Int) < 48) = true := decide_eq_true (by omega)
            go_wp2
            go_ret2
            exact ⟨by rw [HA.out]; rfl, rfl⟩
          · have q1 : decide ((x : Int) < 48) = false := decide_eq_false (by omega)
            by_cases b2 : 55 < x
            · have HA := Asd.mk (show R = none by
                rw [HB.out, if_pos]
                have h := HX.out
                have h0 := HX0.out
                have e : i = 0 ∨ i = 1 ∨ i = 2 := by omega
                rcases e with rfl | rfl | rfl <;> omega)
              have q2 : decide ((55 : Int) < (x : Int)) = true := decide_eq_true (by omega)
              go_wp2
              go_ret2
              exact ⟨by rw [HA.out]; rfl, rfl⟩
            · have q2 : decide ((55 : Int) < (x : Int)) = false := decide_eq_false (by omega)
              have HN2 := Asd.mk (show dv s (i + 1) < 8 ^ (i + 1) ∧ ∀ j, j < i + 1 → 48 ≤ (s.data[j]!).toNat ∧ (s.data[j]!).toNat ≤ 55 from by
                refine ⟨?_, fun j hj => ?_⟩
                · show dv s i * 8 + ((s.data[i]!).toNat - 48) < _
                  rw [HX.out, Nat.pow_succ, HV.out]
                  have := HN.out.1
                  omega
                · by_cases e : j = i
                  · subst e; rw [HX.out]; omega
                  · exact HN.out.2 j (by omega))
              have HD := Asd.mk (show ((dv s (i + 1) : Nat) : Int) = (v : Int) * 8 + ((x : Int) - 48) by
                show ((dv s i * 8 + ((s.data[i]!).toNat - 48) : Nat) : Int) = _
                rw [HX.out, HV.out]
                omega)
              have hm : ((x : Int) - 48) % 256 = (x : Int) - 48 := by omega
              go_wp2
              go_roundg (4 - (i + 1))
              case rel => exact ⟨i + 1, by omega, rfl, by rw [HD.out], by go_num, rfl, HN2⟩
              case measure => omega
        · obtain rfl : i = 3 := by omega
          obtain ⟨v, hv⟩ : ∃ v, dv s 3 = v := ⟨_, rfl⟩
          have HV := Asd.mk hv
          have hvb : v < 512 := by rw [← hv]; exact HN.out.1
          rw [hv]
          have HA := Asd.mk (show R = some (UInt8.ofNat v) by
            rw [HB.out, if_neg]
            · congr 2
              rw [← HV.out]
              show _ = ((0 * 8 + ((s.data[0]!).toNat - 48)) * 8 + ((s.data[1]!).toNat - 48)) * 8 + ((s.data[2]!).toNat - 48)
              omega
            · have a0 := HN.out.2 0 (by omega); have a1 := HN.out.2 1 (by omega); have a2 := HN.out.2 2 (by omega)
              have h0 := HX0.out
              have := H51.out
              omega)
          have hv2 : v < 256 := by
            have a0 := HN.out.2 0 (by omega); have a1 := HN.out.2 1 (by omega); have a2 := HN.out.2 2 (by omega)
            have h0 := HX0.out
            have := H51.out
            have e : v = ((0 * 8 + ((s.data[0]!).toNat - 48)) * 8 + ((s.data[1]!).toNat - 48)) * 8 + ((s.data[2]!).toNat - 48) := HV.out.symm
            omega
          clear hv
          go_wp2
          go_ret2
          exact ⟨by rw [HA.out]; show _ = Ending.returned (.tuple #[.int .u8 (((UInt8.ofNat v).toNat : Nat) : Int), .bool true]); rw [UInt8.toNat_ofNat', show (2 : Nat) ^ 8 = 256 from rfl, Nat.mod_eq_of_lt hv2]; rfl, rfl⟩
end Go.Proofs.YthojofeocjmglaaGreatDoor.I
/- The disk's Clone and Log: the walks. -/
namespace Go.Proofs.YthojofeocjmglaaGreatDoor.I
open Go.RowKit Go.Proofs.YthojofeocjmglaaGreatDoor.B Go.Sort
set_option linter.unusedVariables false
set_option linter.unusedSimpArgs false
theorem size_disk (a b c d e f g h : Value) : (Tryz.prog.info? 76).map (·.size) = some (#[a, b, c, d, e, f, g, h]).size := by kernel_rfl
/-- A disk copied: its cells, its two file systems, its log anew; what the closures read is shared. -/
theorem DiskAt.copied {Z : World} {K Q L1 L2 : List Nat} {base b2 lo d b n tn ts x1 x2 B s : Nat} {D : DK} {lv v' c2 : Value} {Ln Ls : List Nat} {A1 M1 A2 M2 : Pth → Nat} {E : List (Value × Value)} (h : DiskAt Z K Q base d b n D tn ts lv Ln Ls)
    (hB : Z.heap[B]? = some (.cells #[(.pointer (some ⟨x1, 0, none⟩)), (.pointer (some ⟨x2, 0, none⟩)), c2, .int .i64 (D.steps : Int), .int .i64 (D.fails : Int), .int .i64 (D.downs : Int), .int .i64 (D.keep : Int), .bool D.off] 76 (0, 0)))
    (hT1 : TabAt Z L1 x1 D.now b n A1 M1) (hT2 : TabAt Z L2 x2 D.safe b n A2 M2) (hr : Z.ownsRow lo 83 2 v' E.length (flat2 E)) (hE1 : E.length = D.log.length) (hE3 : ∀ (i : Nat) (o : OpV) (x : Value × Value), D.log[i]? = some o → E[i]? = some x → EntAt Z Q o x)
    (hv : ∀ g, v'.ownBlock = some g → s ≤ g) (hl1 : ∀ i ∈ L1, i < s ∧ i ≠ B ∧ lo ≤ i) (hl2 : ∀ i ∈ L2, i < s ∧ i ≠ B ∧ lo ≤ i) (h12 : ∀ i ∈ L1, i ∉ L2) (hBs : B < s ∧ lo ≤ B) (hQ : ∀ i ∈ Q, i < lo) (hb2 : b2 ≤ lo) :
    DiskAt (Z.setCell ⟨B, 2, none⟩ v') (B :: ((L1 ++ L2) ++ v'.ownBlock.toList)) Q b2 B b n D x1 x2 v' L1 L2 := by
  have hC := chg_cell Z B 2 v'
  have e1 : ∀ i ∈ L1, i ∉ [B] := fun i hi => by rw [List.mem_singleton]; exact (hl1 i hi).2.1
  have e2 : ∀ i ∈ L2, i ∉ [B] := fun i hi => by rw [List.mem_singleton]; exact (hl2 i hi).2.1
  have hvB : v'.ownBlock ≠ some B := own_ne hr hB (by decide)
  have e4 : Off v' [B] := fun g hg => by rw [List.mem_singleton]; rintro rfl; exact hvB hg
  have hlo : ∀ i ∈ B :: ((L1 ++ L2) ++ v'.ownBlock.toList), lo ≤ i := fun i hi => by
    rcases List.mem_cons.1 hi with rfl | hi
    · exact hBs.2
    · rcases List.mem_append.1 hi with hi | hi
      · rcases List.mem_append.1 hi with hi | hi
        · exact (hl1 i hi).2.2
        · exact (hl2 i hi).2.2
      · exact (own_block hr (by simpa using hi)).1
  refine ⟨by have := hp_set hB 2 v'; simpa using this, ⟨A1, M1, hT1.keep hC e1⟩, ⟨A2, M2, hT2.keep hC e2⟩, ⟨E, hE1, own_mono (own_off hr hC e4) hb2, fun i o x ho hx => (hE3 i o x ho hx).keep hC (fun j hj => ?_)⟩, List.mem_cons_self .., fun i hi => List.mem_cons_of_mem _ (List.mem_append_left _ (List.mem_append_left _ hi)), fun i hi => List.mem_cons_of_mem _ (List.mem_append_left _ (List.mem_append_right _ hi)), fun g hg => List.mem_cons_of_mem _ (List.mem_append_right _ (by simpa using hg)), fun hi => (hl1 B hi).2.1 rfl, fun hi => (hl2 B hi).2.1 rfl, h12, fun g hg hi => ?_, fun g hg hi => ?_, hvB, fun i hi => ⟨Nat.lt_of_lt_of_le (h.q i hi).1 hC.size, fun hk => ?_⟩, fun i hi => ?_⟩
  · rw [List.mem_singleton]
    have := hQ j hj
    omega
  · have := hv g hg; have := (hl1 g hi).1; omega
  · have := hv g hg; have := (hl2 g hi).1; omega
  · have := hQ i hi; have := hlo i hk; omega
  · refine Nat.lt_of_lt_of_le ?_ hC.size
    rcases List.mem_cons.1 hi with rfl | hi
    · exact lt_of_heap hB
    · rcases List.mem_append.1 hi with hi | hi
      · rcases List.mem_append.1 hi with hi | hi
        · exact hT1.bl i hi
        · exact hT2.bl i hi
      · obtain ⟨_, cur, hc⟩ := own_block hr (by simpa using hi)
        exact lt_of_heap hc
set_option maxRecDepth 100000 in
set_option maxHeartbeats 16000000 in
theorem dclone_calls (w W : World) (K Q : List Nat) (d b n : Nat) (D : DK) (h : DiskS w W K Q d b n D) (hm : MaxLenAt w) (hll : D.log.length ≤ 1000000) :
    Calls Tryz.prog 11 #[(.pointer (some ⟨d, 0, none⟩))] W fun e w' => ∃ c K2, e = .returned (.pointer (some ⟨c, 0, none⟩)) ∧ DiskS w w' K2 Q c b n D ∧ Chg [] W w' ∧ ∀ i ∈ K2, W.heap.size ≤ i := by
  obtain ⟨hC, hKw, hOk, tn, ts, lv, Ln, Ls, hD⟩ := id h
  obtain ⟨E, hE1, hE2, hE3⟩ := hD.row
  obtain ⟨A, cap, rfl, hAe⟩ : ∃ A cap, lv = .slice A D.log.length cap ∧ (A = none → D.log.length = 0 ∧ cap = 0) := by
    rcases row_form hE2 with ⟨rfl, h0⟩ | ⟨g, cap, rfl, _⟩
    · exact ⟨none, 0, by rw [← hE1, h0], fun _ => ⟨by rw [← hE1, h0], rfl⟩⟩
    · exact ⟨_, cap, by rw [hE1], fun h => by cases h⟩
  have HD := Asd.mk hD
  have HH := Asd.mk h
  have HRow := Asd.mk (And.intro hE1 (And.intro hE2 hE3))
  have HOk := Asd.mk hOk
  have c0 := cell_of_heap hD.blk 0
  have c1 := cell_of_heap hD.blk 1
  have c2 := cell_of_heap hD.blk 2
  have c3 := cell_of_heap hD.blk 3
  have c4 := cell_of_heap hD.blk 4
  have c5 := cell_of_heap hD.blk 5
  have c6 := cell_of_heap hD.blk 6
  have c7 := cell_of_heap hD.blk 7
  clear h hC hKw hOk hD hm hE1 hE2 hE3
  (go_enter Tryz.func11, Tryz.ntmps11)
  go_upto_region 2 with fail
  refine wp_opaque2 (fun V hV => ?_)
  obtain ⟨B, hBq⟩ : ∃ B, W.heap.size = B := ⟨_, rfl⟩
  have HCV := Asd.mk (show Chg [] W V by rw [hV]; exact (Chg.refl _ _).alloc _)
  have HBV := Asd.mk (show V.heap[B]? = some (.cells #[(.pointer (some ⟨tn, 0, none⟩)), (.pointer (some ⟨ts, 0, none⟩)), .slice A D.log.length cap, .int .i64 (D.steps : Int), .int .i64 (D.fails : Int), .int .i64 (D.downs : Int), .int .i64 (D.keep : Int), .bool D.off] 76 (0, 0)) by rw [hV, ← hBq]; exact hp_new _ _)
  rw [hBq]
  have HDV := Asd.mk (HD.out.keep0 HCV.out)
  obtain ⟨A1, M1, hT1⟩ := HDV.out.now
  obtain ⟨A2, M2, hT2⟩ := HDV.out.safe
  have HN := Asd.mk (fun X (hX : Chg [] V X) => clone_calls Ln tn D.now b n A1 M1 X (hT1.keep0 hX) HOk.out.now)
  have HF := Asd.mk (fun X (hX : Chg [] V X) => clone_calls Ls ts D.safe b n A2 M2 X (hT2.keep0 hX) HOk.out.safe)
  have HBd := Asd.mk (show d ≠ B from fun e => by have := HD.out.kl d HD.out.dK; omega)
  have HBW := Asd.mk hBq
  have p0 := cell_of_heap HDV.out.blk 0
  have p1 := cell_of_heap HDV.out.blk 1
  have p2 := And.intro p0 p1
  clear hV hBq hT1 hT2 c0 c1 c2 c3 c4 c5 c6 c7
  go_region_with (first
    | (refine (HN.out _ (Chg.refl _ _).drew).mono ?_
       rintro e w5 ⟨x1, L1, A3, M3, rfl, hC5, hT5, hL5⟩
       have HC5 := Asd.mk (show Chg [] V w5 from (Chg.refl [] V).drew.trans hC5)
       have HT5 := Asd.mk hT5
       have HL5 := Asd.mk hL5
       have hd5 := HC5.out.heap HDV.out.blk (by simp)
       have q1 := cell_of_heap hd5 1
       clear hC5 hT5 hL5 hd5 HN)
    | (refine (HF.out _ HC5.out).mono ?_
       rintro e w6 ⟨x2, L2, A4, M4, rfl, hC6, hT6, hL6⟩
       have HC6 := Asd.mk (HC5.out.trans hC6)
       have HT6 := Asd.mk hT6
       have HL6 := Asd.mk hL6
       have HT56 := Asd.mk (HT5.out.keep0 hC6)
       have HL65 := Asd.mk hC6.size
       have hb6 := HC6.out.heap HBV.out (by simp)
       have v0 := cell_of_heap hb6 0
       have v1 := cell_of_heap hb6 1
       have z0 := frozen_of_heap hb6 0
       have z1 := frozen_of_heap hb6 1
       have HB6 := Asd.mk hb6
       clear hC6 hT6 hL6 hb6 HF))
  all_goals
    obtain ⟨Y, hY⟩ : ∃ Y, (w6.setCell ⟨B, 0, none⟩ (.pointer (some ⟨x1, 0, none⟩))).setCell ⟨B, 1, none⟩ (.pointer (some ⟨x2, 0, none⟩)) = Y := ⟨_, rfl⟩
    have HBY := Asd.mk (show Y.heap[B]? = some (.cells #[(.pointer (some ⟨x1, 0, none⟩)), (.pointer (some ⟨x2, 0, none⟩)), .slice A D.log.length cap, .int .i64 (D.steps : Int), .int .i64 (D.fails : Int), .int .i64 (D.downs : Int), .int .i64 (D.keep : Int), .bool D.off] 76 (0, 0)) by rw [← hY]; have := hp_set (hp_set HB6.out 0 (.pointer (some ⟨x1, 0, none⟩))) 1 (.pointer (some ⟨x2, 0, none⟩)); simpa using this)
    have HCY := Asd.mk (show Chg [] W Y from by
      rw [← hY]
      have h1 : Chg [B] V ((w6.setCell ⟨B, 0, none⟩ (.pointer (some ⟨x1, 0, none⟩))).setCell ⟨B, 1, none⟩ (.pointer (some ⟨x2, 0, none⟩))) := ((HC6.out.mono (by simp)).trans (chg_cell w6 B 0 (.pointer (some ⟨x1, 0, none⟩)))).trans (chg_cell _ B 1 (.pointer (some ⟨x2, 0, none⟩)))
      exact Chg.fresh ((HCV.out.mono (by simp)).trans h1) (fun i hi => by rw [List.mem_singleton] at hi; rw [hi]; exact Nat.le_of_eq HBW.out))
    have HnB := Asd.mk (show (∀ i ∈ L1, i ≠ B) ∧ (∀ i ∈ L2, i ≠ B) from ⟨fun i hi e => by have h1 : V.heap.size ≤ i := HL5.out i hi; have := lt_of_heap HBV.out; omega, fun i hi e => by have := HL6.out i hi; have := lt_of_heap HBV.out; have := HC5.out.size; omega⟩)
    have HT1 := Asd.mk (show TabAt Y L1 x1 D.now b n A3 M3 from by
      rw [← hY]
      exact (HT56.out.keep (chg_cell w6 B 0 (.pointer (some ⟨x1, 0, none⟩))) (fun i hi h => HnB.out.1 i hi (by simpa using h))).keep (chg_cell _ B 1 (.pointer (some ⟨x2, 0, none⟩))) (fun i hi h => HnB.out.1 i hi (by simpa using h)))
    have HT2 := Asd.mk (show TabAt Y L2 x2 D.safe b n A4 M4 from by
      rw [← hY]
      exact (HT6.out.keep (chg_cell w6 B 0 (.pointer (some ⟨x1, 0, none⟩))) (fun i hi h => HnB.out.2 i hi (by simpa using h))).keep (chg_cell _ B 1 (.pointer (some ⟨x2, 0, none⟩))) (fun i hi h => HnB.out.2 i hi (by simpa using h)))
    have HDY := Asd.mk (HD.out.keep0 HCY.out)
    have HEm := Asd.mk (show Chg [] Y (Y.alloc (.cells #[] 83)) from (Chg.refl _ _).alloc _)
    have HDZ := Asd.mk (HDY.out.keep0 HEm.out)
    have HBZ := Asd.mk (hp_alloc HBY.out (.cells #[] 83))
    have HOy := Asd.mk (World.ownsRow_made (base := Y.heap.size) (e := 83) (size := 2) Y #[] 0 (Nat.le_refl _) (Nat.zero_le _) rfl)
    have HOw := Asd.mk (World.ownsRow_made (base := W.heap.size) (e := 83) (size := 2) Y #[] 0 HCY.out.size (Nat.zero_le _) rfl)
    have HBs := Asd.mk (show W.heap.size ≤ (Y.alloc (.cells #[] 83)).heap.size from Nat.le_trans HCY.out.size HEm.out.size)
    have d2 := cell_of_heap HDZ.out.blk 2
    have HCW2 := Asd.mk (show Chg [] W (Y.alloc (.cells #[] 83)) from HCY.out.trans HEm.out)
    have HB2 := Asd.mk (show W.heap.size ≤ B from Nat.le_of_eq HBW.out)
    have HLo := Asd.mk (show (∀ i ∈ L1, i < Y.heap.size ∧ i ≠ B ∧ W.heap.size ≤ i) ∧ (∀ i ∈ L2, i < Y.heap.size ∧ i ≠ B ∧ W.heap.size ≤ i) ∧ (∀ i ∈ L1, i ∉ L2) ∧ (B < Y.heap.size ∧ W.heap.size ≤ B) from by
      refine ⟨fun i hi => ⟨HT1.out.bl i hi, HnB.out.1 i hi, ?_⟩, fun i hi => ⟨HT2.out.bl i hi, HnB.out.2 i hi, ?_⟩, fun i hi h2 => ?_, lt_of_heap HBY.out, HB2.out⟩
      · have h1 : V.heap.size ≤ i := HL5.out i hi
        exact Nat.le_trans HCV.out.size h1
      · exact Nat.le_trans (HCV.out.trans HC5.out).size (HL6.out i hi)
      · have := HT5.out.bl i hi; have := HL6.out i h2; omega)
    rw [hY]
    clear hY v0 v1 z0 z1 q1 p0 p1 p2
    cases A with
    | none =>
      obtain ⟨hn0, rfl⟩ := hAe rfl
      have HL0 := Asd.mk (show D.log = [] from List.eq_nil_of_length_eq_zero hn0)
      rw [hn0] at d2
      clear hAe hn0
      have v2 := cell_of_heap HBZ.out 2
      have z2 := frozen_of_heap HBZ.out 2
      go_upto_region 3 with fail
      go_wp2_with fail
      go_ret
      have hcp := DiskAt.copied (b2 := w.heap.size) (lo := W.heap.size) (s := Y.heap.size) (v' := .slice (some ⟨Y.heap.size, 0, none⟩) 0 0) (E := []) HDZ.out HBZ.out (HT1.out.keep0 HEm.out) (HT2.out.keep0 HEm.out) HOw.out (by rw [HL0.out]; rfl) (fun i o x ho hx => by simp at hx) (fun g hg => by simp [Value.ownBlock] at hg; omega) HLo.out.1 HLo.out.2.1 HLo.out.2.2.1 HLo.out.2.2.2 (fun i hi => (HD.out.q i hi).1) HH.out.1.size
      have hCC : Chg [] W ((Y.alloc (.cells #[] 83)).setCell ⟨B, 2, none⟩ (.slice (some ⟨Y.heap.size, 0, none⟩) 0 0)) := Chg.fresh ((HCW2.out.mono (by simp)).trans (chg_cell _ B 2 _)) (fun i hi => by rw [List.mem_singleton] at hi; rw [hi]; exact HB2.out)
      have hKl : ∀ i ∈ B :: ((L1 ++ L2) ++ (Value.slice (some ⟨Y.heap.size, 0, none⟩) 0 0).ownBlock.toList), W.heap.size ≤ i := fun i hi => by
        rcases List.mem_cons.1 hi with rfl | hi
        · exact HB2.out
        · rcases List.mem_append.1 hi with hi | hi
          · rcases List.mem_append.1 hi with hi | hi
            · exact (HLo.out.1 i hi).2.2
            · exact (HLo.out.2.1 i hi).2.2
          · exact (own_block HOw.out (by simpa using hi)).1
      exact ⟨B, _, rfl, ⟨HH.out.1.trans hCC, fun i hi => Nat.le_trans HH.out.1.size (hKl i hi), HOk.out, x1, x2, _, L1, L2, hcp⟩, hCC, hKl⟩
    | some g =>
      have HHEn := Asd.mk (fun (i : Nat) (o : OpV) (x : Value × Value) ho hx => (HRow.out.2.2 i o x ho hx).keep HCW2.out (by simp))
      have hrf := row_form HRow.out.2.1
      obtain ⟨g', rfl, hcells⟩ : ∃ g', g = ⟨g', 0, none⟩ ∧ ∀ j x, (flat2 E)[j]? = some x → (Y.alloc (.cells #[] 83)).cell? ((⟨g', 0, none⟩ : Addr).add j) = some x := by
        rcases hrf with ⟨h, _⟩ | ⟨g', cap', h, _, _, hc⟩
        · simp at h
        · simp only [Value.slice.injEq, Option.some.injEq] at h
          refine ⟨g', h.1, fun j x hx => ?_⟩
          have e : (⟨g', 0, none⟩ : Addr).add j = ⟨g', j, none⟩ := by
            unfold Addr.add
            split
            · subst_vars; rfl
            · simp
          rw [e]
          exact (HCW2.out.below.cell (World.block_lt_of_cell? _ _ (hc j x hx))).trans (hc j x hx)
      have HCl := Asd.mk hcells
      have HOne := Asd.mk (show ∀ u ∈ flat2 E, u.oneCell' = true from fun u hu => by
        obtain ⟨x, hx, hux⟩ := List.mem_flatMap.1 hu
        obtain ⟨i, hi⟩ := List.getElem?_of_mem hx
        have hil : i < D.log.length := by rw [← HRow.out.1]; exact (List.getElem?_eq_some_iff.1 hi).1
        obtain ⟨⟨q, q2, hq, _⟩, _⟩ := HRow.out.2.2 i _ x (List.getElem?_eq_getElem hil) hi
        rw [hq] at hux
        simp only [List.mem_cons, List.not_mem_nil, or_false] at hux
        rcases hux with rfl | rfl <;> rfl)
      obtain ⟨ie, z, h1, h2, h3, h4, h5⟩ := info_chg'
      clear hAe hrf hcells
      go_upto_region 3 with fail
      go_wp2_with (at_builtin; refine wpList_append_own _ rfl (.tmp 19) (.tmp 23) 74 rfl Y.heap.size 83 ie z 2 24 Tryz.underlying74 h1 h2 h3 h4 h5 (by decide) (.slice (some ⟨Y.heap.size, 0, none⟩) 0 0) 0 [] rfl HOy.out ⟨g', 0, none⟩ D.log.length cap (flat2 E) rfl (by rw [flat2_len, HRow.out.1]) HCl.out HOne.out (by unfold maxLen; omega) (by omega) HEm.out.size ?_)
      intro v' w7 hown hgrow hnil
      have HOv := Asd.mk (show w7.ownsRow Y.heap.size 83 2 v' E.length (flat2 E) by rw [HRow.out.1]; simpa using hown)
      have HC7 := Asd.mk (show Chg [] Y w7 from chg_rgrown HEm.out hgrow (fun g hg hl => by
        have : Y.heap.size = g := by simpa [Value.ownBlock] using hg
        omega))
      obtain ⟨Av, cv, rfl, _⟩ := own_form hown
      have HB7 := Asd.mk (HC7.out.heap HBY.out (by simp))
      have v2 := cell_of_heap HB7.out 2
      have z2 := frozen_of_heap HB7.out 2
      clear hown hgrow hnil d2
      go_wp2_with fail
      go_ret
      have hcp := DiskAt.copied (b2 := w.heap.size) (lo := W.heap.size) (s := Y.heap.size) (v' := .slice Av D.log.length cv) (E := E) (HDY.out.keep0 HC7.out) HB7.out (HT1.out.keep0 HC7.out) (HT2.out.keep0 HC7.out) (own_mono (by simpa using HOv.out) HCY.out.size) HRow.out.1 (fun i o x ho hx => (HRow.out.2.2 i o x ho hx).keep (HCY.out.trans HC7.out) (by simp)) (fun g hg => (own_block HOv.out hg).1) HLo.out.1 HLo.out.2.1 HLo.out.2.2.1 HLo.out.2.2.2 (fun i hi => (HD.out.q i hi).1) HH.out.1.size
      have hCC : Chg [] W (w7.setCell ⟨B, 2, none⟩ (.slice Av D.log.length cv)) := Chg.fresh (((HCY.out.trans HC7.out).mono (by simp)).trans (chg_cell _ B 2 _)) (fun i hi => by rw [List.mem_singleton] at hi; rw [hi]; exact HB2.out)
      have hKl : ∀ i ∈ B :: ((L1 ++ L2) ++ (Value.slice Av D.log.length cv).ownBlock.toList), W.heap.size ≤ i := fun i hi => by
        rcases List.mem_cons.1 hi with rfl | hi
        · exact HB2.out
        · rcases List.mem_append.1 hi with hi | hi
          · rcases List.mem_append.1 hi with hi | hi
            · exact (HLo.out.1 i hi).2.2
            · exact (HLo.out.2.1 i hi).2.2
          · exact Nat.le_trans HCY.out.size (own_block HOv.out (by simpa using hi)).1
      exact ⟨B, _, rfl, ⟨HH.out.1.trans hCC, fun i hi => Nat.le_trans HH.out.1.size (hKl i hi), HOk.out, x1, x2, _, L1, L2, hcp⟩, hCC, hKl⟩
end Go.Proofs.YthojofeocjmglaaGreatDoor.I
/- The disk's Log: the walk. -/
namespace Go.Proofs.YthojofeocjmglaaGreatDoor.I
open Go.RowKit Go.Proofs.YthojofeocjmglaaGreatDoor.B Go.Sort
set_option linter.unusedVariables false
set_option linter.unusedSimpArgs false
/-- A row of texts. -/
def RowS (w : World) (b : Nat) (v : Value) (L : List ByteArray) : Prop := w.ownsRow b 9 1 v L.length (L.map Value.string)
set_option maxRecDepth 100000 in
set_option maxHeartbeats 16000000 in
theorem dlog_on (w W : World) (K Q : List Nat) (d b n : Nat) (D : DK) (h : DiskS w W K Q d b n D) (hoff : D.off = false) (hll : D.log.length ≤ 1000000) :
    Calls Tryz.prog 13 #[(.pointer (some ⟨d, 0, none⟩))] W fun e w' => (∃ v, e = .returned v ∧ RowS w' W.heap.size v (D.log.map toldO)) ∧ Chg [] W w' := by
  obtain ⟨hC, hKw, hOk, tn, ts, lv, Ln, Ls, hD⟩ := id h
  obtain ⟨E, hE1, hE2, hE3⟩ := hD.row
  obtain ⟨A, cap, rfl, hcell⟩ : ∃ A cap, lv = .slice A D.log.length cap ∧ ∀ i, i < D.log.length → ∃ g, A = some ⟨g, 0, none⟩ ∧ ∀ j x, (flat2 E)[j]? = some x → W.cell? ⟨g, j, none⟩ = some x := by
    rcases row_form hE2 with ⟨rfl, h0⟩ | ⟨g, cap, rfl, _, _, hc⟩
    · exact ⟨none, 0, by rw [← hE1, h0], fun i hi => by omega⟩
    · exact ⟨_, cap, by rw [hE1], fun i hi => ⟨g, rfl, hc⟩⟩
  have c7 := cell_of_heap hD.blk 7
  have c2 := cell_of_heap hD.blk 2
  rw [hoff] at c7
  have HRow := Asd.mk (And.intro hE1 hE3)
  have HCe := Asd.mk hcell
  obtain ⟨m, hm⟩ : ∃ m, D.log.length = m := ⟨_, rfl⟩
  rw [hm] at c2 hcell hll
  have HMq := Asd.mk hm
  clear h hC hKw hOk hD hE1 hE2 hE3 hoff hcell hm
  (go_enter Tryz.func13, Tryz.ntmps13)
  go_wp2_with fail
  go_loopg [3, 15] (m + 1) (fun gk v3 v15 wx => ∃ i : Nat, i ≤ m ∧ gk = m + 1 - i ∧ v15 = .int .i64 (i : Int) ∧ Asd (RowS wx W.heap.size v3 ((D.log.take i).map toldO)) ∧ Asd (Chg [] W wx))
  case atStart => exact ⟨0, by omega, rfl, rfl, ⟨World.ownsRow_nil _ _ _ _⟩, ⟨Chg.refl _ _⟩⟩
  case round =>
    obtain ⟨i, hi, rfl, rfl, HR, HX⟩ := hrel
    by_cases hlt : i < m
    · have k1 : (i : Int) < (m : Int) := by omega
      have hil : i < D.log.length := by rw [HMq.out]; exact hlt
      have hiE : i < E.length := by rw [HRow.out.1]; exact hil
      obtain ⟨g, rfl, hcl⟩ := HCe.out i hil
      obtain ⟨g1, g2⟩ := flat2_at E i hiE
      have hEn := HRow.out.2 i D.log[i] E[i] (List.getElem?_eq_getElem hil) (List.getElem?_eq_getElem hiE)
      obtain ⟨⟨q, q2, hq, _⟩, _⟩ := hEn
      rw [hq] at g1 g2
      obtain ⟨told, htd⟩ : ∃ x, toldO D.log[i] = x := ⟨_, rfl⟩
      obtain ⟨f, hf⟩ : ∃ f, fnK D.log[i].kind = f := ⟨_, rfl⟩
      obtain ⟨C, hC⟩ : ∃ C, capK D.log[i].kind q q2 = C := ⟨_, rfl⟩
      rw [htd, hf, hC] at hq
      simp only [htd, hf, hC] at g1 g2
      have mv : ∀ {p : Addr} {u : Value}, W.cell? p = some u → wr.cell? p = some u := fun h => (HX.out.below.cell (World.block_lt_of_cell? _ _ h)).trans h
      have e0 := mv (hcl _ _ g1)
      have e1 := mv (hcl _ _ g2)
      have HTk := Asd.mk (show (D.log.take (i + 1)).map toldO = (D.log.take i).map toldO ++ [told] by rw [List.take_succ_eq_append_getElem hil, List.map_append, ← htd]; rfl)
      obtain ⟨B, hB⟩ : ∃ B, wr.heap.size = B := ⟨_, rfl⟩
      have HZ := Asd.mk (show (wr.alloc (.cells #[.nilFunc, .string ⟨#[]⟩] 83)).heap[B]? = some (.cells #[.nilFunc, .string ⟨#[]⟩] 83 (0, 0)) by rw [← hB]; exact hp_new _ _)
      have HBq := Asd.mk hB
      clear g1 g2 hf hC mv htd hq hcl
      go_upto_region 7 with (first | (refine wpList_store_row (o := ⟨none, _, _, _, _, _⟩) rfl 83 (.tmp 5) (.tmp 18) rfl B _ rfl rfl 83 _ HZ.out (size_chg _ _) rfl (one_chg _ _ _ _) ?_))
      refine wp_opaque2 (fun X hXq => ?_)
      have HXc := Asd.mk (show Chg [] wr X by rw [hXq]; exact ((Chg.refl _ _).alloc _).setRow (fun h => absurd h (by have := HBq.out; omega)) _)
      have hXb : X.heap[B]? = some (.cells #[.func (.func f) #[] C, .string told] 83 (0, 0)) := by rw [hXq]; exact hp_setRow HZ.out
      have b1 := cell_of_heap hXb 1
      have HRX := Asd.mk (own_off HR.out HXc.out (fun _ _ => by simp))
      have HCX := Asd.mk (HX.out.trans HXc.out)
      have HLn := Asd.mk (show ((D.log.take i).map toldO).length ≤ 16777216 by rw [List.length_map, List.length_take]; omega)
      clear hXq HZ hXb e0 e1 HXc HR HX
      have HBn := Asd.mk (hp_new X (.cells #[.string told] 9))
      go_wp2_with (first | (refine wpList_buildStr rfl told (X.heap.size) rfl (.tmp 21) rfl rfl ?_; simp only [Act.put, List.setIfInBounds_toArray, List.set_cons_zero, List.set_cons_succ]) | (at_builtin; refine wpList_append9 rfl (.tmp 19) (.tmp 22) rfl W.heap.size _ ((D.log.take i).map toldO) rfl (HRX.out.alloc _) told X.heap.size rfl HBn.out HLn.out (Nat.le_trans HCX.out.size (by simp)) ?_; intro v' w' hown hgrow; have HOw := Asd.mk hown; have HGr := Asd.mk (grown_chg (HCX.out.alloc _) (HRX.out.alloc _) (Nat.le_refl _) hgrow); clear hown hgrow; simp only [Act.put, List.setIfInBounds_toArray, List.set_cons_zero, List.set_cons_succ]))
      go_roundg (m + 1 - (i + 1))
      case rel => exact ⟨i + 1, by omega, by omega, by go_num, ⟨by rw [HTk.out]; exact HOw.out⟩, HGr⟩
      case measure => omega
    · obtain rfl : i = m := by omega
      have HA := Asd.mk (show (D.log.take i).map toldO = D.log.map toldO by rw [List.take_of_length_le (by have := HMq.out; omega)])
      go_wp2_with fail
      go_ret
      exact ⟨⟨_, rfl, by rw [← HA.out]; exact HR.out⟩, HX.out⟩
theorem dlog_off (w W : World) (K Q : List Nat) (d b n : Nat) (D : DK) (h : DiskS w W K Q d b n D) (hoff : D.off = true) :
    Calls Tryz.prog 13 #[(.pointer (some ⟨d, 0, none⟩))] W fun e w' => e = .returned (.slice none 0 0) ∧ Chg [] W w' := by
  obtain ⟨hC, hKw, hOk, tn, ts, lv, Ln, Ls, hD⟩ := h
  have c7 := cell_of_heap hD.blk 7
  rw [hoff] at c7
  clear hC hKw hOk hD hoff
  (go_enter Tryz.func13, Tryz.ntmps13)
  go_wp2_with fail
  go_ret
  exact ⟨rfl, Chg.refl _ _⟩
end Go.Proofs.YthojofeocjmglaaGreatDoor.I
