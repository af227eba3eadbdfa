/- A set and its counterpart, as plain functions. -/
import Derived.Test.YtgkifphfibcfdaaGreatDoorLocal
import Derived.Test.YtgkifphfibcfdaaGreatDoorMean
namespace Go.Proofs.YtgkifphfibcfdaaGreatDoor.G
open Go.RowKit Go.Proofs.YtgkifphfibcfdaaGreatDoor.B
set_option linter.unusedVariables false
theorem crun_grows {s : ByteArray} : ∀ {k i : Nat} {L L' : List PartV}, crun s k i L = some (some L') → ∃ M, L' = L ++ M ∧ (i < s.size → M ≠ [])
  | 0, _, _, _, h => by cases h
  | k + 1, i, L, L', h => by
    simp only [crun] at h
    have key : ∀ (x : PartV) (j : Nat), crun s k j (L ++ [x]) = some (some L') → ∃ M, L' = L ++ M ∧ (i < s.size → M ≠ []) := fun x j hh => by
      obtain ⟨M, hM, _⟩ := crun_grows hh
      exact ⟨x :: M, by rw [hM, List.append_assoc]; rfl, fun _ => by simp⟩
    by_cases hlt : i < s.size
    · rw [if_pos hlt] at h
      split at h
      · exact key _ _ h
      · split at h
        · exact key _ _ h
        · split at h
          · split at h
            · exact key _ _ h
            · cases h
          · split at h
            · exact key _ _ h
            · cases h
    · rw [if_neg hlt] at h
      obtain rfl := Option.some.inj (Option.some.inj h)
      exact ⟨[], by simp, fun hh => absurd hh hlt⟩
theorem Suf.item_none {d : Nat} {Q S : ByteArray} (h : Suf d Q S) {i : Nat} {T : Nat → Bool} (hit : itemF Q i T = none) : itemF S (d + i) T = none := by
  unfold itemF at hit ⊢
  rw [h.starts two_pos, h.cls, h.place]
  split at hit
  · rename_i h0
    rw [if_pos h0]
    split at hit
    · cases hit
    · rfl
  · rename_i h0
    rw [if_neg h0]
    split at hit
    · rename_i h1
      have a1 : d + bytePlace Q i + 1 = d + (bytePlace Q i + 1) := by omega
      have a2 : d + (bytePlace Q i + 1) + 1 = d + (bytePlace Q i + 1 + 1) := by omega
      rw [if_pos ((h.lt _).2 h1), a1, a2, h.range, h.place]
      split at hit
      · rename_i hr
        rw [if_pos hr]
        split at hit
        · cases hit
        · rename_i h5
          rw [if_neg (fun hh => h5 ((h.lt _).1 hh))]
      · cases hit
    · rename_i h1
      rw [if_neg (fun hh => h1 ((h.lt _).1 hh))]
theorem Suf.loop_back {d : Nat} {Q S : ByteArray} (h : Suf d Q S) : ∀ {f i : Nat} {T : Nat → Bool} {first : Bool} {r : Nat × (Nat → Bool)}, setLoop S f (d + i) T first = some r → ∃ j, setLoop Q f i T first = some (j, r.2) ∧ r.1 = d + j
  | 0, _, _, _, _, hl => by cases hl
  | f + 1, i, T, first, r, hl => by
    have hs : startsAt S (d + i) ⟨#[93]⟩ = startsAt Q i ⟨#[93]⟩ := h.starts (p := ⟨#[93]⟩) (by decide)
    have hz := h.size
    cases hc : (first || !startsAt Q i ⟨#[93]⟩) with
    | false =>
      have := setLoop_end hl (by rw [hs]; exact hc)
      obtain rfl := Option.some.inj this
      refine ⟨i, ?_, rfl⟩
      simp only [setLoop]
      rw [hc]
      simp
    | true =>
      by_cases hlt : Q.size ≤ i
      · cases setLoop_over hl (by rw [hs]; exact hc) (by omega)
      · cases hn : itemF Q i T with
        | none => cases setLoop_bad hl (by rw [hs]; exact hc) (by omega) (h.item_none hn)
        | some q =>
          obtain ⟨i', T'⟩ := q
          obtain ⟨j, h1, h2⟩ := h.loop_back (setLoop_go hl (by rw [hs]; exact hc) (by omega) (h.item hn))
          refine ⟨j, ?_, h2⟩
          simp only [setLoop]
          rw [if_pos hc, if_neg hlt, hn]
          exact h1
/-- A set alone, and its counterpart. -/
theorem either_parts {X S1 S2 : ByteArray} {x : PartV} (h1 : Suf 1 X S1) (h2 : Suf 2 X S2) (b1 : bn S1 0 = 91) (b2 : bn S2 0 = 91) (n1 : notAt X 0 = false) (n2 : notAt S2 1 = true) (hp : parts S1 = some [x]) :
    x.1 = false ∧ parts S2 = some [((false, fun t => !(x.2 t)) : PartV)] := by
  have hz1 := h1.size
  have hz2 := h2.size
  have hc := crun_parts S1
  rw [hp] at hc
  simp only [crun] at hc
  rw [if_pos (by omega), b1, if_neg (by decide), if_neg (by decide), if_pos rfl] at hc
  split at hc
  · rename_i j U hs
    obtain ⟨M, hM, hne⟩ := crun_grows hc
    have hM2 : x = ((false, U) : PartV) ∧ M = [] := by
      rw [List.nil_append] at hM
      simp only [List.cons_append, List.nil_append, List.cons.injEq] at hM
      exact ⟨hM.1, hM.2.symm⟩
    have hj : S1.size ≤ j := Nat.le_of_not_lt (fun hh => hne hh hM2.2)
    obtain ⟨rfl, _⟩ := hM2
    refine ⟨rfl, ?_⟩
    have hb := setF_some hs (by omega)
    unfold setF at hs
    rw [show notAt S1 (0 + 1) = false from (h1.not 0).trans n1] at hs
    simp only [Bool.false_eq_true, if_false] at hs
    split at hs
    · rename_i j0 U0 hl
      simp only [Option.some.injEq, Prod.mk.injEq] at hs
      obtain ⟨hj0, hU⟩ := hs
      obtain ⟨jq, hq, hr⟩ := h1.loop_back (i := 0) hl
      simp only at hr hq
      have hl2 := setLoop_more 1 (h2.loop hq)
      have hs2 : setF S2 (0 + 1) = some (S2.size, flipB true U0) := by
        unfold setF
        rw [show notAt S2 (0 + 1) = true from n2]
        simp only [if_true]
        rw [show S2.size + 2 = S1.size + 2 + 1 by omega, show 0 + 1 + 1 = 2 + 0 from rfl, hl2]
        simp only [Option.some.injEq, Prod.mk.injEq]
        exact ⟨by omega, trivial⟩
      refine parts_of (k := 2) ?_
      simp only [crun]
      rw [if_pos (by omega), b2, if_neg (by decide), if_neg (by decide), if_pos rfl, hs2]
      simp only
      rw [if_neg (by omega), ← hU, List.nil_append]
      have e : flipB true U0 = fun t => !(flipB false U0) t := by
        funext t
        simp only [flipB]
        cases U0 t <;> rfl
      rw [e]
    · cases hs
  · cases hc
theorem mt_single {x : PartV} (h : x.1 = false) (c : Nat) : mt [x] [c] = x.2 c := by
  rw [mt_one _ _ _ h]
  simp [mt]
theorem mt_other {x : PartV} (h : x.1 = false) (s : ByteArray) (hs : s.size ≠ 1) : mt [x] (bl s) = false := by
  have hl := bl_length s
  cases hb : bl s with
  | nil => exact mt_one_nil _ h
  | cons c r =>
    rw [mt_one _ _ _ h]
    cases r with
    | nil => rw [hb] at hl; exact absurd hl.symm hs
    | cons d r => simp [mt]
def openB : ByteArray := ⟨#[91]⟩
def openN : ByteArray := ⟨#[91, 33]⟩
def openC : ByteArray := ⟨#[91, 94]⟩
def shutB : ByteArray := ⟨#[93]⟩
theorem not_no {set : ByteArray} (h0 : 0 < set.size) (h33 : bn set 0 ≠ 33) (h94 : bn set 0 ≠ 94) : notAt (set ++ shutB) 0 = false := by
  have hp := (pre_append set shutB).at_ 0 h0
  unfold notAt
  rw [Bool.or_eq_false_iff]
  constructor
  · exact Bool.eq_false_iff.2 (fun h => h33 (by rw [← hp]; exact (one_bn.1 h).2))
  · exact Bool.eq_false_iff.2 (fun h => h94 (by rw [← hp]; exact (one_bn.1 h).2))
theorem either_all {set : ByteArray} {x : PartV} (h0 : 0 < set.size) (h33 : bn set 0 ≠ 33) (h94 : bn set 0 ≠ 94) (hp : parts (openB ++ set ++ shutB) = some [x]) :
    x.1 = false ∧ parts (openN ++ set ++ shutB) = some [((false, fun t => !(x.2 t)) : PartV)] ∧ parts (openC ++ set ++ shutB) = some [((false, fun t => !(x.2 t)) : PartV)] := by
  rw [ByteArray.append_assoc] at hp
  rw [ByteArray.append_assoc, ByteArray.append_assoc]
  have n1 := not_no h0 h33 h94
  have s1 : Suf 1 (set ++ shutB) (openB ++ (set ++ shutB)) := suf_append openB _
  have s2 : Suf 2 (set ++ shutB) (openN ++ (set ++ shutB)) := suf_append openN _
  have s3 : Suf 2 (set ++ shutB) (openC ++ (set ++ shutB)) := suf_append openC _
  have b1 : bn (openB ++ (set ++ shutB)) 0 = 91 := (pre_append openB _).at_ 0 (by decide)
  have b2 : bn (openN ++ (set ++ shutB)) 0 = 91 := (pre_append openN _).at_ 0 (by decide)
  have b3 : bn (openC ++ (set ++ shutB)) 0 = 91 := (pre_append openC _).at_ 0 (by decide)
  have c2 : bn (openN ++ (set ++ shutB)) 1 = 33 := (pre_append openN _).at_ 1 (by decide)
  have c3 : bn (openC ++ (set ++ shutB)) 1 = 94 := (pre_append openC _).at_ 1 (by decide)
  have z2 := s2.size
  have z3 := s3.size
  have n2 : notAt (openN ++ (set ++ shutB)) 1 = true := by
    unfold notAt
    rw [one_bn.2 ⟨by omega, c2⟩]
    rfl
  have n3 : notAt (openC ++ (set ++ shutB)) 1 = true := by
    unfold notAt
    rw [Bool.or_eq_true]
    exact .inr (one_bn.2 ⟨by omega, c3⟩)
  exact ⟨(either_parts s1 s2 b1 b2 n1 n2 hp).1, (either_parts s1 s2 b1 b2 n1 n2 hp).2, (either_parts s1 s3 b1 b3 n1 n3 hp).2⟩
end Go.Proofs.YtgkifphfibcfdaaGreatDoor.G
