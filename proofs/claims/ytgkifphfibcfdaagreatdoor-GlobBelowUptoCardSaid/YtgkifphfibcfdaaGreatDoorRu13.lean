/- Merged out of these texts: BelowPat, Has, BelowWalk. -/
import Derived.Test.YtgkifphfibcfdaaGreatDoorRu12
import Derived.Test.YtgkifphfibcfdaaGreatDoorRu10
import Derived.Test.YtgkifphfibcfdaaGreatDoorRu7
import Derived.Test.YtgkifphfibcfdaaGreatDoorRu6
import Derived.Test.YtgkifphfibcfdaaGreatDoorRuRulesWalk
/- A name's own rule, plainly: the pattern that GlobBelow makes of a name, and what Read makes of it. -/
namespace Go.Proofs.YtgkifphfibcfdaaGreatDoor.G
open Go.RowKit Go.Proofs.YtgkifphfibcfdaaGreatDoor.B
set_option linter.unusedVariables false
set_option linter.unusedSimpArgs false
/-- A name's pattern as a line of its own. -/
def patS (name : ByteArray) : ByteArray := if bn (escS name) 0 = 33 ∨ bn (escS name) 0 = 35 then (⟨#[92]⟩ : ByteArray) ++ escS name else escS name
theorem first_of {s : ByteArray} {b : UInt8} {X : List UInt8} (h : s.data.toList = b :: X) : bn s 0 = b.toNat ∧ 0 < s.size := by
  have hl : s.data.toList.length = s.size := by simp
  have h0 : 0 < s.size := by rw [← hl, h]; simp
  obtain ⟨c, hc, hb⟩ := bn_get h0
  rw [h] at hc
  simp only [List.getElem?_cons_zero, Option.some.injEq] at hc
  exact ⟨by rw [← hb, hc], h0⟩
theorem last_of {s : ByteArray} {b : UInt8} {X : List UInt8} (h : s.data.toList = X ++ [b]) : bn s (s.size - 1) = b.toNat ∧ 0 < s.size := by
  have hl : s.data.toList.length = s.size := by simp
  have h1 : s.size = X.length + 1 := by rw [← hl, h]; simp
  obtain ⟨c, hc, hb⟩ := bn_get (s := s) (i := X.length) (by omega)
  rw [h, List.getElem?_append_right (Nat.le_refl _), Nat.sub_self] at hc
  simp only [List.getElem?_cons_zero, Option.some.injEq] at hc
  rw [h1, Nat.add_sub_cancel]
  exact ⟨by rw [← hb, hc], by omega⟩
theorem bl_list (s : ByteArray) : (bl s).map UInt8.ofNat = s.data.toList := by
  have := congrArg (fun x : ByteArray => x.data.toList) (bl_bytes s)
  simpa using this
theorem esc_list (s : ByteArray) : (escS s).data.toList = ((bl s).flatMap escB).map UInt8.ofNat := by
  unfold escS escL
  rw [List.take_of_length_le (by rw [bl_length]; exact Nat.le_refl _)]
theorem esc_mem {s : ByteArray} {x : UInt8} (h : x ∈ (escS s).data.toList) : x = 92 ∨ x ∈ s.data.toList := by
  rw [esc_list, List.mem_map] at h
  obtain ⟨a, ha, rfl⟩ := h
  rw [List.mem_flatMap] at ha
  obtain ⟨c, hc, hac⟩ := ha
  have hcm : UInt8.ofNat c ∈ s.data.toList := by rw [← bl_list, List.mem_map]; exact ⟨c, hc, rfl⟩
  unfold escB at hac
  split at hac
  · simp only [List.mem_cons, List.mem_nil_iff, or_false] at hac
    rcases hac with rfl | rfl
    · exact .inl rfl
    · exact .inr hcm
  · simp only [List.mem_cons, List.mem_nil_iff, or_false] at hac
    subst hac
    exact .inr hcm
theorem esc_last {s : ByteArray} {X : List UInt8} {b : UInt8} (h : s.data.toList = X ++ [b]) : ∃ Y, (escS s).data.toList = Y ++ [b] := by
  obtain ⟨l, c, hlc⟩ : ∃ l c, bl s = l ++ [c] := by
    have hne : bl s ≠ [] := fun e => by
      have := bl_list s
      rw [e, h] at this
      simp at this
    exact ⟨_, _, (List.dropLast_concat_getLast hne).symm⟩
  have hb := bl_list s
  rw [hlc, h, List.map_append] at hb
  have h2 := (List.append_inj' hb rfl).2
  simp only [List.map_cons, List.map_nil, List.cons.injEq, and_true] at h2
  rw [esc_list, hlc, List.flatMap_append, List.map_append]
  simp only [List.flatMap_cons, List.flatMap_nil, List.append_nil]
  by_cases hc : c ∈ specials
  · have e : escB c = [92, c] := by unfold escB; rw [if_pos hc]
    rw [e]
    exact ⟨(l.flatMap escB).map UInt8.ofNat ++ [92], by simp [h2]⟩
  · have e : escB c = [c] := by unfold escB; rw [if_neg hc]
    rw [e]
    exact ⟨(l.flatMap escB).map UInt8.ofNat, by simp [h2]⟩
theorem bytes_cat (a b : ByteArray) : (a ++ b).data.toList = a.data.toList ++ b.data.toList := by simp
theorem pat_parts {name : ByteArray} (h0 : 0 < name.size) : parts (patS name) = some ((bl name).map single) := by
  unfold patS
  split
  · rename_i h
    obtain ⟨c, r, hcr⟩ : ∃ c r, bl name = c :: r := by
      cases hb : bl name with
      | nil => have := bl_length name; rw [hb] at this; simp at this; omega
      | cons c r => exact ⟨c, r, rfl⟩
    have hlt := bl_lt name
    rw [hcr] at hlt
    have hc0 := hlt c (by simp)
    have hcs : c ∉ specials ∧ (c = 33 ∨ c = 35) := by
      by_cases hs : c ∈ specials
      · have e : (escS name).data.toList = 92 :: ((c :: r.flatMap escB).map UInt8.ofNat) := by
          rw [esc_list, hcr, List.flatMap_cons, escB, if_pos hs]; rfl
        have := (first_of e).1
        rw [this] at h
        rcases h with h | h <;> exact absurd h (by decide)
      · have e : (escS name).data.toList = UInt8.ofNat c :: ((r.flatMap escB).map UInt8.ofNat) := by
          rw [esc_list, hcr, List.flatMap_cons, escB, if_neg hs]; rfl
        have := (first_of e).1
        rw [UInt8.toNat_ofNat', Nat.mod_eq_of_lt hc0] at this
        rw [this] at h
        exact ⟨hs, h⟩
    have h2 := parts_list r (fun d hd => hlt d (by simp [hd]))
    have e : escS name = ⟨((c :: r.flatMap escB).map UInt8.ofNat).toArray⟩ := by
      apply ByteArray.ext
      apply Array.toList_inj.1
      rw [esc_list, hcr, List.flatMap_cons, escB, if_neg hcs.1]
      rfl
    have e2 : (⟨#[92]⟩ : ByteArray) ++ (⟨((c :: r.flatMap escB).map UInt8.ofNat).toArray⟩ : ByteArray) = ⟨(([92, c] ++ r.flatMap escB).map UInt8.ofNat).toArray⟩ := by
      apply ByteArray.ext
      apply Array.toList_inj.1
      rw [bytes_cat]
      rfl
    have h1 : parts ⟨(([92, c] : List Nat).map UInt8.ofNat).toArray⟩ = some [single c] := by
      rcases hcs.2 with rfl | rfl
      · exact (show parts ⟨(([92, 33] : List Nat).map UInt8.ofNat).toArray⟩ = some [single 33] by kernel_rfl)
      · exact (show parts ⟨(([92, 35] : List Nat).map UInt8.ofNat).toArray⟩ = some [single 35] by kernel_rfl)
    have h3 := parts_append h1 h2
    rw [bytes_append] at h3
    rw [e, e2, List.map_append, h3, hcr]
    rfl
  · exact parts_escS name
theorem pat_mem {name : ByteArray} {x : UInt8} (h : x ∈ (patS name).data.toList) : x = 92 ∨ x ∈ name.data.toList := by
  unfold patS at h
  split at h
  · rw [bytes_cat, List.mem_append] at h
    rcases h with h | h
    · left; simpa using h
    · exact esc_mem h
  · exact esc_mem h
theorem pat_last {s : ByteArray} {X : List UInt8} {b : UInt8} (h : s.data.toList = X ++ [b]) : ∃ Y, (patS s).data.toList = Y ++ [b] := by
  obtain ⟨Y, hY⟩ := esc_last h
  unfold patS
  split
  · exact ⟨[92] ++ Y, by rw [bytes_cat, hY, List.append_assoc]⟩
  · exact ⟨Y, hY⟩
theorem pat_first (name : ByteArray) : bn (patS name) 0 ≠ 33 ∧ bn (patS name) 0 ≠ 35 := by
  unfold patS
  split
  · have h : ((⟨#[92]⟩ : ByteArray) ++ escS name).data.toList = 92 :: (escS name).data.toList := by rw [bytes_cat]; rfl
    rw [(first_of h).1]
    decide
  · rename_i h
    exact ⟨fun e => h (.inl e), fun e => h (.inr e)⟩
/-- A name of which GlobBelow makes a rule. -/
structure Named (name : ByteArray) : Prop where
  pos : 0 < name.size
  slash : (47 : UInt8) ∉ name.data.toList
  line : (10 : UInt8) ∉ name.data.toList
  last : bn name (name.size - 1) ≠ 32
  short : (patS name).size ≤ 1024
theorem Named.ends {name : ByteArray} (h : Named name) : ∃ (b : UInt8) (Y : List UInt8), (patS name).data.toList = Y ++ [b] ∧ b.toNat ≠ 32 ∧ b.toNat ≠ 47 := by
  obtain ⟨n, hn⟩ : ∃ n, name.size = n + 1 := ⟨name.size - 1, by have := h.pos; omega⟩
  obtain ⟨b, hb, hbn⟩ := last_byte hn
  obtain ⟨Y, hY⟩ := pat_last hb
  refine ⟨b, Y, hY, ?_, ?_⟩
  · rw [hbn]
    have := h.last
    rw [hn, Nat.add_sub_cancel] at this
    exact this
  · intro e
    apply h.slash
    rw [hb, show (47 : UInt8) = b from UInt8.toNat_inj.1 (by rw [e]; rfl)]
    simp
theorem rule_core {name : ByteArray} (h : Named name) : ∀ {s : ByteArray} {bk : Bool}, isBack s = bk → cutBack s = patS name → ruleF s = .ok { nameRule name with back := bk } := by
  intro s bk hb hc
  obtain ⟨b, Y, hY, h32, h47⟩ := h.ends
  obtain ⟨l1, l2⟩ := last_of hY
  have hd : isDir (patS name) = false := by
    unfold isDir
    rw [l1]
    simp [h47]
  have hcd : cutDir (patS name) = patS name := by unfold cutDir; rw [hd]; rfl
  have hsp : spl 47 (patS name) = [patS name] := spl_one (c := 47) (fun hm => by
    rcases pat_mem hm with h1 | h1
    · exact absurd h1 (by decide)
    · exact h.slash h1)
  have hrt : rootedF (patS name) = false := by unfold rootedF; rw [hsp]; rfl
  unfold ruleF
  rw [hb, hc, hcd, hd, hrt, if_neg (by omega), hsp]
  have hu : unroot [patS name] = [patS name] := by simp [unroot]
  rw [hu]
  have hp : piecesF false [patS name] = .ok [some ((bl name).map single)] := by
    simp only [piecesF]
    rw [if_neg (by simp), if_neg (by have := h.short; omega), pat_parts h.pos]
  rw [hp]
  rfl
theorem rule_pat {name : ByteArray} (h : Named name) : ruleF (patS name) = .ok (nameRule name) := by
  have hb : isBack (patS name) = false := by
    unfold isBack
    have := (pat_first name).1
    simp [this]
  exact rule_core h hb (by unfold cutBack; rw [hb]; rfl)
theorem rule_back {name B : ByteArray} (h : Named name) (hB : B.data.toList = 33 :: (patS name).data.toList) : ruleF B = .ok { nameRule name with back := true } := by
  obtain ⟨f1, f2⟩ := first_of hB
  have hl : B.data.toList.length = B.size := by simp
  have hb : isBack B = true := by
    unfold isBack
    rw [f1]
    simp [f2]
  refine rule_core h hb ?_
  unfold cutBack
  rw [hb]
  simp only [if_true]
  apply ByteArray.ext
  apply Array.toList_inj.1
  rw [toList_extract, List.take_of_length_le (by rw [List.length_drop]; omega), hB]
  rfl
theorem silent_of {s : ByteArray} (h0 : 0 < s.size) (h : bn s 0 ≠ 35) (hl : bn s (s.size - 1) ≠ 32) : trimS s = s ∧ isSilent (trimS s) = false := by
  have ht := trimS_stop (s := s) (fun e => hl e.2.1)
  rw [ht]
  exact ⟨rfl, silent_no h0 h⟩
theorem read_pat {name : ByteArray} (h : Named name) : readL (spl 10 (patS name)) 0 = .ok [nameRule name] := by
  have hsp : spl 10 (patS name) = [patS name] := spl_one (c := 10) (fun hm => by
    rcases pat_mem hm with h1 | h1
    · exact absurd h1 (by decide)
    · exact h.line h1)
  obtain ⟨b, Y, hY, h32, h47⟩ := h.ends
  obtain ⟨l1, l2⟩ := last_of hY
  obtain ⟨t1, t2⟩ := silent_of l2 (pat_first name).2 (by rw [l1]; exact h32)
  rw [hsp]
  simp only [readL]
  rw [if_neg (by rw [t2]; decide), t1, rule_pat h]
theorem text_sum (a b c : ByteArray) : (a ++ b ++ c).data.toList = a.data.toList ++ (b.data.toList ++ c.data.toList) := by rw [bytes_cat, bytes_cat, List.append_assoc]
/-- A text with a name's rule behind it, and that rule taken back. -/
theorem back_pieces {name s : ByteArray} (h : Named name) : ∃ B : ByteArray, B.data.toList = 33 :: (patS name).data.toList ∧ spl 10 (s ++ ⟨#[10]⟩ ++ patS name ++ ⟨#[10, 33]⟩ ++ patS name ++ ⟨#[10]⟩) = spl 10 s ++ ([patS name] ++ ([B] ++ [⟨#[]⟩])) := by
  obtain ⟨B, hB⟩ : ∃ B : ByteArray, B.data.toList = 33 :: (patS name).data.toList := ⟨⟨(33 :: (patS name).data.toList).toArray⟩, by simp⟩
  refine ⟨B, hB, ?_⟩
  have hno : (10 : UInt8) ∉ (patS name).data.toList := fun hm => by
    rcases pat_mem hm with h1 | h1
    · exact absurd h1 (by decide)
    · exact h.line h1
  have hsp : spl 10 (patS name) = [patS name] := spl_one (c := 10) hno
  have hsB : spl 10 B = [B] := spl_one (c := 10) (fun hm => by
    rw [hB] at hm
    rcases List.mem_cons.1 hm with h1 | h1
    · exact absurd h1 (by decide)
    · exact hno h1)
  have hs0 : spl 10 (⟨#[]⟩ : ByteArray) = [⟨#[]⟩] := spl_one (c := 10) (by simp)
  obtain ⟨u, hu⟩ : ∃ u : ByteArray, u.data.toList = B.data.toList ++ 10 :: (⟨#[]⟩ : ByteArray).data.toList := ⟨⟨(B.data.toList ++ [10]).toArray⟩, by simp⟩
  obtain ⟨v, hv⟩ : ∃ v : ByteArray, v.data.toList = (patS name).data.toList ++ 10 :: u.data.toList := ⟨⟨((patS name).data.toList ++ 10 :: u.data.toList).toArray⟩, by simp⟩
  have e1 := spl_join (c := 10) (s := s ++ ⟨#[10]⟩ ++ patS name ++ ⟨#[10, 33]⟩ ++ patS name ++ ⟨#[10]⟩) (a := s) (b := v) (by
    rw [hv, hu, hB]
    simp only [bytes_cat, List.append_assoc, List.cons_append, List.nil_append])
  have e2 := spl_join (c := 10) hv
  have e3 := spl_join (c := 10) hu
  rw [show (10 : UInt8).toNat = 10 from rfl] at e1 e2 e3
  rw [e1, e2, e3, hsp, hsB, hs0]
theorem read_back {name s : ByteArray} {rs : List RuleV} (h : Named name) (hr : readL (spl 10 s) 0 = .ok rs) :
    readL (spl 10 (s ++ ⟨#[10]⟩ ++ patS name ++ ⟨#[10, 33]⟩ ++ patS name ++ ⟨#[10]⟩)) 0 = .ok (rs ++ [nameRule name, { nameRule name with back := true }]) := by
  obtain ⟨B, hB, e⟩ := back_pieces (s := s) h
  rw [e]
  obtain ⟨b, Y, hY, h32, h47⟩ := h.ends
  obtain ⟨l1, l2⟩ := last_of hY
  obtain ⟨t1, t2⟩ := silent_of l2 (pat_first name).2 (by rw [l1]; exact h32)
  obtain ⟨f1, f2⟩ := first_of hB
  obtain ⟨m1, m2⟩ := last_of (s := B) (X := 33 :: Y) (b := b) (by rw [hB, hY]; rfl)
  obtain ⟨s1, s2⟩ := silent_of f2 (by rw [f1]; decide) (by rw [m1]; exact h32)
  have hbr := rule_back h hB
  have hq : readL ([patS name] ++ ([B] ++ [⟨#[]⟩])) 0 = .ok [nameRule name, { nameRule name with back := true }] := by
    simp only [List.cons_append, List.nil_append, readL]
    rw [if_neg (by rw [t2]; decide), t1, rule_pat h]
    simp only
    rw [if_neg (by rw [s2]; decide), s1, hbr]
    simp only
    rw [if_pos (by rw [trimS_nil]; exact silent_nil (by decide))]
  exact readL_join hq hr
theorem back_lines {name s : ByteArray} (h : Named name) (hs : s.size ≤ 1048576) : (s ++ ⟨#[10]⟩ ++ patS name ++ ⟨#[10, 33]⟩ ++ patS name ++ ⟨#[10]⟩).size ≤ 4194304 ∧ ∀ p ∈ spl 10 (s ++ ⟨#[10]⟩ ++ patS name ++ ⟨#[10, 33]⟩ ++ patS name ++ ⟨#[10]⟩), p.size ≤ 1048576 := by
  have hsh := h.short
  have q1 : (⟨#[10]⟩ : ByteArray).size = 1 := rfl
  have q2 : (⟨#[10, 33]⟩ : ByteArray).size = 2 := rfl
  refine ⟨by simp only [ByteArray.size_append, q1, q2]; omega, fun p hp => ?_⟩
  obtain ⟨B, hB, e⟩ := back_pieces (s := s) h
  have hBz : B.size = (patS name).size + 1 := by
    have h1 : B.data.toList.length = B.size := by simp
    have h2 : (patS name).data.toList.length = (patS name).size := by simp
    rw [← h1, hB, List.length_cons, h2]
  rw [e] at hp
  simp only [List.mem_append, List.mem_cons, List.mem_nil_iff, or_false] at hp
  rcases hp with hp | rfl | rfl | rfl
  · have := spl_size hp; omega
  · omega
  · omega
  · exact (show (⟨#[]⟩ : ByteArray).size ≤ 1048576 from by decide)
theorem twice_lines {s : ByteArray} (hs : s.size ≤ 1048576) : (s ++ ⟨#[10]⟩ ++ s).size ≤ 4194304 ∧ ∀ p ∈ spl 10 (s ++ ⟨#[10]⟩ ++ s), p.size ≤ 1048576 := by
  have q1 : (⟨#[10]⟩ : ByteArray).size = 1 := rfl
  refine ⟨by simp only [ByteArray.size_append, q1]; omega, fun p hp => ?_⟩
  have e := spl_join (c := 10) (s := s ++ ⟨#[10]⟩ ++ s) (a := s) (b := s) (by rw [text_sum]; rfl)
  rw [show (10 : UInt8).toNat = 10 from rfl] at e
  rw [e, List.mem_append] at hp
  rcases hp with hp | hp <;> (have := spl_size hp; omega)
theorem read_two {s : ByteArray} {rs : List RuleV} (h : readL (spl 10 s) 0 = .ok rs) : readL (spl 10 (s ++ ⟨#[10]⟩ ++ s)) 0 = .ok (rs ++ rs) := read_twice h (by rw [text_sum]; rfl)
theorem below_of {rs : List RuleV} {path name : ByteArray} (h : ignoredP rs path true = true) : ignoredP rs (path ++ ⟨#[47]⟩ ++ name ++ ⟨#[47, 120]⟩) false = true := by
  obtain ⟨v, hv⟩ : ∃ v : ByteArray, v.data.toList = name.data.toList ++ 47 :: (⟨#[120]⟩ : ByteArray).data.toList := ⟨⟨(name.data.toList ++ [47, 120]).toArray⟩, by simp⟩
  have e1 := names_join (s := path ++ ⟨#[47]⟩ ++ name ++ ⟨#[47, 120]⟩) (a := path) (b := v) (by
    rw [hv]
    simp only [bytes_cat, List.append_assoc, List.cons_append, List.nil_append])
  have e2 := names_join hv
  have e3 : namesOf (⟨#[120]⟩ : ByteArray) = [⟨#[120]⟩] := names_one (by decide) (by decide)
  exact below_ignored (M := namesOf v) e1 (by rw [e2, e3]; simp) h
theorem named_of {name : ByteArray} (h0 : 0 < name.size) (hb : ∀ j, j < name.size → bn name j ≠ 47 ∧ bn name j ≠ 10) (hl : bn name (name.size - 1) ≠ 32) (hs : (escS name).size ≤ 1000) : Named name := by
  have hm : ∀ c : UInt8, c ∈ name.data.toList → ∃ j, j < name.size ∧ bn name j = c.toNat := fun c hc => by
    obtain ⟨j, hj, he⟩ := List.getElem_of_mem hc
    have hl : name.data.toList.length = name.size := by simp
    obtain ⟨b, hb1, hb2⟩ := bn_get (s := name) (i := j) (by omega)
    rw [List.getElem?_eq_getElem hj, he] at hb1
    exact ⟨j, by omega, by rw [← hb2, Option.some.inj hb1]⟩
  refine ⟨h0, fun h => ?_, fun h => ?_, hl, ?_⟩
  · obtain ⟨j, h1, h2⟩ := hm _ h
    exact (hb j h1).1 h2
  · obtain ⟨j, h1, h2⟩ := hm _ h
    exact (hb j h1).2 h2
  · unfold patS
    have q1 : (⟨#[92]⟩ : ByteArray).size = 1 := rfl
    split
    · rw [ByteArray.size_append, q1]; omega
    · omega
theorem self_ignored {name : ByteArray} (h : Named name) : ignoredP [nameRule name] name false = true := by
  rw [ignored_name, names_one h.slash h.pos]
  simp
theorem deep_ignored {name : ByteArray} (h : Named name) : ignoredP [nameRule name] (⟨#[100, 47]⟩ ++ name ++ ⟨#[47, 120]⟩) false = true := by
  obtain ⟨v, hv⟩ : ∃ v : ByteArray, v.data.toList = name.data.toList ++ 47 :: (⟨#[120]⟩ : ByteArray).data.toList := ⟨⟨(name.data.toList ++ [47, 120]).toArray⟩, by simp⟩
  have e1 := names_join (s := ⟨#[100, 47]⟩ ++ name ++ ⟨#[47, 120]⟩) (a := ⟨#[100]⟩) (b := v) (by
    rw [hv]
    simp only [bytes_cat, List.append_assoc, List.cons_append, List.nil_append])
  have e2 := names_join hv
  rw [ignored_name, e1, e2, names_one h.slash h.pos]
  simp
theorem has_ignored {name : ByteArray} (h : Named name) (path : ByteArray) : ignoredP [nameRule name] path false = hasB name (spl 47 path) := by
  apply Bool.eq_iff_iff.2
  rw [ignored_name, hasB_iff]
  unfold namesOf
  rw [List.mem_filter, decide_eq_true_eq]
  exact ⟨fun x => x.1, fun x => ⟨x, h.pos⟩⟩
end Go.Proofs.YtgkifphfibcfdaaGreatDoor.G
/- The law's has: the walk. -/
namespace Go.Proofs.YtgkifphfibcfdaaGreatDoor.G
open Go.RowKit Go.Proofs.YtgkifphfibcfdaaGreatDoor.B
set_option linter.unusedVariables false
theorem same_yes {a b : ByteArray} (h : a = b) : (a.toList == b.toList) = true := by rw [h]; simp
theorem same_no {a b : ByteArray} (h : a ≠ b) : (a.toList == b.toList) = false := by
  cases hq : (a.toList == b.toList) with
  | false => rfl
  | true => exact absurd (eq_of_toList hq) h
set_option maxRecDepth 100000 in
set_option maxHeartbeats 8000000 in
theorem has_calls (s name : ByteArray) (w : World) (hs : s.size ≤ 1048576) :
    Calls Tryz.prog 26 #[.string s, .string name] w fun e w' => e = .returned (.bool (hasB name (spl 47 s))) ∧ w' = w := by
  obtain ⟨R, hR⟩ : ∃ R, hasB name (spl 47 s) = R := ⟨_, rfl⟩
  rw [hR]
  go_enter Tryz.func26, Tryz.ntmps26
  go_wp2
  go_loopg [5, 6] (s.size + 2) (fun gk v5 v6 wr => w = wr ∧ ∃ (i f : Nat), i ≤ s.size + 1 ∧ f ≤ i ∧ gk = s.size + 2 - i ∧ v5 = .int .i64 (f : Int) ∧ v6 = .int .i64 (i : Int) ∧ Asd (if i ≤ s.size then hasB name (pieces 47 s (s.size - i) f i) = R else R = false))
  case atStart => exact ⟨rfl, 0, 0, by omega, by omega, by omega, rfl, rfl, ⟨by rw [if_pos (by omega)]; exact hR⟩⟩
  case round =>
    obtain ⟨rfl, i, f, hi, hf, rfl, rfl, rfl, HP⟩ := hrel
    clear hR
    by_cases hle : i ≤ s.size
    · have hP := HP.out
      rw [if_pos hle] at hP
      have k1 : (f : Int) ≤ (i : Int) := by omega
      have k2 : (i : Int) ≤ (s.size : Int) := by omega
      obtain ⟨p, hp⟩ : ∃ p, s.extract f i = p := ⟨_, rfl⟩
      by_cases hlt : i < s.size
      · rw [pieces_go hlt] at hP
        have hbn : bn s i = s[i].toNat := by unfold bn; rw [dif_pos hlt]
        have t0 : ((i : Int) == (s.size : Int)) = false := by simp; omega
        by_cases h47 : bn s i = 47
        · rw [if_pos h47, hp] at hP
          have t1 : (((s[i].toNat : Nat) : Int) == 47) = true := by rw [← hbn, h47]; rfl
          by_cases hpn : p = name
          · have te := same_yes hpn
            have HF := Asd.mk (show R = true by rw [← hP, hpn]; simp [hasB])
            clear hP HP hbn h47 hpn
            go_wp2
            go_ret
            exact ⟨by rw [HF.out]; rfl, rfl⟩
          · have te := same_no hpn
            have HP2 := Asd.mk (show (if i + 1 ≤ s.size then hasB name (pieces 47 s (s.size - (i + 1)) (i + 1) (i + 1)) = R else R = false) by
              rw [if_pos (by omega), ← hP]
              simp [hasB, te])
            clear hP HP hbn h47 hpn
            go_wp2
            go_roundg (s.size + 2 - (i + 1))
            case rel => exact ⟨rfl, i + 1, i + 1, by omega, by omega, by omega, by go_num, by go_num, HP2⟩
            case measure => omega
        · rw [if_neg h47] at hP
          have t1 : (((s[i].toNat : Nat) : Int) == 47) = false := by rw [← hbn]; simp; omega
          have HP2 := Asd.mk (show (if i + 1 ≤ s.size then hasB name (pieces 47 s (s.size - (i + 1)) f (i + 1)) = R else R = false) by
            rw [if_pos (by omega)]; exact hP)
          clear hP HP hbn h47
          go_wp2
          go_roundg (s.size + 2 - (i + 1))
          case rel => exact ⟨rfl, i + 1, f, by omega, by omega, by omega, rfl, by go_num, HP2⟩
          case measure => omega
      · obtain rfl : i = s.size := by omega
        rw [pieces_end, hp] at hP
        have t0 : ((s.size : Int) == (s.size : Int)) = true := by simp
        by_cases hpn : p = name
        · have te := same_yes hpn
          have HF := Asd.mk (show R = true by rw [← hP, hpn]; simp [hasB])
          clear hP HP hpn
          go_wp2
          go_ret
          exact ⟨by rw [HF.out]; rfl, rfl⟩
        · have te := same_no hpn
          have HP2 := Asd.mk (show (if s.size + 1 ≤ s.size then hasB name (pieces 47 s (s.size - (s.size + 1)) (s.size + 1) (s.size + 1)) = R else R = false) by
            rw [if_neg (by omega), ← hP]
            simp [hasB, te])
          clear hP HP hpn
          go_wp2
          go_roundg (s.size + 2 - (s.size + 1))
          case rel => exact ⟨rfl, s.size + 1, s.size + 1, by omega, by omega, by omega, by go_num, by go_num, HP2⟩
          case measure => omega
    · have hP := HP.out
      rw [if_neg hle] at hP
      subst hP
      go_wp2
      go_ret
      exact ⟨rfl, rfl⟩
end Go.Proofs.YtgkifphfibcfdaaGreatDoor.G
/- GlobBelow: the walk. -/
namespace Go.Proofs.YtgkifphfibcfdaaGreatDoor.G
open Go.RowKit Go.Proofs.YtgkifphfibcfdaaGreatDoor.B Go.Sort
set_option linter.unusedVariables false
/-- What Read has left, as a walk uses it. -/
def RulesAt (w : World) (gp : Nat) (rs : List RuleV) : Prop :=
  ∀ (path : ByteArray), path.size ≤ 2097152 → ∀ (dir : Bool) (W : World), Chg [] w W → Calls Tryz.prog 24 #[.pointer (some ⟨gp, 0, none⟩), .string path, .bool dir] W fun e w' => e = .returned (.bool (ignoredP rs path dir)) ∧ Chg [] W w'
theorem read_rules {s : ByteArray} {rs : List RuleV} {w : World} (hm : MaxLenAt w) (h : readL (spl 10 s) 0 = .ok rs) (hs : s.size ≤ 4194304) (hl : ∀ p ∈ spl 10 s, p.size ≤ 1048576) :
    Calls Tryz.prog 22 #[.string s] w fun e w' => ∃ gp, e = .returned (.tuple #[.pointer (some ⟨gp, 0, none⟩), .int .i64 0, .nilIface]) ∧ Chg [] w w' ∧ RulesAt w' gp rs := by
  have hc := read_calls s w hm hs hl
  rw [h] at hc
  obtain ⟨hwf, hlen⟩ := rules_small h hs hl
  refine hc.mono ?_
  rintro e w1 ⟨hC1, gp, v, X, rfl, hg, hown, hx, hX⟩
  exact ⟨gp, rfl, hC1, fun path hp dir W hc => pign_at hg hown hx hX hwf hlen path hp dir W hc⟩
set_option maxRecDepth 100000 in
set_option maxHeartbeats 32000000 in
theorem globbelow_calls (text path name : ByteArray) (w : World) (hE : ErrType w) (hM : MaxLenAt w) (hb : text.size + path.size + name.size ≤ 1048576) :
    Calls Tryz.prog 11 #[.string text, .string path, .string name] w fun e w' => e = .returned (.bool true) ∧ Chg [] w w' := by
  have HM := Asd.mk hM
  have HW := Asd.mk (fun W (h : Chg [] w W) => works_calls W (hE.chg h))
  have hP := read_calls text w hM (by omega) (fun p hp => lines_one (by omega) hp)
  have kT : ¬ (1048576 : Int) < (text.size : Int) := by omega
  obtain ⟨R, hRR⟩ : ∃ R, readL (spl 10 text) 0 = R := ⟨_, rfl⟩
  cases R with
  | error x =>
    obtain ⟨i, m⟩ := x
    rw [hRR] at hP
    have HP := Asd.mk hP
    clear hP hRR hE hM
    go_enter Tryz.func11, Tryz.ntmps11
    go_wp2_with fail
    refine HP.out.mono ?_
    rintro e w1 ⟨hC1, rfl⟩
    have HC1 := Asd.mk hC1
    clear hC1 HP
    go_wp2_with fail
    refine (HW.out w1 HC1.out).mono ?_
    rintro e w2 ⟨rfl, hC2⟩
    have HC2 := Asd.mk (HC1.out.trans hC2)
    clear hC2
    go_wp2
    go_ret
    exact ⟨rfl, HC2.out⟩
  | ok rs =>
    have HP := Asd.mk (read_rules hM hRR (by omega) (fun p hp => lines_one (by omega) hp))
    have HRR := Asd.mk hRR
    have q1' : (⟨#[47]⟩ : ByteArray).size = 1 := rfl
    have q2' : (⟨#[47, 120]⟩ : ByteArray).size = 2 := rfl
    have q3' : (⟨#[100, 47]⟩ : ByteArray).size = 2 := rfl
    have hUz : (path ++ ⟨#[47]⟩ ++ name ++ ⟨#[47, 120]⟩).size ≤ 2097152 := by simp only [ByteArray.size_append, q1', q2']; omega
    have hDz : (⟨#[100, 47]⟩ ++ name ++ ⟨#[47, 120]⟩ : ByteArray).size ≤ 2097152 := by simp only [ByteArray.size_append, q2', q3']; omega
    have hBel := below_of (rs := rs) (path := path) (name := name)
    have hDeep := fun h : Named name => deep_ignored h
    have h2L := twice_lines (s := text) (by omega)
    have h2R := read_two hRR
    obtain ⟨U, hU⟩ : ∃ U, path ++ ⟨#[47]⟩ ++ name ++ ⟨#[47, 120]⟩ = U := ⟨_, rfl⟩
    obtain ⟨D, hD⟩ : ∃ U, (⟨#[100, 47]⟩ ++ name ++ ⟨#[47, 120]⟩ : ByteArray) = U := ⟨_, rfl⟩
    obtain ⟨T2, hT2⟩ : ∃ T, text ++ ⟨#[10]⟩ ++ text = T := ⟨_, rfl⟩
    rw [hU] at hUz hBel
    rw [hD] at hDz hDeep
    rw [hT2] at h2L h2R
    have HDeep := Asd.mk hDeep
    have HTW := Asd.mk (fun W (h : Chg [] w W) => read_rules (hM.chg h) h2R h2L.1 h2L.2)
    have HBK := Asd.mk (fun (h : Named name) W (hc : Chg [] w W) => read_rules (hM.chg hc) (read_back (s := text) h hRR) (back_lines (s := text) h (by omega)).1 (back_lines (s := text) h (by omega)).2)
    have HON := Asd.mk (fun (h : Named name) W (hc : Chg [] w W) => read_rules (hM.chg hc) (read_pat h) (by have := h.short; omega) (fun p hp => by have := h.short; have := spl_size hp; omega))
    obtain ⟨q1, hq1⟩ : ∃ q, ignoredP rs path true = q := ⟨_, rfl⟩
    obtain ⟨q0, hq0⟩ : ∃ q, ignoredP rs path false = q := ⟨_, rfl⟩
    rw [hq1] at hBel
    have HQ1 := Asd.mk hq1
    have HQ0 := Asd.mk hq0
    have HBel := Asd.mk hBel
    have e1 : (q1 != q1) = false := by simp
    have e0 : (q0 != q0) = false := by simp
    have hpz : path.size ≤ 2097152 := by omega
    have hesc := escape_short name
    have hescz : (escS name).size ≤ 2097152 := by
      rw [escS_size]
      have := (escL_le name name.size (Nat.le_refl _)).2
      omega
    clear hP hRR hE hM hBel hDeep h2L h2R hq1 hq0 q1' q2' q3'
    go_enter Tryz.func11, Tryz.ntmps11
    go_wp2_with fail
    refine HP.out.mono ?_
    rintro e w1 ⟨gp, rfl, hC1, hI⟩
    have HI := Asd.mk hI
    have HC1 := Asd.mk hC1
    clear hC1 hI HP
    go_upto_region 4 with fail
    go_cut [58] from 46 to 58 (fun v58 wx => v58 = .bool false ∧ Asd (Chg [] w1 wx))
    case first =>
      go_wp2_with fail
      refine (HI.out path hpz true w1 (Chg.refl _ _)).mono ?_
      rintro e w2 ⟨rfl, hC2⟩
      rw [HQ1.out]
      have HC2 := Asd.mk hC2
      clear hC2
      cases q1 with
      | true =>
        go_wp2_with fail
        refine (HI.out U hUz false w2 HC2.out).mono ?_
        rintro e w3 ⟨rfl, hC3⟩
        rw [HBel.out trivial]
        have HC3 := Asd.mk (HC2.out.trans hC3)
        clear hC3
        go_wp2
        go_meet
        case rel => exact ⟨rfl, HC3⟩
      | false =>
        go_wp2
        go_meet
        case rel => exact ⟨rfl, HC2⟩
    case rest =>
      obtain ⟨rfl, HC2⟩ := hcut
      clear HBel hU hUz
      go_wp2_with fail
      refine (HTW.out wc (HC1.out.trans HC2.out)).mono ?_
      rintro e w3 ⟨g2, rfl, hC3, hI2⟩
      have HI2 := Asd.mk hI2
      have HC3 := Asd.mk (HC2.out.trans hC3)
      clear hC3 hI2 HTW hT2
      go_wp2_with fail
      refine (HI2.out path hpz false w3 (Chg.refl _ _)).mono ?_
      rintro e w4 ⟨rfl, hC4⟩
      rw [ignored_twice, HQ0.out]
      have HC24 := Asd.mk hC4
      have HC4 := Asd.mk (HC3.out.trans hC4)
      clear hC4
      go_wp2_with fail
      refine (HI.out path hpz false w4 HC4.out).mono ?_
      rintro e w5 ⟨rfl, hC5⟩
      rw [HQ0.out]
      have HC25 := Asd.mk (HC24.out.trans hC5)
      have HC5 := Asd.mk (HC4.out.trans hC5)
      clear hC5
      go_wp2_with fail
      refine (HI2.out path hpz true w5 HC25.out).mono ?_
      rintro e w6 ⟨rfl, hC6⟩
      rw [ignored_twice, HQ1.out]
      have HC6 := Asd.mk (HC5.out.trans hC6)
      clear hC6
      go_wp2_with fail
      refine (HI.out path hpz true w6 HC6.out).mono ?_
      rintro e w7 ⟨rfl, hC7⟩
      rw [HQ1.out]
      have HC7 := Asd.mk (HC6.out.trans hC7)
      clear hC7 HI2 HC24 HC25
      go_wp2_with fail
      refine (hesc w7 (by omega)).mono ?_
      rintro e w8 ⟨rfl, hC8⟩
      have HC8 := Asd.mk (HC7.out.trans hC8)
      clear hC8 HC2 HC3 HC4 HC5 HC6 HC7
      obtain ⟨E, hEe⟩ : ∃ E, escS name = E := ⟨_, rfl⟩
      rw [hEe] at hescz ⊢
      have HEe := Asd.mk hEe
      clear hesc hEe e0 e1
      go_wp2
      go_loopg [14] (name.size + 1) (fun gk v14 wx => w8 = wx ∧ ∃ i : Nat, i ≤ name.size ∧ gk = name.size + 1 - i ∧ v14 = .int .i64 (i : Int) ∧ Asd (∀ j, j < i → bn name j ≠ 47 ∧ bn name j ≠ 10))
      case atStart => exact ⟨rfl, 0, by omega, rfl, rfl, ⟨fun j hj => absurd hj (by omega)⟩⟩
      case round =>
        obtain ⟨rfl, i, hi, rfl, rfl, HN⟩ := hrel
        by_cases hlt : i < name.size
        · have hbn : bn name i = name[i].toNat := by unfold bn; rw [dif_pos hlt]
          by_cases h47 : bn name i = 47
          · have t1 : (((name[i].toNat : Nat) : Int) == 47) = true := by rw [← hbn, h47]; rfl
            clear hbn h47
            go_wp2_with fail
            refine (HW.out w8 (HC1.out.trans HC8.out)).mono ?_
            rintro e w9 ⟨rfl, hC9⟩
            have HC9 := Asd.mk ((HC1.out.trans HC8.out).trans hC9)
            clear hC9
            go_wp2
            go_ret
            exact ⟨rfl, HC9.out⟩
          · have t1 : (((name[i].toNat : Nat) : Int) == 47) = false := by rw [← hbn]; simp; omega
            by_cases h10 : bn name i = 10
            · have t2 : (((name[i].toNat : Nat) : Int) == 10) = true := by rw [← hbn, h10]; rfl
              clear hbn h47 h10
              go_wp2_with fail
              refine (HW.out w8 (HC1.out.trans HC8.out)).mono ?_
              rintro e w9 ⟨rfl, hC9⟩
              have HC9 := Asd.mk ((HC1.out.trans HC8.out).trans hC9)
              clear hC9
              go_wp2
              go_ret
              exact ⟨rfl, HC9.out⟩
            · have t2 : (((name[i].toNat : Nat) : Int) == 10) = false := by rw [← hbn]; simp; omega
              have HN2 := Asd.mk (show ∀ j, j < i + 1 → bn name j ≠ 47 ∧ bn name j ≠ 10 from fun j hj => by
                by_cases e : j = i
                · rw [e]; exact ⟨h47, h10⟩
                · exact HN.out j (by omega))
              clear hbn h47 h10 HN
              go_wp2
              go_roundg (name.size + 1 - (i + 1))
              case rel => exact ⟨rfl, i + 1, by omega, rfl, by go_num, HN2⟩
              case measure => omega
        · obtain rfl : i = name.size := by omega
          go_upto_region 15 with fail
          go_cut [129] from 111 to 129 (fun v129 wx => w8 = wx ∧ ∃ c : Bool, v129 = .bool c ∧ Asd (c = true ∨ (0 < name.size ∧ bn name (name.size - 1) ≠ 32 ∧ E.size ≤ 1000)))
          case first =>
            by_cases hz : 0 < name.size
            · have te := isEmpty_no hz
              cases hst : (name.toList == [42, 42]) with
              | true =>
                go_wp2
                go_meet
                case rel => exact ⟨rfl, true, rfl, ⟨.inl rfl⟩⟩
              | false =>
                by_cases hE1 : 1000 < E.size
                · have kE : (1000 : Int) < (E.size : Int) := by omega
                  go_wp2
                  go_meet
                  case rel => exact ⟨rfl, true, rfl, ⟨.inl rfl⟩⟩
                · have kE : ¬ (1000 : Int) < (E.size : Int) := by omega
                  obtain ⟨m, hm⟩ : ∃ m, name.size = m + 1 := ⟨name.size - 1, by omega⟩
                  have hmlt : m < name.size := by omega
                  have hbn : bn name m = name[m].toNat := by unfold bn; rw [dif_pos hmlt]
                  have km : ((name.size : Int) - 1) = (m : Int) := by omega
                  by_cases h32 : bn name m = 32
                  · have t3 : (((name[m].toNat : Nat) : Int) == 32) = true := by rw [← hbn, h32]; rfl
                    clear hbn h32 hm
                    go_wp2
                    go_meet
                    case rel => exact ⟨rfl, true, rfl, ⟨.inl rfl⟩⟩
                  · have t3 : (((name[m].toNat : Nat) : Int) == 32) = false := by rw [← hbn]; simp; omega
                    have HL := Asd.mk (show bn name (name.size - 1) ≠ 32 by rw [hm, Nat.add_sub_cancel]; exact h32)
                    clear hbn h32 hm
                    go_wp2
                    go_meet
                    case rel => exact ⟨rfl, false, rfl, ⟨.inr ⟨hz, HL.out, by omega⟩⟩⟩
            · have te := isEmpty_yes hz
              obtain rfl := empty_bytes hz
              go_wp2
              go_meet
              case rel => exact ⟨rfl, true, rfl, ⟨.inl rfl⟩⟩
          case rest =>
            obtain ⟨rfl, c, rfl, HCc⟩ := hcut
            cases c with
            | true =>
              go_wp2_with fail
              refine (HW.out w8 (HC1.out.trans HC8.out)).mono ?_
              rintro e w9 ⟨rfl, hC9⟩
              have HC9 := Asd.mk ((HC1.out.trans HC8.out).trans hC9)
              clear hC9
              go_wp2
              go_ret
              exact ⟨rfl, HC9.out⟩
            | false =>
              have hcc := HCc.out
              simp only [Bool.false_eq_true, false_or] at hcc
              have HNm := Asd.mk (named_of hcc.1 HN.out hcc.2.1 (by rw [HEe.out]; exact hcc.2.2))
              have hEz : 0 < E.size := by
                rw [← HEe.out]
                obtain ⟨l, b, hlb⟩ : ∃ (l : List UInt8) (b : UInt8), name.data.toList = l ++ [b] := by
                  obtain ⟨n, hn⟩ : ∃ n, name.size = n + 1 := ⟨name.size - 1, by omega⟩
                  obtain ⟨b, hb, _⟩ := last_byte hn
                  exact ⟨_, b, hb⟩
                obtain ⟨Y, hY⟩ := esc_last hlb
                exact (last_of hY).2
              have hbE : bn E 0 = E[0].toNat := by unfold bn; rw [dif_pos hEz]
              obtain ⟨P, hPp⟩ : ∃ P, patS name = P := ⟨_, rfl⟩
              have hps := hPp
              unfold patS at hps
              rw [HEe.out] at hps
              have hPz := HNm.out.short
              rw [hPp] at hPz
              clear hcc HCc HN
              have hbk := HBK.out HNm.out
              have hon := HON.out HNm.out
              have hdp := HDeep.out HNm.out
              have hsf := self_ignored HNm.out
              have hhs := has_ignored HNm.out path
              obtain ⟨T3, hT3⟩ : ∃ T, text ++ ⟨#[10]⟩ ++ P ++ ⟨#[10, 33]⟩ ++ P ++ ⟨#[10]⟩ = T := ⟨_, rfl⟩
              rw [hPp, hT3] at hbk
              rw [hPp] at hon
              obtain ⟨X, hX⟩ : ∃ X, nameRule name = X := ⟨_, rfl⟩
              rw [hX] at hbk hon hdp hsf hhs
              obtain ⟨qh, hqh⟩ : ∃ q, hasB name (spl 47 path) = q := ⟨_, rfl⟩
              rw [hqh] at hhs
              have hhas := has_calls path name
              rw [hqh] at hhas
              have eh : (qh == qh) = true := by simp
              have HBk := Asd.mk hbk
              have HOn := Asd.mk hon
              have HDp := Asd.mk hdp
              have HSf := Asd.mk hsf
              have HHs := Asd.mk hhs
              have HHas := Asd.mk hhas
              have hnz : name.size ≤ 2097152 := by omega
              have hps' : P.size ≤ 1024 := hPz
              obtain ⟨tr, htr⟩ : ∃ b, decide (bn E 0 = 33 ∨ bn E 0 = 35) = b := ⟨_, rfl⟩
              have HPs := Asd.mk (show P = if tr = true then (⟨#[92]⟩ : ByteArray) ++ E else E by
                rw [← hps, ← htr]
                by_cases h : bn E 0 = 33 ∨ bn E 0 = 35
                · rw [if_pos h, decide_eq_true h]; rfl
                · rw [if_neg h, decide_eq_false h]; rfl)
              clear hbk hon hdp hsf hhs hX hqh hhas hps hPp HON HBK HDeep HEe hPz
              go_upto_region 17 with fail
              go_cut [138] from 131 to 138 (fun v138 wx => w8 = wx ∧ v138 = .bool tr)
              case first =>
                by_cases h33 : bn E 0 = 33
                · have HT := Asd.mk (show tr = true by rw [← htr]; exact decide_eq_true (.inl h33))
                  have t1 : (((E[0].toNat : Nat) : Int) == 33) = true := by rw [← hbE, h33]; rfl
                  clear htr hbE h33
                  go_wp2
                  go_meet
                  case rel => exact ⟨rfl, by rw [HT.out]⟩
                · have t1 : (((E[0].toNat : Nat) : Int) == 33) = false := by rw [← hbE]; simp; omega
                  by_cases h35 : bn E 0 = 35
                  · have HT := Asd.mk (show tr = true by rw [← htr]; exact decide_eq_true (.inr h35))
                    have t2 : (((E[0].toNat : Nat) : Int) == 35) = true := by rw [← hbE, h35]; rfl
                    clear htr hbE h33 h35
                    go_wp2
                    go_meet
                    case rel => exact ⟨rfl, by rw [HT.out]⟩
                  · have HT := Asd.mk (show tr = false by rw [← htr]; exact decide_eq_false (by omega))
                    have t2 : (((E[0].toNat : Nat) : Int) == 35) = false := by rw [← hbE]; simp; omega
                    clear htr hbE h33 h35
                    go_wp2
                    go_meet
                    case rel => exact ⟨rfl, by rw [HT.out]⟩
              case rest =>
                obtain ⟨rfl, rfl⟩ := hcut
                clear htr hbE
                go_upto_if 138 with fail
                go_cut [13] from 139 to 140 (fun v13 wx => w8 = wx ∧ v13 = .string P)
                case first =>
                  cases tr with
                  | true =>
                    go_wp2
                    go_meet
                    case rel => exact ⟨rfl, by rw [HPs.out]; rfl⟩
                  | false =>
                    go_wp2
                    go_meet
                    case rel => exact ⟨rfl, by rw [HPs.out]; rfl⟩
                case rest =>
                  obtain ⟨rfl, rfl⟩ := hcut
                  clear HPs
                  go_wp2_with fail
                  refine (HBk.out w8 (HC1.out.trans HC8.out)).mono ?_
                  rintro e w9 ⟨g3, rfl, hC9, hI3⟩
                  have HI3 := Asd.mk hI3
                  have HC9 := Asd.mk (HC8.out.trans hC9)
                  clear hC9 hI3 HBk hT3
                  go_upto_region 20 with fail
                  go_cut [170] from 154 to 170 (fun v170 wx => v170 = .bool false ∧ Asd (Chg [] w1 wx))
                  case first =>
                    go_wp2_with fail
                    refine (HI3.out path hpz false w9 (Chg.refl _ _)).mono ?_
                    rintro e w10 ⟨rfl, hC10⟩
                    have HC10 := Asd.mk (HC9.out.trans hC10)
                    clear hC10
                    cases hqb : ignoredP (rs ++ [X, { X with back := true }]) path false with
                    | true =>
                      have HB := Asd.mk (ignored_back path hqb)
                      clear hqb
                      go_wp2_with fail
                      refine (HI.out path hpz false w10 HC10.out).mono ?_
                      rintro e w11 ⟨rfl, hC11⟩
                      rw [HB.out]
                      have HC11 := Asd.mk (HC10.out.trans hC11)
                      clear hC11
                      go_wp2
                      go_meet
                      case rel => exact ⟨rfl, HC11⟩
                    | false =>
                      clear hqb
                      go_wp2
                      go_meet
                      case rel => exact ⟨rfl, HC10⟩
                  case rest =>
                    obtain ⟨rfl, HC10⟩ := hcut
                    clear HI3 HC9
                    go_wp2_with fail
                    refine (HOn.out wc (HC1.out.trans HC10.out)).mono ?_
                    rintro e w11 ⟨g4, rfl, hC11, hI4⟩
                    have HI4 := Asd.mk hI4
                    have HC11 := Asd.mk (HC10.out.trans hC11)
                    clear hC11 hI4 HOn
                    go_wp2_with fail
                    refine (HI4.out name hnz false w11 (Chg.refl _ _)).mono ?_
                    rintro e w12 ⟨rfl, hC12⟩
                    rw [HSf.out]
                    have HC4a := Asd.mk hC12
                    have HC12 := Asd.mk (HC11.out.trans hC12)
                    clear hC12
                    go_wp2_with fail
                    refine (HI4.out D hDz false w12 HC4a.out).mono ?_
                    rintro e w13 ⟨rfl, hC13⟩
                    rw [HDp.out]
                    have HC4b := Asd.mk (HC4a.out.trans hC13)
                    have HC13 := Asd.mk (HC12.out.trans hC13)
                    clear hC13
                    go_wp2_with fail
                    refine (HI4.out path hpz false w13 HC4b.out).mono ?_
                    rintro e w14 ⟨rfl, hC14⟩
                    rw [HHs.out]
                    have HC14 := Asd.mk (HC13.out.trans hC14)
                    clear hC14
                    go_wp2_with fail
                    refine (HHas.out w14 (by omega)).mono ?_
                    rintro e w15 ⟨rfl, hw15⟩
                    subst hw15
                    go_wp2_with fail
                    refine (HW.out w15 (HC1.out.trans HC14.out)).mono ?_
                    rintro e w16 ⟨rfl, hC16⟩
                    have HC16 := Asd.mk ((HC1.out.trans HC14.out).trans hC16)
                    clear hC16
                    go_wp2
                    go_ret
                    exact ⟨rfl, HC16.out⟩
end Go.Proofs.YtgkifphfibcfdaaGreatDoor.G
