/- Merged out of these texts: BackF, OpErr, ApartF, TwinF. -/
import Derived.Test.YtiijbecklkccfaaGreatDoorPl12
import Derived.Test.YtiijbecklkccfaaGreatDoorPl15
import Derived.Test.YtiijbecklkccfaaGreatDoorPl6
import Derived.Test.YtiijbecklkccfaaGreatDoorPl11
import Derived.Test.YtiijbecklkccfaaGreatDoorPl14
import Derived.Test.YtiijbecklkccfaaGreatDoorPl7
/- What is renamed to where nothing stood, and back, is as it was. Plain. -/
namespace Go.Proofs.YtiijbecklkccfaaGreatDoor.I
open Go.RowKit Go.Proofs.YtiijbecklkccfaaGreatDoor.B Go.Sort
set_option linter.unusedVariables false
theorem wayE_pos {fs : FS} {s : ByteArray} {p : Pth} {n : Nat} (hs : partsF s = .ok p) (h : wayE fs p = some n) : n ≠ 0 := by
  have : atE fs s = .error n := by unfold atE; rw [hs]; simp only; rw [h]
  exact atE_pos this
/-- What a rename that answers no error has done. -/
theorem ren_zero {fs : FS} (hg : FsOk fs) {a b : ByteArray} (h : (renameF fs a b).1 = 0) : ∃ p q x, partsF a = .ok p ∧ partsF b = .ok q ∧ p ≠ [] ∧ q ≠ [] ∧ fs.at p = some x ∧ wayE fs q = none ∧ (a = b ∨ ∃ d n y, RenOk fs a b p q x d n y ∧ (renameF fs a b).2 = mvF (delF fs q) p q) := by
  unfold renameF at h ⊢
  cases hR : partsF a with
  | error n => rw [hR] at h; exact absurd h (partsF_pos hR)
  | ok p =>
    rw [hR] at h
    simp only at h ⊢
    cases hR2 : partsF b with
    | error n => rw [hR2] at h; exact absurd h (partsF_pos hR2)
    | ok q =>
      rw [hR2] at h
      simp only at h ⊢
      by_cases hp0 : p = []
      · rw [if_pos hp0] at h; cases h
      · rw [if_neg hp0] at h ⊢
        by_cases hq0 : q = []
        · rw [if_pos hq0] at h; cases h
        · rw [if_neg hq0] at h ⊢
          cases hw : wayE fs p with
          | some n => rw [hw] at h; exact absurd h (wayE_pos hR hw)
          | none =>
            rw [hw] at h
            simp only at h ⊢
            cases hx : fs.at p with
            | none => rw [hx] at h; cases h
            | some x =>
              rw [hx] at h
              simp only at h ⊢
              by_cases hnb : x.kind = 2 ∧ a ≠ b ∧ belowB a b = true
              · rw [if_pos hnb] at h; cases h
              · rw [if_neg hnb] at h ⊢
                cases hwq : wayE fs q with
                | some n => rw [hwq] at h; exact absurd h (wayE_pos hR2 hwq)
                | none =>
                  rw [hwq] at h
                  simp only at h ⊢
                  refine ⟨p, q, x, rfl, rfl, hp0, hq0, hx, hwq, ?_⟩
                  by_cases hab : a = b
                  · exact .inl hab
                  · rw [if_neg hab] at h ⊢
                    by_cases hg0 : givesF fs q x ≠ 0
                    · rw [if_pos hg0] at h; exact absurd h hg0
                    · rw [if_neg hg0] at h ⊢
                      by_cases hf : ¬ fitsP fs p b.data.toList
                      · rw [if_pos hf] at h; cases h
                      · rw [if_neg hf]
                        obtain ⟨y, hO⟩ := ren_ok hg hR hR2 hp0 hab hx hnb (List.dropLast_concat_getLast hq0).symm hwq (Classical.not_not.1 hg0) (Classical.not_not.1 hf)
                        exact .inr ⟨_, _, y, hO, rfl⟩
theorem look_200 {fs : FS} {s : ByteArray} (h : (lookF fs s).1 = 200) : thereE fs s = .error 200 := by
  unfold lookF at h
  cases ht : thereE fs s with
  | error n => rw [ht] at h; simp only at h; rw [h]
  | ok p =>
    rw [ht] at h
    simp only at h
    cases hp : fs.at p with
    | none => rw [hp] at h; cases h
    | some x => rw [hp] at h; cases h
theorem back_ok {fs : FS} (hg : FsOk fs) {bb nn : Nat} (hr : Room fs bb nn) {a b : ByteArray} (h : (renameF fs a b).1 = 0) (hl : (lookF fs b).1 = 200) :
    (renameF fs a b).2.length = fs.length ∧ (renameF (renameF fs a b).2 b a).1 = 0 ∧ Eqv (renameF (renameF fs a b).2 b a).2 fs := by
  obtain ⟨p, q, x, ha, hb, hp0, hq0, hx, hwq, h1⟩ := ren_zero hg h
  have hnone : fs.at q = none := by
    have ht := look_200 hl
    unfold thereE atE at ht
    rw [hb] at ht
    simp only at ht
    rw [hwq] at ht
    simp only at ht
    cases hq : fs.at q with
    | none => rfl
    | some y => rw [hq] at ht; simp at ht
  rcases h1 with hab | ⟨d, n, y, hO, h2⟩
  · subst hab
    rw [ha] at hb
    cases hb
    rw [hx] at hnone
    cases hnone
  · have hkeep := renameF_keep hg hr a b
    rw [h2] at hkeep ⊢
    rw [del_none (not_mem hg.nodup hq0 hnone)] at hkeep ⊢
    obtain ⟨hg1, hr1⟩ := hkeep
    have AT := fun r => at_mv hg hp0 hq0 hnone r
    have npq : ¬ q <+: p := by
      rintro ⟨s, hs⟩
      cases s with
      | nil => rw [List.append_nil] at hs; rw [hs, hx] at hnone; cases hnone
      | cons k s =>
        obtain ⟨z, hz, _⟩ := hg.prefix (q := k :: s) (p := q) (by rw [hs, hx]; simp) (by simp)
        rw [hnone] at hz; cases hz
    obtain ⟨pd, pn, rfl⟩ : ∃ d n, p = d ++ [n] := ⟨p.dropLast, p.getLast hp0, (List.dropLast_concat_getLast hp0).symm⟩
    obtain ⟨z, hz1, hz2⟩ := hg.up pd pn (by rw [hx]; simp)
    have f1p : (mvF fs (pd ++ [pn]) q).at (pd ++ [pn]) = none := by rw [AT, if_neg npq, if_pos (List.prefix_refl _)]
    have f1q : (mvF fs (pd ++ [pn]) q).at q = some x := by
      rw [AT, if_pos (List.prefix_refl _), List.drop_length, List.append_nil]; exact hx
    have f1d : (mvF fs (pd ++ [pn]) q).at pd = some z := by
      rw [AT, if_neg (fun e => npq (e.trans (List.prefix_append pd [pn]))), if_neg (fun e => by have := e.length_le; simp at this; omega)]
      exact hz1
    have hbl : x.kind = 2 → belowB b a = false := fun _ => by
      apply Bool.eq_false_iff.2
      intro e
      rw [tx_parts ha, tx_parts hb] at e
      exact npq (below_prefix hq0 (partsF_ok hb) (partsF_ok ha) e)
    have hren := renameF_new hg1 hb ha hq0 f1q hbl f1d hz2 f1p
    have hfit : fitsP (mvF fs (pd ++ [pn]) q) q a.data.toList := by
      intro r hr2
      rw [AT, if_pos (List.prefix_append q r), List.drop_left] at hr2
      rw [partsF_text ha hp0, glue_join hp0]
      exact ⟨_, parts_tx (by simp) (ok_at hg hr2)⟩
    rw [if_pos hfit] at hren
    refine ⟨mv_len _ _ _, by rw [hren], ?_⟩
    have hk2 := renameF_keep hg1 hr1 b a
    rw [hren] at hk2 ⊢
    refine ⟨hk2.1, hg, fun r => ?_⟩
    rw [at_mv hg1 hq0 hp0 f1p]
    by_cases c1 : (pd ++ [pn]) <+: r
    · obtain ⟨s, rfl⟩ := c1
      rw [if_pos (List.prefix_append _ s), List.drop_left, AT, if_pos (List.prefix_append q s), List.drop_left]
    · rw [if_neg c1]
      by_cases c2 : q <+: r
      · rw [if_pos c2]
        obtain ⟨s, rfl⟩ := c2
        exact (not_under hg hnone s).symm
      · rw [if_neg c2, AT, if_neg c2, if_neg c1]
end Go.Proofs.YtiijbecklkccfaaGreatDoor.I
/- A call that answers an error leaves the file system. Plain. -/
namespace Go.Proofs.YtiijbecklkccfaaGreatDoor.I
open Go.RowKit Go.Proofs.YtiijbecklkccfaaGreatDoor.B Go.Sort
set_option linter.unusedVariables false
theorem putF_err {fs : FS} {by' nd : Nat} {p : Pth} {x : Nd} (h : (putF fs by' nd p x).1 ≠ 0) : (putF fs by' nd p x).2 = fs := by
  unfold putF at h ⊢
  split
  · rfl
  · rename_i h1; rw [if_neg h1] at h; exact absurd rfl h
theorem opF_err {fs : FS} {by' nd : Nat} {o : OpV} (h : (opF fs by' nd o).1 ≠ 0) : (opF fs by' nd o).2 = fs := by
  unfold opF at h ⊢
  by_cases h1 : o.kind = 1
  · rw [if_pos h1] at h ⊢
    unfold makeF at h ⊢
    split at h
    · rfl
    · split at h
      · rename_i h2; rw [if_pos h2]
      · rename_i h2; rw [if_neg h2]; exact putF_err h
  · rw [if_neg h1] at h ⊢
    by_cases h2 : o.kind = 2
    · rw [if_pos h2] at h ⊢
      unfold createF at h ⊢
      split at h
      · rfl
      · split at h
        · exact putF_err h
        · split at h
          · rename_i h3; rw [if_pos h3]
          · rename_i h3
            split at h
            · rename_i h4; rw [if_neg h3, if_pos h4]
            · exact absurd rfl h
    · rw [if_neg h2] at h ⊢
      by_cases h3 : o.kind = 3
      · rw [if_pos h3] at h ⊢
        unfold appendF at h ⊢
        split at h
        · rfl
        · split at h
          · rfl
          · split at h
            · rename_i k1; rw [if_pos k1]
            · rename_i k1
              split at h
              · rename_i k2; rw [if_neg k1, if_pos k2]
              · rename_i k2
                split at h
                · rename_i k3; rw [if_neg k1, if_neg k2, if_pos k3]
                · rename_i k3
                  split at h
                  · rename_i k4; rw [if_neg k1, if_neg k2, if_neg k3, if_pos k4]
                  · exact absurd rfl h
      · rw [if_neg h3] at h ⊢
        by_cases h4 : o.kind = 4
        · rw [if_pos h4] at h ⊢
          unfold linkF at h ⊢
          split at h
          · rename_i k1; rw [if_pos k1]
          · rename_i k1
            rw [if_neg k1]
            split at h
            · rfl
            · split at h
              · rename_i k2; rw [if_pos k2]
              · rename_i k2; rw [if_neg k2]; exact putF_err h
        · rw [if_neg h4] at h ⊢
          by_cases h5 : o.kind = 5
          · rw [if_pos h5] at h ⊢
            unfold renameF at h ⊢
            split at h
            · rfl
            · split at h
              · rfl
              · split at h
                · rename_i k1; rw [if_pos k1]
                · rename_i k1
                  split at h
                  · rename_i k2; rw [if_neg k1, if_pos k2]
                  · rename_i k2
                    rw [if_neg k1, if_neg k2]
                    split at h
                    · rfl
                    · split at h
                      · rfl
                      · split at h
                        · rename_i k3; rw [if_pos k3]
                        · rename_i k3
                          rw [if_neg k3]
                          split at h
                          · rfl
                          · split at h
                            · exact absurd rfl h
                            · rename_i k4
                              rw [if_neg k4]
                              split at h
                              · rename_i k5; rw [if_pos k5]
                              · rename_i k5
                                split at h
                                · rename_i k6; rw [if_neg k5, if_pos k6]
                                · exact absurd rfl h
          · rw [if_neg h5] at h ⊢
            unfold removeF at h ⊢
            split at h
            · rfl
            · split at h
              · rename_i k1; rw [if_pos k1]
              · rename_i k1
                rw [if_neg k1]
                split at h
                · rfl
                · split at h
                  · rename_i k2; rw [if_pos k2]
                  · exact absurd rfl h
end Go.Proofs.YtiijbecklkccfaaGreatDoor.I
/- Calls at paths that lie apart. Plain. -/
namespace Go.Proofs.YtiijbecklkccfaaGreatDoor.I
open Go.RowKit Go.Proofs.YtiijbecklkccfaaGreatDoor.B Go.Sort
set_option linter.unusedVariables false
theorem putF_room {f : FS} {b n : Nat} {p : Pth} {x : Nd} (h1 : f.length < n) (h2 : usedF f + x.text.size ≤ b) : putF f b n p x = (0, f ++ [(p, x)]) := by
  unfold putF
  rw [if_neg (by unfold fullF; omega)]
theorem putF_grow (f : FS) (b n : Nat) (p : Pth) (x : Nd) : usedF (putF f b n p x).2 ≤ usedF f + x.text.size ∧ (putF f b n p x).2.length ≤ f.length + 1 := by
  unfold putF
  split
  · exact ⟨by show usedF f ≤ _; omega, by show f.length ≤ _; omega⟩
  · refine ⟨?_, by simp⟩
    show usedF (f ++ [(p, x)]) ≤ _
    unfold usedF
    rw [List.map_append, List.sum_append]
    simp
theorem set_grow {f : FS} (hg : FsOk f) {p : Pth} {x y : Nd} (hp : p ≠ []) (hy : f.at p = some y) : usedF (setF f p x) + y.text.size = usedF f + x.text.size ∧ (setF f p x).length = f.length :=
  ⟨used_set hg.nodup (by rw [← at_ne f hp]; exact hy), len_set f p x⟩
theorem ne_root {f : FS} {p : Pth} {x : Nd} (h : f.at p = some x) (h2 : x.kind ≠ 2) : p ≠ [] := fun e => by rw [e, at_root] at h; cases h; exact h2 rfl
theorem del_len (f : FS) (p : Pth) : (delF f p).length ≤ f.length := List.length_filter_le _ _
theorem at_ne_root' {fs : FS} {p : Pth} (h : fs.at p = none) : p ≠ [] := fun e => by rw [e, at_root] at h; cases h
theorem below_root {a b : ByteArray} (h : partsF a = .ok []) : belowB a b = true := by
  have e := tx_parts h
  have h0 := ba_tests a []
  rw [e, decide_eq_true (show (tx []).data.toList = [] from rfl)] at h0
  unfold belowB
  rw [e, eq_of_beq h0]
  rfl
theorem rename_self {f : FS} {a b : ByteArray} (h : a = b) : (renameF f a b).2 = f := by
  subst h
  unfold renameF
  cases hR : partsF a with
  | error n => rfl
  | ok p =>
    simp only
    by_cases hp0 : p = []
    · rw [if_pos hp0]
    · rw [if_neg hp0, if_neg hp0]
      cases hw : wayE f p with
      | some n => rfl
      | none =>
        simp only
        cases hx : f.at p with
        | none => rfl
        | some x =>
          simp only
          rw [if_neg (by simp), if_pos trivial]
theorem rename_err {f : FS} {a b : ByteArray} (h : (renameF f a b).1 ≠ 0) : (renameF f a b).2 = f := by
  have h1 := opF_err (fs := f) (by' := 0) (nd := 0) (o := ⟨5, a, b⟩)
  have e : opF f 0 0 ⟨5, a, b⟩ = renameF f a b := by
    unfold opF
    rw [if_neg (show ¬ (5 : Int) = 1 by decide), if_neg (show ¬ (5 : Int) = 2 by decide), if_neg (show ¬ (5 : Int) = 3 by decide), if_neg (show ¬ (5 : Int) = 4 by decide), if_pos (show (5 : Int) = 5 by decide)]
  rw [e] at h1
  exact h1 h
/-- What a call adds. -/
theorem op_grow {f : FS} (hg : FsOk f) (b n : Nat) (o : OpV) : usedF (opF f b n o).2 ≤ usedF f + (o.a.size + o.b.size) ∧ (opF f b n o).2.length ≤ f.length + 1 := by
  have triv : usedF f ≤ usedF f + (o.a.size + o.b.size) ∧ f.length ≤ f.length + 1 := by omega
  unfold opF
  split
  · unfold makeF
    split
    · exact triv
    · split
      · exact triv
      · rename_i p _ _
        have h := putF_grow f b n p ⟨2, ⟨#[]⟩⟩
        refine ⟨Nat.le_trans h.1 ?_, h.2⟩
        show usedF f + 0 ≤ _
        omega
  · split
    · unfold createF
      split
      · exact triv
      · rename_i p _
        split
        · have h := putF_grow f b n p ⟨1, ⟨#[]⟩⟩
          refine ⟨Nat.le_trans h.1 ?_, h.2⟩
          show usedF f + 0 ≤ _
          omega
        · rename_i x hx
          split
          · exact triv
          · rename_i h2
            split
            · exact triv
            · obtain ⟨h3, h4⟩ := set_grow hg (x := (⟨1, ⟨#[]⟩⟩ : Nd)) (ne_root hx h2) hx
              refine ⟨?_, by show (setF f p _).length ≤ _; omega⟩
              show usedF (setF f p _) ≤ _
              have : (⟨1, ⟨#[]⟩⟩ : Nd).text.size = 0 := rfl
              omega
    · split
      · unfold appendF
        split
        · exact triv
        · rename_i p _
          split
          · exact triv
          · rename_i x hx
            split
            · exact triv
            · rename_i h2
              split
              · exact triv
              · split
                · exact triv
                · split
                  · exact triv
                  · obtain ⟨h3, h4⟩ := set_grow hg (x := (⟨1, x.text ++ o.b⟩ : Nd)) (ne_root hx h2) hx
                    refine ⟨?_, by show (setF f p _).length ≤ _; omega⟩
                    show usedF (setF f p _) ≤ _
                    have : (⟨1, x.text ++ o.b⟩ : Nd).text.size = x.text.size + o.b.size := ByteArray.size_append
                    omega
      · split
        · unfold linkF
          split
          · exact triv
          · split
            · exact triv
            · split
              · exact triv
              · rename_i p _ _
                have h := putF_grow f b n p ⟨3, o.a⟩
                refine ⟨Nat.le_trans h.1 ?_, h.2⟩
                show usedF f + o.a.size ≤ _
                omega
        · split
          · by_cases h0 : (renameF f o.a o.b).1 = 0
            · obtain ⟨p, q, x, _, _, _, _, _, _, h1⟩ := ren_zero hg h0
              rcases h1 with hab | ⟨d, k, y, _, h2⟩
              · have e := rename_self (f := f) (a := o.a) (b := o.b) hab
                rw [e]
                exact triv
              · rw [h2, mv_used, mv_len]
                have := used_del f q
                have := del_len f q
                omega
            · rw [rename_err h0]
              exact triv
          · unfold removeF
            split
            · exact triv
            · rename_i p _
              split
              · exact triv
              · split
                · exact triv
                · split
                  · exact triv
                  · have := used_del f p
                    have := del_len f p
                    exact ⟨by show usedF (delF f p) ≤ _; omega, by show (delF f p).length ≤ _; omega⟩
open Classical in
/-- What a call of the first kinds does at its path: the error, what stands there then. -/
noncomputable def eff (p : Pth) (W : Option Nat) (X : Option Nd) (K : Prop) (o : OpV) : Nat × Option Nd :=
  match W with
  | some e => (e, X)
  | none =>
    if o.kind = 1 then (match X with | none => (0, some ⟨2, ⟨#[]⟩⟩) | some x => (201, some x))
    else if o.kind = 2 then (match X with | none => (0, some ⟨1, ⟨#[]⟩⟩) | some x => if x.kind = 2 then (202, some x) else if x.kind = 3 then (204, some x) else (0, some ⟨1, ⟨#[]⟩⟩))
    else if o.kind = 3 then (match X with | none => (200, none) | some x => if x.kind = 2 then (202, some x) else if x.kind = 3 then (204, some x) else if 4194304 < x.text.size + o.b.size then (2, some x) else (0, some ⟨1, x.text ++ o.b⟩))
    else if p = [] then (1, X) else (match X with | none => (200, none) | some x => if K then (205, some x) else (0, none))
theorem same_at {f : FS} {p : Pth} {X : Option Nd} (h : f.at p = X) (r : Pth) : f.at r = if r = p then X else f.at r := by
  by_cases e : r = p
  · rw [if_pos e, e, h]
  · rw [if_neg e]
theorem op_eff {f : FS} {b n : Nat} {o : OpV} {p : Pth} (h4 : o.kind ≠ 4) (h5 : o.kind ≠ 5) (hp : partsF o.a = .ok p) (hr1 : f.length < n) (hr2 : usedF f + o.b.size ≤ b) :
    (opF f b n o).1 = (eff p (wayE f p) (f.at p) (hasKids f p) o).1 ∧ ∀ r, (opF f b n o).2.at r = if r = p then (eff p (wayE f p) (f.at p) (hasKids f p) o).2 else f.at r := by
  have hat : atE f o.a = match wayE f p with | some e => .error e | none => .ok p := by unfold atE; rw [hp]; (try simp only); all_goals (cases wayE f p <;> rfl)
  have hth : thereE f o.a = match wayE f p with | some e => .error e | none => if (f.at p).isSome = true then .ok p else .error 200 := by
    unfold thereE
    rw [hat]
    cases wayE f p with
    | some e => rfl
    | none => rfl
  cases hw : wayE f p with
  | some e =>
    rw [hw] at hat hth
    simp only at hat hth
    have h : opF f b n o = (e, f) := by
      unfold opF
      rw [if_neg h4, if_neg h5]
      unfold makeF createF appendF removeF
      rw [hat, hth]
      simp only
      repeat (first | rfl | split)
    rw [h]
    exact ⟨rfl, same_at rfl⟩
  | none =>
    rw [hw] at hat hth
    simp only at hat hth
    by_cases k1 : o.kind = 1
    · have h : opF f b n o = if (f.at p).isSome = true then (201, f) else putF f b n p ⟨2, ⟨#[]⟩⟩ := by
        unfold opF
        rw [if_pos k1]
        unfold makeF
        rw [hat]
      rw [h]
      unfold eff
      simp only
      rw [if_pos k1]
      cases hx : f.at p with
      | some x => exact ⟨rfl, same_at hx⟩
      | none =>
        have e : putF f b n p ⟨2, ⟨#[]⟩⟩ = (0, f ++ [(p, ⟨2, ⟨#[]⟩⟩)]) := putF_room hr1 (by show usedF f + 0 ≤ b; omega)
        rw [if_neg (by simp), e]
        exact ⟨rfl, at_put _ (at_ne_root' hx) hx⟩
    · by_cases k2 : o.kind = 2
      · have h : opF f b n o = match f.at p with | none => putF f b n p ⟨1, ⟨#[]⟩⟩ | some x => if x.kind = 2 then (202, f) else if x.kind = 3 then (204, f) else (0, setF f p ⟨1, ⟨#[]⟩⟩) := by
          unfold opF
          rw [if_neg k1, if_pos k2]
          unfold createF
          rw [hat]
          (try simp only)
          all_goals (cases f.at p <;> rfl)
        rw [h]
        unfold eff
        simp only
        rw [if_neg k1, if_pos k2]
        cases hx : f.at p with
        | none =>
          have e : putF f b n p ⟨1, ⟨#[]⟩⟩ = (0, f ++ [(p, ⟨1, ⟨#[]⟩⟩)]) := putF_room hr1 (by show usedF f + 0 ≤ b; omega)
          simp only
          rw [e]
          exact ⟨rfl, at_put _ (at_ne_root' hx) hx⟩
        | some x =>
          simp only
          by_cases c2 : x.kind = 2
          · rw [if_pos c2, if_pos c2]; exact ⟨rfl, same_at hx⟩
          · rw [if_neg c2, if_neg c2]
            by_cases c3 : x.kind = 3
            · rw [if_pos c3, if_pos c3]; exact ⟨rfl, same_at hx⟩
            · rw [if_neg c3, if_neg c3]
              exact ⟨rfl, at_set _ (ne_root hx c2) hx⟩
      · by_cases k3 : o.kind = 3
        · have h : opF f b n o = match f.at p with | none => (200, f) | some x => if x.kind = 2 then (202, f) else if x.kind = 3 then (204, f) else if 4194304 < x.text.size + o.b.size then (2, f) else if b < usedF f + o.b.size then (206, f) else (0, setF f p ⟨1, x.text ++ o.b⟩) := by
            unfold opF
            rw [if_neg k1, if_neg k2, if_pos k3]
            unfold appendF
            rw [hth]
            cases hx : f.at p with
            | none => rfl
            | some x => rw [if_pos (by simp)]; simp only; rw [hx]
          rw [h]
          unfold eff
          simp only
          rw [if_neg k1, if_neg k2, if_pos k3]
          cases hx : f.at p with
          | none => exact ⟨rfl, same_at hx⟩
          | some x =>
            simp only
            by_cases c2 : x.kind = 2
            · rw [if_pos c2, if_pos c2]; exact ⟨rfl, same_at hx⟩
            · rw [if_neg c2, if_neg c2]
              by_cases c3 : x.kind = 3
              · rw [if_pos c3, if_pos c3]; exact ⟨rfl, same_at hx⟩
              · rw [if_neg c3, if_neg c3]
                by_cases c4 : 4194304 < x.text.size + o.b.size
                · rw [if_pos c4, if_pos c4]; exact ⟨rfl, same_at hx⟩
                · rw [if_neg c4, if_neg c4, if_neg (by omega)]
                  exact ⟨rfl, at_set _ (ne_root hx c2) hx⟩
        · have h : opF f b n o = if p = [] then (1, f) else match f.at p with | none => (200, f) | some x => (open Classical in if hasKids f p then (205, f) else (0, delF f p)) := by
            unfold opF
            rw [if_neg k1, if_neg k2, if_neg k3, if_neg h4, if_neg h5]
            unfold removeF
            rw [hat]
            (try simp only)
            all_goals (cases f.at p <;> rfl)
          rw [h]
          unfold eff
          simp only
          rw [if_neg k1, if_neg k2, if_neg k3]
          by_cases hp0 : p = []
          · rw [if_pos hp0, if_pos hp0]; exact ⟨rfl, same_at rfl⟩
          · rw [if_neg hp0, if_neg hp0]
            cases hx : f.at p with
            | none => exact ⟨rfl, same_at hx⟩
            | some x =>
              simp only
              by_cases ck : hasKids f p
              · rw [if_pos ck, if_pos ck]; exact ⟨rfl, same_at hx⟩
              · rw [if_neg ck, if_neg ck]; exact ⟨rfl, at_del hp0⟩
theorem op_bad {f : FS} {b n : Nat} {o : OpV} {e : Nat} (h4 : o.kind ≠ 4) (h5 : o.kind ≠ 5) (hp : partsF o.a = .error e) : opF f b n o = (e, f) := by
  have hat : atE f o.a = .error e := by unfold atE; rw [hp]
  have hth : thereE f o.a = .error e := by unfold thereE; rw [hat]
  unfold opF
  rw [if_neg h4, if_neg h5]
  unfold makeF createF appendF removeF
  rw [hat, hth]
  simp only
  repeat (first | rfl | split)
theorem way_pre {f g : FS} : ∀ (r d : Pth), (∀ s, s <+: d ++ r → f.at s = g.at s) → wayFrom f d r = wayFrom g d r
  | [], _, _ => rfl
  | [_], _, _ => rfl
  | k :: m :: r, d, h => by
    simp only [wayFrom]
    rw [h (d ++ [k]) ⟨m :: r, by simp⟩, way_pre (m :: r) (d ++ [k]) (fun s hs => h s (by simpa using hs))]
/-- A call at p does the same where what stands on the way, at p and just below it is the same. -/
theorem eff_same {f g : FS} {p : Pth} (o : OpV) (h : ∀ s, s <+: p → f.at s = g.at s) (hk : ∀ k, f.at (p ++ [k]) = g.at (p ++ [k])) : eff p (wayE f p) (f.at p) (hasKids f p) o = eff p (wayE g p) (g.at p) (hasKids g p) o := by
  rw [show wayE f p = wayE g p from way_pre p [] h, h p (List.prefix_refl p), show hasKids f p = hasKids g p from propext ⟨fun ⟨k, h1⟩ => ⟨k, by rw [← hk]; exact h1⟩, fun ⟨k, h1⟩ => ⟨k, by rw [hk]; exact h1⟩⟩]
theorem op_apart {f : FS} (hg : FsOk f) {b n : Nat} (hr : Room f b n) {o1 o2 : OpV} (k1 : o1.kind ≠ 4 ∧ o1.kind ≠ 5) (k2 : o2.kind ≠ 4 ∧ o2.kind ≠ 5) (h1 : belowB o1.a o2.a = false) (h2 : belowB o2.a o1.a = false)
    (hn : f.length + 2 ≤ n) (hb : usedF f + (o1.a.size + o1.b.size) + (o2.a.size + o2.b.size) ≤ b) :
    (opF (opF f b n o1).2 b n o2).1 = (opF f b n o2).1 ∧ (opF (opF f b n o2).2 b n o1).1 = (opF f b n o1).1 ∧ Eqv (opF (opF f b n o1).2 b n o2).2 (opF (opF f b n o2).2 b n o1).2 := by
  obtain ⟨g1, r1⟩ := opF_keep hg hr o1
  obtain ⟨g2, r2⟩ := opF_keep hg hr o2
  cases hp : partsF o1.a with
  | error e =>
    rw [op_bad (f := f) k1.1 k1.2 hp, op_bad (f := (opF f b n o2).2) k1.1 k1.2 hp]
    exact ⟨rfl, rfl, Eqv.refl g2⟩
  | ok p =>
    cases hq : partsF o2.a with
    | error e =>
      rw [op_bad (f := f) k2.1 k2.2 hq, op_bad (f := (opF f b n o1).2) k2.1 k2.2 hq]
      exact ⟨rfl, rfl, Eqv.refl g1⟩
    | ok q =>
      have hp0 : p ≠ [] := fun e => by
        subst e
        rw [below_root hp] at h1; cases h1
      have hq0 : q ≠ [] := fun e => by
        subst e
        rw [below_root hq] at h2; cases h2
      have npq : ¬ p <+: q := fun h => by rw [below_pre hp hq hp0 h] at h1; cases h1
      have nqp : ¬ q <+: p := fun h => by rw [below_pre hq hp hq0 h] at h2; cases h2
      have w1 := op_grow hg b n o1
      have w2 := op_grow hg b n o2
      obtain ⟨a1, a2⟩ := op_eff (f := f) (b := b) (n := n) k1.1 k1.2 hp (by omega) (by omega)
      obtain ⟨b1, b2⟩ := op_eff (f := f) (b := b) (n := n) k2.1 k2.2 hq (by omega) (by omega)
      obtain ⟨c1, c2⟩ := op_eff (f := (opF f b n o1).2) (b := b) (n := n) k2.1 k2.2 hq (by omega) (by omega)
      obtain ⟨d1, d2⟩ := op_eff (f := (opF f b n o2).2) (b := b) (n := n) k1.1 k1.2 hp (by omega) (by omega)
      have e2 : eff q (wayE (opF f b n o1).2 q) ((opF f b n o1).2.at q) (hasKids (opF f b n o1).2 q) o2 = eff q (wayE f q) (f.at q) (hasKids f q) o2 := by
        refine eff_same o2 (fun s hs => ?_) (fun k => ?_)
        · rw [a2, if_neg (fun e => npq (by rw [← e]; exact hs))]
        · rw [a2, if_neg (fun e => nqp (by rw [← e]; exact List.prefix_append q [k]))]
      have e1 : eff p (wayE (opF f b n o2).2 p) ((opF f b n o2).2.at p) (hasKids (opF f b n o2).2 p) o1 = eff p (wayE f p) (f.at p) (hasKids f p) o1 := by
        refine eff_same o1 (fun s hs => ?_) (fun k => ?_)
        · rw [b2, if_neg (fun e => nqp (by rw [← e]; exact hs))]
        · rw [b2, if_neg (fun e => npq (by rw [← e]; exact List.prefix_append p [k]))]
      rw [e2] at c1 c2
      rw [e1] at d1 d2
      refine ⟨by rw [c1, b1], by rw [d1, a1], (opF_keep g1 r1 o2).1, (opF_keep g2 r2 o1).1, fun r => ?_⟩
      rw [c2, d2, a2, b2]
      by_cases rp : r = p
      · rw [if_pos rp, if_neg (fun e => npq (by rw [← rp, e]; exact List.prefix_refl q)), if_pos rp]
      · rw [if_neg rp, if_neg rp]
end Go.Proofs.YtiijbecklkccfaaGreatDoor.I
/- A copy of what stands at and below a path, in memory. -/
namespace Go.Proofs.YtiijbecklkccfaaGreatDoor.I
open Go.RowKit Go.Proofs.YtiijbecklkccfaaGreatDoor.B Go.Sort
set_option linter.unusedVariables false
/-- Where the nodes at and below the paths of D lie, in blocks from lo on. -/
structure SubAt (w : World) (lo : Nat) (fs : FS) (D : Pth → Prop) (A M : Pth → Nat) : Prop where
  node : ∀ r x, D r → fs.at r = some x → w.heap[A r]? = some (.cells #[.int .i64 (x.kind : Int), .string x.text, if x.kind = 2 then .map (some (M r)) else .map none] 85 (0, 0))
  kids : ∀ r x, D r → fs.at r = some x → x.kind = 2 → ∃ es clock K, w.heap[M r]? = some (.map es clock) ∧ MKids es clock K ∧ ∀ n, K.lookup n = (fs.at (r ++ [n])).map fun _ => (.pointer (some ⟨A (r ++ [n]), 0, none⟩))
  aL : ∀ r x, D r → fs.at r = some x → lo ≤ A r ∧ (x.kind = 2 → lo ≤ M r)
  injA : ∀ r s x y, D r → D s → fs.at r = some x → fs.at s = some y → A r = A s → r = s
  injM : ∀ r s x y, D r → D s → fs.at r = some x → fs.at s = some y → x.kind = 2 → y.kind = 2 → M r = M s → r = s
theorem SubAt.chg {w w' : World} {lo : Nat} {fs : FS} {D : Pth → Prop} {A M : Pth → Nat} (h : SubAt w lo fs D A M) (hk : ∀ i, lo ≤ i → i < w.heap.size → w'.heap[i]? = w.heap[i]?) : SubAt w' lo fs D A M := by
  have mv : ∀ {i : Nat} {o : Obj}, lo ≤ i → w.heap[i]? = some o → w'.heap[i]? = some o := fun hl h => (hk _ hl (lt_of_heap h)).trans h
  refine ⟨fun r x hD hx => mv (h.aL r x hD hx).1 (h.node r x hD hx), fun r x hD hx h2 => ?_, h.aL, h.injA, h.injM⟩
  obtain ⟨es, c, K, k1, k2, k3⟩ := h.kids r x hD hx h2
  exact ⟨es, c, K, mv ((h.aL r x hD hx).2 h2) k1, k2, k3⟩
open Classical in
/-- One block of paths more. -/
theorem SubAt.add {w w' : World} {lo : Nat} {fs : FS} {D E : Pth → Prop} {A M A2 M2 : Pth → Nat} (h : SubAt w lo fs D A M) (hk : ∀ i, lo ≤ i → i < w.heap.size → w'.heap[i]? = w.heap[i]?) (h2 : SubAt w' w.heap.size fs E A2 M2) (hlo : lo ≤ w.heap.size) (hdis : ∀ r, D r → ¬ E r) (hkid : ∀ r n, D r → ¬ E (r ++ [n])) (hkid2 : ∀ r n, E r → E (r ++ [n])) :
    SubAt w' lo fs (fun r => D r ∨ E r) (fun r => if E r then A2 r else A r) (fun r => if E r then M2 r else M r) := by
  have h1 := h.chg hk
  have lt1 : ∀ r x, D r → fs.at r = some x → A r < w.heap.size := fun r x hD hx => lt_of_heap (h.node r x hD hx)
  have lt2 : ∀ r x, D r → fs.at r = some x → x.kind = 2 → M r < w.heap.size := fun r x hD hx hk2 => by
    obtain ⟨es, c, K, k1, _, _⟩ := h.kids r x hD hx hk2
    exact lt_of_heap k1
  have cs : ∀ r, D r ∨ E r → (E r) ∨ (D r ∧ ¬ E r) := fun r hr => hr.elim (fun h => .inr ⟨h, hdis r h⟩) .inl
  refine ⟨fun r x hr hx => ?_, fun r x hr hx hk2 => ?_, fun r x hr hx => ?_, fun r s x y hr hs hx hy e => ?_, fun r s x y hr hs hx hy kx ky e => ?_⟩
  · rcases cs r hr with hE | ⟨hD, hE⟩
    · simp only [if_pos hE]; exact h2.node r x hE hx
    · simp only [if_neg hE]; exact h1.node r x hD hx
  · rcases cs r hr with hE | ⟨hD, hE⟩
    · obtain ⟨es, c, K, k1, k2, k3⟩ := h2.kids r x hE hx hk2
      refine ⟨es, c, K, by simp only [if_pos hE]; exact k1, k2, fun n => ?_⟩
      simp only [if_pos (hkid2 r n hE)]
      exact k3 n
    · obtain ⟨es, c, K, k1, k2, k3⟩ := h1.kids r x hD hx hk2
      refine ⟨es, c, K, by simp only [if_neg hE]; exact k1, k2, fun n => ?_⟩
      simp only [if_neg (hkid r n hD)]
      exact k3 n
  · rcases cs r hr with hE | ⟨hD, hE⟩
    · simp only [if_pos hE]
      obtain ⟨a, b⟩ := h2.aL r x hE hx
      exact ⟨by omega, fun h => by have := b h; omega⟩
    · simp only [if_neg hE]; exact h.aL r x hD hx
  · rcases cs r hr with hE | ⟨hD, hE⟩ <;> rcases cs s hs with hF | ⟨hG, hF⟩
    · simp only [if_pos hE, if_pos hF] at e; exact h2.injA r s x y hE hF hx hy e
    · simp only [if_pos hE, if_neg hF] at e
      have := (h2.aL r x hE hx).1
      have := lt1 s y hG hy
      omega
    · simp only [if_neg hE, if_pos hF] at e
      have := (h2.aL s y hF hy).1
      have := lt1 r x hD hx
      omega
    · simp only [if_neg hE, if_neg hF] at e; exact h.injA r s x y hD hG hx hy e
  · rcases cs r hr with hE | ⟨hD, hE⟩ <;> rcases cs s hs with hF | ⟨hG, hF⟩
    · simp only [if_pos hE, if_pos hF] at e; exact h2.injM r s x y hE hF hx hy kx ky e
    · simp only [if_pos hE, if_neg hF] at e
      have := (h2.aL r x hE hx).2 kx
      have := lt2 s y hG hy ky
      omega
    · simp only [if_neg hE, if_pos hF] at e
      have := (h2.aL s y hF hy).2 ky
      have := lt2 r x hD hx kx
      omega
    · simp only [if_neg hE, if_neg hF] at e; exact h.injM r s x y hD hG hx hy kx ky e
/-- At or below p. -/
def Under (p : Pth) (r : Pth) : Prop := p <+: r
open Classical in
/-- The head laid on top of what lies below it. -/
theorem SubAt.top {w w' : World} {lo lo2 : Nat} {fs : FS} {p : Pth} {x : Nd} {D : Pth → Prop} {A M : Pth → Nat} {B mB : Nat} (h : SubAt w lo2 fs D A M) (hk : ∀ i, lo2 ≤ i → i < w.heap.size → w'.heap[i]? = w.heap[i]?) (hlo : lo ≤ lo2) (hx : fs.at p = some x)
    (hD : ∀ r, fs.at r ≠ none → (Under p r ↔ r = p ∨ D r)) (hpD : ¬ D p) (hB : lo ≤ B ∧ B < lo2) (hmB : x.kind = 2 → lo ≤ mB ∧ mB < lo2)
    (hn : w'.heap[B]? = some (.cells #[.int .i64 (x.kind : Int), .string x.text, if x.kind = 2 then .map (some mB) else .map none] 85 (0, 0)))
    (hkid : x.kind = 2 → ∃ es clock K, w'.heap[mB]? = some (.map es clock) ∧ MKids es clock K ∧ ∀ n, K.lookup n = (fs.at (p ++ [n])).map fun _ => (.pointer (some ⟨A (p ++ [n]), 0, none⟩))) (hDne : ∀ r n, D r → r ++ [n] ≠ p) :
    SubAt w' lo fs (Under p) (fun r => if r = p then B else A r) (fun r => if r = p then mB else M r) := by
  have h1 := h.chg hk
  have cs : ∀ r x, Under p r → fs.at r = some x → r = p ∨ (D r ∧ r ≠ p) := fun r x hr hx => by
    rcases (hD r (by rw [hx]; simp)).1 hr with h | h
    · exact .inl h
    · exact .inr ⟨h, fun e => hpD (e ▸ h)⟩
  have ne : ∀ n : Nm, p ++ [n] ≠ p := fun n => snoc_ne p n
  refine ⟨fun r y hr hy => ?_, fun r y hr hy hk2 => ?_, fun r y hr hy => ?_, fun r s y z hr hs hy hz e => ?_, fun r s y z hr hs hy hz ky kz e => ?_⟩
  · rcases cs r y hr hy with rfl | ⟨hr2, hne⟩
    · rw [hx] at hy; cases hy
      simp only [if_true]; exact hn
    · simp only [if_neg hne]; exact h1.node r y hr2 hy
  · rcases cs r y hr hy with rfl | ⟨hr2, hne⟩
    · rw [hx] at hy; cases hy
      obtain ⟨es, c, K, k1, k2, k3⟩ := hkid hk2
      refine ⟨es, c, K, by simp only [if_true]; exact k1, k2, fun n => ?_⟩
      simp only [if_neg (ne n)]
      exact k3 n
    · obtain ⟨es, c, K, k1, k2, k3⟩ := h1.kids r y hr2 hy hk2
      refine ⟨es, c, K, by simp only [if_neg hne]; exact k1, k2, fun n => ?_⟩
      simp only [if_neg (hDne r n hr2)]
      exact k3 n
  · rcases cs r y hr hy with rfl | ⟨hr2, hne⟩
    · rw [hx] at hy; cases hy
      simp only [if_true]; exact ⟨hB.1, fun h => (hmB h).1⟩
    · simp only [if_neg hne]
      obtain ⟨a, b⟩ := h.aL r y hr2 hy
      exact ⟨by omega, fun h => by have := b h; omega⟩
  · rcases cs r y hr hy with rfl | ⟨hr2, hne⟩ <;> rcases cs s z hs hz with rfl | ⟨hs2, hne2⟩
    · rfl
    · simp only [if_true, if_neg hne2] at e
      have := (h.aL s z hs2 hz).1
      omega
    · simp only [if_true, if_neg hne] at e
      have := (h.aL r y hr2 hy).1
      omega
    · simp only [if_neg hne, if_neg hne2] at e; exact h.injA r s y z hr2 hs2 hy hz e
  · rcases cs r y hr hy with rfl | ⟨hr2, hne⟩ <;> rcases cs s z hs hz with rfl | ⟨hs2, hne2⟩
    · rfl
    · simp only [if_true, if_neg hne2] at e
      have := (h.aL s z hs2 hz).2 kz
      rw [hx] at hy; cases hy
      have := (hmB ky).2
      omega
    · simp only [if_true, if_neg hne] at e
      have := (h.aL r y hr2 hy).2 ky
      rw [hx] at hz; cases hz
      have := (hmB kz).2
      omega
    · simp only [if_neg hne, if_neg hne2] at e; exact h.injM r s y z hr2 hs2 hy hz ky kz e
end Go.Proofs.YtiijbecklkccfaaGreatDoor.I
