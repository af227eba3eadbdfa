/- Merged out of these texts: ApartF, RefDir, Apart. -/
import Derived.Test.YtiijbecklkccfaaGreatDoorOw15
import Derived.Test.YtiijbecklkccfaaGreatDoorOw16
import Derived.Test.YtiijbecklkccfaaGreatDoorOw14
import Derived.Test.YtiijbecklkccfaaGreatDoorOw13
import Derived.Deep.RegionWith
/- Calls at paths that lie apart. Plain. -/
namespace Go.Proofs.YtiijbecklkccfaaGreatDoor.I
open Go.RowKit Go.Proofs.YtiijbecklkccfaaGreatDoor.B Go.Sort
set_option linter.unusedVariables false
theorem putF_room {f : FS} {b n : Nat} {p : Pth} {x : Nd} (h1 : f.length < n) (h2 : usedF f + x.text.size ≤ b) : putF f b n p x = (0, f ++ [(p, x)]) := by
  unfold putF
  rw [if_neg (by unfold fullF; omega)]
theorem putF_grow (f : FS) (b n : Nat) (p : Pth) (x : Nd) : usedF (putF f b n p x).2 ≤ usedF f + x.text.size ∧ (putF f b n p x).2.length ≤ f.length + 1 := by
  unfold putF
  split
  · exact ⟨by show usedF f ≤ _; omega, by show f.length ≤ _; omega⟩
  · refine ⟨?_, by simp⟩
    show usedF (f ++ [(p, x)]) ≤ _
    unfold usedF
    rw [List.map_append, List.sum_append]
    simp
theorem set_grow {f : FS} (hg : FsOk f) {p : Pth} {x y : Nd} (hp : p ≠ []) (hy : f.at p = some y) : usedF (setF f p x) + y.text.size = usedF f + x.text.size ∧ (setF f p x).length = f.length :=
  ⟨used_set hg.nodup (by rw [← at_ne f hp]; exact hy), len_set f p x⟩
theorem ne_root {f : FS} {p : Pth} {x : Nd} (h : f.at p = some x) (h2 : x.kind ≠ 2) : p ≠ [] := fun e => by rw [e, at_root] at h; cases h; exact h2 rfl
theorem del_len (f : FS) (p : Pth) : (delF f p).length ≤ f.length := List.length_filter_le _ _
theorem at_ne_root' {fs : FS} {p : Pth} (h : fs.at p = none) : p ≠ [] := fun e => by rw [e, at_root] at h; cases h
theorem below_root {a b : ByteArray} (h : partsF a = .ok []) : belowB a b = true := by
  have e := tx_parts h
  have h0 := ba_tests a []
  rw [e, decide_eq_true (show (tx []).data.toList = [] from rfl)] at h0
  unfold belowB
  rw [e, eq_of_beq h0]
  rfl
theorem rename_self {f : FS} {a b : ByteArray} (h : a = b) : (renameF f a b).2 = f := by
  subst h
  unfold renameF
  cases hR : partsF a with
  | error n => rfl
  | ok p =>
    simp only
    by_cases hp0 : p = []
    · rw [if_pos hp0]
    · rw [if_neg hp0, if_neg hp0]
      cases hw : wayE f p with
      | some n => rfl
      | none =>
        simp only
        cases hx : f.at p with
        | none => rfl
        | some x =>
          simp only
          rw [if_neg (by simp), if_pos trivial]
theorem rename_err {f : FS} {a b : ByteArray} (h : (renameF f a b).1 ≠ 0) : (renameF f a b).2 = f := by
  have h1 := opF_err (fs := f) (by' := 0) (nd := 0) (o := ⟨5, a, b⟩)
  have e : opF f 0 0 ⟨5, a, b⟩ = renameF f a b := by
    unfold opF
    rw [if_neg (show ¬ (5 : Int) = 1 by decide), if_neg (show ¬ (5 : Int) = 2 by decide), if_neg (show ¬ (5 : Int) = 3 by decide), if_neg (show ¬ (5 : Int) = 4 by decide), if_pos (show (5 : Int) = 5 by decide)]
  rw [e] at h1
  exact h1 h
/-- What a call adds. -/
theorem op_grow {f : FS} (hg : FsOk f) (b n : Nat) (o : OpV) : usedF (opF f b n o).2 ≤ usedF f + (o.a.size + o.b.size) ∧ (opF f b n o).2.length ≤ f.length + 1 := by
  have triv : usedF f ≤ usedF f + (o.a.size + o.b.size) ∧ f.length ≤ f.length + 1 := by omega
  unfold opF
  split
  · unfold makeF
    split
    · exact triv
    · split
      · exact triv
      · rename_i p _ _
        have h := putF_grow f b n p ⟨2, ⟨#[]⟩⟩
        refine ⟨Nat.le_trans h.1 ?_, h.2⟩
        show usedF f + 0 ≤ _
        omega
  · split
    · unfold createF
      split
      · exact triv
      · rename_i p _
        split
        · have h := putF_grow f b n p ⟨1, ⟨#[]⟩⟩
          refine ⟨Nat.le_trans h.1 ?_, h.2⟩
          show usedF f + 0 ≤ _
          omega
        · rename_i x hx
          split
          · exact triv
          · rename_i h2
            split
            · exact triv
            · obtain ⟨h3, h4⟩ := set_grow hg (x := (⟨1, ⟨#[]⟩⟩ : Nd)) (ne_root hx h2) hx
              refine ⟨?_, by show (setF f p _).length ≤ _; omega⟩
              show usedF (setF f p _) ≤ _
              have : (⟨1, ⟨#[]⟩⟩ : Nd).text.size = 0 := rfl
              omega
    · split
      · unfold appendF
        split
        · exact triv
        · rename_i p _
          split
          · exact triv
          · rename_i x hx
            split
            · exact triv
            · rename_i h2
              split
              · exact triv
              · split
                · exact triv
                · split
                  · exact triv
                  · obtain ⟨h3, h4⟩ := set_grow hg (x := (⟨1, x.text ++ o.b⟩ : Nd)) (ne_root hx h2) hx
                    refine ⟨?_, by show (setF f p _).length ≤ _; omega⟩
                    show usedF (setF f p _) ≤ _
                    have : (⟨1, x.text ++ o.b⟩ : Nd).text.size = x.text.size + o.b.size := ByteArray.size_append
                    omega
      · split
        · unfold linkF
          split
          · exact triv
          · split
            · exact triv
            · split
              · exact triv
              · rename_i p _ _
                have h := putF_grow f b n p ⟨3, o.a⟩
                refine ⟨Nat.le_trans h.1 ?_, h.2⟩
                show usedF f + o.a.size ≤ _
                omega
        · split
          · by_cases h0 : (renameF f o.a o.b).1 = 0
            · obtain ⟨p, q, x, _, _, _, _, _, _, h1⟩ := ren_zero hg h0
              rcases h1 with hab | ⟨d, k, y, _, h2⟩
              · have e := rename_self (f := f) (a := o.a) (b := o.b) hab
                rw [e]
                exact triv
              · rw [h2, mv_used, mv_len]
                have := used_del f q
                have := del_len f q
                omega
            · rw [rename_err h0]
              exact triv
          · unfold removeF
            split
            · exact triv
            · rename_i p _
              split
              · exact triv
              · split
                · exact triv
                · split
                  · exact triv
                  · have := used_del f p
                    have := del_len f p
                    exact ⟨by show usedF (delF f p) ≤ _; omega, by show (delF f p).length ≤ _; omega⟩
open Classical in
/-- What a call of the first kinds does at its path: the error, what stands there then. -/
noncomputable def eff (p : Pth) (W : Option Nat) (X : Option Nd) (K : Prop) (o : OpV) : Nat × Option Nd :=
  match W with
  | some e => (e, X)
  | none =>
    if o.kind = 1 then (match X with | none => (0, some ⟨2, ⟨#[]⟩⟩) | some x => (201, some x))
    else if o.kind = 2 then (match X with | none => (0, some ⟨1, ⟨#[]⟩⟩) | some x => if x.kind = 2 then (202, some x) else if x.kind = 3 then (204, some x) else (0, some ⟨1, ⟨#[]⟩⟩))
    else if o.kind = 3 then (match X with | none => (200, none) | some x => if x.kind = 2 then (202, some x) else if x.kind = 3 then (204, some x) else if 4194304 < x.text.size + o.b.size then (2, some x) else (0, some ⟨1, x.text ++ o.b⟩))
    else if p = [] then (1, X) else (match X with | none => (200, none) | some x => if K then (205, some x) else (0, none))
theorem same_at {f : FS} {p : Pth} {X : Option Nd} (h : f.at p = X) (r : Pth) : f.at r = if r = p then X else f.at r := by
  by_cases e : r = p
  · rw [if_pos e, e, h]
  · rw [if_neg e]
theorem op_eff {f : FS} {b n : Nat} {o : OpV} {p : Pth} (h4 : o.kind ≠ 4) (h5 : o.kind ≠ 5) (hp : partsF o.a = .ok p) (hr1 : f.length < n) (hr2 : usedF f + o.b.size ≤ b) :
    (opF f b n o).1 = (eff p (wayE f p) (f.at p) (hasKids f p) o).1 ∧ ∀ r, (opF f b n o).2.at r = if r = p then (eff p (wayE f p) (f.at p) (hasKids f p) o).2 else f.at r := by
  have hat : atE f o.a = match wayE f p with | some e => .error e | none => .ok p := by unfold atE; rw [hp]; (try simp only); all_goals (cases wayE f p <;> rfl)
  have hth : thereE f o.a = match wayE f p with | some e => .error e | none => if (f.at p).isSome = true then .ok p else .error 200 := by
    unfold thereE
    rw [hat]
    cases wayE f p with
    | some e => rfl
    | none => rfl
  cases hw : wayE f p with
  | some e =>
    rw [hw] at hat hth
    simp only at hat hth
    have h : opF f b n o = (e, f) := by
      unfold opF
      rw [if_neg h4, if_neg h5]
      unfold makeF createF appendF removeF
      rw [hat, hth]
      simp only
      repeat (first | rfl | split)
    rw [h]
    exact ⟨rfl, same_at rfl⟩
  | none =>
    rw [hw] at hat hth
    simp only at hat hth
    by_cases k1 : o.kind = 1
    · have h : opF f b n o = if (f.at p).isSome = true then (201, f) else putF f b n p ⟨2, ⟨#[]⟩⟩ := by
        unfold opF
        rw [if_pos k1]
        unfold makeF
        rw [hat]
      rw [h]
      unfold eff
      simp only
      rw [if_pos k1]
      cases hx : f.at p with
      | some x => exact ⟨rfl, same_at hx⟩
      | none =>
        have e : putF f b n p ⟨2, ⟨#[]⟩⟩ = (0, f ++ [(p, ⟨2, ⟨#[]⟩⟩)]) := putF_room hr1 (by show usedF f + 0 ≤ b; omega)
        rw [if_neg (by simp), e]
        exact ⟨rfl, at_put _ (at_ne_root' hx) hx⟩
    · by_cases k2 : o.kind = 2
      · have h : opF f b n o = match f.at p with | none => putF f b n p ⟨1, ⟨#[]⟩⟩ | some x => if x.kind = 2 then (202, f) else if x.kind = 3 then (204, f) else (0, setF f p ⟨1, ⟨#[]⟩⟩) := by
          unfold opF
          rw [if_neg k1, if_pos k2]
          unfold createF
          rw [hat]
          (try simp only)
          all_goals (cases f.at p <;> rfl)
        rw [h]
        unfold eff
        simp only
        rw [if_neg k1, if_pos k2]
        cases hx : f.at p with
        | none =>
          have e : putF f b n p ⟨1, ⟨#[]⟩⟩ = (0, f ++ [(p, ⟨1, ⟨#[]⟩⟩)]) := putF_room hr1 (by show usedF f + 0 ≤ b; omega)
          simp only
          rw [e]
          exact ⟨rfl, at_put _ (at_ne_root' hx) hx⟩
        | some x =>
          simp only
          by_cases c2 : x.kind = 2
          · rw [if_pos c2, if_pos c2]; exact ⟨rfl, same_at hx⟩
          · rw [if_neg c2, if_neg c2]
            by_cases c3 : x.kind = 3
            · rw [if_pos c3, if_pos c3]; exact ⟨rfl, same_at hx⟩
            · rw [if_neg c3, if_neg c3]
              exact ⟨rfl, at_set _ (ne_root hx c2) hx⟩
      · by_cases k3 : o.kind = 3
        · have h : opF f b n o = match f.at p with | none => (200, f) | some x => if x.kind = 2 then (202, f) else if x.kind = 3 then (204, f) else if 4194304 < x.text.size + o.b.size then (2, f) else if b < usedF f + o.b.size then (206, f) else (0, setF f p ⟨1, x.text ++ o.b⟩) := by
            unfold opF
            rw [if_neg k1, if_neg k2, if_pos k3]
            unfold appendF
            rw [hth]
            cases hx : f.at p with
            | none => rfl
            | some x => rw [if_pos (by simp)]; simp only; rw [hx]
          rw [h]
          unfold eff
          simp only
          rw [if_neg k1, if_neg k2, if_pos k3]
          cases hx : f.at p with
          | none => exact ⟨rfl, same_at hx⟩
          | some x =>
            simp only
            by_cases c2 : x.kind = 2
            · rw [if_pos c2, if_pos c2]; exact ⟨rfl, same_at hx⟩
            · rw [if_neg c2, if_neg c2]
              by_cases c3 : x.kind = 3
              · rw [if_pos c3, if_pos c3]; exact ⟨rfl, same_at hx⟩
              · rw [if_neg c3, if_neg c3]
                by_cases c4 : 4194304 < x.text.size + o.b.size
                · rw [if_pos c4, if_pos c4]; exact ⟨rfl, same_at hx⟩
                · rw [if_neg c4, if_neg c4, if_neg (by omega)]
                  exact ⟨rfl, at_set _ (ne_root hx c2) hx⟩
        · have h : opF f b n o = if p = [] then (1, f) else match f.at p with | none => (200, f) | some x => (open Classical in if hasKids f p then (205, f) else (0, delF f p)) := by
            unfold opF
            rw [if_neg k1, if_neg k2, if_neg k3, if_neg h4, if_neg h5]
            unfold removeF
            rw [hat]
            (try simp only)
            all_goals (cases f.at p <;> rfl)
          rw [h]
          unfold eff
          simp only
          rw [if_neg k1, if_neg k2, if_neg k3]
          by_cases hp0 : p = []
          · rw [if_pos hp0, if_pos hp0]; exact ⟨rfl, same_at rfl⟩
          · rw [if_neg hp0, if_neg hp0]
            cases hx : f.at p with
            | none => exact ⟨rfl, same_at hx⟩
            | some x =>
              simp only
              by_cases ck : hasKids f p
              · rw [if_pos ck, if_pos ck]; exact ⟨rfl, same_at hx⟩
              · rw [if_neg ck, if_neg ck]; exact ⟨rfl, at_del hp0⟩
theorem op_bad {f : FS} {b n : Nat} {o : OpV} {e : Nat} (h4 : o.kind ≠ 4) (h5 : o.kind ≠ 5) (hp : partsF o.a = .error e) : opF f b n o = (e, f) := by
  have hat : atE f o.a = .error e := by unfold atE; rw [hp]
  have hth : thereE f o.a = .error e := by unfold thereE; rw [hat]
  unfold opF
  rw [if_neg h4, if_neg h5]
  unfold makeF createF appendF removeF
  rw [hat, hth]
  simp only
  repeat (first | rfl | split)
theorem way_pre {f g : FS} : ∀ (r d : Pth), (∀ s, s <+: d ++ r → f.at s = g.at s) → wayFrom f d r = wayFrom g d r
  | [], _, _ => rfl
  | [_], _, _ => rfl
  | k :: m :: r, d, h => by
    simp only [wayFrom]
    rw [h (d ++ [k]) ⟨m :: r, by simp⟩, way_pre (m :: r) (d ++ [k]) (fun s hs => h s (by simpa using hs))]
/-- A call at p does the same where what stands on the way, at p and just below it is the same. -/
theorem eff_same {f g : FS} {p : Pth} (o : OpV) (h : ∀ s, s <+: p → f.at s = g.at s) (hk : ∀ k, f.at (p ++ [k]) = g.at (p ++ [k])) : eff p (wayE f p) (f.at p) (hasKids f p) o = eff p (wayE g p) (g.at p) (hasKids g p) o := by
  rw [show wayE f p = wayE g p from way_pre p [] h, h p (List.prefix_refl p), show hasKids f p = hasKids g p from propext ⟨fun ⟨k, h1⟩ => ⟨k, by rw [← hk]; exact h1⟩, fun ⟨k, h1⟩ => ⟨k, by rw [hk]; exact h1⟩⟩]
theorem op_apart {f : FS} (hg : FsOk f) {b n : Nat} (hr : Room f b n) {o1 o2 : OpV} (k1 : o1.kind ≠ 4 ∧ o1.kind ≠ 5) (k2 : o2.kind ≠ 4 ∧ o2.kind ≠ 5) (h1 : belowB o1.a o2.a = false) (h2 : belowB o2.a o1.a = false)
    (hn : f.length + 2 ≤ n) (hb : usedF f + (o1.a.size + o1.b.size) + (o2.a.size + o2.b.size) ≤ b) :
    (opF (opF f b n o1).2 b n o2).1 = (opF f b n o2).1 ∧ (opF (opF f b n o2).2 b n o1).1 = (opF f b n o1).1 ∧ Eqv (opF (opF f b n o1).2 b n o2).2 (opF (opF f b n o2).2 b n o1).2 := by
  obtain ⟨g1, r1⟩ := opF_keep hg hr o1
  obtain ⟨g2, r2⟩ := opF_keep hg hr o2
  cases hp : partsF o1.a with
  | error e =>
    rw [op_bad (f := f) k1.1 k1.2 hp, op_bad (f := (opF f b n o2).2) k1.1 k1.2 hp]
    exact ⟨rfl, rfl, Eqv.refl g2⟩
  | ok p =>
    cases hq : partsF o2.a with
    | error e =>
      rw [op_bad (f := f) k2.1 k2.2 hq, op_bad (f := (opF f b n o1).2) k2.1 k2.2 hq]
      exact ⟨rfl, rfl, Eqv.refl g1⟩
    | ok q =>
      have hp0 : p ≠ [] := fun e => by
        subst e
        rw [below_root hp] at h1; cases h1
      have hq0 : q ≠ [] := fun e => by
        subst e
        rw [below_root hq] at h2; cases h2
      have npq : ¬ p <+: q := fun h => by rw [below_pre hp hq hp0 h] at h1; cases h1
      have nqp : ¬ q <+: p := fun h => by rw [below_pre hq hp hq0 h] at h2; cases h2
      have w1 := op_grow hg b n o1
      have w2 := op_grow hg b n o2
      obtain ⟨a1, a2⟩ := op_eff (f := f) (b := b) (n := n) k1.1 k1.2 hp (by omega) (by omega)
      obtain ⟨b1, b2⟩ := op_eff (f := f) (b := b) (n := n) k2.1 k2.2 hq (by omega) (by omega)
      obtain ⟨c1, c2⟩ := op_eff (f := (opF f b n o1).2) (b := b) (n := n) k2.1 k2.2 hq (by omega) (by omega)
      obtain ⟨d1, d2⟩ := op_eff (f := (opF f b n o2).2) (b := b) (n := n) k1.1 k1.2 hp (by omega) (by omega)
      have e2 : eff q (wayE (opF f b n o1).2 q) ((opF f b n o1).2.at q) (hasKids (opF f b n o1).2 q) o2 = eff q (wayE f q) (f.at q) (hasKids f q) o2 := by
        refine eff_same o2 (fun s hs => ?_) (fun k => ?_)
        · rw [a2, if_neg (fun e => npq (by rw [← e]; exact hs))]
        · rw [a2, if_neg (fun e => nqp (by rw [← e]; exact List.prefix_append q [k]))]
      have e1 : eff p (wayE (opF f b n o2).2 p) ((opF f b n o2).2.at p) (hasKids (opF f b n o2).2 p) o1 = eff p (wayE f p) (f.at p) (hasKids f p) o1 := by
        refine eff_same o1 (fun s hs => ?_) (fun k => ?_)
        · rw [b2, if_neg (fun e => nqp (by rw [← e]; exact hs))]
        · rw [b2, if_neg (fun e => npq (by rw [← e]; exact List.prefix_append p [k]))]
      rw [e2] at c1 c2
      rw [e1] at d1 d2
      refine ⟨by rw [c1, b1], by rw [d1, a1], (opF_keep g1 r1 o2).1, (opF_keep g2 r2 o1).1, fun r => ?_⟩
      rw [c2, d2, a2, b2]
      by_cases rp : r = p
      · rw [if_pos rp, if_neg (fun e => npq (by rw [← rp, e]; exact List.prefix_refl q)), if_pos rp]
      · rw [if_neg rp, if_neg rp]
end Go.Proofs.YtiijbecklkccfaaGreatDoor.I
/- The reference's last slash of a path; its Dir and Base (layer 3): the walks. -/
namespace Go.Proofs.YtiijbecklkccfaaGreatDoor.I
open Go.RowKit Go.Proofs.YtiijbecklkccfaaGreatDoor.B Go.Sort
set_option linter.unusedVariables false
/-- One behind the last slash. -/
structure LastAt (s : ByteArray) (k : Nat) : Prop where
  le : k ≤ s.size
  none : ∀ j, k ≤ j → s.data.toList[j]? ≠ some 47
  some : 0 < k → s.data.toList[k - 1]? = some 47
set_option maxRecDepth 100000 in
set_option maxHeartbeats 16000000 in
theorem last_calls (s : ByteArray) (w : World) (hs : s.size ≤ 4294967280) :
    Calls Tryz.prog 79 #[.string s] w fun e w' => ∃ k, LastAt s k ∧ e = .returned (.int .i64 ((k : Int) - 1)) ∧ w' = w := by
  (go_enter Tryz.func79, Tryz.ntmps79)
  go_wp2
  go_loopg [3] (s.size + 1) (fun gk v3 wx => wx = w ∧ ∃ m : Nat, m ≤ s.size ∧ gk = m + 1 ∧ v3 = .int .i64 ((m : Int) - 1) ∧ Asd (∀ j, m ≤ j → s.data.toList[j]? ≠ some 47))
  case atStart => exact ⟨rfl, s.size, by omega, rfl, by go_num, ⟨fun j hj => by rw [List.getElem?_eq_none (by rw [list_size]; exact hj)]; simp⟩⟩
  case round =>
    obtain ⟨rfl, m, hm, rfl, rfl, HJ⟩ := hrel
    cases m with
    | zero =>
      have k1 : ¬ (0 : Int) ≤ ((0 : Nat) : Int) - 1 := by omega
      go_wp2
      go_ret
      exact ⟨0, ⟨by omega, HJ.out, fun h => by omega⟩, rfl, rfl⟩
    | succ m =>
      have hlt : m < s.size := by omega
      have k0 : ((m + 1 : Nat) : Int) - 1 = (m : Int) := by omega
      rw [k0]
      have k1 : (0 : Int) ≤ (m : Int) := by omega
      have k2 : (m : Int) < (s.size : Int) := by omega
      have hg := list_get hlt
      by_cases e1 : s[m] = 47
      · have t5 : (((s[m].toNat : Nat) : Int) == 47) = true := by rw [e1]; rfl
        have HA := Asd.mk (show LastAt s (m + 1) from ⟨hm, HJ.out, fun _ => by rw [Nat.add_sub_cancel, hg, e1]⟩)
        clear hg e1 HJ k0
        go_wp2
        go_ret
        exact ⟨m + 1, HA.out, by rw [show ((m + 1 : Nat) : Int) - 1 = (m : Int) by omega]; rfl, rfl⟩
      · have t5 : (((s[m].toNat : Nat) : Int) == 47) = false := by
          refine beq_eq_false_iff_ne.2 fun h => e1 ?_
          apply UInt8.toNat_inj.1
          have : s[m].toNat = 47 := by omega
          rw [this]; rfl
        have HJ2 := Asd.mk (show ∀ j, m ≤ j → s.data.toList[j]? ≠ some 47 from fun j hj => by
          rcases Nat.lt_or_ge m j with h | h
          · exact HJ.out j h
          · obtain rfl : j = m := by omega
            rw [hg]
            exact fun h => e1 (Option.some.inj h))
        clear hg e1 HJ k0
        go_wp2
        go_roundg (m + 1)
        case rel => exact ⟨rfl, m, by omega, rfl, by go_num, HJ2⟩
        case measure => omega
set_option maxRecDepth 100000 in
set_option maxHeartbeats 16000000 in
theorem dir_calls (s : ByteArray) (w : World) (hs : s.size ≤ 4294967280) :
    Calls Tryz.prog 54 #[.string s] w fun e w' => ∃ k, LastAt s k ∧ e = .returned (.string (s.extract 0 (k - 1))) ∧ w' = w := by
  have HL := Asd.mk (last_calls s w hs)
  (go_enter Tryz.func54, Tryz.ntmps54)
  go_wp2_with fail
  refine HL.out.mono ?_
  rintro e w1 ⟨k, hk, rfl, rfl⟩
  have HK := Asd.mk hk
  clear HL
  cases k with
  | zero =>
    have k1 : ((0 : Nat) : Int) - 1 < 0 := by omega
    have HE := Asd.mk (show (⟨#[]⟩ : ByteArray) = s.extract 0 (0 - 1) by rw [show s.extract 0 (0 - 1) = ByteArray.empty by simp]; rfl)
    clear hk
    go_wp2
    go_ret
    exact ⟨0, HK.out, congrArg (fun z => Ending.returned (Value.string z)) HE.out, rfl⟩
  | succ m =>
    have hm : m < s.size := by have := hk.le; omega
    have k0 : ((m + 1 : Nat) : Int) - 1 = (m : Int) := by omega
    rw [k0]
    have k1 : ¬ (m : Int) < 0 := by omega
    have k2 : (0 : Int) ≤ (m : Int) := by omega
    have k3 : (m : Int) ≤ (s.size : Int) := by omega
    clear hk k0
    go_wp2
    go_ret
    exact ⟨m + 1, HK.out, rfl, rfl⟩
set_option maxRecDepth 100000 in
set_option maxHeartbeats 16000000 in
theorem base_calls (s : ByteArray) (w : World) (hs : s.size ≤ 4294967280) :
    Calls Tryz.prog 77 #[.string s] w fun e w' => ∃ k, LastAt s k ∧ e = .returned (.string (s.extract k s.size)) ∧ w' = w := by
  have HL := Asd.mk (last_calls s w hs)
  (go_enter Tryz.func77, Tryz.ntmps77)
  go_wp2_with fail
  refine HL.out.mono ?_
  rintro e w1 ⟨k, hk, rfl, rfl⟩
  have HK := Asd.mk hk
  have hm := hk.le
  have k2 : (0 : Int) ≤ (k : Int) - 1 + 1 := by omega
  have k3 : (k : Int) - 1 + 1 ≤ (s.size : Int) := by omega
  have k4 : (k : Int) - 1 + 1 = (k : Int) := by omega
  clear hk HL
  go_wp2
  go_ret
  exact ⟨k, HK.out, rfl, rfl⟩
end Go.Proofs.YtiijbecklkccfaaGreatDoor.I
/- The law InodeApart: the walk. -/
namespace Go.Proofs.YtiijbecklkccfaaGreatDoor.I
open Go.RowKit Go.Proofs.YtiijbecklkccfaaGreatDoor.B Go.Sort
set_option linter.unusedVariables false
theorem ba_bool (s t : ByteArray) : ∃ c, (s.toList == t.toList) = c := ⟨_, rfl⟩
set_option maxRecDepth 100000 in
set_option maxHeartbeats 16000000 in
theorem apart_calls (a b : ByteArray) (w : World) (ha : a.size ≤ 4294967280) (hb : b.size ≤ 4294967280) :
    Calls Tryz.prog 25 #[.string a, .string b] w fun e w' => ∃ k : Bool, (k = true → belowB a b = false ∧ belowB b a = false) ∧ e = .returned (.bool k) ∧ w' = w := by
  have H1 := Asd.mk (refbelow_calls a b w ha hb)
  have H2 := Asd.mk (refbelow_calls b a w hb ha)
  have H3 := Asd.mk (dir_calls a w ha)
  have H4 := Asd.mk (dir_calls b w hb)
  cases c1 : belowB a b with
  | true =>
    rw [c1] at H1
    (go_enter Tryz.func25, Tryz.ntmps25)
    go_wp2_with fail
    refine H1.out.mono ?_
    rintro e w1 ⟨rfl, rfl⟩
    clear H1 H2 H3 H4 c1
    go_wp2
    go_ret
    exact ⟨false, (fun h => by cases h), rfl, rfl⟩
  | false =>
    cases c2 : belowB b a with
    | true =>
      rw [c1] at H1
      rw [c2] at H2
      (go_enter Tryz.func25, Tryz.ntmps25)
      go_wp2_with fail
      refine H1.out.mono ?_
      rintro e w1 ⟨rfl, rfl⟩
      go_wp2_with fail
      refine H2.out.mono ?_
      rintro e w2 ⟨rfl, rfl⟩
      clear H1 H2 H3 H4 c1 c2
      go_wp2
      go_ret
      exact ⟨false, (fun h => by cases h), rfl, rfl⟩
    | false =>
      rw [c1] at H1
      rw [c2] at H2
      (go_enter Tryz.func25, Tryz.ntmps25)
      go_wp2_with fail
      refine H1.out.mono ?_
      rintro e w1 ⟨rfl, rfl⟩
      go_wp2_with fail
      refine H2.out.mono ?_
      rintro e w2 ⟨rfl, rfl⟩
      clear c1 c2
      go_wp2_with fail
      refine H3.out.mono ?_
      rintro e w3 ⟨k, _, rfl, rfl⟩
      obtain ⟨S, hS⟩ : ∃ S, a.extract 0 (k - 1) = S := ⟨_, rfl⟩
      rw [hS]
      clear hS H1 H2 H3
      cases t1 : (S.toList == b.toList) with
      | true =>
        go_wp2
        go_ret
        exact ⟨false, (fun h => by cases h), rfl, rfl⟩
      | false =>
        go_wp2_with fail
        refine H4.out.mono ?_
        rintro e w4 ⟨k, _, rfl, rfl⟩
        obtain ⟨Z, hZ⟩ : ∃ S, b.extract 0 (k - 1) = S := ⟨_, rfl⟩
        rw [hZ]
        clear hZ H4
        cases t2 : (Z.toList == a.toList) with
        | true =>
          go_wp2
          go_ret
          exact ⟨false, (fun h => by cases h), rfl, rfl⟩
        | false =>
          go_wp2
          go_ret
          exact ⟨true, (fun _ => ⟨by simp, by simp⟩), rfl, rfl⟩
/-- num, of an operation's answer. -/
theorem num_ev (R : Nat) (w : World) (he : ErrType w) : Calls Tryz.prog 18 #[errV R] w fun e w' => e = .returned (.int .i64 (R : Int)) ∧ Chg [] w w' := by
  by_cases hz : R = 0
  · subst hz
    exact (num_nil w).mono fun e w' ⟨h1, h2⟩ => ⟨h1, by rw [h2]; exact Chg.refl _ _⟩
  · rw [show errV R = .iface 71 (.int .i64 (R : Int)) by unfold errV; rw [if_neg hz]]
    exact num_errno R w he
theorem SysL.drew {w W : World} {L : List Nat} {t : Nat} {fs : FS} {b n : Nat} (h : SysL w W L t fs b n) : SysL w W.drew L t fs b n := h.chg0 (Chg.refl _ _).drew
theorem load_box {w : World} {B : Nat} {u v z : Value} {T : TypeId} (h : w.heap[B]? = some (.cells #[u, v, z] T (0, 0))) : (loadVar 36 ⟨B, 0, none⟩).run Tryz.prog w = .ok (.agg #[u, v, z]) w :=
  load_op (cell_of_heap h 0) (cell_of_heap h 1) (cell_of_heap h 2)
set_option maxRecDepth 100000 in
set_option maxHeartbeats 32000000 in
theorem inodeapart_calls (sp : Option Addr) (n cap : Nat) (O : Nat → OpV) (o1 o2 : OpV) (w : World) (hO : OpsAt w sp n O) (hn : n ≤ 1048576) (ho : o1.a.size ≤ 1048576 ∧ o1.b.size ≤ 1048576 ∧ o2.a.size ≤ 1048576 ∧ o2.b.size ≤ 1048576) (hm : MaxLenAt w) (he : ErrType w) :
    Calls Tryz.prog 7 #[.slice sp n cap, .agg #[.int .i64 o1.kind, .string o1.a, .string o1.b], .agg #[.int .i64 o2.kind, .string o2.a, .string o2.b]] w fun e w' => e = .returned (.bool true) ∧ Chg [] w w' := by
  obtain ⟨wa, hwa⟩ : ∃ W, w.alloc (.cells #[.int .i64 o1.kind, .string o1.a, .string o1.b] 36) = W := ⟨_, rfl⟩
  obtain ⟨w0, hw0⟩ : ∃ W, wa.alloc (.cells #[.int .i64 o2.kind, .string o2.a, .string o2.b] 36) = W := ⟨_, rfl⟩
  have hCa : Chg [] w wa := by rw [← hwa]; exact (Chg.refl _ _).alloc _
  have HC0 := Asd.mk (show Chg [] w w0 by rw [← hw0]; exact hCa.alloc _)
  have hA1 : wa.heap[w.heap.size]? = some (.cells #[.int .i64 o1.kind, .string o1.a, .string o1.b] 36 (0, 0)) := by rw [← hwa]; exact hp_new _ _
  have hB1 : w0.heap[w.heap.size]? = some (.cells #[.int .i64 o1.kind, .string o1.a, .string o1.b] 36 (0, 0)) := (show Chg [] wa w0 by rw [← hw0]; exact (Chg.refl _ _).alloc _).heap hA1 (by simp)
  have hB2 : w0.heap[wa.heap.size]? = some (.cells #[.int .i64 o2.kind, .string o2.a, .string o2.b] 36 (0, 0)) := by rw [← hw0]; exact hp_new _ _
  have HB := Asd.mk (And.intro hB1 hB2)
  have HM := Asd.mk (hm.chg HC0.out)
  have HE := Asd.mk (he.chg HC0.out)
  have HO := Asd.mk (hO.chg HC0.out)
  have HZ := Asd.mk ho
  have HAp := Asd.mk (apart_calls o1.a o2.a w0 (by omega) (by omega))
  have H0 := Asd.mk (sysl_new 2147483647 1000 w0 w0 (Chg.refl _ _) (by omega) (by omega))
  have HW := Asd.mk (works_calls w0 HM.out HE.out)
  have b0 := cell_of_heap hB1 0
  have b1 := cell_of_heap hB1 1
  have e0 := cell_of_heap hB2 0
  have e1 := cell_of_heap hB2 1
  clear hm he hO hA1 hB1 hB2 hCa ho
  (go_enter Tryz.func7, Tryz.ntmps7)
  go_upto_region 1 with fail
  go_cut [34] from 19 to 34 (fun v34 wx => w0 = wx ∧ ∃ k : Bool, v34 = .bool k ∧ Asd (k = false → o1.kind < 4 ∧ o2.kind < 4 ∧ belowB o1.a o2.a = false ∧ belowB o2.a o1.a = false))
  case first =>
    by_cases h1 : 4 ≤ o1.kind
    · go_wp2_with fail
      go_meet
      case rel => exact ⟨rfl, true, rfl, ⟨fun h => by cases h⟩⟩
    · by_cases h2 : 4 ≤ o2.kind
      · go_wp2_with fail
        go_meet
        case rel => exact ⟨rfl, true, rfl, ⟨fun h => by cases h⟩⟩
      · go_wp2_with fail
        refine HAp.out.mono ?_
        rintro e w1 ⟨k, hk, rfl, rfl⟩
        have HK := Asd.mk hk
        have HH := Asd.mk (show o1.kind < 4 ∧ o2.kind < 4 by omega)
        clear hk HAp
        cases k with
        | true =>
          go_wp2
          go_meet
          case rel => exact ⟨rfl, false, rfl, ⟨fun _ => ⟨HH.out.1, HH.out.2, HK.out (by simp)⟩⟩⟩
        | false =>
          go_wp2
          go_meet
          case rel => exact ⟨rfl, true, rfl, ⟨fun h => by cases h⟩⟩
  case rest =>
    obtain ⟨rfl, k, rfl, HK⟩ := hcut
    clear HAp
    cases k with
    | true =>
      go_wp2_with fail
      refine HW.out.mono ?_
      rintro e w3 ⟨rfl, hC⟩
      have HC3 := Asd.mk (HC0.out.trans hC)
      clear hC
      go_wp2
      go_ret
      exact ⟨rfl, HC3.out⟩
    | false =>
      go_wp2_with fail
      refine H0.out.mono ?_
      rintro e w1 ⟨t, L1, rfl, hS, _, _⟩
      have HS := Asd.mk hS
      clear hS H0 HW b0 b1 e0 e1 hwa hw0
      go_wp2_with fail
      obtain ⟨BA, hBA⟩ : ∃ B, w.heap.size = B := ⟨_, rfl⟩
      obtain ⟨BB, hBB⟩ : ∃ B, wa.heap.size = B := ⟨_, rfl⟩
      rw [hBA] at HB ⊢
      rw [hBB] at HB ⊢
      clear hBA hBB
      go_loopg [9] 41 (fun gk v9 wx => ∃ (i : Nat) (L : List Nat) (fs : FS), i ≤ 40 ∧ gk = 41 - i ∧ v9 = .int .i64 (i : Int) ∧ Asd (SysL w0 wx L t fs 2147483647 1000) ∧ Asd (fs.length ≤ i ∧ usedF fs ≤ i * 2097152))
      case atStart => exact ⟨0, L1, [], by omega, rfl, rfl, HS, ⟨by simp, by simp [usedF]⟩⟩
      case round =>
        obtain ⟨i, L, fs, hi, rfl, rfl, HS, HG⟩ := hrel
        go_upto_region 7 with fail
        go_cut [53] from 46 to 53 (fun v53 wx => wr = wx ∧ ∃ c : Bool, v53 = .bool c ∧ Asd (c = true → i < n ∧ i < 40))
        case first =>
          by_cases h1 : i < n
          · have k1 : (i : Int) < (n : Int) := by omega
            by_cases h2 : i < 40
            · have k2 : (i : Int) < 40 := by omega
              go_wp2
              go_meet
              case rel => exact ⟨rfl, true, rfl, ⟨fun _ => ⟨h1, h2⟩⟩⟩
            · have k2 : ¬ (i : Int) < 40 := by omega
              go_wp2
              go_meet
              case rel => exact ⟨rfl, false, rfl, ⟨fun h => by cases h⟩⟩
          · have k1 : ¬ (i : Int) < (n : Int) := by omega
            go_wp2
            go_meet
            case rel => exact ⟨rfl, false, rfl, ⟨fun h => by cases h⟩⟩
        case rest =>
          obtain ⟨rfl, c, rfl, HRc⟩ := hcut
          cases c with
          | true =>
            obtain ⟨hin, hi40⟩ := HRc.out rfl
            obtain ⟨a, rfl, p0, p1, p2, z1, z2⟩ := (HO.out.chg HS.out.1) i hin
            have HD := Asd.mk (sysl_done (O i).kind (O i).a (O i).b HS.out HM.out (by omega) (by omega))
            have HG2 := Asd.mk (show (opF fs 2147483647 1000 ⟨(O i).kind, (O i).a, (O i).b⟩).2.length ≤ i + 1 ∧ usedF (opF fs 2147483647 1000 ⟨(O i).kind, (O i).a, (O i).b⟩).2 ≤ (i + 1) * 2097152 by
              have h1 := op_grow HS.out.2.1 2147483647 1000 ⟨(O i).kind, (O i).a, (O i).b⟩
              simp only at h1
              have := HG.out
              omega)
            have k1 : (i : Int) < (n : Int) := by omega
            have P012 := Asd.mk (show wr.cell? ((a.add (i * 3)).add 0) = some (.int .i64 (O i).kind) ∧ wr.cell? ((a.add (i * 3)).add 1) = some (.string (O i).a) ∧ wr.cell? ((a.add (i * 3)).add 2) = some (.string (O i).b) from ⟨by rw [Go.Deep.add_add]; exact p0, by rw [Go.Deep.add_add]; exact p1, by rw [Go.Deep.add_add]; exact p2⟩)
            clear p0 p1 p2 z1 z2 HRc HG
            go_wp2_with (refine wpList_load_op rfl (.tmp 59) rfl (a.add (i * 3)) rfl _ _ _ P012.out.1 P012.out.2.1 P012.out.2.2 ?_)
            refine HD.out.mono ?_
            rintro e w4 ⟨rfl, L', hS, _, _⟩
            have HS4 := Asd.mk hS
            clear hS HD HS P012
            go_wp2_with fail
            go_roundg (41 - (i + 1))
            case rel => exact ⟨i + 1, L', _, by omega, rfl, by go_num, HS4, HG2⟩
            case measure => omega
          | false =>
            clear HRc HO
            have HCl := Asd.mk (sysl_clone HS.out)
            go_wp2_with fail
            refine HCl.out.mono ?_
            rintro e w5 ⟨u, Lc, rfl, hU, hC, hLc⟩
            have HS5 := Asd.mk (HS.out.chg0 hC)
            have HU5 := Asd.mk hU
            have HDj := Asd.mk (show ∀ i ∈ L, i ∉ Lc from fun i hi h => by have := HS.out.lt i hi; have := hLc i h; omega)
            have HOp := Asd.mk (show _ from op_apart HS.out.2.1 HS.out.2.2.1 (o1 := o1) (o2 := o2) (by have := (HK.out (by simp)).1; omega) (by have := (HK.out (by simp)).2.1; omega) (HK.out (by simp)).2.2.1 (HK.out (by simp)).2.2.2 (by have := HG.out; omega) (by have := HG.out; have := HZ.out; omega))
            clear hU hC hLc HCl HS HG HK
            obtain ⟨R1, hR1⟩ : ∃ R, opF fs 2147483647 1000 o1 = R := ⟨_, rfl⟩
            obtain ⟨R2, hR2⟩ : ∃ R, opF fs 2147483647 1000 o2 = R := ⟨_, rfl⟩
            obtain ⟨Q1, hQ1⟩ : ∃ R, opF R1.2 2147483647 1000 o2 = R := ⟨_, rfl⟩
            obtain ⟨Q2, hQ2⟩ : ∃ R, opF R2.2 2147483647 1000 o1 = R := ⟨_, rfl⟩
            rw [hR1, hR2, hQ1, hQ2] at HOp
            have HRQ := Asd.mk (And.intro hR1 (And.intro hR2 (And.intro hQ1 hQ2)))
            clear hR1 hR2 hQ1 hQ2
            obtain ⟨ev1, hev1⟩ : ∃ ev, errV R1.1 = ev := ⟨_, rfl⟩
            obtain ⟨ev2, hev2⟩ : ∃ ev, errV R2.1 = ev := ⟨_, rfl⟩
            have HEv := Asd.mk (And.intro hev1 hev2)
            clear hev1 hev2
            have HB5 := Asd.mk (And.intro (HS5.out.1.heap HB.out.1 (by simp)) (HS5.out.1.heap HB.out.2 (by simp)))
            go_upto_region 13 with fail
            go_cut [11, 12] from 66 to 71 (fun v11 v12 wx => ev1 = v11 ∧ ev2 = v12 ∧ ∃ L', Asd (SysL w0 wx L' t Q1.2 2147483647 1000) ∧ Asd (SysL w0 wx Lc u fs 2147483647 1000) ∧ Asd (∀ i ∈ L', i ∉ Lc))
            case first =>
              have h1 := sysl_done o1.kind o1.a o1.b HS5.out.drew HM.out (by have := HZ.out; omega) (by have := HZ.out; omega)
              rw [HRQ.out.1, HEv.out.1] at h1
              have H1 := Asd.mk h1
              have H2 := Asd.mk (fun (W : World) (L' : List Nat) (hS : SysL w0 W L' t R1.2 2147483647 1000) => (by
                have h2 := sysl_done o2.kind o2.a o2.b hS HM.out (by have := HZ.out; omega) (by have := HZ.out; omega)
                rw [HRQ.out.2.2.1, HOp.out.1, HEv.out.2] at h2
                exact h2 : Calls Tryz.prog 12 #[(.pointer (some ⟨t, 0, none⟩)), .agg #[.int .i64 o2.kind, .string o2.a, .string o2.b]] W fun e w' => e = .returned ev2 ∧ ∃ L'', SysL w0 w' L'' t Q1.2 2147483647 1000 ∧ Chg L' W w' ∧ ∀ i ∈ L'', i ∈ L' ∨ W.heap.size ≤ i))
              have d0 := cell_of_heap HB5.out.1 0
              have d1 := cell_of_heap HB5.out.1 1
              have d2 := cell_of_heap HB5.out.1 2
              have d3 := cell_of_heap HB5.out.2 0
              have d4 := cell_of_heap HB5.out.2 1
              have d5 := cell_of_heap HB5.out.2 2
              clear h1
              go_region_with (first
                | (refine H1.out.mono ?_
                   rintro e w6 ⟨rfl, L', hS, hCL, hL'⟩
                   have HS6 := Asd.mk hS
                   have HU6 := Asd.mk (HU5.out.drew.chg hCL (fun i hi h => HDj.out i h hi) HS5.out.2.2.2.1)
                   have HD6 := Asd.mk (show ∀ i ∈ L', i ∉ Lc from fun i hi h => by
                     rcases hL' i hi with h1 | h1
                     · exact HDj.out i h1 h
                     · have := HU5.out.drew.lt i h; omega)
                   have HB6 := Asd.mk (And.intro (hS.1.heap HB.out.1 (by simp)) (hS.1.heap HB.out.2 (by simp)))
                   have d3' := cell_of_heap HB6.out.2 0
                   have d4' := cell_of_heap HB6.out.2 1
                   have d5' := cell_of_heap HB6.out.2 2
                   clear hS hCL hL' H1)
                | (refine (H2.out _ _ HS6.out).mono ?_
                   rintro e w7 ⟨rfl, L'', hS, hCL, hL'⟩
                   have HS7 := Asd.mk hS
                   have HU7 := Asd.mk (HU6.out.chg hCL (fun i hi h => HD6.out i h hi) HS6.out.2.2.2.1)
                   have HD7 := Asd.mk (show ∀ i ∈ L'', i ∉ Lc from fun i hi h => by
                     rcases hL' i hi with h1 | h1
                     · exact HD6.out i h1 h
                     · have := HU6.out.lt i h; omega)
                   clear hS hCL hL' H2))
              all_goals
                go_wp2_with fail
                go_meet
                case rel => exact ⟨rfl, rfl, _, HS7, HU7, HD7⟩
            case rest =>
              obtain ⟨rfl, rfl, L', HS6, HU6, HD6⟩ := hcut
              have HB6 := Asd.mk (And.intro (HS6.out.1.heap HB.out.1 (by simp)) (HS6.out.1.heap HB.out.2 (by simp)))
              clear HS5 HU5 HDj HB5
              go_upto_region 14 with fail
              go_cut [13, 14] from 72 to 77 (fun v13 v14 wx => ev2 = v13 ∧ ev1 = v14 ∧ ∃ Lc', Asd (SysL w0 wx L' t Q1.2 2147483647 1000) ∧ Asd (SysL w0 wx Lc' u Q2.2 2147483647 1000))
              case first =>
                have h1 := sysl_done o2.kind o2.a o2.b HU6.out.drew HM.out (by have := HZ.out; omega) (by have := HZ.out; omega)
                rw [HRQ.out.2.1, HEv.out.2] at h1
                have H1 := Asd.mk h1
                have H2 := Asd.mk (fun (W : World) (L' : List Nat) (hS : SysL w0 W L' u R2.2 2147483647 1000) => (by
                  have h2 := sysl_done o1.kind o1.a o1.b hS HM.out (by have := HZ.out; omega) (by have := HZ.out; omega)
                  rw [HRQ.out.2.2.2, HOp.out.2.1, HEv.out.1] at h2
                  exact h2 : Calls Tryz.prog 12 #[(.pointer (some ⟨u, 0, none⟩)), .agg #[.int .i64 o1.kind, .string o1.a, .string o1.b]] W fun e w' => e = .returned ev1 ∧ ∃ L'', SysL w0 w' L'' u Q2.2 2147483647 1000 ∧ Chg L' W w' ∧ ∀ i ∈ L'', i ∈ L' ∨ W.heap.size ≤ i))
                have d0 := cell_of_heap HB6.out.1 0
                have d1 := cell_of_heap HB6.out.1 1
                have d2 := cell_of_heap HB6.out.1 2
                have d3 := cell_of_heap HB6.out.2 0
                have d4 := cell_of_heap HB6.out.2 1
                have d5 := cell_of_heap HB6.out.2 2
                clear h1
                go_region_with (first
                  | (refine H1.out.mono ?_
                     rintro e w7 ⟨rfl, Lc', hS, hCL, hL'⟩
                     have HU7 := Asd.mk hS
                     have HS7 := Asd.mk (HS6.out.drew.chg hCL HD6.out HU6.out.2.2.2.1)
                     have HD7 := Asd.mk (show ∀ i ∈ L', i ∉ Lc' from fun i hi h => by
                       rcases hL' i h with h1 | h1
                       · exact HD6.out i hi h1
                       · have := HS6.out.drew.lt i hi; omega)
                     have HB7 := Asd.mk (And.intro (hS.1.heap HB.out.1 (by simp)) (hS.1.heap HB.out.2 (by simp)))
                     have d0' := cell_of_heap HB7.out.1 0
                     have d1' := cell_of_heap HB7.out.1 1
                     have d2' := cell_of_heap HB7.out.1 2
                     clear hS hCL hL' H1)
                  | (refine (H2.out _ _ HU7.out).mono ?_
                     rintro e w8 ⟨rfl, Lc'', hS, hCL, hL'⟩
                     have HU8 := Asd.mk hS
                     have HS8 := Asd.mk (HS7.out.chg hCL HD7.out HU7.out.2.2.2.1)
                     clear hS hCL hL' H2))
                all_goals
                  go_wp2_with fail
                  go_meet
                  case rel => exact ⟨rfl, rfl, _, HS8, HU8⟩
              case rest =>
                obtain ⟨rfl, rfl, Lc', HS7, HU7⟩ := hcut
                clear HS6 HU6 HD6 HB6
                have HT1 := Asd.mk (sysl_tree HS7.out HM.out)
                go_wp2_with fail
                refine HT1.out.mono ?_
                rintro e w8 ⟨⟨v1, rfl, hR1⟩, hC⟩
                have HR1 := Asd.mk hR1
                have HU8 := Asd.mk (HU7.out.chg0 hC)
                have HT2 := Asd.mk (sysl_tree HU8.out HM.out)
                have HNz := Asd.mk (show (treeF Q1.2 []).length ≤ 16777216 from by
                  have h1 := tree_count HS7.out.2.1
                  have h2 := HS7.out.2.2.1.count
                  unfold treeF0 at h1
                  show (treeL Q1.2 65 []).length ≤ _
                  omega)
                clear hR1 hC HT1 HU7 HS7
                go_wp2_with fail
                refine HT2.out.mono ?_
                rintro e w9 ⟨⟨v2, rfl, hR2⟩, hC⟩
                have HR1' := Asd.mk (own_off HR1.out hC (fun _ _ => by simp))
                rw [show treeF Q2.2 [] = treeF Q1.2 [] from HOp.out.2.2.tree.symm] at hR2
                have HR2 := Asd.mk hR2
                have HC9 := Asd.mk (HU8.out.1.trans hC)
                have HN1 := Asd.mk (fun W (hW : Chg [] w0 W) => (by
                  have h := num_ev R1.1 W (HE.out.chg hW)
                  rw [HEv.out.1] at h
                  exact h : Calls Tryz.prog 18 #[ev1] W fun e w' => e = .returned (.int .i64 (R1.1 : Int)) ∧ Chg [] W w'))
                have HN2 := Asd.mk (fun W (hW : Chg [] w0 W) => (by
                  have h := num_ev R2.1 W (HE.out.chg hW)
                  rw [HEv.out.2] at h
                  exact h : Calls Tryz.prog 18 #[ev2] W fun e w' => e = .returned (.int .i64 (R2.1 : Int)) ∧ Chg [] W w'))
                obtain ⟨E, hE⟩ : ∃ E, treeF Q1.2 [] = E := ⟨_, rfl⟩
                rw [hE] at HR1' HR2 HNz
                obtain ⟨n1, hn1⟩ : ∃ n, (R1.1 : Int) = n := ⟨_, rfl⟩
                obtain ⟨n2, hn2⟩ : ∃ n, (R2.1 : Int) = n := ⟨_, rfl⟩
                rw [hn1] at HN1
                rw [hn2] at HN2
                clear hR2 hC HT2 HU8 HR1 HOp HRQ HEv hE hn1 hn2
                go_wp2_with fail
                refine (HN1.out _ HC9.out).mono ?_
                rintro e w10 ⟨rfl, hC⟩
                have HC10 := Asd.mk (And.intro hC (HC9.out.trans hC))
                clear hC
                go_wp2_with fail
                refine (HN1.out _ HC10.out.2).mono ?_
                rintro e w11 ⟨rfl, hC⟩
                have HC11 := Asd.mk (And.intro (HC10.out.1.trans hC) (HC10.out.2.trans hC))
                clear hC HC10
                go_wp2_with fail
                refine (HN2.out _ HC11.out.2).mono ?_
                rintro e w12 ⟨rfl, hC⟩
                have HC12 := Asd.mk (And.intro (HC11.out.1.trans hC) (HC11.out.2.trans hC))
                clear hC HC11
                go_wp2_with fail
                refine (HN2.out _ HC12.out.2).mono ?_
                rintro e w13 ⟨rfl, hC⟩
                have HC13 := Asd.mk (And.intro (HC12.out.1.trans hC) (HC12.out.2.trans hC))
                have HSm := Asd.mk (same_ents (entL_of_own (own_off HR1'.out HC13.out.1 (fun _ _ => by simp))) (entL_of_own (own_off HR2.out HC13.out.1 (fun _ _ => by simp))) HNz.out)
                clear hC HC12 HR1' HR2 HNz
                go_wp2_with fail
                refine HSm.out.mono ?_
                rintro e w14 ⟨rfl, hC⟩
                have HC14 := Asd.mk (HC13.out.2.trans hC)
                clear hC HC13 HSm
                go_wp2_with fail
                refine (works_calls _ (HM.out.chg HC14.out) (HE.out.chg HC14.out)).mono ?_
                rintro e w15 ⟨rfl, hC⟩
                have HC15 := Asd.mk (HC0.out.trans (HC14.out.trans hC))
                clear hC HC14
                go_wp2
                go_ret
                refine ⟨?_, ?_⟩
                · rfl
                · exact HC15.out
end Go.Proofs.YtiijbecklkccfaaGreatDoor.I
