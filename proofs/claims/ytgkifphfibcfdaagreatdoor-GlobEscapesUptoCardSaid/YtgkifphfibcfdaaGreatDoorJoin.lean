/- Patterns one behind the other, and what they mean. -/
import Derived.Test.YtgkifphfibcfdaaGreatDoorLocal
import Derived.Test.YtgkifphfibcfdaaGreatDoorMean
namespace Go.Proofs.YtgkifphfibcfdaaGreatDoor.G
open Go.RowKit Go.Proofs.YtgkifphfibcfdaaGreatDoor.B
set_option linter.unusedVariables false
theorem bl_append (X Y : ByteArray) : bl (X ++ Y) = bl X ++ bl Y := by
  have hp := pre_append X Y
  have hs := suf_append X Y
  apply List.ext_getElem
  · rw [List.length_append, bl_length, bl_length, bl_length, ByteArray.size_append]
  · intro i h1 h2
    rw [bl_length, ByteArray.size_append] at h1
    by_cases hi : i < X.size
    · rw [List.getElem_append_left (by rw [bl_length]; exact hi)]
      simp only [bl, List.getElem_map, List.getElem_range]
      exact hp.at_ i hi
    · rw [List.getElem_append_right (by rw [bl_length]; omega)]
      simp only [bl, List.getElem_map, List.getElem_range, List.length_map, List.length_range]
      have := hs.at_ (i - X.size) (by omega)
      rw [← this]
      congr 1
      omega
theorem mt_join {A B : List PartV} {x y : List Nat} (h1 : mt A x = true) (h2 : mt B y = true) : mt (A ++ B) (x ++ y) = true :=
  (mt_append B A _).2 ⟨x.length, by simp, by rw [List.take_left' rfl]; exact h1, by rw [List.drop_left' rfl]; exact h2⟩
theorem mt_all (x : List Nat) : mt [((true, noneT) : PartV)] x = true := (mt_star _ _ rfl).2 ⟨x.length, Nat.le_refl _, by simp [mt]⟩
theorem mt_wide {A : List PartV} {x y z : List Nat} (h : mt A x = true) : mt ([((true, noneT) : PartV)] ++ A ++ [((true, noneT) : PartV)]) (y ++ x ++ z) = true :=
  mt_join (mt_join (mt_all y) h) (mt_all z)
theorem parts_wide {P : ByteArray} {A : List PartV} (h : parts P = some A) : parts ((⟨#[42]⟩ : ByteArray) ++ P ++ ⟨#[42]⟩) = some ([((true, noneT) : PartV)] ++ A ++ [((true, noneT) : PartV)]) :=
  parts_append (parts_append parts_star h) parts_star
end Go.Proofs.YtgkifphfibcfdaaGreatDoor.G
