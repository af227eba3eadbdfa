/- A text of one byte, out of a row of one. -/
import Derived.Test.YtgkifphfibcfdaaGreatDoorMean
import Derived.Test.YtgkifphfibcfdaaGreatDoorBase2
import Derived.Test.YtgkifphfibcfdaaGreatDoorProg
import Derived.Lib.ConvBytes
import Derived.Lib.BufferRead
namespace Go.Proofs.YtgkifphfibcfdaaGreatDoor.G
open Go.RowKit Go.Proofs.YtgkifphfibcfdaaGreatDoor.B
set_option linter.unusedVariables false
def oneB (b : Nat) : ByteArray := ⟨#[UInt8.ofNat b]⟩
theorem oneB_size (b : Nat) : (oneB b).size = 1 := rfl
theorem bl_one {b : Nat} (hb : b < 256) : bl (oneB b) = [b] := by
  have h : bn (oneB b) 0 = b := by
    show (UInt8.ofNat b).toNat = b
    simp
    omega
  show (List.range 1).map (bn (oneB b)) = [b]
  simp [h]
theorem conv_one {b : Nat} (hb : b < 256) (w : World) (g : Nat) (hg : w.heap[g]? = some (.cells #[.int .u8 (b : Int)] 5 (0, 0))) : (convert 35 9 (.slice (some ⟨g, 0, none⟩) 1 1)).run Tryz.prog w = .ok (.string (oneB b)) w := by
  have h2 := run_convert_bytes_back (P := Tryz.prog) w 35 9 5 ⟨g, 0, none⟩ 1 [UInt8.ofNat b] Tryz.underlying35 Tryz.underlying5 Tryz.underlying9 (fun j hj => by
    have h0 : j = 0 := by simpa using hj
    subst h0
    have e : (⟨g, 0, none⟩ : Addr).add 0 = ⟨g, 0, none⟩ := rfl
    rw [e, cell_of_heap hg]
    have hbb : (UInt8.ofNat b).toNat = b := by simp; omega
    simp [hbb])
  exact h2
theorem wrap8 {b : Nat} (hb : b < 256) : IntKind.u8.wrap (b : Int) = (b : Int) := IntWalk.u8_in (b : Int) ⟨by omega, by omega⟩
end Go.Proofs.YtgkifphfibcfdaaGreatDoor.G
