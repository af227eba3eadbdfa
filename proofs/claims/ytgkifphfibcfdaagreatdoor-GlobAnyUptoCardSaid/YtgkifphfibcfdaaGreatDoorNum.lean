/- The number of an error: nil, an Errno. -/
import Derived.Test.YtgkifphfibcfdaaGreatDoorAs
namespace Go.Proofs.YtgkifphfibcfdaaGreatDoor.G
open Go.RowKit Go.Proofs.YtgkifphfibcfdaaGreatDoor.B
set_option linter.unusedVariables false
/-- errors.errorType as the program's start lays it. -/
def ErrType (w : World) : Prop := w.cell? ⟨0, 0, none⟩ = some (.iface 149 (.agg #[.pointer (some ⟨4, 24, none⟩)]))
theorem ErrType.chg {w w' : World} (h : ErrType w) (hc : Chg [] w w') : ErrType w' := (hc.below.cell (p := ⟨0, 0, none⟩) (World.block_lt_of_cell? w _ h)).trans h
theorem num_nil (w : World) : Calls Tryz.prog 14 #[.nilIface] w fun e w' => e = .returned (.int .i64 0) ∧ w' = w := by
  go_enter Tryz.func14, Tryz.ntmps14
  go_wp2
  go_ret
  exact ⟨rfl, rfl⟩
set_option maxHeartbeats 2000000 in
theorem num_errno (n : Int) (w : World) (hg : ErrType w) : Calls Tryz.prog 14 #[.iface 57 (.int .i64 n)] w fun e w' => e = .returned (.int .i64 n) ∧ Chg [] w w' := by
  have hlt : 0 < w.heap.size := World.block_lt_of_cell? w _ hg
  have hg1 := Asd.mk (show (w.alloc (.cells #[.int .i64 0] 57)).cell? ⟨0, 0, none⟩ = some (.iface 149 (.agg #[.pointer (some ⟨4, 24, none⟩)])) by rw [World.cell?_alloc_lt _ _ ⟨0, 0, none⟩ hlt]; exact hg)
  have ht1 := Asd.mk (show (w.alloc (.cells #[.int .i64 0] 57)).cell? ⟨w.heap.size, 0, none⟩ = some (.int .i64 0) by rw [World.cell?_alloc_at _ _ _ _ rfl]; rfl)
  have hf1 := Asd.mk (show (w.alloc (.cells #[.int .i64 0] 57)).frozen? ⟨w.heap.size, 0, none⟩ = false by rw [World.frozen?_alloc_at _ _ _ _ rfl])
  clear hg
  go_enter Tryz.func14, Tryz.ntmps14
  go_wp2_with fail
  refine (as_hit n ⟨w.heap.size, 0, none⟩ (.int .i64 0) _ hg1.out ht1.out hf1.out).mono ?_
  rintro e w' ⟨rfl, rfl⟩
  go_wp2
  go_ret
  exact ⟨rfl, (((((Chg.refl _ _).alloc _).alloc _).alloc _).alloc _).alloc _⟩
end Go.Proofs.YtgkifphfibcfdaaGreatDoor.G
