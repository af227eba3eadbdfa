/- The numbers of sync.Mutex's functions and types in this program; sync/atomic.Bool; the contracts that (*sync.Once).Do wants. -/
import Derived.Test.YtgkifphfibcfdaaGreatDoorProg
import Derived.Test.YtgkifphfibcfdaaGreatDoorBase
import Derived.Conc.MuLone
import Derived.RegionTactic
import Derived.RegionCalls
namespace Go.Proofs.YtgkifphfibcfdaaGreatDoor.G
open Go.RowKit Go.Proofs.YtgkifphfibcfdaaGreatDoor.B Go.MuLone
set_option linter.unusedVariables false
abbrev muLink : Go.Conc.Locks.MuLink := { lock := 82, unlock := 83, ilock := 103, iunlock := 104, lockSlow := 118, unlockSlow := 121, disable := 114, enable := 116, acquire := 117, relMerge := 119, cas32 := 115, add32 := 120, tMutex := 130, tIMutex := 128, tPMutex := 190, tPIMutex := 206, tPI32 := 208, tUP := 109, tNoCopy := 122, tU32 := 124 }
theorem muLib : Go.Conc.Locks.MuLib Tryz.prog muLink :=
  ⟨Tryz.func82, Tryz.func83, Tryz.func103, Tryz.func104, Tryz.func114, Tryz.func116, Tryz.func117, Tryz.func119, Tryz.func115, Tryz.func120, Tryz.underlying128, Tryz.runUnderlying128, Tryz.sizeOf128, Tryz.isAgg128, Tryz.zeroValue128, Tryz.underlying130, Tryz.runUnderlying130, Tryz.sizeOf130, Tryz.isAgg130, Tryz.zeroValue130, Tryz.underlying190, Tryz.runUnderlying190, Tryz.sizeOf190, Tryz.isAgg190, Tryz.zeroValue190, Tryz.underlying206, Tryz.runUnderlying206, Tryz.sizeOf206, Tryz.isAgg206, Tryz.zeroValue206, Tryz.underlying208, Tryz.runUnderlying208, Tryz.sizeOf208, Tryz.isAgg208, Tryz.zeroValue208, Tryz.underlying109, Tryz.runUnderlying109, Tryz.sizeOf109, Tryz.isAgg109, Tryz.zeroValue109, Tryz.underlying122, Tryz.runUnderlying122, Tryz.sizeOf122, Tryz.isAgg122, Tryz.zeroValue122, Tryz.underlying21, Tryz.runUnderlying21, Tryz.sizeOf21, Tryz.isAgg21, Tryz.zeroValue21, (by kernel_rfl)⟩
/-- '(*sync/atomic.Bool).Store(true)', entered as a deferred call: the cell holds 1. -/
theorem store_deferred (a : Addr) (x : Value) (u : FrameMode) (w : World) (hc : w.cell? a = some x) (hz : w.frozen? a = false) :
    CallsD Tryz.prog 84 #[.pointer (some a), .bool true] u w fun e u' w' => u' = u ∧ (e = .returned (.tuple #[]) ∧ w' = w.drew.setCell a (.int .u32 1)) := by
  have hc' : w.drew.cell? a = some x := by go_simp
  have hz' : w.drew.frozen? a = false := by go_simp
  have hst := run_call_store (P := Tryz.prog) Tryz.func105 (by kernel_rfl) (by kernel_rfl) (by kernel_rfl) (by kernel_rfl) (k := .u32) (y := 1) hc' hz'
  go_enter_d Tryz.func84, Tryz.ntmps84
  go_wp2
  go_region_calls
  all_goals (go_end0; exact ⟨rfl, rfl⟩)
end Go.Proofs.YtgkifphfibcfdaaGreatDoor.G
