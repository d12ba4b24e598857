/- From the row's condition on the listed variable to its cells; the door's own heap meets the condition. -/
import Derived.Test.YtjecjiopbkoihaaDoorRows
import Derived.Test.YtjecjiopbkoihaaDoorCrcWalk
import Derived.Test.YtjecjiopbkoihaaDoorRow
import Derived.Lib.LaidTab
namespace Go.Proofs.YtjecjiopbkoihaaDoor.Crc
open Go Go.ChangeShapes Go.WideShapes Go.ChangeAt Go.RowKit Mem

theorem own : ownKnob Tryd.prog.godebug = none := by kernel_rfl
theorem laidOut : laidOutB Tryd.prog = true := by kernel_rfl
theorem gHalves : Tryd.prog.globalNamed "tidemark/crc.halves" = some 0 := by kernel_rfl
theorem tHalves : (Tryd.prog.globals[0]?).map (·.type) = some 42 := by kernel_rfl
def laidL {H : Type} : List (String × DataW H) := [("tidemark/crc.halves", Rows.laid_tidemark_crc_halves)]

theorem door_met (os : Os) (args : Array Value) : laidMetH Tryd.prog laidL ((World.doorLaid Tryd.prog 400 os).forCall (fun _ _ => 0) ⟨#[], args, []⟩).memory :=
  laidMetH_of_parts3 (fuel := 8) (laidMet_of_run' 8 (by kernel_rfl) (by kernel_rfl)) (by kernel_rfl) (by kernel_rfl)

theorem tab_of_laid {W : World} (h : laidMetH Tryd.prog laidL W) : Tab W := by
  rw [MakeChecks.laidMetH_plain _ _ _ (by kernel_rfl)] at h
  have ht : Lib.TabIs Tryd.prog W "tidemark/crc.halves" .u32 tabI := Lib.tabIs_of_head gHalves tHalves Tryd.underlying42 Tryd.underlying23 (by kernel_rfl) (by kernel_rfl) h
  exact fun i hi => ht.cell gHalves i (by simpa [tabI] using hi)
theorem u32_arg {n : Int} (h : (Lit.int .u32 n).wf = true) : ∃ x : BitVec 32, n = un x :=
  ⟨_, (un_of n (Row.u32_in h).1 (Row.u32_in h).2).symm⟩
end Go.Proofs.YtjecjiopbkoihaaDoor.Crc
