/- A world in which the row can begin. -/
import Derived.Test.YtfckkiebffmkfaaGreatDoorD1
namespace Go.Proofs.YtfckkiebffmkfaaGreatDoor.AM
open Go.ChangeShapes Go.WideShapes Go.ChangeAt Go.RowKit
open Go
set_option maxRecDepth 100000

theorem own : ownKnob Tryz.prog.godebug = none := by kernel_rfl

def layRow (vs : List Value) : Obj → Obj
  | .cells _ t frozen => .cells vs.toArray t frozen
  | o => o
/-- A world for the witness: the settled one, the two tables holding what their initialisers lay. -/
noncomputable def laidWorld (os : Os) : World :=
  { World.holding Tryz.prog os ⟨#[], #[], []⟩ with heap := ((World.holding Tryz.prog os ⟨#[], #[], []⟩).heap.modify 1 (layRow ((strsOf signsA).map fun s => Value.string ⟨s.toArray⟩))).modify 2 (layRow ((strsOf keysA).map fun s => Value.string ⟨s.toArray⟩)) }
theorem laid_met (os : Os) (args : Array Value) : laidMet Tryz.prog laid2 ((laidWorld os).forCall (fun _ _ => 0) ⟨#[], args, []⟩).memory :=
  laidMet_of_run' 8 (by kernel_rfl) (by kernel_rfl)

end Go.Proofs.YtfckkiebffmkfaaGreatDoor.AM
