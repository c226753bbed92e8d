/- GotypeKinds: the witness, the argument. -/
import Derived.Test.YtfckkiebffmkfaaGreatDoorD3
namespace Go.Proofs.YtfckkiebffmkfaaGreatDoor.AM
open Go.ChangeShapes Go.WideShapes Go.ChangeAt Go.RowKit
open Go
set_option maxRecDepth 100000

theorem kinds_w3 (os : Os) : Input.okWideB Tryz.checked.prog ((laidWorld os).forCall (fun _ _ => 0) ⟨#[], #[.int .i64 0], []⟩) 5 ⟨#[], #[.int .i64 0], []⟩ = true := by kernel_rfl

end Go.Proofs.YtfckkiebffmkfaaGreatDoor.AM
