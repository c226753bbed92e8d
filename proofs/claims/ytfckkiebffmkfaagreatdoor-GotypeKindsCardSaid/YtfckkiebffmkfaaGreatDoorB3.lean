/- Take on the first text: PRINTED BY A PROGRAM (wip/b2.py). -/
import Derived.Test.YtfckkiebffmkfaaGreatDoorB2
import Derived.KernelRfl
namespace Go.Proofs.YtfckkiebffmkfaaGreatDoor.AM
open Go
set_option maxRecDepth 100000
theorem takes1_ok : takes1.all (ansOk (callA TB FB spB 200)) = true := by kernel_rfl

end Go.Proofs.YtfckkiebffmkfaaGreatDoor.AM
