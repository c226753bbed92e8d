/- both trees stand: PRINTED BY A PROGRAM (wip/b2.py). -/
import Derived.Test.YtfckkiebffmkfaaGreatDoorB2
import Derived.KernelRfl
namespace Go.Proofs.YtfckkiebffmkfaaGreatDoor.AM
open Go
set_option maxRecDepth 100000
theorem rights_ok : rights.all (ansOk (callA TB FB sp1 200)) = true := by kernel_rfl

end Go.Proofs.YtfckkiebffmkfaaGreatDoor.AM
