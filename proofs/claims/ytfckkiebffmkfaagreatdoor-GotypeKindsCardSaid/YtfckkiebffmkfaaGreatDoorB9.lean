/- works() says yes: PRINTED BY A PROGRAM (wip/b2.py). -/
import Derived.Test.YtfckkiebffmkfaaGreatDoorB2
import Derived.KernelRfl
namespace Go.Proofs.YtfckkiebffmkfaaGreatDoor.AM
open Go
set_option maxRecDepth 100000
theorem works_ok : ansOk (callA TB FB sp2 200) (17, [], .bool true) = true := by kernel_rfl

end Go.Proofs.YtfckkiebffmkfaaGreatDoor.AM
