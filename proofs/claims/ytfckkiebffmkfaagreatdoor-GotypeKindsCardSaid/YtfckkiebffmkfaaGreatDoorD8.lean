/- PROVED: avocetlaw27.GotypeKinds answers true for every int it is given, and its argument reads behind the call as it read before. CONDITIONS: the row's own: the tables golex.signs and golex.keys hold what their initialisers lay (tied to the program's text by the given tie); any order that the language leaves open is allowed. -/
import Derived.Test.YtfckkiebffmkfaaGreatDoorD9
namespace Go.Proofs.YtfckkiebffmkfaaGreatDoor.AM
open Go.ChangeShapes Go.WideShapes Go.ChangeAt Go.RowKit
open Go
set_option maxRecDepth 100000

theorem kinds_plain (f : FuncId) (fn : Func) (hf : Tryz.pinned.checked.prog.funcNamed "avocet/avocetlaw27.GotypeKinds" = some f) (hfn : Tryz.pinned.checked.prog.funcs[f]? = some fn) :
    false = Tryz.pinned.checked.prog.looks [] ∧ ∀ (j : Nat) t, fn.params[j]? = some t → Tryz.pinned.checked.prog.wantsStandIn t = false := by
  obtain rfl : f = 5 := Option.some.inj ((show Tryz.prog.funcNamed "avocet/avocetlaw27.GotypeKinds" = some 5 by kernel_rfl).symm.trans hf) |>.symm
  obtain rfl : fn = Tryz.f5 := (Option.some.inj (Tryz.func5.symm.trans hfn)).symm
  refine ⟨by kernel_rfl, fun j t ht => ?_⟩
  rw [Tryz.params5] at ht
  obtain rfl : t = 3 := by simpa using Array.mem_of_getElem? ht
  exact (show Tryz.prog.wantsStandIn 3 = false by kernel_rfl)

end Go.Proofs.YtfckkiebffmkfaaGreatDoor.AM
namespace Go.Proofs.YtfckkiebffmkfaaGreatDoor
open Go
set_option maxRecDepth 100000
/-- The card of GotypeKinds. -/
theorem gotypeKindsProved : Rows.GotypeKindsCardSaid :=
  Claim7.holds_tied_plain_at .later [] _ _ _ _ AM.kinds_said (fun _ h => by cases h) (by kernel_rfl) (fun _ h => by cases h) gotypeKinds_row_tie rfl ⟨rfl, rfl⟩ (by kernel_rfl) rfl AM.kinds_plain (by kernel_rfl)
end Go.Proofs.YtfckkiebffmkfaaGreatDoor
