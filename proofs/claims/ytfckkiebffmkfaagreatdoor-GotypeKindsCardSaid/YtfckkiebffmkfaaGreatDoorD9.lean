/- GotypeKinds: the row's statement. -/
import Derived.Test.YtfckkiebffmkfaaGreatDoorD7
namespace Go.Proofs.YtfckkiebffmkfaaGreatDoor.AM
open Go.ChangeShapes Go.WideShapes Go.ChangeAt Go.RowKit
open Go
set_option maxRecDepth 100000

theorem kinds_said : Rows.GotypeKindsSaid :=
  OpenClaim.holds_of_cond 5 Tryz.f5 rfl rfl rfl rfl rfl rfl rfl ⟨rfl, rfl, rfl, rfl, rfl⟩ rfl rfl rfl rfl rfl (by kernel_rfl) Tryz.func5 (by kernel_rfl)
    (of_decide_eq_true (by kernel_rfl)) (by unfold Func.isWrapper; first | (rw [if_pos (by decide +kernel)]; kernel_rfl) | (rw [if_neg (by decide +kernel)]; exact ⟨rfl, rfl⟩))
    (fun os started H enc _ F => by rw [OpenClaim.pre_eq_preRow]; exact kinds_lifted os started H enc F)


end Go.Proofs.YtfckkiebffmkfaaGreatDoor.AM
