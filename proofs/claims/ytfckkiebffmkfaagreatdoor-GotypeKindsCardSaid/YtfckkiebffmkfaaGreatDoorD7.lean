/- GotypeKinds: the row. -/
import Derived.Test.YtfckkiebffmkfaaGreatDoorD2
import Derived.Test.YtfckkiebffmkfaaGreatDoorD4
import Derived.Test.YtfckkiebffmkfaaGreatDoorD5
import Derived.Test.YtfckkiebffmkfaaGreatDoorD6
namespace Go.Proofs.YtfckkiebffmkfaaGreatDoor.AM
open Go.ChangeShapes Go.WideShapes Go.ChangeAt Go.RowKit
open Go
set_option maxRecDepth 100000

theorem kinds_lifted (os : Os) (started : os.Started) (H : Type) (enc : TypeId × Value → H) (F : Stop.Interp) :
    ReturnsInHanded {} Tryz.checked os 5 .any ((OpenSpec.ofChange Rows.gotypeKindsSpec).preRow enc Tryz.prog Tryz.f5 Rows.gotypeKindsRow.domain false Rows.gotypeKindsRow.laid) (((OpenSpec.ofChange Rows.gotypeKindsSpec).at F).post enc Tryz.prog Tryz.f5 false true false false) := by
  obtain ⟨places, hx⟩ := kinds_reads os enc
  refine returnsInHanded_of_row (C := Tryz.checked) (s := OpenSpec.ofChange Rows.gotypeKindsSpec) own started (by kernel_rfl) Tryz.func5
    (witness_row_at (enc := enc) (C := Tryz.checked) false (laidWorld os) #[.int .i64 0] rfl (kinds_w1 os) (kinds_w2 os) (kinds_w3 os)
      (OpenSpec.preRow_of_cond 8 hx (by kernel_rfl) (fun k hk => by cases hk) (by kernel_rfl) (laid_met os #[.int .i64 0]))) ?_
  intro W base args ds gs before hval hW _ _ _ hL _ _
  exact kinds_contract H enc W base args ds gs before hval hW hL


end Go.Proofs.YtfckkiebffmkfaaGreatDoor.AM
