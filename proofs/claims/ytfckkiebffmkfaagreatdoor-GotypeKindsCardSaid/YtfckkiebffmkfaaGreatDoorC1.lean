/- GotypeKinds: what the interpreter answers, for every kind. -/
import Derived.Test.YtfckkiebffmkfaaGreatDoorB12
namespace Go.Proofs.YtfckkiebffmkfaaGreatDoor.AM
open Go Go.RowKit
set_option maxRecDepth 100000

def yes (o : Option (AV × Heap)) : Bool :=
  match o with
  | some (.bool b, _) => b
  | _ => false
theorem yes_eq {o : Option (AV × Heap)} (h : yes o = true) : ∃ h', o = some (.bool true, h') := by
  unfold yes at h
  split at h
  · subst h; exact ⟨_, rfl⟩
  · cases h

theorem kinds_hi (m : Nat) : yes (callA TB FB spW 20 5 [.int .i64 (Int.ofNat (m + 7))] Heap.nil) = true := by kernel_rfl
theorem kinds_lo (m : Nat) : yes (callA TB FB spW 20 5 [.int .i64 (Int.negSucc m)] Heap.nil) = true := by kernel_rfl
theorem kinds_0 : yes (callA TB FB spW 20 5 [.int .i64 0] Heap.nil) = true := by kernel_rfl
theorem kinds_1 : yes (callA TB FB spW 20 5 [.int .i64 1] Heap.nil) = true := by kernel_rfl
theorem kinds_2 : yes (callA TB FB spW 20 5 [.int .i64 2] Heap.nil) = true := by kernel_rfl
theorem kinds_3 : yes (callA TB FB spW 20 5 [.int .i64 3] Heap.nil) = true := by kernel_rfl
theorem kinds_4 : yes (callA TB FB spW 20 5 [.int .i64 4] Heap.nil) = true := by kernel_rfl
theorem kinds_5 : yes (callA TB FB spW 20 5 [.int .i64 5] Heap.nil) = true := by kernel_rfl
theorem kinds_6 : yes (callA TB FB spW 20 5 [.int .i64 6] Heap.nil) = true := by kernel_rfl

theorem kinds (k : Int) : ∃ h', callA TB FB spW 20 5 [.int .i64 k] Heap.nil = some (.bool true, h') := by
  refine yes_eq ?_
  match k with
  | .negSucc m => exact kinds_lo m
  | .ofNat 0 => exact kinds_0
  | .ofNat 1 => exact kinds_1
  | .ofNat 2 => exact kinds_2
  | .ofNat 3 => exact kinds_3
  | .ofNat 4 => exact kinds_4
  | .ofNat 5 => exact kinds_5
  | .ofNat 6 => exact kinds_6
  | .ofNat (m + 7) => exact kinds_hi m

end Go.Proofs.YtfckkiebffmkfaaGreatDoor.AM
