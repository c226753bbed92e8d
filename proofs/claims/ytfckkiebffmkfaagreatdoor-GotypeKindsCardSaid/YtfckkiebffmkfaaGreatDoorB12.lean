/- The interpreter's answers are the program's. -/
import Derived.Test.YtfckkiebffmkfaaGreatDoorB3
import Derived.Test.YtfckkiebffmkfaaGreatDoorB4
import Derived.Test.YtfckkiebffmkfaaGreatDoorB5
import Derived.Test.YtfckkiebffmkfaaGreatDoorB6
import Derived.Test.YtfckkiebffmkfaaGreatDoorB7
import Derived.Test.YtfckkiebffmkfaaGreatDoorB8
import Derived.Test.YtfckkiebffmkfaaGreatDoorB9
import Derived.Test.YtfckkiebffmkfaaGreatDoorB10
import Derived.Test.YtfckkiebffmkfaaGreatDoorB11
namespace Go.Proofs.YtfckkiebffmkfaaGreatDoor.AM
open Go Go.RowKit
set_option maxRecDepth 100000

theorem follows_mixed : Tryz.prog.follows .mixedOrders = true := by kernel_rfl

theorem clone46 {gl : Nat → Option (List AV)} : CallSound Tryz.prog gl (fun f' args h => if f' = 46 then cloneA 2 40 args h else none) :=
  clone_sound (t := 35) (e := 75) (z := .agg [.str [], .vs 0 [] .full]) Tryz.func46 (by kernel_rfl) (by kernel_rfl) (by kernel_rfl) (by kernel_rfl) (by kernel_rfl) (by kernel_rfl) rfl (by decide)
theorem clone47 {gl : Nat → Option (List AV)} : CallSound Tryz.prog gl (fun f' args h => if f' = 47 then cloneA 4 88 args h else none) :=
  clone_sound (t := 42) (e := 57) (z := .agg [.str [], .vs 0 [] .full, .vs 0 [] .full, .vs 0 [] .full]) Tryz.func47 (by kernel_rfl) (by kernel_rfl) (by kernel_rfl) (by kernel_rfl) (by kernel_rfl) (by kernel_rfl) rfl (by decide)
theorem clone114 {gl : Nat → Option (List AV)} : CallSound Tryz.prog gl (fun f' args h => if f' = 114 then cloneA 10 200 args h else none) :=
  clone_sound (t := 55) (e := 67) (z := .agg [.int .i64 0, .vs 0 [] .full, .int .i64 0, .str [], .vs 0 [] .full, .vs 0 [] .full, .vs 0 [] .full, .vs 0 [] .full, .vs 0 [] .full, .vs 0 [] .full]) Tryz.func114 (by kernel_rfl) (by kernel_rfl) (by kernel_rfl) (by kernel_rfl) (by kernel_rfl) (by kernel_rfl) rfl (by decide)
theorem clone116 {gl : Nat → Option (List AV)} : CallSound Tryz.prog gl (fun f' args h => if f' = 116 then cloneA 2 32 args h else none) :=
  clone_sound (t := 65) (e := 127) (z := .agg [.int .u64 0, .vs 0 [] .full]) Tryz.func116 (by kernel_rfl) (by kernel_rfl) (by kernel_rfl) (by kernel_rfl) (by kernel_rfl) (by kernel_rfl) rfl (by decide)
theorem clone169 {gl : Nat → Option (List AV)} : CallSound Tryz.prog gl (fun f' args h => if f' = 169 then cloneA 8 128 args h else none) :=
  clone_sound (t := 62) (e := 64) (z := .agg [.int .i64 0, .str [], .int .u64 0, .int .i64 0, .str [], .vs 0 [] .full, .vs 0 [] .full, .vs 0 [] .full]) Tryz.func169 (by kernel_rfl) (by kernel_rfl) (by kernel_rfl) (by kernel_rfl) (by kernel_rfl) (by kernel_rfl) rfl (by decide)

theorem spB_ok {gl : Nat → Option (List AV)} : SpOk Tryz.prog gl spB := by
  intro f g h
  have leaf : ∀ {N k b : Nat}, (if Nat.beq f N = true then some (cloneA k b) else none) = some g → CallSound Tryz.prog gl (fun f' args h => if f' = N then cloneA k b args h else none) →
      CallSound Tryz.prog gl (fun f' args h => if f' = f then g args h else none) := by
    intro N k b hl hs
    split at hl
    · rename_i hb
      injection hl with hl
      subst hl
      rw [Nat.eq_of_beq_eq_true hb]
      exact hs
    · cases hl
  exact ok_node h (fun h => ok_node h (fun h => leaf h clone46) (fun h => leaf h clone47)) (fun h => ok_node h (fun h => leaf h clone114) (fun h => ok_node h (fun h => leaf h clone116) (fun h => leaf h clone169)))

theorem glB_free : ∀ g cs, glB g = some cs → hfreeL cs = true := by
  intro g cs h
  unfold glB at h
  split at h
  · injection h with h; subst h; kernel_rfl
  · split at h
    · injection h with h; subst h; kernel_rfl
    · cases h

theorem callB {sp : SpA} (hs : SpOk Tryz.prog glB sp) (n : Nat) : CallSound Tryz.prog glB (callA TB FB sp n) :=
  call_sound FB_ok hs (fun _ hK => draw_sound follows_mixed hK) n

theorem sp1_ok : SpOk Tryz.prog glB sp1 :=
  tab_sound spB_ok (look_sound glB_free (callB spB_ok 200) (tabs_append (tabs_append takes1_ok takes2_ok) idents_ok))
theorem sp2_ok : SpOk Tryz.prog glB sp2 :=
  tab_sound sp1_ok (look_sound glB_free (callB sp1_ok 200) (tabs_append (tabs_append parses1_ok parses2_ok) rights_ok))

def works : List Ans := [(17, [], .bool true)]
theorem works_all : works.all (ansOk (callA TB FB sp2 200)) = true := by
  unfold works
  rw [List.all_cons, works_ok]
  rfl
/-- With works() looked up, and the slices copied at a stroke. -/
def spW : SpA := tabSp spB [17] works
theorem spW_ok : SpOk Tryz.prog glB spW := tab_sound spB_ok (look_sound glB_free (callB sp2_ok 200) works_all)

end Go.Proofs.YtfckkiebffmkfaaGreatDoor.AM
