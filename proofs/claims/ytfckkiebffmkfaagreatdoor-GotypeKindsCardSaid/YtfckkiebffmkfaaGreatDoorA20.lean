/- Answers looked up: what has been worked out once need not be worked out again. -/
import Derived.Test.YtfckkiebffmkfaaGreatDoorA19
namespace Go.Proofs.YtfckkiebffmkfaaGreatDoor.AM
open Go Go.RowKit

abbrev Ans := Nat × List AV × AV

/-- What a list of answers owes: each is an answer on an empty heap that names no block. -/
def ansOk (K : KA) (e : Ans) : Bool := hfreeL e.2.1 && hfree e.2.2 && ansB ((K e.1 e.2.1 Heap.nil).map fun p => (fg3 p.1, p.2)) e.2.2
def findA (f : Nat) (args : List AV) : List Ans → Option AV
  | [] => none
  | e :: es => if f = e.1 ∧ AV.beqL e.2.1 args = true then some e.2.2 else findA f args es
/-- Answers looked up. -/
def lookSp (t : List Ans) (f : Nat) (args : List AV) (h : Heap) : Option (AV × Heap) := (findA f args t).map fun r => (r, h)
/-- The functions whose answers are looked up, ahead of others. -/
def tabSp (base : SpA) (fs : List Nat) (t : List Ans) : SpA := fun f => if fs.contains f then some (lookSp t f) else base f

section
variable {P : Program} {gl : Nat → Option (List AV)} {K : KA}

theorem findA_some {f : Nat} {args : List AV} {r : AV} : ∀ {t : List Ans}, findA f args t = some r → (f, args, r) ∈ t
  | [], h => by simp [findA] at h
  | e :: es, h => by
    simp only [findA] at h
    split at h
    · rename_i hc
      obtain ⟨rfl, hb⟩ := hc
      have := AV.beqL_eq _ _ hb
      simp at h
      subst h; subst this
      simp
    · exact List.mem_cons_of_mem _ (findA_some h)

theorem ansOk_pure {e : Ans} (h : ansOk K e = true) (hp : Heap) : pureK K e.1 e.2.1 hp = some (e.2.2, hp) := by
  unfold ansOk at h
  simp only [Bool.and_eq_true] at h
  obtain ⟨⟨h1, h2⟩, h3⟩ := h
  obtain ⟨h', h4⟩ := ansB_eq h3
  unfold pureK
  rw [if_pos h1]
  cases hk : K e.1 e.2.1 Heap.nil with
  | none => rw [hk] at h4; simp at h4
  | some p =>
    obtain ⟨r, hr⟩ := p
    rw [hk] at h4
    simp at h4
    simp only [h4.1, h2, if_true]

theorem look_sound (hgl : ∀ g cs, gl g = some cs → hfreeL cs = true) (hK : CallSound P gl K) {t : List Ans} (ht : t.all (ansOk K) = true) : CallSound P gl (lookSp t) := by
  intro f args h r h' hk
  unfold lookSp at hk
  cases hf : findA f args t with
  | none => rw [hf] at hk; simp at hk
  | some r' =>
    rw [hf] at hk
    simp at hk
    obtain ⟨rfl, rfl⟩ := hk
    have hm := findA_some hf
    have hp := ansOk_pure ((List.all_eq_true.1 ht) _ hm) h
    exact pure_sound hgl hK _ _ _ _ _ hp

theorem tab_sound {base : SpA} (hb : SpOk P gl base) {fs : List Nat} {t : List Ans} (ht : CallSound P gl (lookSp t)) : SpOk P gl (tabSp base fs t) := by
  intro f g hg
  unfold tabSp at hg
  split at hg
  · simp at hg; subst hg
    intro f' args h r h' hk
    dsimp only at hk
    split at hk
    · rename_i he; subst he; exact ht _ _ _ _ _ hk
    · cases hk
  · exact hb f g hg

theorem tabs_append {t u : List Ans} (ht : t.all (ansOk K) = true) (hu : u.all (ansOk K) = true) : (t ++ u).all (ansOk K) = true := by
  rw [List.all_append, ht, hu]; rfl
end

end Go.Proofs.YtfckkiebffmkfaaGreatDoor.AM
