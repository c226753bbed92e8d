/- What an operation looks at. -/
import Derived.Test.YtfckkiebffmkfaaGreatDoorA15
namespace Go.Proofs.YtfckkiebffmkfaaGreatDoor.AM
open Go Go.RowKit

section
variable {T : Tab} {K : KA} {ev ev' : Operand → Option AV}

theorem evL_congr : ∀ {xs : List Operand}, (∀ x ∈ xs, ev x = ev' x) → evL ev xs = evL ev' xs
  | [], _ => rfl
  | x :: xs, h => by
    simp only [evL]
    rw [h x (by simp), evL_congr (fun y hy => h y (by simp [hy]))]

theorem evO_congr {x : Option Operand} (h : ∀ y, x = some y → ev y = ev' y) : evO ev x = evO ev' x := by
  cases x with
  | none => rfl
  | some y => simp only [evO]; rw [h y rfl]

theorem fillA_congr {sz : Nat} : ∀ {ps : List (Nat × Operand)} {els : List AV}, (∀ p ∈ ps, ev p.2 = ev' p.2) → fillA sz ev els ps = fillA sz ev' els ps
  | [], _, _ => rfl
  | (i, x) :: ps, els, h => by
    have ih := fun els => fillA_congr (sz := sz) (ps := ps) (els := els) (fun p hp => h p (List.mem_cons_of_mem _ hp))
    simp only [fillA]
    rw [show ev x = ev' x from h (i, x) (List.mem_cons_self ..)]
    simp only [ih]

theorem buildA_congr {fs : List (Nat × Nat)} : ∀ {ps : List (Nat × Operand)} {cs : List AV}, (∀ p ∈ ps, ev p.2 = ev' p.2) → buildA fs ev cs ps = buildA fs ev' cs ps
  | [], _, _ => rfl
  | (i, x) :: ps, cs, h => by
    have ih := fun cs => buildA_congr (fs := fs) (ps := ps) (cs := cs) (fun p hp => h p (List.mem_cons_of_mem _ hp))
    simp only [buildA]
    rw [show ev x = ev' x from h (i, x) (List.mem_cons_self ..)]
    simp only [ih]

theorem opA_congr {o : Oper} (h : Heap) (he : ∀ x ∈ o.op.operands.toList, ev x = ev' x) : opA T K ev o h = opA T K ev' o h := by
  unfold opA
  cases hop : o.op <;> rw [hop] at he <;> simp only [Op.operands] at he <;> try simp only
  case move x => rw [he x (by simp)]
  case assign x => rw [he x (by simp)]
  case pick c a b => rw [he c (by simp), he a (by simp), he b (by simp)]
  case box t x => rw [he x (by simp)]
  case build t ps =>
    have : ∀ z fs, buildA fs ev z ps.toList = buildA fs ev' z ps.toList := fun z fs => buildA_congr (fun p hp => he p.2 (by simp only [List.mem_map]; exact ⟨p, hp, rfl⟩))
    simp only [this]
  case buildSlice t len ps =>
    have : ∀ sz z, fillA sz ev z ps.toList = fillA sz ev' z ps.toList := fun z fs => fillA_congr (fun p hp => he p.2 (by simp only [List.mem_map]; exact ⟨p, hp, rfl⟩))
    simp only [this]
  case load t x => rw [he x (by simp)]
  case store t a x => rw [he a (by simp), he x (by simp)]
  case nilCheck x => rw [he x (by simp)]
  case binOp op ty x y yt => rw [he x (by simp), he y (by simp)]
  case unOp op ty x => rw [he x (by simp)]
  case convert src dst x => rw [he x (by simp)]
  case makeFunc fn first captured =>
    cases fn <;> simp only
    rw [evL_congr (fun x hx => he x (by simp [hx])), evL_congr (xs := captured.toList) (fun x hx => he x (by simp [hx]))]
  case makeMap t r => cases r <;> simp only
  case slice t x lo hi mx =>
    rw [he x (by simp), evO_congr (x := lo) (fun y hy => he y (by simp [hy])), evO_congr (x := hi) (fun y hy => he y (by simp [hy])), evO_congr (x := mx) (fun y hy => he y (by simp [hy]))]
  case fieldAddr s x f => rw [he x (by simp)]
  case field t x f => rw [he x (by simp)]
  case indexAddr t x i => rw [he x (by simp), he i (by simp)]
  case index t x i => rw [he x (by simp), he i (by simp)]
  case lookup t x i ok => rw [he x (by simp), he i (by simp)]
  case mapUpdate t m k x => rw [he m (by simp), he k (by simp), he x (by simp)]
  case extract t i => rw [he t (by simp)]
  case call c =>
    unfold Call.operands at he
    cases hcal : c.callee with
    | value f =>
      rw [hcal] at he
      have hf := he f (by simp)
      rw [evL_congr (xs := c.args.toList) (fun x hx => he x (by simp at hx ⊢; exact .inr hx))]
      cases evL ev' c.args.toList <;> simp only [hf]
    | invoke r m => rfl
    | builtin b =>
      rw [hcal] at he
      rw [evL_congr (xs := c.args.toList) (fun x hx => he x (by simp at hx ⊢; exact hx))]
      cases evL ev' c.args.toList <;> simp only

theorem map_pair {α : Type} {x : Option α} {h : Heap} {r : α} {h' : Heap} (e : x.map (·, h) = some (r, h')) : h' = h ∧ x = some r := by
  cases x with
  | none => simp at e
  | some y => simp at e; exact ⟨e.2.symm, by rw [e.1]⟩

theorem map_pairF {α β : Type} {x : Option α} {f : α → β} {h : Heap} {r : β} {h' : Heap} (e : x.map (fun y => (f y, h)) = some (r, h')) : h' = h ∧ ∃ y, x = some y ∧ f y = r := by
  cases x with
  | none => simp at e
  | some y => simp at e; exact ⟨e.2.symm, y, rfl, e.1⟩

theorem builtinA_pure {b : Builtin} (hb : b = .len ∨ b = .min) {ts : List Nat} {args : List AV} {h h' : Heap} {r : AV} (e : builtinA T b ts args h = some (r, h')) : h' = h ∧ ∀ h2, builtinA T b ts args h2 = some (r, h2) := by
  rcases hb with rfl | rfl
  · match args with
    | [] => simp [builtinA] at e
    | [x] =>
      simp only [builtinA] at e ⊢
      cases hts : ts[0]? with
      | none => rw [hts] at e; cases x <;> simp at e
      | some t =>
        rw [hts] at e
        cases x <;> simp only [reduceCtorEq] at e
        all_goals
          split at e
          · rename_i hc
            obtain ⟨rfl, h1⟩ := map_pair e
            exact ⟨rfl, fun h2 => by simp [hc, h1]⟩
          · cases e
    | _ :: _ :: _ => simp [builtinA] at e
  · match args with
    | [] => simp [builtinA] at e
    | [x] => cases x <;> simp [builtinA] at e
    | [x, y] =>
      cases x <;> cases y <;> simp only [builtinA, reduceCtorEq] at e
      split at e
      · rename_i hk
        simp at e
        obtain ⟨rfl, rfl⟩ := e
        exact ⟨rfl, fun h2 => by simp [builtinA, hk]⟩
      · cases e
    | x :: _ :: _ :: _ => cases x <;> simp [builtinA] at e

theorem opA_pure {o : Oper} (hk : kdOf o.op = .pure) {h h' : Heap} {r : AV} (e : opA T K ev o h = some (r, h')) : h' = h ∧ ∀ h2, opA T K ev o h2 = some (r, h2) := by
  unfold opA at e ⊢
  unfold kdOf at hk
  cases hop : o.op <;> rw [hop] at hk <;> rw [hop] at e <;> simp only [reduceCtorEq] at hk e ⊢
  case move x => obtain ⟨rfl, h1⟩ := map_pair e; exact ⟨rfl, fun h2 => by simp [h1]⟩
  case assign x => obtain ⟨rfl, h1⟩ := map_pair e; exact ⟨rfl, fun h2 => by simp [h1]⟩
  case pick c a b => split at e <;> first | cases e | (obtain ⟨rfl, h1⟩ := map_pair e; exact ⟨rfl, fun h2 => by simp [h1]⟩)
  case build t ps => split at e <;> first | cases e | (obtain ⟨rfl, y, h1, rfl⟩ := map_pairF e; exact ⟨rfl, fun h2 => by simp [h1]⟩)
  case buildSlice t len ps =>
    split at e
    · split at e
      · split at e
        · rename_i h0 h1
          simp at e
          obtain ⟨rfl, rfl⟩ := e
          exact ⟨rfl, fun h2 => by simp [h0, h1]⟩
        · cases e
      · rename_i h0
        split at e
        · rename_i z hz
          split at e
          · rename_i hc
            obtain ⟨rfl, y, h1, rfl⟩ := map_pairF e
            exact ⟨rfl, fun h2 => by rw [if_neg h0, if_pos hc]; simp [h1]⟩
          · cases e
        · cases e
    · cases e
  case nilCheck x =>
    split at e <;> cases e <;> exact ⟨rfl, fun h2 => by simp [*]⟩
  case binOp op ty x y yt => split at e <;> first | cases e | (obtain ⟨rfl, h1⟩ := map_pair e; exact ⟨rfl, fun h2 => by simp [h1]⟩)
  case unOp op ty x => split at e <;> first | cases e | (obtain ⟨rfl, h1⟩ := map_pair e; exact ⟨rfl, fun h2 => by simp [h1]⟩)
  case convert src dst x => split at e <;> first | cases e | (obtain ⟨rfl, h1⟩ := map_pair e; exact ⟨rfl, fun h2 => by simp [h1]⟩)
  case makeFunc fn first captured =>
    cases fn <;> simp only [reduceCtorEq] at e ⊢
    split at e <;> cases e <;> exact ⟨rfl, fun h2 => by simp [*]⟩
  case slice t x lo hi mx => split at e <;> first | cases e | (obtain ⟨rfl, h1⟩ := map_pair e; exact ⟨rfl, fun h2 => by simp [h1]⟩)
  case fieldAddr s x f => split at e <;> first | cases e | (obtain ⟨rfl, h1⟩ := map_pair e; exact ⟨rfl, fun h2 => by simp [h1]⟩)
  case field t x f => split at e <;> first | cases e | (obtain ⟨rfl, h1⟩ := map_pair e; exact ⟨rfl, fun h2 => by simp [h1]⟩)
  case indexAddr t x i => split at e <;> first | cases e | (obtain ⟨rfl, h1⟩ := map_pair e; exact ⟨rfl, fun h2 => by simp [h1]⟩)
  case index t x i => split at e <;> first | cases e | (obtain ⟨rfl, h1⟩ := map_pair e; exact ⟨rfl, fun h2 => by simp [h1]⟩)
  case extract t i => split at e <;> first | cases e | (obtain ⟨rfl, h1⟩ := map_pair e; exact ⟨rfl, fun h2 => by simp [h1]⟩)
  case call c =>
    cases hcal : c.callee with
    | value f => rw [hcal] at hk; simp at hk
    | invoke x m => rw [hcal] at e; simp at e
    | builtin b =>
      rw [hcal] at hk e
      try simp only at e ⊢
      split at e
      · rename_i b' args hb hargs
        injection hb with hb; subst hb
        have : b = .len ∨ b = .min := by cases b <;> simp at hk <;> simp
        obtain ⟨h1, h2⟩ := builtinA_pure this e
        exact ⟨h1, h2⟩
      · rename_i hb _; cases hb
      · cases e

theorem opA_read {o : Oper} (hk : kdOf o.op = .read) {h h' : Heap} {r : AV} (e : opA T K ev o h = some (r, h')) : h' = h := by
  unfold opA at e
  unfold kdOf at hk
  cases hop : o.op <;> rw [hop] at hk <;> rw [hop] at e <;> simp only [reduceCtorEq] at hk e
  case load t a => split at e <;> first | cases e | exact (map_pair e).1
  case lookup t x i ok => split at e <;> first | cases e | exact (map_pair e).1
  case call c =>
    split at hk <;> cases hk

theorem opA_alloc {o : Oper} (hk : kdOf o.op = .alloc) : ∃ t, o.op = .alloc t := by
  unfold kdOf at hk
  cases hop : o.op <;> rw [hop] at hk <;> simp only [reduceCtorEq] at hk
  case alloc t => exact ⟨t, rfl⟩
  case call c =>
    split at hk <;> cases hk

mutual
theorem AV.beq_eq : ∀ (a b : AV), AV.beq a b = true → a = b
  | .undef, b, h => by cases b <;> simp [AV.beq] at h; rfl
  | .bool a, b, h => by cases b <;> simp [AV.beq] at h; rw [h]
  | .int k a, b, h => by cases b <;> simp [AV.beq] at h; rw [h.1, h.2]
  | .str a, b, h => by cases b <;> simp [AV.beq] at h; rw [h]
  | .nilptr, b, h => by cases b <;> simp [AV.beq] at h; rfl
  | .ptr a c, b, h => by cases b <;> simp [AV.beq] at h; rw [h.1, h.2]
  | .vptr s es i f, b, h => by
    cases b <;> simp [AV.beq] at h
    rw [h.1.1.1, h.1.1.2, h.1.2, AV.beqL_eq _ _ h.2]
  | .vs s es o, b, h => by
    cases b <;> simp [AV.beq] at h
    rw [h.1.1, h.1.2, AV.beqL_eq _ _ h.2]
  | .hs s c f n, b, h => by
    cases b <;> simp [AV.beq] at h
    rw [h.1.1.1, h.1.1.2, h.1.2, h.2]
  | .map a, b, h => by cases b <;> simp [AV.beq] at h; rw [h]
  | .fn f x y, b, h => by
    cases b <;> simp [AV.beq] at h
    rw [h.1.1, AV.beqL_eq _ _ h.1.2, AV.beqL_eq _ _ h.2]
  | .agg a, b, h => by cases b <;> simp [AV.beq] at h; rw [AV.beqL_eq _ _ h]
  | .tup a, b, h => by cases b <;> simp [AV.beq] at h; rw [AV.beqL_eq _ _ h]
theorem AV.beqL_eq : ∀ (a b : List AV), AV.beqL a b = true → a = b
  | [], [], _ => rfl
  | [], _ :: _, h => by simp [AV.beqL] at h
  | _ :: _, [], h => by simp [AV.beqL] at h
  | x :: xs, y :: ys, h => by
    simp [AV.beqL] at h
    rw [AV.beq_eq _ _ h.1, AV.beqL_eq _ _ h.2]
end

end
end Go.Proofs.YtfckkiebffmkfaaGreatDoor.AM
