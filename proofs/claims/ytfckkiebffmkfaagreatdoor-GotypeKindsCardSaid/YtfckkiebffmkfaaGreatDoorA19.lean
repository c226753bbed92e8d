/- Calls that look at no block and leave none: their answer does not hang on the heap. -/
import Derived.Test.YtfckkiebffmkfaaGreatDoorA18
namespace Go.Proofs.YtfckkiebffmkfaaGreatDoor.AM
open Go Go.RowKit

mutual
def hfree : AV → Bool
  | .ptr .. => false
  | .hs .. => false
  | .map r => r.isNone
  | .vptr _ els _ _ => hfreeL els
  | .vs _ els own => (match own with | .any => true | .full => els.isEmpty | .grow _ => false) && hfreeL els
  | .fn _ a b => hfreeL a && hfreeL b
  | .agg cs => hfreeL cs
  | .tup cs => hfreeL cs
  | .undef => true
  | .bool _ => true
  | .int _ _ => true
  | .str _ => true
  | .nilptr => true
def hfreeL : List AV → Bool
  | [] => true
  | a :: as => hfree a && hfreeL as
end

section
variable {w : World} {G G' : Gh}
mutual
theorem VR.free (hS : ∀ c o, G.S c o → G'.S c o) : ∀ (a : AV) (v : Value), hfree a = true → VR w G a v → VR w G' a v
  | .undef, v, _, h => h
  | .bool _, v, _, h => h
  | .int _ _, v, _, h => h
  | .str _, v, _, h => h
  | .nilptr, v, _, h => h
  | .ptr b off, v, e, h => by simp [hfree] at e
  | .vptr sz els i off, v, e, h => by
    simp only [hfree] at e
    obtain ⟨hu, c, o, hr, hv⟩ := h
    exact ⟨hu, c, o, RowR.free hS els c o e hr, hv⟩
  | .vs sz els own, v, e, h => by
    simp only [hfree, Bool.and_eq_true] at e
    obtain ⟨hu, a, cap, hv, hl, ho, hr⟩ := h
    refine ⟨hu, a, cap, hv, hl, ?_, fun hne => ?_⟩
    · cases own with
      | any => trivial
      | full =>
        have : els = [] := by simpa using e.1
        subst this
        exact ⟨ho.1, fun _ _ => .inl rfl⟩
      | grow b => simp at e
    · obtain ⟨c, o, ha, hr⟩ := hr hne
      exact ⟨c, o, ha, RowR.free hS els c o e.2 hr⟩
  | .hs _ b off len, v, e, h => by simp [hfree] at e
  | .map none, v, _, h => h
  | .map (some r), v, e, h => by simp [hfree] at e
  | .fn f a b, v, e, h => by
    simp only [hfree, Bool.and_eq_true] at e
    obtain ⟨la, lb, hv, ha, hb⟩ := h
    exact ⟨la, lb, hv, VRL.free hS a la e.1 ha, VRL.free hS b lb e.2 hb⟩
  | .agg cs, v, e, h => by
    simp only [hfree] at e
    obtain ⟨l, hv, ha⟩ := h
    exact ⟨l, hv, VRL.free hS cs l e ha⟩
  | .tup cs, v, e, h => by
    simp only [hfree] at e
    obtain ⟨l, hv, ha⟩ := h
    exact ⟨l, hv, VRL.free hS cs l e ha⟩
theorem VRL.free (hS : ∀ c o, G.S c o → G'.S c o) : ∀ (as : List AV) (l : List Value), hfreeL as = true → VRL w G as l → VRL w G' as l
  | [], l, _, h => h
  | a :: as, l, e, h => by
    simp only [hfreeL, Bool.and_eq_true] at e
    obtain ⟨v, vs, rfl, h1, h2⟩ := h
    exact ⟨v, vs, rfl, VR.free hS a v e.1 h1, VRL.free hS as vs e.2 h2⟩
theorem RowR.free (hS : ∀ c o, G.S c o → G'.S c o) : ∀ (es : List AV) (c o : Nat), hfreeL es = true → RowR w G c o es → RowR w G' c o es
  | [], c, o, _, h => trivial
  | .agg cs :: es, c, o, e, h => by
    simp only [hfreeL, hfree, Bool.and_eq_true] at e
    exact ⟨CelR.free hS cs c o e.1 h.1, RowR.free hS es c _ e.2 h.2⟩
  | .undef :: es, c, o, e, ⟨⟨u, h1, h2, h3⟩, h⟩ => by
    simp only [hfreeL, Bool.and_eq_true] at e
    exact ⟨⟨u, h1, hS _ _ h2, VR.free hS .undef u e.1 h3⟩, RowR.free hS es c _ e.2 h⟩
  | .bool x :: es, c, o, e, ⟨⟨u, h1, h2, h3⟩, h⟩ => by
    simp only [hfreeL, Bool.and_eq_true] at e
    exact ⟨⟨u, h1, hS _ _ h2, VR.free hS (.bool x) u e.1 h3⟩, RowR.free hS es c _ e.2 h⟩
  | .int x y :: es, c, o, e, ⟨⟨u, h1, h2, h3⟩, h⟩ => by
    simp only [hfreeL, Bool.and_eq_true] at e
    exact ⟨⟨u, h1, hS _ _ h2, VR.free hS (.int x y) u e.1 h3⟩, RowR.free hS es c _ e.2 h⟩
  | .str x :: es, c, o, e, ⟨⟨u, h1, h2, h3⟩, h⟩ => by
    simp only [hfreeL, Bool.and_eq_true] at e
    exact ⟨⟨u, h1, hS _ _ h2, VR.free hS (.str x) u e.1 h3⟩, RowR.free hS es c _ e.2 h⟩
  | .nilptr :: es, c, o, e, ⟨⟨u, h1, h2, h3⟩, h⟩ => by
    simp only [hfreeL, Bool.and_eq_true] at e
    exact ⟨⟨u, h1, hS _ _ h2, VR.free hS .nilptr u e.1 h3⟩, RowR.free hS es c _ e.2 h⟩
  | .ptr x y :: es, c, o, e, ⟨⟨u, h1, h2, h3⟩, h⟩ => by
    simp only [hfreeL, Bool.and_eq_true] at e
    exact ⟨⟨u, h1, hS _ _ h2, VR.free hS (.ptr x y) u e.1 h3⟩, RowR.free hS es c _ e.2 h⟩
  | .vptr a b d f :: es, c, o, e, ⟨⟨u, h1, h2, h3⟩, h⟩ => by
    simp only [hfreeL, Bool.and_eq_true] at e
    exact ⟨⟨u, h1, hS _ _ h2, VR.free hS (.vptr a b d f) u e.1 h3⟩, RowR.free hS es c _ e.2 h⟩
  | .vs a b d :: es, c, o, e, ⟨⟨u, h1, h2, h3⟩, h⟩ => by
    simp only [hfreeL, Bool.and_eq_true] at e
    exact ⟨⟨u, h1, hS _ _ h2, VR.free hS (.vs a b d) u e.1 h3⟩, RowR.free hS es c _ e.2 h⟩
  | .hs a b d f :: es, c, o, e, ⟨⟨u, h1, h2, h3⟩, h⟩ => by
    simp only [hfreeL, Bool.and_eq_true] at e
    exact ⟨⟨u, h1, hS _ _ h2, VR.free hS (.hs a b d f) u e.1 h3⟩, RowR.free hS es c _ e.2 h⟩
  | .map r :: es, c, o, e, ⟨⟨u, h1, h2, h3⟩, h⟩ => by
    simp only [hfreeL, Bool.and_eq_true] at e
    exact ⟨⟨u, h1, hS _ _ h2, VR.free hS (.map r) u e.1 h3⟩, RowR.free hS es c _ e.2 h⟩
  | .fn f a b :: es, c, o, e, ⟨⟨u, h1, h2, h3⟩, h⟩ => by
    simp only [hfreeL, Bool.and_eq_true] at e
    exact ⟨⟨u, h1, hS _ _ h2, VR.free hS (.fn f a b) u e.1 h3⟩, RowR.free hS es c _ e.2 h⟩
  | .tup cs :: es, c, o, e, ⟨⟨u, h1, h2, h3⟩, h⟩ => by
    simp only [hfreeL, Bool.and_eq_true] at e
    exact ⟨⟨u, h1, hS _ _ h2, VR.free hS (.tup cs) u e.1 h3⟩, RowR.free hS es c _ e.2 h⟩
theorem CelR.free (hS : ∀ c o, G.S c o → G'.S c o) : ∀ (es : List AV) (c o : Nat), hfreeL es = true → CelR w G c o es → CelR w G' c o es
  | [], c, o, _, h => trivial
  | a :: es, c, o, e, ⟨⟨u, h1, h2, h3⟩, h⟩ => by
    simp only [hfreeL, Bool.and_eq_true] at e
    exact ⟨⟨u, h1, hS _ _ h2, VR.free hS a u e.1 h3⟩, CelR.free hS es c _ e.2 h⟩
end
end

/-- The ghost of a call that owns nothing yet. -/
def Gh.bare (G : Gh) (n : Nat) : Gh := { m := fun _ => none, g := fun _ => none, S := G.S, B := n }
/-- The ghost behind such a call. -/
def Gh.over (G : Gh) (G' : Gh) : Gh := { G with S := G'.S }

theorem Good.bare {T : Tab} {G : Gh} {h : Heap} {w : World} (hgl : ∀ g cs, T.gl g = some cs → hfreeL cs = true) (hg : Good T G h w) : Good T (G.bare w.heap.size) Heap.nil w where
  m b c hb := by cases hb
  inj b b' c hb := by cases hb
  g b i hb := by cases hb
  ginj b b' i i' hb := by cases hb
  mg b c b' i hb := by cases hb
  S := hg.S
  glob g cs hc := CelR.free (G := G) (G' := G.bare w.heap.size) (fun _ _ h => h) cs g 0 (hgl g cs hc) (hg.glob g cs hc)
  Bsz := Nat.le_refl _

/-- A call on an empty heap whose answer names no block. -/
def pureK (K : KA) : KA := fun f args h =>
  if hfreeL args then
    match K f args Heap.nil with
    | some (r, _) => if hfree (fg3 r) then some (fg3 r, h) else none
    | none => none
  else none

theorem pure_sound {P : Program} {gl : Nat → Option (List AV)} {K : KA} (hgl : ∀ g cs, gl g = some cs → hfreeL cs = true) (hK : CallSound P gl K) : CallSound P gl (pureK K) := by
  intro f args h r h' hk
  unfold pureK at hk
  split at hk
  · rename_i hargs
    split at hk
    · rename_i r0 h2 hk0
      split at hk
      · rename_i hr
        simp at hk
        obtain ⟨rfl, rfl⟩ := hk
        obtain ⟨hfn, hcall⟩ := hK _ _ _ _ _ hk0
        refine ⟨hfn, ?_⟩
        intro w G vals hg hv
        have hv0 : VRL w (G.bare w.heap.size) args vals := VRL.free (G := G) (G' := G.bare w.heap.size) (fun _ _ h => h) args vals hargs hv
        refine Calls.mono (hcall w _ vals (hg.bare (T := tabOf P gl) hgl) hv0) ?_
        rintro e w' ⟨v, G', rfl, hvr, hx⟩
        have hst := hx.step
        have hnew : ∀ c o, G'.S c o → G.S c o ∨ w.heap.size ≤ c := fun c o h => hst.snew c o h
        have hs : Step G w (G.over G') w' := by
          refine ⟨rfl, fun _ _ h => h, fun _ i h => ⟨i, h, .inl rfl⟩, fun c o h => hst.S c o h, fun c o h => hst.cell c o h, ?_, ?_⟩
          · exact Below.mono (B := w.heap.size) hst.below hg.Bsz
          · intro c o h
            exact (hnew c o h).imp id (fun h => Nat.le_trans hg.Bsz h)
        have hblk : ∀ c, c < w.heap.size → w'.heap[c]? = w.heap[c]? := fun c hc => hst.below.block c hc
        have hold : ∀ c, c < w.heap.size → ∀ o, G'.S c o → G.S c o := by
          intro c hc o h
          rcases hnew c o h with h | h
          · exact h
          · omega
        refine ⟨v, G.over G', rfl, ?_, ?_⟩
        · exact VR.free (G := G') (G' := G.over G') (fun _ _ h => h) _ v hr hvr.fg3
        · refine ⟨hg.next hs ?_ hg.inj ?_ hg.ginj hg.mg hx.good.S, hs, fun b _ h1 h2 => ⟨h1, h2, rfl⟩, Nat.le_refl _⟩
          · intro b c hb
            have hlt := (hg.m b c hb).2.lt
            exact .inl ⟨hb, rfl, hblk c hlt, hold c hlt⟩
          · intro b i hb
            obtain ⟨_, sz, _, hgr⟩ := hg.g b i hb
            have hlt := hgr.lt
            exact .inl ⟨hb, rfl, hblk i.c hlt, hold i.c hlt⟩
      · cases hk
    · cases hk
  · cases hk

/-- One answer, looked up. -/
def oneA (args : List AV) (r : AV) : List AV → Heap → Option (AV × Heap) := fun as h => if AV.beqL as args then some (r, h) else none

def ansB (o : Option (AV × Heap)) (r : AV) : Bool :=
  match o with
  | some (x, _) => AV.beq x r
  | none => false

theorem ansB_eq {o : Option (AV × Heap)} {r : AV} (h : ansB o r = true) : ∃ h', o = some (r, h') := by
  cases o with
  | none => simp [ansB] at h
  | some p =>
    obtain ⟨x, h'⟩ := p
    exact ⟨h', by rw [AV.beq_eq _ _ h]⟩

end Go.Proofs.YtfckkiebffmkfaaGreatDoor.AM
