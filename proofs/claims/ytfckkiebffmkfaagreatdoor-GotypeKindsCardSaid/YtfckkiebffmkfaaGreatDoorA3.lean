/- How abstract values and the abstract heap stand to the machine's memory, and what a step keeps. -/
import Derived.Below
import Derived.Laws.CopyRow
import Derived.Test.YtfckkiebffmkfaaGreatDoorA2
namespace Go.Proofs.YtfckkiebffmkfaaGreatDoor.AM
open Go Go.RowKit

structure GInfo where
  c : Nat
  cap : Nat
  len : Nat

/-- Where the abstract blocks lie; which cells never change; from which block on the call's own memory lies. -/
structure Gh where
  m : Nat → Option Nat
  g : Nat → Option GInfo
  S : Nat → Nat → Prop
  B : Nat

def Uni (sz : Nat) (els : List AV) : Prop := ∀ e ∈ els, (cellsOf e).length = sz

def OwnR (G : Gh) (n : Nat) (a : Option Addr) (cap : Nat) : Own → Prop
  | .any => True
  | .full => cap = n ∧ ∀ ad, a = some ad → n = 0 ∨ G.B ≤ ad.block
  | .grow b => ∃ i, G.g b = some i ∧ n ≤ i.len ∧ (n = i.len → a = some ⟨i.c, 0, none⟩ ∧ cap = i.cap)

mutual
def VR (w : World) (G : Gh) : AV → Value → Prop
  | .undef, v => v = undef
  | .bool b, v => v = .bool b
  | .int k n, v => v = .int k n
  | .str s, v => v = .string ⟨s.toArray⟩
  | .nilptr, v => v = .pointer none
  | .ptr b off, v => ∃ c, G.m b = some c ∧ v = .pointer (some ⟨c, off, none⟩)
  | .vptr sz els i off, v => Uni sz els ∧ ∃ c o, RowR w G c o els ∧ v = .pointer (some ⟨c, o + i * sz + off, none⟩)
  | .vs sz els own, v => Uni sz els ∧ ∃ a cap, v = .slice a els.length cap ∧ els.length ≤ cap ∧ OwnR G els.length a cap own ∧
      (els ≠ [] → ∃ c o, a = some ⟨c, o, none⟩ ∧ RowR w G c o els)
  | .hs _ b off len, v => ∃ c cap, G.m b = some c ∧ v = .slice (some ⟨c, off, none⟩) len cap ∧ len ≤ cap
  | .map none, v => v = .map none
  | .map (some r), v => ∃ c, G.m r = some c ∧ v = .map (some c)
  | .fn f a b, v => ∃ la lb : List Value, v = .func (.func f) la.toArray lb.toArray ∧ VRL w G a la ∧ VRL w G b lb
  | .agg cs, v => ∃ l : List Value, v = .agg l.toArray ∧ VRL w G cs l
  | .tup vs, v => ∃ l : List Value, v = .tuple l.toArray ∧ VRL w G vs l
def VRL (w : World) (G : Gh) : List AV → List Value → Prop
  | [], l => l = []
  | a :: as, l => ∃ v vs, l = v :: vs ∧ VR w G a v ∧ VRL w G as vs
def RowR (w : World) (G : Gh) (c o : Nat) : List AV → Prop
  | [] => True
  | .agg cs :: es => CelR w G c o cs ∧ RowR w G c (o + cs.length) es
  | e :: es => (∃ u, w.cell? ⟨c, o, none⟩ = some u ∧ G.S c o ∧ VR w G e u) ∧ RowR w G c (o + 1) es
def CelR (w : World) (G : Gh) (c o : Nat) : List AV → Prop
  | [] => True
  | e :: es => (∃ u, w.cell? ⟨c, o, none⟩ = some u ∧ G.S c o ∧ VR w G e u) ∧ CelR w G c (o + 1) es
end

/-- What a step of the machine keeps. -/
structure Step (G : Gh) (w : World) (G' : Gh) (w' : World) : Prop where
  B : G'.B = G.B
  m : ∀ b c, G.m b = some c → G'.m b = some c
  g : ∀ b i, G.g b = some i → ∃ i', G'.g b = some i' ∧ (i' = i ∨ i.len < i'.len)
  S : ∀ c o, G.S c o → G'.S c o
  cell : ∀ c o, G.S c o → w'.cell? ⟨c, o, none⟩ = w.cell? ⟨c, o, none⟩
  below : Below G.B w w'
  snew : ∀ c o, G'.S c o → G.S c o ∨ G.B ≤ c

theorem Step.refl (G : Gh) (w : World) : Step G w G w :=
  ⟨rfl, fun _ _ h => h, fun _ i h => ⟨i, h, .inl rfl⟩, fun _ _ h => h, fun _ _ _ => rfl, Below.refl _ _, fun _ _ h => .inl h⟩

theorem Step.trans {G G1 G2 : Gh} {w w1 w2 : World} (h : Step G w G1 w1) (k : Step G1 w1 G2 w2) : Step G w G2 w2 where
  B := k.B.trans h.B
  m b c hb := k.m b c (h.m b c hb)
  g b i hb := by
    obtain ⟨i1, h1, e1⟩ := h.g b i hb
    obtain ⟨i2, h2, e2⟩ := k.g b i1 h1
    refine ⟨i2, h2, ?_⟩
    rcases e1 with rfl | e1
    · exact e2
    · rcases e2 with rfl | e2
      · exact .inr e1
      · exact .inr (by omega)
  S c o hs := k.S c o (h.S c o hs)
  cell c o hs := (k.cell c o (h.S c o hs)).trans (h.cell c o hs)
  below := h.below.trans (by have := k.below; rwa [h.B] at this)
  snew c o hs := (k.snew c o hs).elim (fun h1 => h.snew c o h1) (fun h1 => .inr (by rw [h.B] at h1; exact h1))

theorem OwnR.mono {G G' : Gh} {w w' : World} (hs : Step G w G' w') {n : Nat} {a : Option Addr} {cap : Nat} : ∀ {o : Own}, OwnR G n a cap o → OwnR G' n a cap o
  | .any, _ => trivial
  | .full, h => ⟨h.1, fun ad had => by rw [hs.B]; exact h.2 ad had⟩
  | .grow b, ⟨i, hi, hn, he⟩ => by
    obtain ⟨i', hi', e⟩ := hs.g b i hi
    refine ⟨i', hi', ?_, ?_⟩
    · rcases e with rfl | e
      · exact hn
      · omega
    · intro hl
      rcases e with rfl | e
      · exact he hl
      · omega

mutual
theorem VR.mono {G G' : Gh} {w w' : World} (hs : Step G w G' w') : ∀ (a : AV) (v : Value), VR w G a v → VR w' G' a v
  | .undef, v, h => h
  | .bool _, v, h => h
  | .int _ _, v, h => h
  | .str _, v, h => h
  | .nilptr, v, h => h
  | .ptr b off, v, h => by obtain ⟨c, hc, hv⟩ := h; exact ⟨c, hs.m _ _ hc, hv⟩
  | .vptr sz els i off, v, h => by
    obtain ⟨hu, c, o, hr, hv⟩ := h
    exact ⟨hu, c, o, RowR.mono hs els c o hr, hv⟩
  | .vs sz els own, v, h => by
    obtain ⟨hu, a, cap, hv, hl, ho, hr⟩ := h
    refine ⟨hu, a, cap, hv, hl, OwnR.mono hs ho, fun hne => ?_⟩
    obtain ⟨c, o, ha, hr⟩ := hr hne
    exact ⟨c, o, ha, RowR.mono hs els c o hr⟩
  | .hs _ b off len, v, h => by obtain ⟨c, cap, hc, hv⟩ := h; exact ⟨c, cap, hs.m _ _ hc, hv⟩
  | .map none, v, h => h
  | .map (some r), v, h => by obtain ⟨c, hc, hv⟩ := h; exact ⟨c, hs.m _ _ hc, hv⟩
  | .fn f a b, v, h => by
    obtain ⟨la, lb, hv, ha, hb⟩ := h
    exact ⟨la, lb, hv, VRL.mono hs a la ha, VRL.mono hs b lb hb⟩
  | .agg cs, v, h => by
    obtain ⟨l, hv, ha⟩ := h
    exact ⟨l, hv, VRL.mono hs cs l ha⟩
  | .tup cs, v, h => by
    obtain ⟨l, hv, ha⟩ := h
    exact ⟨l, hv, VRL.mono hs cs l ha⟩
theorem VRL.mono {G G' : Gh} {w w' : World} (hs : Step G w G' w') : ∀ (as : List AV) (l : List Value), VRL w G as l → VRL w' G' as l
  | [], l, h => h
  | a :: as, l, h => by
    obtain ⟨v, vs, rfl, h1, h2⟩ := h
    exact ⟨v, vs, rfl, VR.mono hs a v h1, VRL.mono hs as vs h2⟩
theorem RowR.mono {G G' : Gh} {w w' : World} (hs : Step G w G' w') : ∀ (es : List AV) (c o : Nat), RowR w G c o es → RowR w' G' c o es
  | [], c, o, h => trivial
  | .agg cs :: es, c, o, h => ⟨CelR.mono hs cs c o h.1, RowR.mono hs es c _ h.2⟩
  | .undef :: es, c, o, ⟨⟨u, h1, h2, h3⟩, h⟩ => ⟨⟨u, (hs.cell _ _ h2).trans h1, hs.S _ _ h2, VR.mono hs _ u h3⟩, RowR.mono hs es c _ h⟩
  | .bool _ :: es, c, o, ⟨⟨u, h1, h2, h3⟩, h⟩ => ⟨⟨u, (hs.cell _ _ h2).trans h1, hs.S _ _ h2, VR.mono hs _ u h3⟩, RowR.mono hs es c _ h⟩
  | .int _ _ :: es, c, o, ⟨⟨u, h1, h2, h3⟩, h⟩ => ⟨⟨u, (hs.cell _ _ h2).trans h1, hs.S _ _ h2, VR.mono hs _ u h3⟩, RowR.mono hs es c _ h⟩
  | .str _ :: es, c, o, ⟨⟨u, h1, h2, h3⟩, h⟩ => ⟨⟨u, (hs.cell _ _ h2).trans h1, hs.S _ _ h2, VR.mono hs _ u h3⟩, RowR.mono hs es c _ h⟩
  | .nilptr :: es, c, o, ⟨⟨u, h1, h2, h3⟩, h⟩ => ⟨⟨u, (hs.cell _ _ h2).trans h1, hs.S _ _ h2, VR.mono hs _ u h3⟩, RowR.mono hs es c _ h⟩
  | .ptr _ _ :: es, c, o, ⟨⟨u, h1, h2, h3⟩, h⟩ => ⟨⟨u, (hs.cell _ _ h2).trans h1, hs.S _ _ h2, VR.mono hs _ u h3⟩, RowR.mono hs es c _ h⟩
  | .vptr a b d e :: es, c, o, ⟨⟨u, h1, h2, h3⟩, h⟩ => ⟨⟨u, (hs.cell _ _ h2).trans h1, hs.S _ _ h2, VR.mono hs (.vptr a b d e) u h3⟩, RowR.mono hs es c _ h⟩
  | .vs a b d :: es, c, o, ⟨⟨u, h1, h2, h3⟩, h⟩ => ⟨⟨u, (hs.cell _ _ h2).trans h1, hs.S _ _ h2, VR.mono hs (.vs a b d) u h3⟩, RowR.mono hs es c _ h⟩
  | .hs _ _ _ _ :: es, c, o, ⟨⟨u, h1, h2, h3⟩, h⟩ => ⟨⟨u, (hs.cell _ _ h2).trans h1, hs.S _ _ h2, VR.mono hs _ u h3⟩, RowR.mono hs es c _ h⟩
  | .map r :: es, c, o, ⟨⟨u, h1, h2, h3⟩, h⟩ => ⟨⟨u, (hs.cell _ _ h2).trans h1, hs.S _ _ h2, VR.mono hs (.map r) u h3⟩, RowR.mono hs es c _ h⟩
  | .fn f a b :: es, c, o, ⟨⟨u, h1, h2, h3⟩, h⟩ => ⟨⟨u, (hs.cell _ _ h2).trans h1, hs.S _ _ h2, VR.mono hs (.fn f a b) u h3⟩, RowR.mono hs es c _ h⟩
  | .tup cs :: es, c, o, ⟨⟨u, h1, h2, h3⟩, h⟩ => ⟨⟨u, (hs.cell _ _ h2).trans h1, hs.S _ _ h2, VR.mono hs (.tup cs) u h3⟩, RowR.mono hs es c _ h⟩
theorem CelR.mono {G G' : Gh} {w w' : World} (hs : Step G w G' w') : ∀ (es : List AV) (c o : Nat), CelR w G c o es → CelR w' G' c o es
  | [], c, o, h => trivial
  | e :: es, c, o, ⟨⟨u, h1, h2, h3⟩, h⟩ => ⟨⟨u, (hs.cell _ _ h2).trans h1, hs.S _ _ h2, VR.mono hs e u h3⟩, CelR.mono hs es c _ h⟩
end

end Go.Proofs.YtfckkiebffmkfaaGreatDoor.AM
