/- Lemmas on the readings of abstract values: lists of cells, rows of elements. -/
import Derived.Test.YtfckkiebffmkfaaGreatDoorA3
namespace Go.Proofs.YtfckkiebffmkfaaGreatDoor.AM
open Go Go.RowKit
variable {w : World} {G : Gh}

theorem VRL.length : ∀ {as : List AV} {l : List Value}, VRL w G as l → l.length = as.length
  | [], l, h => by have : l = [] := h; simp [this]
  | a :: as, l, h => by
    obtain ⟨v, vs, rfl, _, h2⟩ := h
    simp [VRL.length h2]
theorem VRL.get : ∀ {as : List AV} {l : List Value}, VRL w G as l → ∀ {i : Nat} {a : AV}, as[i]? = some a → ∃ v, l[i]? = some v ∧ VR w G a v
  | [], l, h, i, a, ha => by simp at ha
  | x :: as, l, h, i, a, ha => by
    obtain ⟨v, vs, rfl, h1, h2⟩ := h
    cases i with
    | zero => simp at ha; subst ha; exact ⟨v, by simp, h1⟩
    | succ i => simp at ha; obtain ⟨u, hu, hr⟩ := VRL.get h2 ha; exact ⟨u, by simpa using hu, hr⟩
theorem VRL.of_get : ∀ {as : List AV} {l : List Value}, l.length = as.length → (∀ (i : Nat) (a : AV) (v : Value), as[i]? = some a → l[i]? = some v → VR w G a v) → VRL w G as l
  | [], l, h, _ => by simp at h; exact h
  | a :: as, [], h, _ => by simp at h
  | a :: as, v :: l, h, k => ⟨v, l, rfl, k 0 a v rfl rfl, VRL.of_get (by simpa using h) fun i a' v' h1 h2 => k (i + 1) a' v' (by simpa using h1) (by simpa using h2)⟩
theorem VRL.append : ∀ {as bs : List AV} {l m : List Value}, VRL w G as l → VRL w G bs m → VRL w G (as ++ bs) (l ++ m)
  | [], bs, l, m, h, k => by have : l = [] := h; subst this; exact k
  | a :: as, bs, l, m, h, k => by
    obtain ⟨v, vs, rfl, h1, h2⟩ := h
    exact ⟨v, vs ++ m, rfl, h1, VRL.append h2 k⟩
theorem VRL.split : ∀ {as bs : List AV} {l : List Value}, VRL w G (as ++ bs) l → ∃ l1 l2, l = l1 ++ l2 ∧ VRL w G as l1 ∧ VRL w G bs l2
  | [], bs, l, h => ⟨[], l, rfl, rfl, h⟩
  | a :: as, bs, l, h => by
    obtain ⟨v, vs, rfl, h1, h2⟩ := h
    obtain ⟨l1, l2, rfl, h3, h4⟩ := VRL.split h2
    exact ⟨v :: l1, l2, rfl, ⟨v, l1, rfl, h1, h3⟩, h4⟩
theorem VRL.set {as : List AV} {l : List Value} (h : VRL w G as l) (i : Nat) {a : AV} {v : Value} (hv : VR w G a v) : VRL w G (as.set i a) (l.set i v) := by
  refine VRL.of_get (by simp [h.length]) fun j b u hb hu => ?_
  rw [List.getElem?_set] at hb hu
  by_cases e : i = j
  · subst e
    simp only [if_true] at hb hu
    split at hb <;> split at hu <;> simp_all
  · simp only [if_neg e] at hb hu
    obtain ⟨v', hv', hr⟩ := h.get hb
    rw [hv'] at hu
    simp at hu
    exact hu ▸ hr
theorem VRL.drop {as : List AV} {l : List Value} (h : VRL w G as l) (n : Nat) : VRL w G (as.drop n) (l.drop n) := by
  refine VRL.of_get (by simp [h.length]) fun j b u hb hu => ?_
  rw [List.getElem?_drop] at hb hu
  obtain ⟨v', hv', hr⟩ := h.get hb
  rw [hv'] at hu
  simp at hu
  exact hu ▸ hr
theorem VRL.take {as : List AV} {l : List Value} (h : VRL w G as l) (n : Nat) : VRL w G (as.take n) (l.take n) := by
  refine VRL.of_get (by simp [h.length]) fun j b u hb hu => ?_
  rw [List.getElem?_take] at hb hu
  split at hb
  · rename_i hj
    rw [if_pos hj] at hu
    obtain ⟨v', hv', hr⟩ := h.get hb
    rw [hv'] at hu
    simp at hu
    exact hu ▸ hr
  · simp at hb
theorem VRL.map {f : AV → AV} (hf : ∀ a v, VR w G a v → VR w G (f a) v) : ∀ {as : List AV} {l : List Value}, VRL w G as l → VRL w G (as.map f) l
  | [], l, h => h
  | a :: as, l, h => by
    obtain ⟨v, vs, rfl, h1, h2⟩ := h
    exact ⟨v, vs, rfl, hf _ _ h1, VRL.map hf h2⟩
theorem VRL.replicate (n : Nat) {a : AV} {v : Value} (h : VR w G a v) : VRL w G (List.replicate n a) (List.replicate n v) := by
  induction n with
  | zero => rfl
  | succ n ih => exact ⟨v, _, rfl, h, ih⟩

theorem CelR.iff : ∀ {cs : List AV} {c o : Nat}, CelR w G c o cs ↔ ∀ k a, cs[k]? = some a → ∃ u, w.cell? ⟨c, o + k, none⟩ = some u ∧ G.S c (o + k) ∧ VR w G a u
  | [], c, o => by simp [CelR]
  | e :: es, c, o => by
    constructor
    · rintro ⟨⟨u, h1, h2, h3⟩, h⟩ k a ha
      cases k with
      | zero => simp at ha; subst ha; exact ⟨u, by simpa using h1, by simpa using h2, h3⟩
      | succ k =>
        have := CelR.iff.1 h k a (by simpa using ha)
        rwa [show o + 1 + k = o + (k + 1) from by omega] at this
    · intro h
      refine ⟨by simpa using h 0 e rfl, CelR.iff.2 fun k a ha => ?_⟩
      have := h (k + 1) a (by simpa using ha)
      rwa [show o + 1 + k = o + (k + 1) from by omega]
theorem CelR.append {cs ds : List AV} {c o : Nat} : CelR w G c o (cs ++ ds) ↔ CelR w G c o cs ∧ CelR w G c (o + cs.length) ds := by
  induction cs generalizing o with
  | nil => simp [CelR]
  | cons e es ih =>
    simp only [List.cons_append, CelR, ih, List.length_cons, and_assoc]
    rw [show o + 1 + es.length = o + (es.length + 1) from by omega]
theorem RowR.iff : ∀ {es : List AV} {c o : Nat}, RowR w G c o es ↔ CelR w G c o (es.flatMap cellsOf)
  | [], c, o => by simp [RowR, CelR]
  | .agg cs :: es, c, o => by
    simp only [RowR, List.flatMap_cons, cellsOf, CelR.append, RowR.iff]
  | .undef :: es, c, o => by simp only [RowR, List.flatMap_cons, cellsOf, List.cons_append, List.nil_append, CelR, RowR.iff]
  | .bool _ :: es, c, o => by simp only [RowR, List.flatMap_cons, cellsOf, List.cons_append, List.nil_append, CelR, RowR.iff]
  | .int _ _ :: es, c, o => by simp only [RowR, List.flatMap_cons, cellsOf, List.cons_append, List.nil_append, CelR, RowR.iff]
  | .str _ :: es, c, o => by simp only [RowR, List.flatMap_cons, cellsOf, List.cons_append, List.nil_append, CelR, RowR.iff]
  | .nilptr :: es, c, o => by simp only [RowR, List.flatMap_cons, cellsOf, List.cons_append, List.nil_append, CelR, RowR.iff]
  | .ptr _ _ :: es, c, o => by simp only [RowR, List.flatMap_cons, cellsOf, List.cons_append, List.nil_append, CelR, RowR.iff]
  | .vptr _ _ _ _ :: es, c, o => by simp only [RowR, List.flatMap_cons, cellsOf, List.cons_append, List.nil_append, CelR, RowR.iff]
  | .vs _ _ _ :: es, c, o => by simp only [RowR, List.flatMap_cons, cellsOf, List.cons_append, List.nil_append, CelR, RowR.iff]
  | .hs _ _ _ _ :: es, c, o => by simp only [RowR, List.flatMap_cons, cellsOf, List.cons_append, List.nil_append, CelR, RowR.iff]
  | .map _ :: es, c, o => by simp only [RowR, List.flatMap_cons, cellsOf, List.cons_append, List.nil_append, CelR, RowR.iff]
  | .fn _ _ _ :: es, c, o => by simp only [RowR, List.flatMap_cons, cellsOf, List.cons_append, List.nil_append, CelR, RowR.iff]
  | .tup _ :: es, c, o => by simp only [RowR, List.flatMap_cons, cellsOf, List.cons_append, List.nil_append, CelR, RowR.iff]

theorem CelR.drop {cs : List AV} {c o : Nat} (h : CelR w G c o cs) (n : Nat) : CelR w G c (o + n) (cs.drop n) := by
  rw [CelR.iff] at h ⊢
  intro k a ha
  rw [List.getElem?_drop] at ha
  have := h _ _ ha
  rwa [← Nat.add_assoc] at this
theorem CelR.take {cs : List AV} {c o : Nat} (h : CelR w G c o cs) (n : Nat) : CelR w G c o (cs.take n) := by
  rw [CelR.iff] at h ⊢
  intro k a ha
  rw [List.getElem?_take] at ha
  split at ha
  · exact h _ _ ha
  · simp at ha

theorem Uni.tail {sz : Nat} {e : AV} {es : List AV} (h : Uni sz (e :: es)) : (cellsOf e).length = sz ∧ Uni sz es :=
  ⟨h e (by simp), fun x hx => h x (by simp [hx])⟩
theorem flat_length {sz : Nat} : ∀ {es : List AV}, Uni sz es → (es.flatMap cellsOf).length = es.length * sz
  | [], _ => by simp
  | e :: es, h => by
    have := flat_length (Uni.tail h).2
    simp only [List.flatMap_cons, List.length_append, this, (Uni.tail h).1, List.length_cons, Nat.add_mul, Nat.one_mul]
    omega
theorem flat_drop {sz : Nat} : ∀ (n : Nat) {es : List AV}, Uni sz es → (es.drop n).flatMap cellsOf = (es.flatMap cellsOf).drop (n * sz)
  | 0, es, h => by simp
  | n + 1, [], h => by simp
  | n + 1, e :: es, h => by
    have ih := flat_drop n (Uni.tail h).2
    have e1 := (Uni.tail h).1
    have e2 : (n + 1) * sz = (cellsOf e).length + n * sz := by rw [e1, Nat.add_mul]; omega
    rw [List.drop_succ_cons, ih, List.flatMap_cons, e2, List.drop_append, List.drop_eq_nil_of_le (show (cellsOf e).length ≤ (cellsOf e).length + n * sz from by omega)]
    simp
theorem Uni.drop {sz : Nat} {es : List AV} (h : Uni sz es) (n : Nat) : Uni sz (es.drop n) := fun e he => h e (List.mem_of_mem_drop he)
theorem Uni.take {sz : Nat} {es : List AV} (h : Uni sz es) (n : Nat) : Uni sz (es.take n) := fun e he => h e (List.mem_of_mem_take he)
theorem Uni.append {sz : Nat} {es fs : List AV} (h : Uni sz es) (k : Uni sz fs) : Uni sz (es ++ fs) := fun e he => by
  rcases List.mem_append.1 he with he | he
  · exact h e he
  · exact k e he
theorem flat_take {sz : Nat} : ∀ (n : Nat) {es : List AV}, Uni sz es → (es.take n).flatMap cellsOf = (es.flatMap cellsOf).take (n * sz)
  | 0, es, h => by simp
  | n + 1, [], h => by simp
  | n + 1, e :: es, h => by
    have ih := flat_take n (Uni.tail h).2
    have e1 := (Uni.tail h).1
    have e2 : (n + 1) * sz = (cellsOf e).length + n * sz := by rw [e1, Nat.add_mul]; omega
    rw [List.take_succ_cons, List.flatMap_cons, List.flatMap_cons, ih, e2, List.take_append, List.take_of_length_le (show (cellsOf e).length ≤ (cellsOf e).length + n * sz from by omega)]
    simp

theorem RowR.get {sz : Nat} {es : List AV} {c o : Nat} (h : RowR w G c o es) (hu : Uni sz es) {i : Nat} {e : AV} (he : es[i]? = some e) : CelR w G c (o + i * sz) (cellsOf e) := by
  have h1 := (RowR.iff.1 h).drop (i * sz)
  rw [← flat_drop i hu] at h1
  have hd : es.drop i = e :: es.drop (i + 1) := by
    obtain ⟨hl, rfl⟩ := List.getElem?_eq_some_iff.1 he
    rw [List.drop_eq_getElem_cons hl]
  rw [hd, List.flatMap_cons, CelR.append] at h1
  exact h1.1
theorem RowR.drop {sz : Nat} {es : List AV} {c o : Nat} (h : RowR w G c o es) (hu : Uni sz es) (n : Nat) : RowR w G c (o + n * sz) (es.drop n) := by
  rw [RowR.iff, flat_drop n hu]
  exact (RowR.iff.1 h).drop _
theorem RowR.take {sz : Nat} {es : List AV} {c o : Nat} (h : RowR w G c o es) (hu : Uni sz es) (n : Nat) : RowR w G c o (es.take n) := by
  rw [RowR.iff, flat_take n hu]
  exact (RowR.iff.1 h).take _

/-- Cells that are read, as a list of values. -/
theorem CelR.vals {cs : List AV} {c o : Nat} (h : CelR w G c o cs) : ∃ l, VRL w G cs l ∧ ∀ j v, l[j]? = some v → w.cell? ⟨c, o + j, none⟩ = some v := by
  induction cs generalizing o with
  | nil => exact ⟨[], rfl, by simp⟩
  | cons e es ih =>
    obtain ⟨⟨u, h1, h2, h3⟩, h⟩ := h
    obtain ⟨l, hl, hc⟩ := ih h
    refine ⟨u :: l, ⟨u, l, rfl, h3, hl⟩, fun j v hv => ?_⟩
    cases j with
    | zero => simp at hv; subst hv; simpa using h1
    | succ j =>
      have := hc j v (by simpa using hv)
      rwa [show o + 1 + j = o + (j + 1) from by omega] at this

theorem VR.cells {a : AV} {v : Value} (h : VR w G a v) : VRL w G (cellsOf a) v.cells.toList := by
  cases a <;> first
    | (obtain ⟨l, rfl, hl⟩ := h; simpa [cellsOf, Value.cells] using hl)
    | (simp only [VR] at h; subst h; exact ⟨_, _, by simp [cellsOf, Value.cells, undef], rfl, rfl⟩)
    | skip
  case ptr b o => have hh := h; obtain ⟨c, _, rfl⟩ := h; exact ⟨_, _, by simp [Value.cells], hh, rfl⟩
  case vptr => have hh := h; obtain ⟨_, c, o, _, rfl⟩ := h; exact ⟨_, _, by simp [Value.cells], hh, rfl⟩
  case vs => have hh := h; obtain ⟨_, a, cap, rfl, _⟩ := h; exact ⟨_, _, by simp [Value.cells], hh, rfl⟩
  case hs => have hh := h; obtain ⟨c, cap, _, rfl, _⟩ := h; exact ⟨_, _, by simp [Value.cells], hh, rfl⟩
  case map r =>
    cases r with
    | none => simp only [VR] at h; subst h; exact ⟨_, _, by simp [Value.cells], rfl, rfl⟩
    | some r => have hh := h; obtain ⟨c, _, rfl⟩ := h; exact ⟨_, _, by simp [Value.cells], hh, rfl⟩
  case fn => have hh := h; obtain ⟨la, lb, rfl, _⟩ := h; exact ⟨_, _, by simp [Value.cells], hh, rfl⟩
  case tup => have hh := h; obtain ⟨l, rfl, _⟩ := h; exact ⟨_, _, by simp [Value.cells], hh, rfl⟩

theorem isC_one {a : AV} {v : Value} (h : VR w G a v) (ha : isC a = true) : v.oneCell' = true := by
  cases a <;> simp [isC] at ha <;> first
    | (simp only [VR] at h; subst h; rfl)
    | skip
  case ptr b o => obtain ⟨c, _, rfl⟩ := h; rfl
  case vptr => obtain ⟨_, c, o, _, rfl⟩ := h; rfl
  case vs => obtain ⟨_, a, cap, rfl, _⟩ := h; rfl
  case hs => obtain ⟨c, cap, _, rfl, _⟩ := h; rfl
  case map r =>
    cases r with
    | none => simp only [VR] at h; subst h; rfl
    | some r => obtain ⟨c, _, rfl⟩ := h; rfl
  case fn => obtain ⟨la, lb, rfl, _⟩ := h; rfl
theorem isC_all : ∀ {as : List AV} {l : List Value}, VRL w G as l → as.all isC = true → ∀ v ∈ l, v.oneCell' = true
  | [], l, h, _, v, hv => by have : l = [] := h; subst this; simp at hv
  | a :: as, l, h, ha, v, hv => by
    obtain ⟨u, vs, rfl, h1, h2⟩ := h
    simp at ha
    rcases List.mem_cons.1 hv with rfl | hv
    · exact isC_one h1 ha.1
    · exact isC_all h2 (by simpa using ha.2) v hv

theorem VR.fg1 {a : AV} {v : Value} (h : VR w G a v) : VR w G (fg1 a) v := by
  cases a <;> first
    | exact h
    | skip
  case vs sz els own =>
    obtain ⟨hu, a, cap, hv, hl, _, hr⟩ := h
    exact ⟨hu, a, cap, hv, hl, trivial, hr⟩
theorem VR.fg2 {a : AV} {v : Value} (h : VR w G a v) : VR w G (fg2 a) v := by
  cases a <;> first
    | exact h
    | exact VR.fg1 h
    | skip
  case agg cs =>
    obtain ⟨l, hv, hl⟩ := h
    exact ⟨l, hv, hl.map fun a v => VR.fg1⟩
theorem VR.fg3 {a : AV} {v : Value} (h : VR w G a v) : VR w G (fg3 a) v := by
  cases a <;> first
    | exact h
    | exact VR.fg2 h
    | skip
  case tup cs =>
    obtain ⟨l, hv, hl⟩ := h
    exact ⟨l, hv, hl.map fun a v => VR.fg2⟩
theorem cells_fg2 (a : AV) : (cellsOf (fg2 a)) = (cellsOf a).map fg1 := by cases a <;> rfl
theorem isC_fg1 (a : AV) : isC (fg1 a) = isC a := by cases a <;> rfl

/-- Constants. -/
theorem ofC_VR {v : Value} {a : AV} (h : ofC v = some a) : VR w G a v := by
  unfold ofC at h
  split at h <;> simp at h <;> subst h <;> try rfl
  · exact ⟨fun e he => by simp at he, none, 0, rfl, by simp, ⟨rfl, fun ad had => by simp at had⟩, fun hne => absurd rfl hne⟩
theorem ofCs_VRL : ∀ {l : List Value} {as : List AV}, ofCs l = some as → VRL w G as l
  | [], as, h => by simp [ofCs] at h; subst h; rfl
  | v :: l, as, h => by
    simp only [ofCs] at h
    split at h
    · rename_i a bs h1 h2
      simp at h; subst h
      exact ⟨v, l, rfl, ofC_VR h1, ofCs_VRL h2⟩
    · simp at h
theorem ofV_VR {v : Value} {a : AV} (h : ofV v = some a) : VR w G a v := by
  unfold ofV at h
  split at h
  · rename_i cs
    cases hc : ofCs cs.toList with
    | none => simp [hc] at h
    | some as => simp [hc] at h; subst h; exact ⟨cs.toList, rfl, ofCs_VRL hc⟩
  · exact ofC_VR h

end Go.Proofs.YtfckkiebffmkfaaGreatDoor.AM
