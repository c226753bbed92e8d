/- The relation between the abstract heap and the machine's memory, and what each way of changing memory does to it. -/
import Derived.Test.YtfckkiebffmkfaaGreatDoorA4
namespace Go.Proofs.YtfckkiebffmkfaaGreatDoor.AM
open Go Go.RowKit

/-- No cell of a block is frozen. -/
def FrOk (n : Nat) (fr : Nat × Nat) : Prop := fr.1 = fr.2 ∨ n ≤ fr.1

def MapR (w : World) (G : Gh) : List (List UInt8 × AV) → List MapEntry → Prop
  | [], l => l = []
  | (k, v) :: es, l => ∃ e en, l = e :: en ∧ e.key = .string ⟨k.toArray⟩ ∧ VR w G v e.val ∧ MapR w G es en

def BlkR (w : World) (G : Gh) : Option ABlk → Nat → Prop
  | some (.cells cs), c => (∀ o, ¬ G.S c o) ∧ ∃ (arr : Array Value) (ty : TypeId) (fr : Nat × Nat) (l rest : List Value), w.heap[c]? = some (.cells arr ty fr) ∧ FrOk arr.size fr ∧ arr.toList = l ++ rest ∧ VRL w G cs l
  | some (.map es), c => ∃ en ck, w.heap[c]? = some (.map en ck) ∧ MapR w G es en.toList
  | some .dead, c => c < w.heap.size
  | _, _ => False

def GrowR (w : World) (G : Gh) (sz : Nat) (i : GInfo) : Prop :=
  ∃ (arr : Array Value) (ty : TypeId) (fr : Nat × Nat), w.heap[i.c]? = some (.cells arr ty fr) ∧ FrOk arr.size fr ∧ arr.size = i.cap * sz ∧ i.len ≤ i.cap ∧ ∀ o, i.len * sz ≤ o → ¬ G.S i.c o

structure Good (T : Tab) (G : Gh) (h : Heap) (w : World) : Prop where
  m : ∀ b c, G.m b = some c → G.B ≤ c ∧ BlkR w G (h.get b) c
  inj : ∀ b b' c, G.m b = some c → G.m b' = some c → b = b'
  g : ∀ b i, G.g b = some i → G.B ≤ i.c ∧ ∃ sz, h.get b = some (.grow sz i.len) ∧ GrowR w G sz i
  ginj : ∀ b b' i i', G.g b = some i → G.g b' = some i' → i.c = i'.c → b = b'
  mg : ∀ b c b' i, G.m b = some c → G.g b' = some i → c ≠ i.c
  S : ∀ c o, G.S c o → c < w.heap.size
  glob : ∀ g cs, T.gl g = some cs → CelR w G g 0 cs
  Bsz : G.B ≤ w.heap.size

theorem MapR.mono {G G' : Gh} {w w' : World} (hs : Step G w G' w') : ∀ {es : List (List UInt8 × AV)} {l : List MapEntry}, MapR w G es l → MapR w' G' es l
  | [], l, h => h
  | (k, v) :: es, l, h => by
    obtain ⟨e, en, rfl, h1, h2, h3⟩ := h
    exact ⟨e, en, rfl, h1, h2.mono hs, MapR.mono hs h3⟩

theorem BlkR.lt {w : World} {G : Gh} {x : Option ABlk} {c : Nat} (h : BlkR w G x c) : c < w.heap.size := by
  cases x with
  | none => exact h.elim
  | some x =>
    cases x with
    | cells cs => obtain ⟨_, arr, ty, fr, l, rest, hb, _⟩ := h; exact (Array.getElem?_eq_some_iff.1 hb).1
    | map es => obtain ⟨en, ck, hb, _⟩ := h; exact (Array.getElem?_eq_some_iff.1 hb).1
    | grow a b => exact h.elim
    | dead => exact h
theorem GrowR.lt {w : World} {G : Gh} {sz : Nat} {i : GInfo} (h : GrowR w G sz i) : i.c < w.heap.size := by
  obtain ⟨arr, ty, fr, hb, _⟩ := h; exact (Array.getElem?_eq_some_iff.1 hb).1

theorem BlkR.mono {G G' : Gh} {w w' : World} (hs : Step G w G' w') {x : Option ABlk} {c : Nat} (h : BlkR w G x c) (hb : w'.heap[c]? = w.heap[c]?) (hS : ∀ o, G'.S c o → G.S c o) : BlkR w' G' x c := by
  have hlt := h.lt
  cases x with
  | none => exact h.elim
  | some x =>
    cases x with
    | cells cs =>
      obtain ⟨h0, arr, ty, fr, l, rest, h1, h2, h3, h4⟩ := h
      exact ⟨fun o ho => h0 o (hS o ho), arr, ty, fr, l, rest, hb.trans h1, h2, h3, h4.mono hs⟩
    | map es => obtain ⟨en, ck, h1, h2⟩ := h; exact ⟨en, ck, hb.trans h1, h2.mono hs⟩
    | grow a b => exact h.elim
    | dead => exact Nat.lt_of_lt_of_le hlt hs.below.size
theorem GrowR.mono {G G' : Gh} {w w' : World} {sz : Nat} {i : GInfo} (h : GrowR w G sz i) (hb : w'.heap[i.c]? = w.heap[i.c]?) (hS : ∀ o, G'.S i.c o → G.S i.c o) : GrowR w' G' sz i := by
  obtain ⟨arr, ty, fr, h1, h2, h3, h4, h5⟩ := h
  exact ⟨arr, ty, fr, hb.trans h1, h2, h3, h4, fun o ho hso => h5 o ho (hS o hso)⟩

/-- A step of the machine beside the abstract heap's. -/
structure Nx (T : Tab) (G : Gh) (h : Heap) (w : World) (G' : Gh) (h' : Heap) (w' : World) : Prop where
  good : Good T G' h' w'
  step : Step G w G' w'
  unm : ∀ b, b < h.n → G.m b = none → G.g b = none → G'.m b = none ∧ G'.g b = none ∧ h'.get b = h.get b
  n : h.n ≤ h'.n

theorem Nx.refl {T : Tab} {G : Gh} {h : Heap} {w : World} (hg : Good T G h w) : Nx T G h w G h w :=
  ⟨hg, Step.refl _ _, fun _ _ h1 h2 => ⟨h1, h2, rfl⟩, Nat.le_refl _⟩
theorem Nx.trans {T : Tab} {G G1 G2 : Gh} {h h1 h2 : Heap} {w w1 w2 : World} (a : Nx T G h w G1 h1 w1) (b : Nx T G1 h1 w1 G2 h2 w2) : Nx T G h w G2 h2 w2 where
  good := b.good
  step := a.step.trans b.step
  unm x hx hm hg := by
    obtain ⟨m1, g1, e1⟩ := a.unm x hx hm hg
    obtain ⟨m2, g2, e2⟩ := b.unm x (Nat.lt_of_lt_of_le hx a.n) m1 g1
    exact ⟨m2, g2, e2.trans e1⟩
  n := Nat.le_trans a.n b.n

section
variable {T : Tab} {G : Gh} {h : Heap} {w : World}

theorem BlkR.some {x : Option ABlk} {c : Nat} (hb : BlkR w G x c) : ∃ y, x = some y := by
  cases x with
  | none => exact hb.elim
  | some y => exact ⟨y, rfl⟩
theorem Good.m_lt (hg : Good T G h w) {b c : Nat} (hm : G.m b = some c) : b < h.n := by
  obtain ⟨y, hy⟩ := (hg.m b c hm).2.some
  exact Heap.get_lt hy
theorem Good.g_lt (hg : Good T G h w) {b : Nat} {i : GInfo} (hm : G.g b = some i) : b < h.n := by
  obtain ⟨_, sz, hy, _⟩ := hg.g b i hm
  exact Heap.get_lt hy

/-- A new abstract block that lies nowhere yet. -/
theorem Good.push (hg : Good T G h w) (x : ABlk) : Good T G (h.push x) w where
  m b c hm := by
    obtain ⟨h1, h2⟩ := hg.m b c hm
    rw [Heap.get_push_old h x (hg.m_lt hm)]
    exact ⟨h1, h2⟩
  inj := hg.inj
  g b i hb := by
    obtain ⟨h1, sz, h2, h3⟩ := hg.g b i hb
    exact ⟨h1, sz, (Heap.get_push_old h x (hg.g_lt hb)).trans h2, h3⟩
  ginj := hg.ginj
  mg := hg.mg
  S := hg.S
  glob := hg.glob
  Bsz := hg.Bsz
theorem Nx.push (hg : Good T G h w) (x : ABlk) : Nx T G h w G (h.push x) w :=
  ⟨hg.push x, Step.refl _ _, fun b hb h1 h2 => ⟨h1, h2, Heap.get_push_old h x hb⟩, by simp [Heap.push]⟩

/-- What is common to all: the blocks that neither G' nor w' touches. -/
theorem Good.next {G' : Gh} {h' : Heap} {w' : World} (hg : Good T G h w) (hs : Step G w G' w')
    (hm : ∀ b c, G'.m b = some c → (G.m b = some c ∧ h'.get b = h.get b ∧ w'.heap[c]? = w.heap[c]? ∧ ∀ o, G'.S c o → G.S c o) ∨ (G.B ≤ c ∧ BlkR w' G' (h'.get b) c))
    (hinj : ∀ b b' c, G'.m b = some c → G'.m b' = some c → b = b')
    (hgr : ∀ b i, G'.g b = some i → (G.g b = some i ∧ h'.get b = h.get b ∧ w'.heap[i.c]? = w.heap[i.c]? ∧ ∀ o, G'.S i.c o → G.S i.c o) ∨ (G.B ≤ i.c ∧ ∃ sz, h'.get b = some (.grow sz i.len) ∧ GrowR w' G' sz i))
    (hginj : ∀ b b' i i', G'.g b = some i → G'.g b' = some i' → i.c = i'.c → b = b')
    (hmg : ∀ b c b' i, G'.m b = some c → G'.g b' = some i → c ≠ i.c)
    (hS : ∀ c o, G'.S c o → c < w'.heap.size) : Good T G' h' w' where
  m b c hb := by
    rcases hm b c hb with ⟨h1, h2, h3, h4⟩ | ⟨h1, h2⟩
    · obtain ⟨h5, h6⟩ := hg.m b c h1
      exact ⟨by rw [hs.B]; exact h5, by rw [h2]; exact h6.mono hs h3 h4⟩
    · exact ⟨by rw [hs.B]; exact h1, h2⟩
  inj := hinj
  g b i hb := by
    rcases hgr b i hb with ⟨h1, h2, h3, h4⟩ | ⟨h1, h2⟩
    · obtain ⟨h5, sz, h6, h7⟩ := hg.g b i h1
      exact ⟨by rw [hs.B]; exact h5, sz, by rw [h2]; exact h6, h7.mono h3 h4⟩
    · exact ⟨by rw [hs.B]; exact h1, h2⟩
  ginj := hginj
  mg := hmg
  S := hS
  glob g cs hc := (hg.glob g cs hc).mono hs
  Bsz := by rw [hs.B]; exact Nat.le_trans hg.Bsz hs.below.size

theorem heap_alloc_old (w : World) (o : Obj) {c : Nat} (hc : c < w.heap.size) : (w.alloc o).heap[c]? = w.heap[c]? := by
  show (w.heap.push o)[c]? = _
  rw [Array.getElem?_push, if_neg (by omega)]
theorem heap_alloc_new (w : World) (o : Obj) : (w.alloc o).heap[w.heap.size]? = some o := by
  show (w.heap.push o)[w.heap.size]? = _
  simp
theorem below_alloc (w : World) (o : Obj) (B : Nat) (hB : B ≤ w.heap.size) : Below B w (w.alloc o) := (Below.refl B w).alloc hB o

/-- Orders are drawn. -/
theorem Nx.drawn (hg : Good T G h w) (n : Nat) : Nx T G h w G h { w with drawn := n } := by
  have hs : Step G w G { w with drawn := n } := ⟨rfl, fun _ _ h => h, fun _ i h => ⟨i, h, .inl rfl⟩, fun _ _ h => h, fun _ _ _ => rfl, ⟨rfl, rfl, rfl, Nat.le_refl _, fun _ _ => rfl⟩, fun _ _ h => .inl h⟩
  refine ⟨hg.next hs (fun b c hb => .inl ⟨hb, rfl, rfl, fun _ h => h⟩) hg.inj (fun b i hb => .inl ⟨hb, rfl, rfl, fun _ h => h⟩) hg.ginj hg.mg hg.S, hs, fun _ _ h1 h2 => ⟨h1, h2, rfl⟩, Nat.le_refl _⟩

/-- An abstract block comes to lie in a new block. -/
def Gh.real (G : Gh) (b c : Nat) : Gh := { G with m := fun x => if x = b then some c else G.m x }
theorem Good.real (hg : Good T G h w) {b : Nat} {cs : List AV} (hb : h.get b = some (.cells cs)) (hm : G.m b = none) (hgb : G.g b = none) {l : List Value} (hl : VRL w G cs l) (ty : TypeId) :
    Good T (G.real b w.heap.size) h (w.alloc (.cells l.toArray ty)) ∧ Step G w (G.real b w.heap.size) (w.alloc (.cells l.toArray ty)) := by
  have hs : Step G w (G.real b w.heap.size) (w.alloc (.cells l.toArray ty)) := by
    refine ⟨rfl, fun b' c hb' => ?_, fun _ i h => ⟨i, h, .inl rfl⟩, fun _ _ h => h, fun c o hso => ?_, below_alloc _ _ _ hg.Bsz, fun _ _ h => .inl h⟩
    · show (if b' = b then _ else _) = _
      rw [if_neg (fun e => by subst e; rw [hm] at hb'; cases hb')]
      exact hb'
    · exact World.cell?_alloc_lt w _ _ (hg.S c o hso)
  refine ⟨hg.next hs ?_ ?_ ?_ hg.ginj ?_ ?_, hs⟩
  · intro b' c hb'
    by_cases e : b' = b
    · subst e
      have hc : w.heap.size = c := by simpa [Gh.real] using hb'
      subst hc
      refine .inr ⟨hg.Bsz, ?_⟩
      rw [hb]
      exact ⟨fun o ho => by have := hg.S _ _ ho; omega, l.toArray, ty, (0, 0), l, [], heap_alloc_new _ _, .inl rfl, by simp, hl.mono hs⟩
    · have hb'' : G.m b' = some c := by simpa [Gh.real, e] using hb'
      exact .inl ⟨hb'', rfl, heap_alloc_old _ _ (hg.m b' c hb'').2.lt, fun _ h => h⟩
  · intro b1 b2 c h1 h2
    by_cases e1 : b1 = b <;> by_cases e2 : b2 = b
    · rw [e1, e2]
    · subst e1
      have hc : w.heap.size = c := by simpa [Gh.real] using h1
      have h2' : G.m b2 = some c := by simpa [Gh.real, e2] using h2
      have := (hg.m b2 c h2').2.lt
      omega
    · subst e2
      have hc : w.heap.size = c := by simpa [Gh.real] using h2
      have h1' : G.m b1 = some c := by simpa [Gh.real, e1] using h1
      have := (hg.m b1 c h1').2.lt
      omega
    · exact hg.inj b1 b2 c (by simpa [Gh.real, e1] using h1) (by simpa [Gh.real, e2] using h2)
  · intro b' i hb'
    obtain ⟨_, sz, _, h3⟩ := hg.g b' i hb'
    exact .inl ⟨hb', rfl, heap_alloc_old _ _ h3.lt, fun _ h => h⟩
  · intro b1 c b2 i h1 h2
    by_cases e : b1 = b
    · subst e
      have hc : w.heap.size = c := by simpa [Gh.real] using h1
      obtain ⟨_, sz, _, h3⟩ := hg.g b2 i h2
      have := h3.lt
      omega
    · exact hg.mg b1 c b2 i (by simpa [Gh.real, e] using h1) h2
  · intro c o ho
    have := hg.S c o ho
    simp
    omega
theorem Nx.real (hg : Good T G h w) {cs : List AV} {l : List Value} (hl : VRL w G cs l) (ty : TypeId) :
    Nx T G h w (G.real h.n w.heap.size) (h.push (.cells cs)) (w.alloc (.cells l.toArray ty)) ∧ (G.real h.n w.heap.size).m h.n = some w.heap.size := by
  have hm : G.m h.n = none := by
    cases e : G.m h.n with
    | none => rfl
    | some c => have := hg.m_lt e; omega
  have hgn : G.g h.n = none := by
    cases e : G.g h.n with
    | none => rfl
    | some c => have := hg.g_lt e; omega
  obtain ⟨h1, h2⟩ := (hg.push (.cells cs)).real (Heap.get_push_new h _) hm hgn hl ty
  refine ⟨⟨h1, h2, fun b hb h3 h4 => ⟨?_, h4, Heap.get_push_old h _ hb⟩, by simp [Heap.push]⟩, by simp [Gh.real]⟩
  simp [Gh.real, h3]
  omega

/-- A new block that never changes. -/
def Gh.imm (G : Gh) (c k : Nat) : Gh := { G with S := fun c' o => G.S c' o ∨ (c' = c ∧ o < k) }
theorem Nx.imm (hg : Good T G h w) (arr : Array Value) (ty : TypeId) (fr : Nat × Nat) (k : Nat) :
    Nx T G h w (G.imm w.heap.size k) h (w.alloc (.cells arr ty fr)) := by
  have hs : Step G w (G.imm w.heap.size k) (w.alloc (.cells arr ty fr)) := by
    refine ⟨rfl, fun _ _ h => h, fun _ i h => ⟨i, h, .inl rfl⟩, fun _ _ h => .inl h, fun c o hso => World.cell?_alloc_lt w _ _ (hg.S c o hso), below_alloc _ _ _ hg.Bsz, fun c o h => h.elim .inl (fun h => .inr (by have := hg.Bsz; have := h.1; omega))⟩
  refine ⟨hg.next hs ?_ hg.inj ?_ hg.ginj hg.mg ?_, hs, fun _ _ h1 h2 => ⟨h1, h2, rfl⟩, Nat.le_refl _⟩
  · intro b c hb
    have hlt := (hg.m b c hb).2.lt
    refine .inl ⟨hb, rfl, heap_alloc_old _ _ hlt, fun o ho => ?_⟩
    rcases ho with ho | ho
    · exact ho
    · omega
  · intro b i hb
    obtain ⟨_, sz, _, h3⟩ := hg.g b i hb
    have hlt := h3.lt
    refine .inl ⟨hb, rfl, heap_alloc_old _ _ hlt, fun o ho => ?_⟩
    rcases ho with ho | ho
    · exact ho
    · omega
  · intro c o ho
    rcases ho with ho | ho
    · have := hg.S c o ho; simp; omega
    · simp; omega
theorem CelR.new {G' : Gh} {w' : World} (hs : Step G w G' w') {as : List AV} {l rest : List Value} (hl : VRL w G as l) {arr : Array Value} {ty : TypeId} {fr : Nat × Nat} {c : Nat}
    (hc : w'.heap[c]? = some (.cells arr ty fr)) (ha : arr.toList = l ++ rest) (hS : ∀ o, o < as.length → G'.S c o) : CelR w' G' c 0 as := by
  rw [CelR.iff]
  intro k a hk
  obtain ⟨v, hv, hr⟩ := hl.get hk
  have hlt : k < as.length := (List.getElem?_eq_some_iff.1 hk).1
  refine ⟨v, ?_, hS _ (by omega), hr.mono hs⟩
  have : arr[0 + k]? = some v := by
    rw [← Array.getElem?_toList, ha, Nat.zero_add, List.getElem?_append_left (by rw [hl.length]; exact hlt)]
    exact hv
  simpa [World.cell?, hc] using this

/-- A new row that may grow. -/
def Gh.grown (G : Gh) (b : Nat) (i : GInfo) (k : Nat) : Gh :=
  { G with g := fun x => if x = b then some i else G.g x, S := fun c' o => G.S c' o ∨ (c' = i.c ∧ o < k) }
theorem Nx.grow (hg : Good T G h w) (sz len cap : Nat) (arr : Array Value) (ty : TypeId) (harr : arr.size = cap * sz) (hlen : len ≤ cap) :
    Nx T G h w (G.grown h.n ⟨w.heap.size, cap, len⟩ (len * sz)) (h.push (.grow sz len)) (w.alloc (.cells arr ty)) := by
  have hgn : G.g h.n = none := by
    cases e : G.g h.n with
    | none => rfl
    | some c => have := hg.g_lt e; omega
  have hs : Step G w (G.grown h.n ⟨w.heap.size, cap, len⟩ (len * sz)) (w.alloc (.cells arr ty)) := by
    refine ⟨rfl, fun _ _ h => h, fun b i hb => ⟨i, ?_, .inl rfl⟩, fun _ _ h => .inl h, fun c o hso => World.cell?_alloc_lt w _ _ (hg.S c o hso), below_alloc _ _ _ hg.Bsz, fun c o h => h.elim .inl (fun h => .inr (by have := hg.Bsz; have := h.1; simp at this; omega))⟩
    have := hg.g_lt hb
    simp only [Gh.grown]
    rw [if_neg (by omega)]
    exact hb
  refine ⟨hg.next hs ?_ hg.inj ?_ ?_ ?_ ?_, hs, fun b hb h1 h2 => ⟨h1, ?_, Heap.get_push_old h _ hb⟩, by simp [Heap.push]⟩
  · intro b c hb
    have hlt := (hg.m b c hb).2.lt
    refine .inl ⟨hb, Heap.get_push_old h _ (hg.m_lt hb), heap_alloc_old _ _ hlt, fun o ho => ?_⟩
    rcases ho with ho | ho
    · exact ho
    · have : c = w.heap.size := ho.1
      omega
  · intro b i hb
    simp only [Gh.grown] at hb
    split at hb
    · rename_i e
      subst e
      simp at hb; subst hb
      refine .inr ⟨hg.Bsz, sz, Heap.get_push_new _ _, arr, ty, (0, 0), heap_alloc_new _ _, .inl rfl, harr, hlen, fun o ho hso => ?_⟩
      rcases hso with hso | hso
      · have := hg.S _ _ hso
        simp at this
      · exact absurd hso.2 (Nat.not_lt.2 ho)
    · obtain ⟨_, sz', _, h3⟩ := hg.g b i hb
      have hlt := h3.lt
      refine .inl ⟨hb, Heap.get_push_old h _ (hg.g_lt hb), heap_alloc_old _ _ hlt, fun o ho => ?_⟩
      rcases ho with ho | ho
      · exact ho
      · have : i.c = w.heap.size := ho.1
        omega
  · intro b b' i i' hb hb' he
    simp only [Gh.grown] at hb hb'
    split at hb <;> split at hb'
    · omega
    · obtain ⟨_, sz', _, h3⟩ := hg.g b' i' hb'
      have hlt := h3.lt
      simp at hb; subst hb
      simp at he
      omega
    · obtain ⟨_, sz', _, h3⟩ := hg.g b i hb
      have hlt := h3.lt
      simp at hb'; subst hb'
      simp at he
      omega
    · exact hg.ginj b b' i i' hb hb' he
  · intro b c b' i hb hb' he
    simp only [Gh.grown] at hb hb'
    split at hb'
    · have hlt := (hg.m b c hb).2.lt
      simp at hb'; subst hb'
      simp at he
      omega
    · exact hg.mg b c b' i hb hb' he
  · intro c o ho
    rcases ho with ho | ho
    · have := hg.S c o ho; simp; omega
    · have : c = w.heap.size := ho.1
      simp; omega
  · simp only [Gh.grown]
    rw [if_neg (by omega)]
    exact h2

theorem heap_setRow_old (w : World) (g : Nat) (cs : Array Value) {c : Nat} (hc : c ≠ g) : (w.setRow g cs).heap[c]? = w.heap[c]? := by
  unfold World.setRow
  simp only [Array.getElem?_modify]
  rw [if_neg (by omega)]
theorem below_setRow (w : World) (g : Nat) (cs : Array Value) {B : Nat} (hB : B ≤ g) : Below B w (w.setRow g cs) :=
  ⟨rfl, rfl, rfl, by simp [World.setRow], fun k hk => heap_setRow_old w g cs (by omega)⟩
theorem cell_setRow_other (w : World) (g : Nat) (cs : Array Value) {c o : Nat} (hc : c ≠ g) : (w.setRow g cs).cell? ⟨c, o, none⟩ = w.cell? ⟨c, o, none⟩ := by
  simp [World.cell?, heap_setRow_old w g cs hc]

/-- Cells of a block are written. -/
theorem Nx.store (hg : Good T G h w) {b c : Nat} {cs cs' : List AV} {arr : Array Value} {ty : TypeId} {fr : Nat × Nat} {l' rest' : List Value} (hm : G.m b = some c) (hb : h.get b = some (.cells cs))
    (hc : w.heap[c]? = some (.cells arr ty fr)) (arr' : Array Value) (hsz : arr'.size = arr.size) (hl : arr'.toList = l' ++ rest') (hv : VRL w G cs' l') :
    Nx T G h w G (h.set b (.cells cs')) (w.setRow c arr') := by
  obtain ⟨hB, hblk⟩ := hg.m b c hm
  rw [hb] at hblk
  obtain ⟨hnS, arr0, ty0, fr0, l0, rest0, h1, h2, h3, h4⟩ := hblk
  rw [hc] at h1
  simp at h1
  obtain ⟨rfl, rfl, rfl⟩ := h1
  have hs : Step G w G (w.setRow c arr') := by
    refine ⟨rfl, fun _ _ h => h, fun _ i h => ⟨i, h, .inl rfl⟩, fun _ _ h => h, fun c' o hso => cell_setRow_other w c arr' (fun e => hnS o (e ▸ hso)), below_setRow w c arr' hB, fun _ _ h => .inl h⟩
  refine ⟨hg.next hs ?_ hg.inj ?_ hg.ginj hg.mg ?_, hs, fun b' hb' h5 h6 => ⟨h5, h6, Heap.get_set_ne h _ (fun e => by subst e; rw [hm] at h5; cases h5)⟩, by rw [Heap.n_set]; exact Nat.le_refl _⟩
  · intro b' c' hb'
    by_cases e : b' = b
    · subst e
      rw [hm] at hb'
      simp at hb'; subst hb'
      refine .inr ⟨hB, ?_⟩
      rw [Heap.get_set_same hb]
      exact ⟨hnS, arr', ty, fr, l', rest', setRow_heap w c arr arr' ty fr hc, by rw [hsz]; exact h2, hl, hv.mono hs⟩
    · refine .inl ⟨hb', Heap.get_set_ne h _ (fun e' => e e'.symm), heap_setRow_old w c arr' (fun e' => e (hg.inj b' b c (e' ▸ hb') hm)), fun _ h => h⟩
  · intro b' i hb'
    refine .inl ⟨hb', Heap.get_set_ne h _ (fun e => ?_), heap_setRow_old w c arr' (fun e => hg.mg b c b' i hm hb' e.symm), fun _ h => h⟩
    subst e
    obtain ⟨_, sz, h7, _⟩ := hg.g b i hb'
    rw [hb] at h7
    cases h7
  · intro c' o ho
    have := hg.S c' o ho
    simpa [World.setRow] using this

/-- A row grows within its block. -/
theorem Nx.growIn (hg : Good T G h w) {b sz : Nat} {i : GInfo} (hi : G.g b = some i) (hb : h.get b = some (.grow sz i.len)) {arr : Array Value} {ty : TypeId} {fr : Nat × Nat}
    (hc : w.heap[i.c]? = some (.cells arr ty fr)) (arr' : Array Value) (hsz : arr'.size = arr.size) (hkeep : ∀ o, o < i.len * sz → arr'[o]? = arr[o]?) (n : Nat) (hn : 0 < n) (hcap : i.len + n ≤ i.cap) :
    Nx T G h w (G.grown b ⟨i.c, i.cap, i.len + n⟩ ((i.len + n) * sz)) (h.set b (.grow sz (i.len + n))) (w.setRow i.c arr') := by
  obtain ⟨hB, sz0, hb0, arr0, ty0, fr0, h1, h2, h3, h4, h5⟩ := hg.g b i hi
  rw [hb] at hb0
  simp at hb0
  obtain rfl := hb0
  rw [hc] at h1
  simp at h1
  obtain ⟨rfl, rfl, rfl⟩ := h1
  have hlt : i.c < w.heap.size := (Array.getElem?_eq_some_iff.1 hc).1
  have hs : Step G w (G.grown b ⟨i.c, i.cap, i.len + n⟩ ((i.len + n) * sz)) (w.setRow i.c arr') := by
    refine ⟨rfl, fun _ _ h => h, fun b' i' hb' => ?_, fun _ _ h => .inl h, fun c' o hso => ?_, below_setRow w i.c arr' hB, fun c o h => h.elim .inl (fun h => .inr (by have := h.1; simp at this; omega))⟩
    · by_cases e : b' = b
      · subst e
        rw [hi] at hb'
        simp at hb'; subst hb'
        exact ⟨_, by simp [Gh.grown]; rfl, .inr (by simp; omega)⟩
      · exact ⟨i', by simp [Gh.grown, e, hb'], .inl rfl⟩
    · by_cases e : c' = i.c
      · subst e
        have ho : o < i.len * sz := by
          rcases Nat.lt_or_ge o (i.len * sz) with h | h
          · exact h
          · exact absurd hso (h5 o h)
        simp only [World.cell?, hc, setRow_heap w i.c arr arr' ty fr hc]
        simp [hkeep o ho]
      · exact cell_setRow_other w i.c arr' e
  refine ⟨hg.next hs ?_ hg.inj ?_ ?_ ?_ ?_, hs, fun b' hb' h6 h7 => ⟨h6, ?_, Heap.get_set_ne h _ (fun e => by subst e; rw [hi] at h7; cases h7)⟩, by rw [Heap.n_set]; exact Nat.le_refl _⟩
  · intro b' c' hb'
    have hne : c' ≠ i.c := hg.mg b' c' b i hb' hi
    refine .inl ⟨hb', Heap.get_set_ne h _ (fun e => ?_), heap_setRow_old w i.c arr' hne, fun o ho => ?_⟩
    · subst e
      have := (hg.m b c' hb').2
      rw [hb] at this
      exact this.elim
    · rcases ho with ho | ho
      · exact ho
      · exact absurd ho.1 hne
  · intro b' i' hb'
    by_cases e : b' = b
    · subst e
      simp [Gh.grown] at hb'
      subst hb'
      refine .inr ⟨hB, sz, Heap.get_set_same hb, arr', ty, fr, setRow_heap w i.c arr arr' ty fr hc, by rw [hsz]; exact h2, by rw [hsz]; exact h3, hcap, fun o ho hso => ?_⟩
      simp at ho
      rcases hso with hso | hso
      · have := h5 o (by rw [Nat.add_mul] at ho; omega)
        exact this hso
      · have := hso.2
        omega
    · have hb'' : G.g b' = some i' := by simpa [Gh.grown, e] using hb'
      have hne : i'.c ≠ i.c := fun e' => e (hg.ginj b' b i' i hb'' hi e')
      refine .inl ⟨hb'', Heap.get_set_ne h _ (fun e' => e e'.symm), heap_setRow_old w i.c arr' hne, fun o ho => ?_⟩
      rcases ho with ho | ho
      · exact ho
      · exact absurd ho.1 hne
  · intro b1 b2 i1 i2 hb1 hb2 he
    by_cases e1 : b1 = b <;> by_cases e2 : b2 = b
    · rw [e1, e2]
    · subst e1
      have h2' : G.g b2 = some i2 := by simpa [Gh.grown, e2] using hb2
      simp [Gh.grown] at hb1; subst hb1
      exact hg.ginj b1 b2 i i2 hi h2' he
    · subst e2
      have h1' : G.g b1 = some i1 := by simpa [Gh.grown, e1] using hb1
      simp [Gh.grown] at hb2; subst hb2
      exact hg.ginj b1 b2 i1 i h1' hi he
    · exact hg.ginj b1 b2 i1 i2 (by simpa [Gh.grown, e1] using hb1) (by simpa [Gh.grown, e2] using hb2) he
  · intro b1 c1 b2 i2 hb1 hb2
    by_cases e2 : b2 = b
    · subst e2
      simp [Gh.grown] at hb2; subst hb2
      exact hg.mg b1 c1 b2 i hb1 hi
    · exact hg.mg b1 c1 b2 i2 hb1 (by simpa [Gh.grown, e2] using hb2)
  · intro c' o ho
    have hsz' : (w.setRow i.c arr').heap.size = w.heap.size := by simp [World.setRow]
    rw [hsz']
    rcases ho with ho | ho
    · exact hg.S c' o ho
    · have := ho.1
      simp at this
      omega
  · by_cases e : b' = b
    · subst e; rw [hi] at h7; cases h7
    · simp [Gh.grown, e, h7]

/-- A map's block is written. -/
def setObjW (w : World) (c : Nat) (o : Obj) : World := { w with heap := w.heap.setIfInBounds c o }
theorem heap_setObj_old (w : World) (g : Nat) (o : Obj) {c : Nat} (hc : c ≠ g) : (setObjW w g o).heap[c]? = w.heap[c]? := by
  unfold setObjW
  simp only
  rw [Array.getElem?_setIfInBounds_ne (by omega)]
theorem heap_setObj_same (w : World) (g : Nat) (o : Obj) (hg : g < w.heap.size) : (setObjW w g o).heap[g]? = some o := by
  unfold setObjW
  simp [hg]
theorem Nx.mapSet (hg : Good T G h w) {b c : Nat} {es es' : List (List UInt8 × AV)} {en : Array MapEntry} {ck : Nat} (hm : G.m b = some c) (hb : h.get b = some (.map es))
    (hc : w.heap[c]? = some (.map en ck)) (en' : Array MapEntry) (ck' : Nat) (hv : MapR w G es' en'.toList) :
    Nx T G h w G (h.set b (.map es')) (setObjW w c (.map en' ck')) := by
  obtain ⟨hB, _⟩ := hg.m b c hm
  have hlt : c < w.heap.size := (Array.getElem?_eq_some_iff.1 hc).1
  have hnc : ∀ o, w.cell? ⟨c, o, none⟩ = none := fun o => by simp [World.cell?, hc]
  have hs : Step G w G (setObjW w c (.map en' ck')) := by
    refine ⟨rfl, fun _ _ h => h, fun _ i h => ⟨i, h, .inl rfl⟩, fun _ _ h => h, fun c' o hso => ?_, ⟨rfl, rfl, rfl, by simp [setObjW], fun k hk => heap_setObj_old w c _ (by omega)⟩, fun _ _ h => .inl h⟩
    by_cases e : c' = c
    · subst e
      rw [hnc]
      simp [World.cell?, heap_setObj_same w c' _ hlt]
    · simp [World.cell?, heap_setObj_old w c _ e]
  refine ⟨hg.next hs ?_ hg.inj ?_ hg.ginj hg.mg ?_, hs, fun b' hb' h5 h6 => ⟨h5, h6, Heap.get_set_ne h _ (fun e => by subst e; rw [hm] at h5; cases h5)⟩, by rw [Heap.n_set]; exact Nat.le_refl _⟩
  · intro b' c' hb'
    by_cases e : b' = b
    · subst e
      rw [hm] at hb'
      simp at hb'; subst hb'
      refine .inr ⟨hB, ?_⟩
      rw [Heap.get_set_same hb]
      exact ⟨en', ck', heap_setObj_same w c _ hlt, hv.mono hs⟩
    · refine .inl ⟨hb', Heap.get_set_ne h _ (fun e' => e e'.symm), heap_setObj_old w c _ (fun e' => e (hg.inj b' b c (e' ▸ hb') hm)), fun _ h => h⟩
  · intro b' i hb'
    refine .inl ⟨hb', Heap.get_set_ne h _ (fun e => ?_), heap_setObj_old w c _ (fun e => hg.mg b c b' i hm hb' e.symm), fun _ h => h⟩
    subst e
    obtain ⟨_, sz, h7, _⟩ := hg.g b i hb'
    rw [hb] at h7
    cases h7
  · intro c' o ho
    have := hg.S c' o ho
    simpa [setObjW] using this
theorem Nx.mapNew (hg : Good T G h w) :
    Nx T G h w (G.real h.n w.heap.size) (h.push (.map [])) (w.alloc (.map #[] 0)) ∧ (G.real h.n w.heap.size).m h.n = some w.heap.size := by
  have hm : G.m h.n = none := by
    cases e : G.m h.n with
    | none => rfl
    | some c => have := hg.m_lt e; omega
  have hs : Step G w (G.real h.n w.heap.size) (w.alloc (.map #[] 0)) := by
    refine ⟨rfl, fun b' c hb' => ?_, fun _ i h => ⟨i, h, .inl rfl⟩, fun _ _ h => h, fun c o hso => ?_, below_alloc _ _ _ hg.Bsz, fun _ _ h => .inl h⟩
    · show (if b' = h.n then _ else _) = _
      rw [if_neg (fun e => by subst e; rw [hm] at hb'; cases hb')]
      exact hb'
    · exact World.cell?_alloc_lt w _ _ (hg.S c o hso)
  refine ⟨⟨hg.next hs ?_ ?_ ?_ hg.ginj ?_ ?_, hs, fun b hb h3 h4 => ⟨?_, h4, Heap.get_push_old h _ hb⟩, by simp [Heap.push]⟩, by simp [Gh.real]⟩
  · intro b' c hb'
    by_cases e : b' = h.n
    · subst e
      have hc : w.heap.size = c := by simpa [Gh.real] using hb'
      subst hc
      refine .inr ⟨hg.Bsz, ?_⟩
      rw [Heap.get_push_new]
      exact ⟨#[], 0, heap_alloc_new _ _, rfl⟩
    · have hb'' : G.m b' = some c := by simpa [Gh.real, e] using hb'
      exact .inl ⟨hb'', Heap.get_push_old h _ (hg.m_lt hb''), heap_alloc_old _ _ (hg.m b' c hb'').2.lt, fun _ h => h⟩
  · intro b1 b2 c h1 h2
    by_cases e1 : b1 = h.n <;> by_cases e2 : b2 = h.n
    · rw [e1, e2]
    · subst e1
      have hc : w.heap.size = c := by simpa [Gh.real] using h1
      have h2' : G.m b2 = some c := by simpa [Gh.real, e2] using h2
      have := (hg.m b2 c h2').2.lt
      omega
    · subst e2
      have hc : w.heap.size = c := by simpa [Gh.real] using h2
      have h1' : G.m b1 = some c := by simpa [Gh.real, e1] using h1
      have := (hg.m b1 c h1').2.lt
      omega
    · exact hg.inj b1 b2 c (by simpa [Gh.real, e1] using h1) (by simpa [Gh.real, e2] using h2)
  · intro b' i hb'
    obtain ⟨_, sz, _, h3⟩ := hg.g b' i hb'
    exact .inl ⟨hb', Heap.get_push_old h _ (hg.g_lt hb'), heap_alloc_old _ _ h3.lt, fun _ h => h⟩
  · intro b1 c b2 i h1 h2
    by_cases e : b1 = h.n
    · subst e
      have hc : w.heap.size = c := by simpa [Gh.real] using h1
      obtain ⟨_, sz, _, h3⟩ := hg.g b2 i h2
      have := h3.lt
      omega
    · exact hg.mg b1 c b2 i (by simpa [Gh.real, e] using h1) h2
  · intro c o ho
    have := hg.S c o ho
    simp
    omega
  · simp [Gh.real, h3]
    omega

end
end Go.Proofs.YtfckkiebffmkfaaGreatDoor.AM
